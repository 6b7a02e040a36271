import Derived.Test.YgvajwGreatRel
namespace Go.Proofs.YgvajwGreat.Ev
theorem prK_eq {α β γ : Type} (z : α × β) (f : α → β → γ) : prK z f = f z.1 z.2 := by cases z; rfl
theorem hpK_eq {γ : Type} (H : Hp) (f : Nat → Nat → Nat → QT Blk 6 → γ) : hpK H f = f H.uid H.ptop H.ltop H.blks := by cases H; rfl
theorem blK_eq {γ : Type} (B : Blk) (f : Nat → Nat → Nat → Nat → Nat → QT Nat 5 → γ) : blK B f = f B.uid B.ty B.sz B.es B.s0 B.more := by cases B; rfl
def bk (H : Hp) (l : Nat) : Blk := qget 6 H.blks l
theorem bk_mk (u p t : Nat) (bs : QT Blk 6) (l : Nat) : bk ⟨u, p, t, bs⟩ l = qget 6 bs l := rfl
theorem bk_set {u p t : Nat} {bs : QT Blk 6} {l l' : Nat} {B : Blk} (hl : l < 4096) (hl' : l' < 4096) :
    bk ⟨u, p, t, qset 6 bs l B⟩ l' = if l' = l then B else qget 6 bs l' := qget_qset (by simpa using hl) (by simpa using hl')

/-- the block stands in the world -/
def RelB (g : Gh) (w : World) (B : Blk) : Prop :=
  ∃ b s arr, g B.uid = some (b, s) ∧ w.heap[b]? = some (.cells arr B.ty (0, 0)) ∧ arr.size = s ∧ B.sz ≤ s ∧ (B.es = 0 → B.sz = s) ∧ B.sz ≤ 31000 ∧
    ∀ i, i < B.sz → ∃ v, arr[i]? = some v ∧ RelC g (cellB B.s0 B.more i) v
theorem RelB.mono {g g' : Gh} (h : Ext g g') {w : World} {B : Blk} (hb : RelB g w B) : RelB g' w B := by
  obtain ⟨b, s, arr, h1, h2, h3, h4, h5, h6, h7⟩ := hb
  exact ⟨b, s, arr, h _ _ h1, h2, h3, h4, h5, h6, fun i hi => by obtain ⟨v, hv, hr⟩ := h7 i hi; exact ⟨v, hv, hr.mono h⟩⟩

/-- the heap stands in the world -/
structure RelH (g : Gh) (H : Hp) (w : World) : Prop where
  live : ∀ l, l < 4096 → (bk H l).uid ≠ 0 → RelB g w (bk H l)
  inj : ∀ l l' b s s', l < 4096 → l' < 4096 → (bk H l).uid ≠ 0 → (bk H l').uid ≠ 0 → g (bk H l).uid = some (b, s) → g (bk H l').uid = some (b, s') → l = l'
  fresh : ∀ u, H.uid ≤ u → g u = none
  zero : g 0 = none
  pos : H.uid ≠ 0
/-- the blocks of the world that are the heap's -/
def Owns (g : Gh) (H : Hp) (b : Nat) : Prop := ∃ l s, l < 4096 ∧ (bk H l).uid ≠ 0 ∧ g (bk H l).uid = some (b, s)
theorem frozen_of {w w' : World} (h : ∀ i : Nat, w'.heap[i]? = w.heap[i]? ∨ ((∀ c t fr, w.heap[i]? = some (.cells c t fr) → fr = (0, 0)) ∧ ∃ c t, w'.heap[i]? = some (.cells c t (0, 0)))) (a : Addr) :
    w'.frozen? a = w.frozen? a := by
  unfold World.frozen?
  rcases h a.block with h | ⟨h1, c, t, h2⟩
  · rw [h]
  · rw [h2]
    have e : (decide (0 ≤ a.off) && decide (a.off < 0)) = false := by simp
    show (decide (0 ≤ a.off) && decide (a.off < 0)) = _
    rw [e]
    split
    · rename_i c' t' lo hi h3
      have := h1 c' t' (lo, hi) h3
      cases this
      exact e.symm
    · rfl
theorem frozen_alloc (w : World) (arr : Array Value) (ty : TypeId) (a : Addr) : (w.alloc (.cells arr ty)).frozen? a = w.frozen? a := frozen_of (fun i => by
  show (w.heap.push _)[i]? = _ ∨ (_ ∧ ∃ c t, (w.heap.push _)[i]? = _)
  rw [Array.getElem?_push]
  by_cases h : i = w.heap.size
  · rw [if_pos h]
    refine .inr ⟨fun c t fr hc => ?_, arr, ty, rfl⟩
    rw [h] at hc
    simp at hc
  · rw [if_neg h]; exact .inl rfl) a
theorem frozen_setRow {w : World} {b : Nat} {arr arr' : Array Value} {ty : TypeId} (h : w.heap[b]? = some (.cells arr ty (0, 0))) (a : Addr) : (w.setRow b arr').frozen? a = w.frozen? a := frozen_of (fun i => by
  by_cases hi : i = b
  · subst hi
    exact .inr ⟨fun c t fr hc => by rw [h] at hc; cases hc; rfl, _, _, setRow_heap w i arr arr' _ _ h⟩
  · exact .inl (setRow_other w b i arr' hi)) a
/-- nothing else has turned -/
structure Fr (g : Gh) (H : Hp) (w : World) (g' : Gh) (H' : Hp) (w' : World) : Prop where
  size : w.heap.size ≤ w'.heap.size
  os : w'.os = w.os
  out : w'.output = w.output
  fz : ∀ a, w'.frozen? a = w.frozen? a
  keep : ∀ b, b < w.heap.size → ¬ Owns g H b → w'.heap[b]? = w.heap[b]? ∧ ¬ Owns g' H' b
theorem Fr.refl (g : Gh) (H : Hp) (w : World) : Fr g H w g H w := ⟨Nat.le_refl _, rfl, rfl, fun _ => rfl, fun _ _ h => ⟨rfl, h⟩⟩
theorem Fr.trans {g g' g'' : Gh} {H H' H'' : Hp} {w w' w'' : World} (h : Fr g H w g' H' w') (h' : Fr g' H' w' g'' H'' w'') : Fr g H w g'' H'' w'' :=
  ⟨Nat.le_trans h.size h'.size, h'.os.trans h.os, h'.out.trans h.out, fun a => (h'.fz a).trans (h.fz a), fun b hb ho => by
    obtain ⟨h1, h2⟩ := h.keep b hb ho
    obtain ⟨h3, h4⟩ := h'.keep b (Nat.lt_of_lt_of_le hb h.size) h2
    exact ⟨h3.trans h1, h4⟩⟩
/-- a step of the evaluator's -/
structure St (g : Gh) (H : Hp) (w : World) (g' : Gh) (H' : Hp) (w' : World) : Prop where
  ext : Ext g g'
  rel : RelH g' H' w'
  fr : Fr g H w g' H' w'
  um : H.uid ≤ H'.uid
  kept : ∀ u, u < H.uid → g' u = g u
theorem St.refl {g : Gh} {H : Hp} {w : World} (h : RelH g H w) : St g H w g H w := ⟨Ext.refl g, h, Fr.refl g H w, Nat.le_refl _, fun _ _ => rfl⟩
theorem St.trans {g g' g'' : Gh} {H H' H'' : Hp} {w w' w'' : World} (h : St g H w g' H' w') (h' : St g' H' w' g'' H'' w'') : St g H w g'' H'' w'' :=
  ⟨h.ext.trans h'.ext, h'.rel, h.fr.trans h'.fr, Nat.le_trans h.um h'.um, fun u hu => (h'.kept u (Nat.lt_of_lt_of_le hu h.um)).trans (h.kept u hu)⟩

/-- an address -/
def AddrOK (g : Gh) (p : Nat) (a : Addr) : Prop := a.spot = none ∧ ∃ u l s, u < 16777216 ∧ l < 4096 ∧ p = pAddr u l a.off ∧ g u = some (a.block, s)
theorem RelC.addr {g : Gh} {c : Nat} {a : Addr} (h : RelC g c (.pointer (some a))) : AddrOK g (pay c) a := by
  obtain ⟨h0, u, l, s, h1, h2, h3, h4, h5⟩ := h
  exact ⟨h0, u, l, s, h1, h2, by rw [h4, pay_cPtr], h5⟩
theorem RelC.slAddr {g : Gh} {c n m : Nat} {a : Addr} (h : RelC g c (.slice (some a) n m)) : AddrOK g (sAddr c) a ∧ sLen c = n ∧ n ≤ m ∧ sAddr c < 18446744073709551616 ∧ sLen c < 16777216 := by
  obtain ⟨h0, h1, u, l, s, cap, h2, h3, h4, h5, h6, h7, h8, h9⟩ := h
  subst h7
  rw [sAddr_cSl h4, sLen_cSl h4 h5]
  exact ⟨⟨h0, u, l, s, h2, h3, rfl, h8⟩, rfl, h1, h4, h5⟩
theorem addr_add (a : Addr) (h : a.spot = none) (n : Nat) : a.add n = ⟨a.block, a.off + n, none⟩ := by
  obtain ⟨b, o, sp⟩ := a
  simp only at h
  subst h
  unfold Addr.add
  split
  · rename_i h; subst h; rfl
  · rfl
theorem AddrOK.add {g : Gh} {p : Nat} {a : Addr} (h : AddrOK g p a) (n : Nat) : AddrOK g (pAdd p n) (a.add n) := by
  obtain ⟨h0, u, l, s, h1, h2, h3, h4⟩ := h
  rw [addr_add a h0]
  refine ⟨rfl, u, l, s, h1, h2, ?_, h4⟩
  rw [h3, pAdd_pAddr h1 (by omega)]
theorem AddrOK.block {g : Gh} {H : Hp} {w : World} {p : Nat} {a : Addr} (h : AddrOK g p a) (hH : RelH g H w) (hu : (bk H (aLoc p)).uid = aUid p) :
    aLoc p < 4096 ∧ aOff p = a.off ∧ (bk H (aLoc p)).uid ≠ 0 ∧ ∃ s arr, g (bk H (aLoc p)).uid = some (a.block, s) ∧ w.heap[a.block]? = some (.cells arr (bk H (aLoc p)).ty (0, 0)) ∧ arr.size = s ∧
      (bk H (aLoc p)).sz ≤ s ∧ ((bk H (aLoc p)).es = 0 → (bk H (aLoc p)).sz = s) ∧ (bk H (aLoc p)).sz ≤ 31000 ∧
      ∀ i, i < (bk H (aLoc p)).sz → ∃ v, arr[i]? = some v ∧ RelC g (cellB (bk H (aLoc p)).s0 (bk H (aLoc p)).more i) v := by
  obtain ⟨h0, u, l, s, h1, h2, h3, h4⟩ := h
  have hl : aLoc p = l := by rw [h3, aLoc_pAddr h1 (by omega)]
  have ho : aOff p = a.off := by rw [h3, aOff_pAddr h1 (by omega)]
  have hu' : aUid p = u := by rw [h3, aUid_pAddr h1]
  rw [hl] at hu ⊢
  have hne : (bk H l).uid ≠ 0 := by
    intro h
    rw [hu, hu'] at h
    subst h
    rw [hH.zero] at h4
    cases h4
  obtain ⟨b, s', arr, e1, e2, e3, e4, e5, e6, e7⟩ := hH.live l h2 hne
  have : (a.block, s) = (b, s') := by
    have := e1; rw [hu, hu', h4] at this; exact Option.some.inj this
  cases this
  exact ⟨h2, ho, hne, s, arr, e1, e2, e3, e4, e5, e6, e7⟩

/-- what a load gives -/
def ldX (H : Hp) (p n : Nat) : Nat := gath 500 (bk H (aLoc p)).s0 (bk H (aLoc p)).more (aOff p) n
theorem ldN_inv {H : Hp} {p n : Nat} {k : Nat → Bool} (h : ldN H p n k = true) : (bk H (aLoc p)).uid = aUid p ∧ aOff p + n ≤ (bk H (aLoc p)).sz ∧
    (∀ k', ldN H p n k' = k' (ldX H p n)) ∧ k (ldX H p n) = true := by
  obtain ⟨hu, pt, lt, bs⟩ := H
  have e : ∀ k', ldN ⟨hu, pt, lt, bs⟩ p n k' = bB (Nat.beq (bk ⟨hu, pt, lt, bs⟩ (aLoc p)).uid (aUid p))
      (bB (Nat.ble (aOff p + n) (bk ⟨hu, pt, lt, bs⟩ (aLoc p)).sz) (k' (gath 500 (bk ⟨hu, pt, lt, bs⟩ (aLoc p)).s0 (bk ⟨hu, pt, lt, bs⟩ (aLoc p)).more (aOff p) n)) false) false := fun _ => rfl
  rw [e, bB_and, bB_and] at h
  obtain ⟨h1, h2, h3⟩ := h
  exact ⟨beq_t h1, ble_t h2, fun k' => by rw [e, h1, h2, bB_t, bB_t]; rfl, h3⟩
theorem ldX_lt (H : Hp) (p n : Nat) (h : n ≤ 31936) : ldX H p n < 2 ^ (128 * n) := (gath_spec 500 _ _ (aOff p) n (by have : aOff p % 64 < 64 := Nat.mod_lt _ (by omega); omega)).1

/-- a load -/
theorem ld_sound {g : Gh} {H : Hp} {w : World} {p n : Nat} {a : Addr} {k : Nat → Bool} (ha : AddrOK g p a) (hH : RelH g H w) (h : ldN H p n k = true) :
    ldX H p n < 2 ^ (128 * n) ∧ ∃ f : Nat → Value, ∀ j, j < n → w.cell? (a.add j) = some (f j) ∧ RelC g (cell (ldX H p n) j) (f j) := by
  obtain ⟨h1, h2, h3, h4⟩ := ldN_inv h
  obtain ⟨hl, ho, hne, s, arr, e1, e2, e3, e4, e5, e6, e7⟩ := ha.block hH h1
  have hm : aOff p % 64 < 64 := Nat.mod_lt _ (by omega)
  obtain ⟨g1, g2⟩ := gath_spec 500 (bk H (aLoc p)).s0 (bk H (aLoc p)).more (aOff p) n (by omega)
  refine ⟨g1, fun j => arr.getD (a.off + j) undef, fun j hj => ?_⟩
  obtain ⟨v, hv, hr⟩ := e7 (aOff p + j) (by omega)
  rw [ho] at hv
  have hd : arr.getD (a.off + j) undef = v := by simp [hv]
  refine ⟨?_, ?_⟩
  · show w.cell? (a.add j) = some (arr.getD (a.off + j) undef)
    rw [addr_add a ha.1, hd]
    simp [World.cell?, e2, hv]
  · show RelC g _ (arr.getD (a.off + j) undef)
    unfold ldX
    rw [g2, if_pos hj, hd]
    exact hr

/-- the heap behind a store -/
def stH (q : Nat) (H : Hp) (p n X : Nat) : Hp :=
  ⟨H.uid, H.ptop, H.ltop, qset 6 H.blks (aLoc p) { bk H (aLoc p) with
        s0 := (scat q 500 (bk H (aLoc p)).s0 (bk H (aLoc p)).more (aOff p) n X).1, more := (scat q 500 (bk H (aLoc p)).s0 (bk H (aLoc p)).more (aOff p) n X).2 }⟩
theorem stN_inv {q : Nat} {H : Hp} {p n X : Nat} {k : Hp → Bool} (h : stN q H p n X k = true) : (bk H (aLoc p)).uid = aUid p ∧ aOff p + n ≤ (bk H (aLoc p)).sz ∧
    (∀ k', stN q H p n X k' = k' (stH q H p n X)) ∧ k (stH q H p n X) = true := by
  obtain ⟨hu, pt, lt, bs⟩ := H
  have e : ∀ k', stN q ⟨hu, pt, lt, bs⟩ p n X k' = bB (Nat.beq (bk ⟨hu, pt, lt, bs⟩ (aLoc p)).uid (aUid p))
      (bB (Nat.ble (aOff p + n) (bk ⟨hu, pt, lt, bs⟩ (aLoc p)).sz) (k' ⟨hu, pt, lt, qset 6 bs (aLoc p) { bk ⟨hu, pt, lt, bs⟩ (aLoc p) with
        s0 := (scat q 500 (bk ⟨hu, pt, lt, bs⟩ (aLoc p)).s0 (bk ⟨hu, pt, lt, bs⟩ (aLoc p)).more (aOff p) n X).1,
        more := (scat q 500 (bk ⟨hu, pt, lt, bs⟩ (aLoc p)).s0 (bk ⟨hu, pt, lt, bs⟩ (aLoc p)).more (aOff p) n X).2 }⟩) false) false := fun k' => by
    unfold stN
    rw [hpK_eq, blK_eq, prK_eq]
    rfl
  rw [e, bB_and, bB_and] at h
  obtain ⟨h1, h2, h3⟩ := h
  exact ⟨beq_t h1, ble_t h2, fun k' => by rw [e, h1, h2, bB_t, bB_t]; rfl, h3⟩

/-- what a row reads like where cells have been laid -/
theorem splice_get (arr : Array Value) (o : Nat) (vs : List Value) (h : o + vs.length ≤ arr.size) (i : Nat) :
    (arr.toList.take o ++ vs ++ arr.toList.drop (o + vs.length)).toArray[i]? = if o ≤ i ∧ i < o + vs.length then vs[i - o]? else arr[i]? := by
  have hl : (arr.toList.take o).length = o := by simp; omega
  rw [List.getElem?_toArray, List.append_assoc]
  by_cases h1 : i < o
  · rw [List.getElem?_append_left (by omega), if_neg (by omega)]
    simp [h1]
  · rw [List.getElem?_append_right (by omega), hl]
    by_cases h2 : i < o + vs.length
    · rw [List.getElem?_append_left (by omega), if_pos (by omega)]
    · rw [List.getElem?_append_right (by omega), if_neg (by omega), List.getElem?_drop]
      simp
      congr 1
      omega
theorem splice_size (arr : Array Value) (o : Nat) (vs : List Value) (h : o + vs.length ≤ arr.size) :
    (arr.toList.take o ++ vs ++ arr.toList.drop (o + vs.length)).toArray.size = arr.size := by
  simp
  omega

/-- a block's cells turned: the heap in the world with that row -/
theorem RelH.setRow {g : Gh} {H : Hp} {w : World} (hH : RelH g H w) {l : Nat} (hl : l < 4096) (hne : (bk H l).uid ≠ 0) {b s : Nat} {arr' : Array Value}
    (hg : g (bk H l).uid = some (b, s)) (hs : arr'.size = s) {s0 : Nat} {more : QT Nat 5}
    (hc : ∀ i, i < (bk H l).sz → ∃ v, arr'[i]? = some v ∧ RelC g (cellB s0 more i) v) :
    St g H w g ⟨H.uid, H.ptop, H.ltop, qset 6 H.blks l { bk H l with s0 := s0, more := more }⟩ (w.setRow b arr') := by
  obtain ⟨b', s', arr, e1, e2, e3, e4, e5, e6, e7⟩ := hH.live l hl hne
  have : (b, s) = (b', s') := Option.some.inj (hg.symm.trans e1)
  cases this
  have hset : ∀ l', l' < 4096 → bk ⟨H.uid, H.ptop, H.ltop, qset 6 H.blks l { bk H l with s0 := s0, more := more }⟩ l' = if l' = l then { bk H l with s0 := s0, more := more } else bk H l' :=
    fun l' hl' => bk_set hl hl'
  have huid : ∀ l', l' < 4096 → (bk ⟨H.uid, H.ptop, H.ltop, qset 6 H.blks l { bk H l with s0 := s0, more := more }⟩ l').uid = (bk H l').uid := fun l' hl' => by
    rw [hset l' hl']; split
    · rename_i h; subst h; rfl
    · rfl
  refine ⟨Ext.refl g, ⟨?_, ?_, hH.fresh, hH.zero, hH.pos⟩, ⟨by simp, rfl, rfl, frozen_setRow e2, ?_⟩, Nat.le_refl _, fun _ _ => rfl⟩
  · intro l' hl' hne'
    rw [huid l' hl'] at hne'
    rw [hset l' hl']
    by_cases h : l' = l
    · subst h
      rw [if_pos rfl]
      exact ⟨b, s, arr', hg, setRow_heap w b arr arr' _ _ e2, hs, e4, e5, e6, hc⟩
    · rw [if_neg h]
      obtain ⟨b2, s2, arr2, f1, f2, f3, f4, f5, f6, f7⟩ := hH.live l' hl' hne'
      refine ⟨b2, s2, arr2, f1, ?_, f3, f4, f5, f6, f7⟩
      rw [setRow_other w b b2 arr' (fun hb => h (hH.inj l' l b _ _ hl' hl hne' hne (hb ▸ f1) hg))]
      exact f2
  · intro l1 l2 b1 s1 s2 h1 h2 n1 n2 g1 g2
    rw [huid l1 h1] at n1 g1
    rw [huid l2 h2] at n2 g2
    exact hH.inj l1 l2 b1 s1 s2 h1 h2 n1 n2 g1 g2
  · intro b2 hb2 ho
    refine ⟨setRow_other w b b2 arr' (fun h => ho ⟨l, s, hl, hne, h ▸ hg⟩), ?_⟩
    rintro ⟨l', s', h1, h2, h3⟩
    rw [huid l' h1] at h2 h3
    exact ho ⟨l', s', h1, h2, h3⟩

/-- a store -/
theorem st_sound {P : Program} {g : Gh} {H : Hp} {w : World} {q p n X : Nat} {a : Addr} {k : Hp → Bool} (ha : AddrOK g p a) (hH : RelH g H w) (h : stN q H p n X k = true)
    (hX : X < 2 ^ (128 * n)) (vs : List Value) (hn : vs.length = n) (hv : ∀ i v, vs[i]? = some v → RelC g (cell X i) v) :
    ∃ w', (storeCells a vs).run P w = .ok () w' ∧ St g H w g (stH q H p n X) w' := by
  obtain ⟨h1, h2, _, _⟩ := stN_inv h
  obtain ⟨hl, ho, hne, s, arr, e1, e2, e3, e4, e5, e6, e7⟩ := ha.block hH h1
  have hm : aOff p % 64 < 64 := Nat.mod_lt _ (by omega)
  have hsc := scat_spec 500 q (bk H (aLoc p)).s0 (bk H (aLoc p)).more (aOff p) n X (by omega) (by omega) hX
  refine ⟨w.setRow a.block (arr.toList.take a.off ++ vs ++ arr.toList.drop (a.off + vs.length)).toArray, ?_, ?_⟩
  · have haa : a = ⟨a.block, a.off, none⟩ := by obtain ⟨b, o, sp⟩ := a; have := ha.1; simp only at this; subst this; rfl
    rw [haa]
    have := run_storeCells_at P a.block a.off _ vs 0 arr w e2 (by omega) (fun v hv' => by
      obtain ⟨i, hi⟩ := List.mem_iff_getElem?.1 hv'
      exact (hv i v hi).one)
    simpa using this
  · unfold stH
    refine hH.setRow hl hne e1 (by rw [splice_size arr a.off vs (by omega)]; exact e3) (fun i hi => ?_)
    rw [splice_get arr a.off vs (by omega), hsc i (by omega), ho, hn]
    by_cases hi' : a.off ≤ i ∧ i < a.off + n
    · rw [if_pos hi', if_pos hi']
      have : i - a.off < vs.length := by omega
      exact ⟨vs[i - a.off], List.getElem?_eq_getElem this, hv _ _ (List.getElem?_eq_getElem this)⟩
    · rw [if_neg hi', if_neg hi']
      exact e7 i hi

/-! new blocks -/
def gPut (g : Gh) (u b s : Nat) : Gh := fun x => if x = u then some (b, s) else g x
theorem gPut_same (g : Gh) (u b s : Nat) : gPut g u b s u = some (b, s) := if_pos rfl
theorem gPut_ne (g : Gh) {u b s x : Nat} (h : x ≠ u) : gPut g u b s x = g x := if_neg h
theorem gPut_ext {g : Gh} {u b s : Nat} (h : g u = none) : Ext g (gPut g u b s) := fun x y hx => by
  rw [gPut_ne g (fun e => by rw [e, h] at hx; cases hx)]; exact hx

/-- the world grows by a row, and the ghost by its number: the heap as it was -/
theorem RelH.grow {g : Gh} {H : Hp} {w w' : World} (hH : RelH g H w) {u s : Nat} (hu : g u = none) (hu0 : u ≠ 0) (hult : u < H.uid)
    (hw : ∀ b, b < w.heap.size → w'.heap[b]? = w.heap[b]?) : RelH (gPut g u w.heap.size s) H w' := by
  have hlive : ∀ l, l < 4096 → (bk H l).uid ≠ 0 → (bk H l).uid ≠ u := fun l hl hne e => by
    obtain ⟨b, s, arr, e1, _⟩ := hH.live l hl hne
    rw [e, hu] at e1; cases e1
  refine ⟨fun l hl hne => ?_, fun l l' b s1 s2 h1 h2 n1 n2 g1 g2 => ?_, fun x hx => ?_, ?_, hH.pos⟩
  · obtain ⟨b, s', arr, e1, e2, e3, e4, e5, e6, e7⟩ := (hH.live l hl hne).mono (gPut_ext (b := w.heap.size) (s := s) hu)
    refine ⟨b, s', arr, e1, ?_, e3, e4, e5, e6, e7⟩
    rw [hw b (Array.getElem?_eq_some_iff.1 e2).1]; exact e2
  · rw [gPut_ne g (hlive l h1 n1)] at g1
    rw [gPut_ne g (hlive l' h2 n2)] at g2
    exact hH.inj l l' b s1 s2 h1 h2 n1 n2 g1 g2
  · rw [gPut_ne g (by omega)]; exact hH.fresh x hx
  · rw [gPut_ne g (Ne.symm hu0)]; exact hH.zero
/-- a number more -/
theorem RelH.uid {g : Gh} {H : Hp} {w : World} (hH : RelH g H w) {u p t : Nat} (hu : H.uid ≤ u) : RelH g ⟨u, p, t, H.blks⟩ w :=
  ⟨hH.live, hH.inj, fun x hx => hH.fresh x (Nat.le_trans hu hx), hH.zero, fun h => hH.pos (Nat.le_zero.1 (h ▸ hu))⟩
/-- a block that stands in the world, and is nobody's, is laid into the heap -/
theorem RelH.insert {g : Gh} {H : Hp} {w : World} (hH : RelH g H w) {l : Nat} (hl : l < 4096) {B : Blk} {b s : Nat} (hB : RelB g w B) (hg : g B.uid = some (b, s)) (ho : ¬ Owns g H b) {p t : Nat} :
    RelH g ⟨H.uid, p, t, qset 6 H.blks l B⟩ w := by
  have hset : ∀ l', l' < 4096 → bk ⟨H.uid, p, t, qset 6 H.blks l B⟩ l' = if l' = l then B else bk H l' := fun l' hl' => bk_set hl hl'
  refine ⟨fun l' hl' hne => ?_, fun l1 l2 b1 s1 s2 h1 h2 n1 n2 g1 g2 => ?_, hH.fresh, hH.zero, hH.pos⟩
  · rw [hset l' hl'] at hne ⊢
    by_cases h : l' = l
    · rw [if_pos h]; exact hB
    · rw [if_neg h] at hne ⊢; exact hH.live l' hl' hne
  · rw [hset l1 h1] at n1 g1
    rw [hset l2 h2] at n2 g2
    by_cases e1 : l1 = l <;> by_cases e2 : l2 = l
    · omega
    · rw [if_pos e1] at g1
      rw [if_neg e2] at n2 g2
      rw [hg] at g1; cases g1
      exact absurd ⟨l2, s2, h2, n2, g2⟩ ho
    · rw [if_neg e1] at n1 g1
      rw [if_pos e2] at g2
      rw [hg] at g2; cases g2
      exact absurd ⟨l1, s1, h1, n1, g1⟩ ho
    · rw [if_neg e1] at n1 g1
      rw [if_neg e2] at n2 g2
      exact hH.inj l1 l2 b1 s1 s2 h1 h2 n1 n2 g1 g2
theorem owns_insert {g : Gh} {H : Hp} {l : Nat} (hl : l < 4096) {B : Blk} {b s : Nat} (hg : g B.uid = some (b, s)) {u p t b' : Nat}
    (h : Owns g ⟨u, p, t, qset 6 H.blks l B⟩ b') : b' = b ∨ Owns g H b' := by
  obtain ⟨l', s', h1, h2, h3⟩ := h
  rw [bk_set hl h1] at h2 h3
  by_cases e : l' = l
  · rw [if_pos e] at h3
    rw [hg] at h3; cases h3
    exact .inl rfl
  · rw [if_neg e] at h2 h3
    exact .inr ⟨l', s', h1, h2, h3⟩
theorem owns_lt {g : Gh} {H : Hp} {w : World} (hH : RelH g H w) {b : Nat} (h : Owns g H b) : b < w.heap.size := by
  obtain ⟨l, s, h1, h2, h3⟩ := h
  obtain ⟨b', s', arr, e1, e2, _⟩ := hH.live l h1 h2
  rw [h3] at e1; cases e1
  exact (Array.getElem?_eq_some_iff.1 e2).1
theorem owns_grow {g : Gh} {H : Hp} {w : World} (hH : RelH g H w) {u s b n : Nat} (hu : g u = none) (h : Owns (gPut g u n s) H b) : Owns g H b := by
  obtain ⟨l, s', h1, h2, h3⟩ := h
  refine ⟨l, s', h1, h2, ?_⟩
  rw [gPut_ne g ?_] at h3
  · exact h3
  · intro e
    obtain ⟨b', s', arr, e1, _⟩ := hH.live l h1 h2
    rw [e, hu] at e1; cases e1
end Go.Proofs.YgvajwGreat.Ev
