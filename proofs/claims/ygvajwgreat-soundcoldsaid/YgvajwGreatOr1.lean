import Derived.Test.YgvajwGreatOps32
namespace Go.Proofs.YgvajwGreat.Ev
/-! calls that are looked up -/
def eqT : (n : Nat) → QT Nat n → QT Nat n → Bool
  | 0, x, y => Nat.beq x y
  | n + 1, x, y => @Q4.casesOn (QT Nat n) (fun _ => Bool) x fun a b c d => @Q4.casesOn (QT Nat n) (fun _ => Bool) y fun a' b' c' d' => and (eqT n a a') (and (eqT n b b') (and (eqT n c c') (eqT n d d')))
def eqB (A B : Blk) : Bool :=
  blK A fun u ty sz es s0 more => blK B fun u' ty' sz' es' s0' more' =>
    and (Nat.beq u u') (and (Nat.beq ty ty') (and (Nat.beq sz sz') (and (Nat.beq es es') (and (Nat.beq s0 s0') (eqT 5 more more')))))
def covers (H : Hp) : List (Nat × Blk) → Bool
  | [] => true
  | (p, B) :: l => and (Nat.ble p 4095) (and (hpK H fun _ _ _ bs => eqB (qget 6 bs p) B) (covers H l))
def layB (bs : QT Blk 6) : List (Nat × Blk) → QT Blk 6
  | [] => bs
  | (p, B) :: l => layB (qset 6 bs p B) l
def eqL : List Nat → List Nat → Bool
  | [], [] => true
  | x :: xs, y :: ys => and (Nat.beq x y) (eqL xs ys)
  | _, _ => false
structure Ent where
  q : Nat
  cs : List Nat
  key : Nat
  pin : Nat
  tin : Nat
  bin : List (Nat × Blk)
  rs : List Nat
  uout : Nat
  pout : Nat
  bout : List (Nat × Blk)
def Ent.hin (e : Ent) : Hp := ⟨e.key, e.pin, e.tin, layB noBlks e.bin⟩
def Ent.hout (e : Ent) : Hp := ⟨e.uout, e.pout, 0, layB noBlks e.bout⟩
def Ent.ends (e : Ent) : Nat → List Nat → Hp → Bool := fun _ rs H => and (eqL rs e.rs) (and (covers H e.bout) (hpK H fun u _ _ _ => Nat.ble u e.uout))
def orc : List Ent → Nat → List Nat → Hp → (Nat → List Nat → Hp → Bool) → Bool
  | [], _, _, _, _ => false
  | e :: l, q, cs, H, k => hpK H fun u _ _ _ => bB (Nat.beq u e.key) (bB (eqL cs e.cs) (bB (covers H e.bin) (k q e.rs e.hout) false) false) (orc l q cs H k)
def orFC (l : List Ent) : FC := ⟨fun _ q cs H k => orc l q cs H k⟩
theorem eqT_spec : ∀ (n : Nat) (x y : QT Nat n), eqT n x y = true → x = y
  | 0, x, y, h => beq_t h
  | n + 1, ⟨a, b, c, d⟩, ⟨a', b', c', d'⟩, h => by
    have h : and (eqT n a a') (and (eqT n b b') (and (eqT n c c') (eqT n d d'))) = true := h
    simp only [Bool.and_eq_true] at h
    obtain ⟨h1, h2, h3, h4⟩ := h
    rw [eqT_spec n a a' h1, eqT_spec n b b' h2, eqT_spec n c c' h3, eqT_spec n d d' h4]
theorem eqB_spec {A B : Blk} (h : eqB A B = true) : A = B := by
  obtain ⟨u, ty, sz, es, s0, more⟩ := A
  obtain ⟨u', ty', sz', es', s0', more'⟩ := B
  have h : and (Nat.beq u u') (and (Nat.beq ty ty') (and (Nat.beq sz sz') (and (Nat.beq es es') (and (Nat.beq s0 s0') (eqT 5 more more'))))) = true := h
  simp only [Bool.and_eq_true] at h
  obtain ⟨h1, h2, h3, h4, h5, h6⟩ := h
  rw [beq_t h1, beq_t h2, beq_t h3, beq_t h4, beq_t h5, eqT_spec 5 more more' h6]
theorem eqL_spec : ∀ (xs ys : List Nat), eqL xs ys = true → xs = ys
  | [], [], _ => rfl
  | x :: xs, y :: ys, h => by
    have h : and (Nat.beq x y) (eqL xs ys) = true := h
    rw [Bool.and_eq_true] at h
    rw [beq_t h.1, eqL_spec xs ys h.2]
  | [], _ :: _, h => (Bool.false_ne_true h).elim
  | _ :: _, [], h => (Bool.false_ne_true h).elim
theorem lay_cov {H : Hp} : ∀ (l : List (Nat × Blk)) (bs : QT Blk 6), covers H l = true → (∀ p, p < 4096 → (qget 6 bs p).uid = 0 ∨ qget 6 bs p = bk H p) →
    ∀ p, p < 4096 → (qget 6 (layB bs l) p).uid = 0 ∨ qget 6 (layB bs l) p = bk H p
  | [], bs, _, hb => hb
  | (p0, B) :: l, bs, h, hb => by
    have h : and (Nat.ble p0 4095) (and (hpK H fun _ _ _ bs => eqB (qget 6 bs p0) B) (covers H l)) = true := h
    simp only [Bool.and_eq_true] at h
    obtain ⟨h1, h2, h3⟩ := h
    have hp0 := ble_t h1
    rw [hpK_eq] at h2
    have hB := eqB_spec h2
    refine lay_cov l (qset 6 bs p0 B) h3 fun p hp => ?_
    rw [qget_qset (by omega) (by omega)]
    by_cases e : p = p0
    · rw [if_pos e, ← hB, e]; exact .inr rfl
    · rw [if_neg e]; exact hb p hp
theorem noBlks_uid (p : Nat) : (qget 6 noBlks p).uid = 0 := by
  have : ∀ n l, qget n (qall noBlk n) l = noBlk := by
    intro n
    induction n with
    | zero => intro l; rfl
    | succ n ih =>
      intro l
      show qget n (pk4 (Nat.land l 3) (qall noBlk n) (qall noBlk n) (qall noBlk n) (qall noBlk n)) (Nat.shiftRight l 2) = noBlk
      have : pk4 (Nat.land l 3) (qall noBlk n) (qall noBlk n) (qall noBlk n) (qall noBlk n) = qall noBlk n := by
        match Nat.land l 3 with
        | 0 => rfl
        | 1 => rfl
        | 2 => rfl
        | _ + 3 => rfl
      rw [this]
      exact ih _
  show (qget 6 (qall noBlk 6) p).uid = 0
  rw [this]; rfl
/-- a heap with fewer blocks, and a number that is not less -/
theorem RelH.less {g : Gh} {H : Hp} {w : World} (hH : RelH g H w) {u p t : Nat} {l : List (Nat × Blk)} (hc : covers H l = true) (hu : H.uid ≤ u) :
    RelH g ⟨u, p, t, layB noBlks l⟩ w ∧ ∀ b, Owns g ⟨u, p, t, layB noBlks l⟩ b → Owns g H b := by
  have key := lay_cov l noBlks hc (fun p _ => .inl (noBlks_uid p))
  have live : ∀ l', l' < 4096 → (bk ⟨u, p, t, layB noBlks l⟩ l').uid ≠ 0 → bk ⟨u, p, t, layB noBlks l⟩ l' = bk H l' := fun l' hl hne => by
    rcases key l' hl with h | h
    · exact absurd h hne
    · exact h
  refine ⟨⟨fun l' hl hne => ?_, fun l1 l2 b s s' h1 h2 n1 n2 g1 g2 => ?_, fun x hx => hH.fresh x (Nat.le_trans hu hx), hH.zero, fun h => hH.pos (Nat.le_zero.1 (h ▸ hu))⟩, fun b hb => ?_⟩
  · have e := live l' hl hne
    rw [e] at hne ⊢
    exact hH.live l' hl hne
  · have e1 := live l1 h1 n1
    have e2 := live l2 h2 n2
    rw [e1] at n1 g1
    rw [e2] at n2 g2
    exact hH.inj l1 l2 b s s' h1 h2 n1 n2 g1 g2
  · obtain ⟨l', s, h1, h2, h3⟩ := hb
    have e := live l' h1 h2
    rw [e] at h2 h3
    exact ⟨l', s, h1, h2, h3⟩
theorem and_l {a b : Bool} (h : and a b = true) : a = true := by cases a <;> first | rfl | exact h
theorem and_r {a b : Bool} (h : and a b = true) : b = true := by cases a <;> first | exact h | exact (Bool.false_ne_true h).elim
section
variable {P : Program}
/-- an entry that has been run -/
def EntOK (F : Nat → FC) (n f : Nat) (e : Ent) : Prop := callN F n e.q f e.cs e.hin e.ends = true
theorem orFC_ok {F : Nat → FC} (hF : ∀ f, FCok P f (F f)) {n f : Nat} : ∀ (l : List Ent), (∀ e, e ∈ l → EntOK F n f e) → FCok P f (orFC l)
  | [], _ => fun _ _ _ _ _ _ h => (Bool.false_ne_true h).elim
  | e :: l, hl => fun ih hih q cs H k h => by
    have er : ∀ k, (orFC (e :: l)).run ih q cs H k = bB (Nat.beq H.uid e.key) (bB (eqL cs e.cs) (bB (covers H e.bin) (k q e.rs e.hout) false) false) ((orFC l).run ih q cs H k) := fun k => by
      show orc (e :: l) q cs H k = _
      unfold orc
      rw [hpK_eq]
      rfl
    rw [er] at h
    rcases bB_or.1 h with ⟨h1, h2⟩ | ⟨h1, h2⟩
    · obtain ⟨h3, h4⟩ := bB_and.1 h2
      obtain ⟨h5, h6⟩ := bB_and.1 h4
      have hcs := eqL_spec _ _ h3
      have hrun : callN F n e.q f e.cs e.hin e.ends = true := hl e (List.mem_cons_self ..)
      obtain ⟨hfn, q', rs, H', c1, c2⟩ := callN_ok hF n e.q f e.cs e.hin e.ends hrun
      rw [c1] at hrun
      have hends : and (eqL rs e.rs) (and (covers H' e.bout) (hpK H' fun u _ _ _ => Nat.ble u e.uout)) = true := hrun
      simp only [Bool.and_eq_true] at hends
      obtain ⟨d1, d2, d3⟩ := hends
      rw [hpK_eq] at d3
      have hrs := eqL_spec _ _ d1
      refine ⟨hfn, q, e.rs, e.hout, fun k' => by rw [er, h1, bB_t, h3, bB_t, h5, bB_t], fun g w as hs hargs hH => ?_⟩
      have hkey := beq_t h1
      obtain ⟨hin, hown⟩ := hH.less (u := e.key) (p := e.pin) (t := e.tin) h5 (by omega)
      refine (c2 g w as (by rw [← hcs]; exact hs) (by rw [← hcs]; exact hargs) hin).mono fun e' w' he => ?_
      obtain ⟨x, g', x1, x2, hst⟩ := he
      obtain ⟨hout, hown'⟩ := hst.rel.less (u := e.uout) (p := e.pout) (t := 0) d2 (ble_t d3)
      refine ⟨x, g', x1, by rw [← hrs]; exact x2, hst.ext, hout, ⟨hst.fr.size, hst.fr.os, hst.fr.out, hst.fr.fz, fun b hb ho => ?_⟩, ?_, fun u hu => hst.kept u (by show u < e.key; omega)⟩
      · obtain ⟨k1, k2⟩ := hst.fr.keep b hb (fun h => ho (hown b h))
        exact ⟨k1, fun h => k2 (hown' b h)⟩
      · have m1 : e.key ≤ H'.uid := hst.um
        have m2 := ble_t d3
        show H.uid ≤ e.uout
        omega
    · obtain ⟨hfn, q', rs, H', c1, c2⟩ := orFC_ok hF l (fun e he => hl e (List.mem_cons_of_mem _ he)) ih hih q cs H k h2
      exact ⟨hfn, q', rs, H', fun k' => by rw [er, h1, bB_f, c1], c2⟩
end
end Go.Proofs.YgvajwGreat.Ev
