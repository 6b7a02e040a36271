import Derived.Test.YgvajwGreatOps31
namespace Go.Proofs.YgvajwGreat.Ev
section
variable {P : Program}
/-! the tables against the program -/
def offsB (P : Program) : List Field → List (Nat × Nat) → Bool
  | [], [] => true
  | f :: fs, (o, n) :: r => match P.info? f.type with
    | some i => and (Nat.beq f.offset o) (and (Nat.beq i.size n) (offsB P fs r))
    | none => false
  | _, _ => false
def kindB (P : Program) (t : Nat) (T : TI) : Bool :=
  match P.underlying t with
  | some (.struct fs) => and (Nat.beq T.k 1) (offsB P fs.toList T.offs)
  | some (.array n e) => and (Nat.beq T.k 2) (and (Nat.beq n T.ln) (Nat.beq e T.el))
  | some (.slice e) => and (Nat.beq T.k 3) (Nat.beq e T.el)
  | some (.pointer e) => and (Nat.beq T.k 4) (Nat.beq e T.el)
  | some (.int k) => and (Nat.beq T.k 5) (Nat.beq T.ik (kTag k))
  | some .string => Nat.beq T.k 6
  | some .bool => Nat.beq T.k 7
  | some _ => Nat.beq T.k 8
  | none => false
/-- the zero value's cells, from the j-th on -/
def zB (s0 : Nat) (more : QT Nat 5) (sz : Nat) : List Value → Nat → Bool
  | [], j => Nat.beq j sz
  | v :: l, j => fN (encS v) fun c => z0 c false (bB (Nat.beq c (Nat.mod (Nat.shiftRight (Nat.shiftRight (segOf s0 more (Nat.div j 64)) 64) (Nat.mul 128 (Nat.mod j 64))) 340282366920938463463374607431768211456))
      (fN (Nat.succ j) fun j => zB s0 more sz l j) false)
def patB (P : Program) (t : Nat) (T : TI) : Bool :=
  match P.underlying T.el, P.info? T.el with
  | some (.int k), some i => and (Nat.beq T.k 2) (and (Nat.beq i.size 1) (and (Nat.beq T.pat (rep 1 T.ln (kTag k))) (and (Nat.beq T.sz T.ln) (not (P.eqGuardType P.depth t)))))
  | _, _ => false
theorem patB_spec {P : Program} {t : Nat} {T : TI} (h : patB P t T = true) : ∃ k i, T.k = 2 ∧ P.underlying T.el = some (.int k) ∧ P.info? T.el = some i ∧ i.size = 1 ∧ T.pat = rep 1 T.ln (kTag k) ∧ T.sz = T.ln ∧ P.eqGuardType P.depth t = false := by
  unfold patB at h
  split at h
  · rename_i k i h1 h2
    simp only [Bool.and_eq_true, Bool.not_eq_true'] at h
    obtain ⟨g1, g2, g3, g4, g5⟩ := h
    exact ⟨k, i, beq_t g1, h1, h2, beq_t g2, beq_t g3, beq_t g4, g5⟩
  · cases h
def tiB (P : Program) (t : Nat) (T : TI) : Bool :=
  z0 T.k (and (Nat.beq T.ik 0) (and (Nat.beq T.zk 0) (Nat.beq T.pat 0)))
    (match P.info? t with
     | some i => and (Nat.beq i.size T.sz) (and (Nat.beq i.bytes T.by_) (and (kindB P t T) (and (z0 T.ik true (Nat.beq T.k 5)) (and (z0 T.pat true (patB P t T))
        (z0 T.zk true (match i.zero with
          | some zv => and (Nat.ble T.sz 31000) (zB T.z.1 T.z.2 T.sz zv.cells.toList 0)
          | none => false))))))
     | none => false)
theorem offsB_spec : ∀ (fs : List Field) (l : List (Nat × Nat)), offsB P fs l = true →
    (∀ (j o n : Nat), l[j]? = some (o, n) → ∃ (f : Field) (i : TypeInfo), fs[j]? = some f ∧ f.offset = o ∧ P.info? f.type = some i ∧ i.size = n) ∧
      fs.mapM (fun f => (P.info? f.type).map fun i => (f.offset, i.size)) = some l
  | [], [], _ => ⟨fun j o n h => by simp at h, rfl⟩
  | [], _ :: _, h => (Bool.false_ne_true h).elim
  | _ :: _, [], h => (Bool.false_ne_true h).elim
  | f :: fs, (o, n) :: r, h => by
    have e : offsB P (f :: fs) ((o, n) :: r) = match P.info? f.type with | some i => and (Nat.beq f.offset o) (and (Nat.beq i.size n) (offsB P fs r)) | none => false := rfl
    rw [e] at h
    cases hi : P.info? f.type with
    | none => rw [hi] at h; cases h
    | some i =>
      rw [hi] at h
      simp only [Bool.and_eq_true] at h
      obtain ⟨h1, h2, h3⟩ := h
      obtain ⟨g1, g2⟩ := offsB_spec fs r h3
      have h1 := beq_t h1
      have h2 := beq_t h2
      refine ⟨fun j o' n' hj => ?_, ?_⟩
      · cases j with
        | zero => simp at hj; obtain ⟨rfl, rfl⟩ := hj; exact ⟨f, i, rfl, h1, hi, h2⟩
        | succ j => simp at hj; exact g1 j o' n' hj
      · rw [List.mapM_cons, hi, g2, ← h1, ← h2]; rfl
theorem kindB_spec {t : Nat} {T : TI} (h : kindB P t T = true) : KindOK P t T ∧ T.k ≠ 0 := by
  unfold kindB at h
  cases hu : P.underlying t with
  | none => rw [hu] at h; cases h
  | some d =>
    rw [hu] at h
    have key : ∀ n, T.k = n → n ≠ 0 → n ≤ 8 → (n = 1 → ∃ fs, d = .struct fs ∧ offsB P fs.toList T.offs = true) → (n = 2 → d = .array T.ln T.el) → (n = 3 → d = .slice T.el) → (n = 4 → d = .pointer T.el) →
        (n = 5 → ∃ k, d = .int k ∧ T.ik = kTag k) → (n = 6 → d = .string) → (n = 7 → d = .bool) → (n = 8 → (∀ fs, d ≠ .struct fs) ∧ (∀ n e, d ≠ .array n e) ∧ (∀ k, d ≠ .int k)) → KindOK P t T ∧ T.k ≠ 0 := by
      intro n hn h0 h8 k1 k2 k3 k4 k5 k6 k7 k8
      subst hn
      refine ⟨⟨fun h => ?_, fun h => by rw [hu, k2 h], fun h => by rw [hu, k3 h], fun h => by rw [hu, k4 h], fun h => ?_, fun h => by rw [hu, k6 h], fun h => by rw [hu, k7 h], fun h => ⟨d, hu, k8 h⟩, h8⟩, h0⟩
      · obtain ⟨fs, rfl, ho⟩ := k1 h
        obtain ⟨g1, g2⟩ := offsB_spec _ _ ho
        exact ⟨fs, hu, fun j o n hj => by obtain ⟨f, i, h1, h2⟩ := g1 j o n hj; exact ⟨f, i, by simpa using h1, h2⟩, g2⟩
      · obtain ⟨k, rfl, hk⟩ := k5 h
        exact ⟨k, hu, hk⟩
    cases d with
    | struct fs =>
      simp only [Bool.and_eq_true] at h
      exact key 1 (beq_t h.1) (by omega) (by omega) (fun _ => ⟨fs, rfl, h.2⟩) (by omega) (by omega) (by omega) (by omega) (by omega) (by omega) (by omega)
    | array n e =>
      simp only [Bool.and_eq_true] at h
      exact key 2 (beq_t h.1) (by omega) (by omega) (by omega) (fun _ => by rw [beq_t h.2.1, beq_t h.2.2]) (by omega) (by omega) (by omega) (by omega) (by omega) (by omega)
    | slice e =>
      simp only [Bool.and_eq_true] at h
      exact key 3 (beq_t h.1) (by omega) (by omega) (by omega) (by omega) (fun _ => by rw [beq_t h.2]) (by omega) (by omega) (by omega) (by omega) (by omega)
    | pointer e =>
      simp only [Bool.and_eq_true] at h
      exact key 4 (beq_t h.1) (by omega) (by omega) (by omega) (by omega) (by omega) (fun _ => by rw [beq_t h.2]) (by omega) (by omega) (by omega) (by omega)
    | int k =>
      simp only [Bool.and_eq_true] at h
      exact key 5 (beq_t h.1) (by omega) (by omega) (by omega) (by omega) (by omega) (by omega) (fun _ => ⟨k, rfl, beq_t h.2⟩) (by omega) (by omega) (by omega)
    | string => exact key 6 (beq_t h) (by omega) (by omega) (by omega) (by omega) (by omega) (by omega) (by omega) (fun _ => rfl) (by omega) (by omega)
    | bool => exact key 7 (beq_t h) (by omega) (by omega) (by omega) (by omega) (by omega) (by omega) (by omega) (by omega) (fun _ => rfl) (by omega)
    | _ => exact key 8 (beq_t h) (by omega) (by omega) (by omega) (by omega) (by omega) (by omega) (by omega) (by omega) (by omega) (fun _ => ⟨(fun _ h => by cases h), (fun _ _ h => by cases h), (fun _ h => by cases h)⟩)
theorem zB_spec {s0 sz : Nat} {more : QT Nat 5} : ∀ (l : List Value) (j : Nat), zB s0 more sz l j = true → j + l.length = sz ∧ ∀ (i : Nat) v, l[i]? = some v → ∀ g, RelC g (cellB s0 more (j + i)) v
  | [], j, h => ⟨beq_t h, fun i v hv => by simp at hv⟩
  | v :: l, j, h => by
    have e : zB s0 more sz (v :: l) j = fN (encS v) fun c => z0 c false (bB (Nat.beq c (Nat.mod (Nat.shiftRight (Nat.shiftRight (segOf s0 more (Nat.div j 64)) 64) (Nat.mul 128 (Nat.mod j 64))) 340282366920938463463374607431768211456))
        (fN (Nat.succ j) fun j => zB s0 more sz l j) false) := rfl
    rw [e, fN_eq, z0_nand, fN_eq, bB_and] at h
    obtain ⟨h0, h1, h2⟩ := h
    obtain ⟨g1, g2⟩ := zB_spec l (j + 1) h2
    refine ⟨by simp; omega, fun i v' hv g => ?_⟩
    cases i with
    | zero =>
      simp at hv
      subst hv
      have : cellB s0 more (j + 0) = encS v := (beq_t h1).symm
      rw [this]
      exact encS_rel h0 g
    | succ i =>
      simp at hv
      rw [show j + (i + 1) = j + 1 + i by omega]
      exact g2 i v' hv g
theorem tiB_spec {t : Nat} {T : TI} (h : tiB P t T = true) : TIok P t T := by
  unfold tiB at h
  rcases z0_or.1 h with ⟨h0, h⟩ | ⟨h0, h⟩
  · simp only [Bool.and_eq_true] at h
    have h1 := beq_t h.1
    have h2 := beq_t h.2.1
    have h3 := beq_t h.2.2
    exact ⟨fun h => absurd h0 h, ⟨by omega, by omega, by omega, by omega, by omega, by omega, by omega, by omega, by omega⟩, fun h => absurd h1 h, fun h => absurd h2 h, fun h => absurd h2 h, fun h => absurd h3 h⟩
  · cases hi : P.info? t with
    | none => rw [hi] at h; cases h
    | some i =>
      rw [hi] at h
      simp only [Bool.and_eq_true] at h
      obtain ⟨h1, h2, h3, h4, h5, h6⟩ := h
      have h1 := beq_t h1
      refine ⟨fun _ => ⟨i, hi, h1, beq_t h2⟩, (kindB_spec h3).1, fun hk => ?_, fun _ => h0, fun hz => ?_, fun hp => ?_⟩
      · rcases z0_or.1 h4 with ⟨h, _⟩ | ⟨_, h⟩
        · exact absurd h hk
        · exact beq_t h
      · rcases z0_or.1 h6 with ⟨h, _⟩ | ⟨_, h⟩
        · exact absurd h hz
        · cases hzv : i.zero with
          | none => rw [hzv] at h; cases h
          | some zv =>
            rw [hzv] at h
            simp only [Bool.and_eq_true] at h
            obtain ⟨g1, g2⟩ := zB_spec _ _ h.2
            have hs : zv.cells.size = T.sz := by simpa using g1
            refine ⟨i, zv, hi, hzv, h1, hs, ble_t h.1, fun j hj => ?_⟩
            have hj' : j < zv.cells.size := by omega
            refine ⟨zv.cells[j], by simp [hj'], fun g => ?_⟩
            have := g2 j zv.cells[j] (by simp [hj']) g
            rwa [Nat.zero_add] at this
      · rcases z0_or.1 h5 with ⟨h, _⟩ | ⟨_, h⟩
        · exact absurd h hp
        · exact patB_spec h
/-- of all types below n -/
def tisB (P : Program) (ti : Nat → TI) : Nat → Bool :=
  @Nat.rec (fun _ => Bool) true (fun n ih => bB (tiB P n (ti n)) ih false)
theorem tisB_spec {ti : Nat → TI} : ∀ n, tisB P ti n = true → ∀ t, t < n → TIok P t (ti t)
  | 0, _, t, ht => by omega
  | n + 1, h, t, ht => by
    have h : bB (tiB P n (ti n)) (tisB P ti n) false = true := h
    obtain ⟨h1, h2⟩ := bB_and.1 h
    by_cases e : t = n
    · subst e; exact tiB_spec h1
    · exact tisB_spec n h2 t (by omega)
theorem noTI_ok (t : Nat) : TIok P t noTI := tiB_spec rfl
/-! the whole -/
theorem start_rel (w : World) : RelH (fun _ => none) hp0 w := by
  have h0 : ∀ l, l < 4096 → (bk hp0 l).uid = 0 := fun l hl => by
    show (qget 6 (qall noBlk 6) l).uid = 0
    have : ∀ n l, qget n (qall noBlk n) l = noBlk := by
      intro n
      induction n with
      | zero => intro l; rfl
      | succ n ih =>
        intro l
        show qget n (pk4 (Nat.land l 3) (qall noBlk n) (qall noBlk n) (qall noBlk n) (qall noBlk n)) (Nat.shiftRight l 2) = noBlk
        have : pk4 (Nat.land l 3) (qall noBlk n) (qall noBlk n) (qall noBlk n) (qall noBlk n) = qall noBlk n := by
          match Nat.land l 3 with
          | 0 => rfl
          | 1 => rfl
          | 2 => rfl
          | _ + 3 => rfl
        rw [this]
        exact ih _
    rw [this]; rfl
  exact ⟨fun l hl h => absurd (h0 l hl) h, fun l _ _ _ _ hl _ h => absurd (h0 l hl) h, fun _ _ => rfl, rfl, by decide⟩
theorem not_owns (b : Nat) : ¬ Owns (fun _ => none) hp0 b := fun ⟨_, _, _, _, h⟩ => by cases h
/-- what the evaluator finds true, the call returns true; and the world has at most grown -/
theorem run_true {F : Nat → FC} (hF : ∀ f, FCok P f (F f)) {n f : Nat} (h : callN F n 0 f [] hp0 (fun _ rs _ => match rs with | [c] => Nat.beq c 25 | _ => false) = true) (w : World) :
    Calls P f #[] w fun e w' => e = .returned (.bool true) ∧ w'.os = w.os ∧ w'.output = w.output ∧ (∀ a, w'.frozen? a = w.frozen? a) ∧ w.heap.size ≤ w'.heap.size ∧ ∀ b : Nat, b < w.heap.size → w'.heap[b]? = w.heap[b]? := by
  obtain ⟨_, q', rs, H', h1, h2⟩ := callN_ok hF n 0 f [] hp0 _ h
  rw [h1] at h
  refine (h2 (fun _ => none) w #[] rfl (fun i c x hc => by simp at hc) (start_rel w)).mono fun e w' he => ?_
  obtain ⟨x, g', rfl, hr, hst⟩ := he
  have hx : x = .bool true := by
    match rs, h, hr with
    | [c], h, hr =>
      have hc := beq_t h
      rcases hr with ⟨c', hc', hv⟩ | ⟨hn, _⟩
      · cases hc'
        subst hc
        obtain ⟨b, hb, hcb⟩ := (hv.scalar (by decide)).boolOf (by decide)
        rw [hb]
        cases b
        · exact absurd hcb (by decide)
        · rfl
      · exact absurd rfl (hn c)
  exact ⟨by rw [hx], hst.fr.os, hst.fr.out, hst.fr.fz, hst.fr.size, fun b hb => (hst.fr.keep b hb (not_owns b)).1⟩
end
end Go.Proofs.YgvajwGreat.Ev
