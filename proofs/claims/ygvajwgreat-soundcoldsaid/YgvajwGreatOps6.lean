import Derived.Test.YgvajwGreatOps5
namespace Go.Proofs.YgvajwGreat.Ev
variable {P : Program}
/-! arrays of integers -/
theorem cell_and (x y i : Nat) : cell (x &&& y) i = cell x i &&& cell y i := by
  apply Nat.eq_of_testBit_eq
  intro k
  rw [Nat.testBit_and, testBit_cell, testBit_cell, testBit_cell, Nat.testBit_and]
  cases decide (k < 128) <;> simp
theorem tag_cell_pat {X n t i : Nat} (ht : t < 16) (h : X &&& tagsOf n = rep 1 n t) (hi : i < n) : tag (cell X i) = t := by
  have h1 := congrArg (fun z => cell z i) h
  simp only [cell_and] at h1
  have e1 : cell (tagsOf n) i = 15 := by
    show cell (rep 1 n 15) i = 15
    rw [cell_rep (by decide) (by decide), if_pos (by omega), Nat.mod_one, cell0_of_lt (by decide)]
  have e2 : cell (rep 1 n t) i = t := by
    rw [cell_rep (by decide) (by omega), if_pos (by omega), Nat.mod_one, cell0_of_lt (by omega)]
  rw [e1, e2] at h1
  exact h1
theorem part_int {el : TypeId} {k : IntKind} (hE : P.underlying el = some (.int k)) (xs : Array Value) (i : Nat) {v : Value} (hv : xs[i]? = some v) (w : World) : (part el xs i).run P w = .ok v w := by
  have : (isAgg el).run P w = .ok false w := by simp [isAgg, run_underlying hE]
  simp [part, this, hv]
open Classical in
theorem eqArr_loop (d : Nat) {el : TypeId} {k : IntKind} {w : World} (hE : P.underlying el = some (.int k)) (xs ys : Array Value) : ∀ (l : List Nat),
    (∀ i, i ∈ l → ∃ a b, xs[i]? = some (.int k a) ∧ ys[i]? = some (.int k b)) →
    (forIn l ((none, ()) : Option Bool × Unit) (fun i (_ : Option Bool × Unit) => do
            let x ← part el xs (i * 1)
            let y ← part el ys (i * 1)
            let r ← Op.equalIn (d + 1) el x y
            if (!r) = true then pure (ForInStep.done (some false, ())) else pure (ForInStep.yield (none, ()))) : Sem (Option Bool × Unit)).run P w
      = .ok (if ∀ i, i ∈ l → xs[i]? = ys[i]? then (none, ()) else (some false, ())) w
  | [], _ => by simp
  | i :: l, h => by
    obtain ⟨a, b, h1, h2⟩ := h i (by simp)
    have ih := eqArr_loop d (w := w) hE xs ys l (fun j hj => h j (by simp [hj]))
    rw [List.forIn_cons]
    simp only [Sem.run_bind, Nat.mul_one, part_int hE xs i h1, part_int hE ys i h2, Result.andThen_ok, run_equalIn_int w d el k k a b hE]
    by_cases hab : a = b
    · subst hab
      simp only [beq_self_eq_true, Bool.not_true, Bool.false_eq_true, if_false, Sem.run_pure, Result.andThen_ok]
      simp only [Nat.mul_one] at ih
      rw [ih]
      have : (∀ j, j ∈ i :: l → xs[j]? = ys[j]?) ↔ ∀ j, j ∈ l → xs[j]? = ys[j]? := by
        simp [h1, h2]
      simp only [this]
    · have hne : ¬ ∀ j, j ∈ i :: l → xs[j]? = ys[j]? := fun hh => by
        have := hh i (by simp)
        rw [h1, h2] at this
        cases this; exact hab rfl
      have hf : (a == b) = false := by simp [hab]
      rw [if_neg hne]
      simp [hf]
open Classical in
theorem eqIn_arr (d : Nat) {t el : TypeId} {len : Nat} {k : IntKind} {i : TypeInfo} {w : World} (hT : P.underlying t = some (.array len el)) (hE : P.underlying el = some (.int k)) (hi : P.info? el = some i) (h1 : i.size = 1)
    (xs ys : Array Value) (h : ∀ i, i < len → ∃ a b, xs[i]? = some (.int k a) ∧ ys[i]? = some (.int k b)) :
    (Op.equalIn (d + 2) t (.agg xs) (.agg ys)).run P w = .ok (decide (∀ i, i < len → xs[i]? = ys[i]?)) w := by
  have hz : (sizeOf el).run P w = .ok 1 w := by simp [sizeOf, typeInfo, hi, h1]
  have hl := eqArr_loop d (w := w) hE xs ys (List.range' 0 len) (fun i hi => h i (by simp at hi; omega))
  have hs : ([:len] : Std.Legacy.Range).size = len := by simp [Std.Legacy.Range.size]
  rw [Op.equalIn]
  simp only [Sem.run_bind, run_underlying hT, Result.andThen_ok, hz, Std.Legacy.Range.forIn_eq_forIn_range', hs]
  rw [hl]
  simp only [Result.andThen_ok]
  by_cases hh : ∀ i, i < len → xs[i]? = ys[i]?
  · rw [if_pos (fun i hi => hh i (by simp at hi; omega)), decide_eq_true hh]
    rfl
  · rw [if_neg (fun h' => hh (fun i hi => h' i (by simp; omega))), decide_eq_false hh]
    rfl
open Classical in
theorem equal_arr {t el : TypeId} {len : Nat} {k : IntKind} {i : TypeInfo} {w : World} (hT : P.underlying t = some (.array len el)) (hE : P.underlying el = some (.int k)) (hi : P.info? el = some i) (h1 : i.size = 1)
    (xs ys : Array Value) (h : ∀ i, i < len → ∃ a b, xs[i]? = some (.int k a) ∧ ys[i]? = some (.int k b)) :
    (Op.equal t (.agg xs) (.agg ys)).run P w = .ok (decide (∀ i, i < len → xs[i]? = ys[i]?)) w := eqIn_arr 9998 hT hE hi h1 xs ys h
theorem bin_eql_agg {t : TypeId} {a b : Array Value} {w : World} {r : Bool} (h : (Op.equal t (.agg a) (.agg b)).run P w = .ok r w) : (binOp .eql t (.agg a) (.agg b)).run P w = .ok (.bool r) w := by
  show (do pure (Value.bool (← Op.equal t (.agg a) (.agg b))) : Sem Value).run P w = _
  rw [Sem.run_bind, h]; rfl
theorem bin_neq_agg {t : TypeId} {a b : Array Value} {w : World} {r : Bool} (h : (Op.equal t (.agg a) (.agg b)).run P w = .ok r w) : (binOp .neq t (.agg a) (.agg b)).run P w = .ok (.bool (!r)) w := by
  show (do pure (Value.bool (!(← Op.equal t (.agg a) (.agg b)))) : Sem Value).run P w = _
  rw [Sem.run_bind, h]; rfl
theorem cAgg_inj {n X Y : Nat} (h : cAgg n X = cAgg n Y) : X = Y := by rw [cAgg_eq, cAgg_eq] at h; omega
open Classical in
theorem eqA_inv {t : TypeId} {T : TI} (hT : TIok P t T) (hp : T.pat ≠ 0) (cx cy : Nat) (k : Bool → Bool)
    (h : eqA T.sz T.pat cx cy k = true) : ∃ b, (∀ k', eqA T.sz T.pat cx cy k' = k' b) ∧ EqSem P t cx cy b := by
  obtain ⟨kk, i, hk, hE, hi, h1, hpat, hsz, hg⟩ := hT.pat hp
  have hU := hT.kind.2.1 hk
  unfold eqA at h ⊢
  obtain ⟨t1, h⟩ := z0_and.1 h
  obtain ⟨t2, h⟩ := z0_and.1 h
  obtain ⟨a1, h⟩ := bB_and.1 h
  obtain ⟨a2, h⟩ := bB_and.1 h
  obtain ⟨p1, h⟩ := bB_and.1 h
  obtain ⟨p2, h⟩ := bB_and.1 h
  refine ⟨Nat.beq cx cy, fun k' => by rw [t1, z0_0, t2, z0_0, a1, bB_t, a2, bB_t, p1, bB_t, p2, bB_t], fun g xs ys X Y w x y hx hy => ?_⟩
  have ne1 : cx ≠ 15 := by intro e; subst e; exact absurd t1 (by decide)
  have ne2 : cy ≠ 15 := by intro e; subst e; exact absurd t2 (by decide)
  obtain ⟨ax, rfl, s1, l1, e1, r1⟩ := (hx.val ne1).agg t1 a1
  obtain ⟨ay, rfl, s2, l2, e2, r2⟩ := (hy.val ne2).agg t2 a2
  have hk8 := kTag_pos kk
  have q1 : aggX T.sz cx &&& tagsOf T.sz = rep 1 T.sz (kTag kk) := by rw [hsz]; rw [hsz] at p1; exact (beq_t p1).trans hpat
  have q2 : aggX T.sz cy &&& tagsOf T.sz = rep 1 T.sz (kTag kk) := by rw [hsz]; rw [hsz] at p2; exact (beq_t p2).trans hpat
  have hcells : ∀ j, j < T.ln → ∃ a b, ax[j]? = some (.int kk a) ∧ ay[j]? = some (.int kk b) ∧ isI (cell (aggX T.sz cx) j) kk a ∧ isI (cell (aggX T.sz cy) j) kk b := fun j hj => by
    have j1 : j < ax.size := by omega
    have j2 : j < ay.size := by omega
    obtain ⟨a, ea, ia⟩ := (r1 j _ (Array.getElem?_eq_getElem j1)).intOf (k := kk) (tag_cell_pat (by omega) q1 (by omega))
    obtain ⟨b, eb, ib⟩ := (r2 j _ (Array.getElem?_eq_getElem j2)).intOf (k := kk) (tag_cell_pat (by omega) q2 (by omega))
    exact ⟨a, b, by rw [Array.getElem?_eq_getElem j1, ea], by rw [Array.getElem?_eq_getElem j2, eb], ia, ib⟩
  have hd : decide (∀ j, j < T.ln → ax[j]? = ay[j]?) = Nat.beq cx cy := by
    rw [beq_dec]
    refine decide_eq_decide.2 ⟨fun hh => ?_, fun hh j hj => ?_⟩
    · rw [e1, e2]
      congr 1
      apply cell_ext
      intro j
      by_cases hj : j < T.ln
      · obtain ⟨a, b, f1, f2, f3, f4⟩ := hcells j hj
        have := hh j hj
        rw [f1, f2] at this
        cases this
        exact (cmp_eq f3 f4).1 rfl
      · rw [cell_of_lt l1 (by omega), cell_of_lt l2 (by omega)]
    · obtain ⟨a, b, f1, f2, f3, f4⟩ := hcells j hj
      rw [hh] at f3
      rw [f1, f2, (isI_inj f3 f4).2]
  have heq := equal_arr (w := w) hU hE hi h1 ax ay (fun j hj => by obtain ⟨a, b, f1, f2, _⟩ := hcells j hj; exact ⟨a, b, f1, f2⟩)
  rw [hd] at heq
  exact ⟨bin_eql_agg heq, bin_neq_agg heq, fun op => run_eqGuard_agg w op t x y ax ay hg⟩
end Go.Proofs.YgvajwGreat.Ev
