import Derived.Test.YgvajwGreatOps19
namespace Go.Proofs.YgvajwGreat.Ev
variable {P : Program}
section
variable {o : Oper} {cf : CallF} {dr : Option Nat} {r0 q v : Nat} {a : List Bnd} {H : Hp} {kk : K}
/-- nothing appended -/
theorem app_none {t u : TypeId} {el es cs X : Nat} {i : TypeInfo} {zv : Value} {s x : Operand} (c : AppCtx P o v a H t u el es cs 0 X i zv s x) {cl : Cl}
    (hrun : ∀ k', cl.run cf r0 q v a H k' = (cPt o.dst).ps cs q v a H k') : OpOK P cl cf dr r0 q v a H o := by
  have h0 : cs ≠ 0 := by
    intro h
    have := isSl_inv c.hsl
    rw [h] at this
    revert this; decide
  refine pureS hrun (fun g w act hO hH => ?_) h0 c.hbd
  rw [c.ops] at hO
  obtain ⟨xs, hcs⟩ := c.hcs g act hO.left
  obtain ⟨news, hA, hN⟩ := c.harg g w act hO.right hH
  have hnil : news = [] := List.eq_nil_of_length_eq_zero (by rw [hA.1]; simp)
  subst hnil
  rcases relA_isSl hcs c.hsl with ⟨x1, y1, _⟩ | ⟨b, l, m, x1, c1, _, _⟩
  · refine ⟨.slice none 0 0, c.exec ?_, ⟨y1, rfl, rfl⟩⟩
    rw [x1]
    exact run_app_room (sLen := 0) (n := 0) c.hu c.z1 c.z2 c.hb hA (Nat.le_refl 0) rfl
  · refine ⟨.slice (some b) l m, c.exec ?_, c1⟩
    rw [x1]
    exact run_app_room (sLen := l) (n := 0) c.hu c.z1 c.z2 c.hb hA c1.slAddr.2.2.1 rfl
/-- to a nil slice -/
theorem app_nil {t u : TypeId} {el es cs n X : Nat} {loc : Bool} {i : TypeInfo} {zv : Value} {s x : Operand} (c : AppCtx P o v a H t u el es cs n X i zv s x) {cl : Cl} (h12 : cs = 12) (hn : n ≠ 0)
    (hrun : ∀ k', cl.run cf r0 q v a H k' = newRow es el loc n X (cPt o.dst) q v a H k')
    (hr : newRow es el loc n X (cPt o.dst) q v a H kk = true) : OpOK P cl cf dr r0 q v a H o := by
  refine newRow_ok c.hes c.hX hrun hr (fun g w act hO hH hsz => ?_)
  rw [c.ops] at hO
  obtain ⟨xs, hcs⟩ := c.hcs g act hO.left
  have hb := relA_nils hcs h12
  obtain ⟨news, hA, hN⟩ := c.harg g w act hO.right hH
  have hnn : n ≤ 31000 := Nat.le_trans (Nat.le_mul_of_pos_right n c.hes) hsz
  have hg := run_app_grow (P := P) (ty := o.type) (base := none) (sLen := 0) (sCap := 0) (olds := []) c.hu c.z1 c.z2 c.hb hA (by omega) (by omega) (by simp) rfl
  refine ⟨news, zv.cells, grownCap w n 0 el, by rw [hA.1, c.z3], c.z4, grownCap_ge w n 0 el, c.exec (by rw [hb]; simpa using hg), hN⟩
/-- the first cells of a slice -/
theorem slCells_inv {es c n : Nat} {k : Nat → Bool} (h : slCells H es c n k = true) : ∃ Y, (∀ k', slCells H es c n k' = k' Y) ∧ k Y = true ∧ (n * es ≤ 31000 → Y < 2 ^ (128 * (n * es))) ∧
    ∀ g w b m, RelH g H w → RelC g c (.slice (some b) (sLen c) m) → Y < 2 ^ (128 * (n * es)) ∧ ∃ f : Nat → Value, ∀ j, j < n * es → w.cell? (b.add j) = some (f j) ∧ RelC g (cell Y j) (f j) := by
  have e : ∀ k', slCells H es c n k' = z0 n (k' 0) (bB (Nat.beq (tag c) 13) (ldN H (sAddr c) (n * es) k') false) := fun _ => rfl
  rw [e] at h
  rcases z0_or.1 h with ⟨h0, h1⟩ | ⟨h0, h1⟩
  · subst h0
    refine ⟨0, fun k' => by rw [e, z0_0], h1, fun _ => Nat.two_pow_pos _, fun g w b m hH hc => ⟨Nat.two_pow_pos _, fun _ => undef, fun j hj => by simp at hj⟩⟩
  · obtain ⟨h2, h3⟩ := bB_and.1 h1
    obtain ⟨_, _, e3, h4⟩ := ldN_inv h3
    obtain ⟨m', hm'⟩ := Nat.exists_eq_succ_of_ne_zero h0
    have ez : ∀ (x y : Bool), z0 n x y = y := fun x y => by rw [hm', z0_s]
    exact ⟨_, fun k' => by rw [e, ez, h2, bB_t, e3], h4, fun h => ldX_lt H _ _ (by omega), fun g w b m hH hc => ld_sound hc.slAddr.1 hH h3⟩
/-- known capacity, no room -/
theorem app_move {t u : TypeId} {el es cs n X Y : Nat} {loc : Bool} {i : TypeInfo} {zv : Value} {s x : Operand} (c : AppCtx P o v a H t u el es cs n X i zv s x) {cl : Cl} (h13 : tag cs = 13)
    (hcap : sCap cs < openCap) (hno : sCap cs < sLen cs + n)
    (hY : ∀ g w b m, RelH g H w → RelC g cs (.slice (some b) (sLen cs) m) → Y < 2 ^ (128 * (sLen cs * es)) ∧ ∃ f : Nat → Value, ∀ j, j < sLen cs * es → w.cell? (b.add j) = some (f j) ∧ RelC g (cell Y j) (f j))
    (hYl : Y < 2 ^ (128 * (sLen cs * es)))
    (hrun : ∀ k', cl.run cf r0 q v a H k' = newRow es el loc (sLen cs + n) (Y + X <<< (128 * (sLen cs * es))) (cPt o.dst) q v a H k')
    (hr : newRow es el loc (sLen cs + n) (Y + X <<< (128 * (sLen cs * es))) (cPt o.dst) q v a H kk = true) : OpOK P cl cf dr r0 q v a H o := by
  refine newRow_ok c.hes (by rw [Nat.add_mul]; exact add_shl_lt hYl c.hX) hrun hr (fun g w act hO hH hsz => ?_)
  rw [c.ops] at hO
  obtain ⟨xs, hcs⟩ := c.hcs g act hO.left
  obtain ⟨b, l, m, hb, hc⟩ := relA_sl hcs h13
  have hl := hc.slAddr.2.1
  subst hl
  obtain ⟨news, hA, hN⟩ := c.harg g w act hO.right hH
  obtain ⟨_, _, _, _, _, _, _, _, _, _, _, _, hm, _⟩ := hc.slParts
  have hm := hm hcap
  subst hm
  obtain ⟨_, f, hf⟩ := hY g w b _ hH hc
  have hnn : sLen cs + n ≤ 31000 := Nat.le_trans (Nat.le_mul_of_pos_right _ c.hes) hsz
  have holds : ∀ j v, ((List.range (sLen cs * es)).map f)[j]? = some v → j < sLen cs * es ∧ v = f j := fun j v hv => by
    have hj : j < sLen cs * es := by have := (List.getElem?_eq_some_iff.1 hv).1; simpa using this
    simp [hj] at hv
    exact ⟨hj, hv.symm⟩
  have hg := run_app_grow (P := P) (ty := o.type) (base := some b) (sLen := sLen cs) (sCap := sCap cs) (olds := (List.range (sLen cs * es)).map f) c.hu c.z1 c.z2 c.hb hA hno (by omega) (by simp [c.z3]) (fun j v hv => by
    obtain ⟨hj, rfl⟩ := holds j v hv
    exact (hf j hj).1)
  refine ⟨(List.range (sLen cs * es)).map f ++ news, zv.cells, grownCap w (sLen cs + n) (sCap cs) el, by rw [List.length_append, hA.1, c.z3, Nat.add_mul]; simp, c.z4, grownCap_ge _ _ _ _, c.exec (by rw [hb]; simpa using hg), fun j v hv => ?_⟩
  rw [cell_add_shl hYl]
  by_cases hj : j < sLen cs * es
  · rw [if_pos hj]
    rw [List.getElem?_append_left (by simpa using hj)] at hv
    obtain ⟨_, rfl⟩ := holds j v hv
    exact (hf j hj).2
  · rw [if_neg hj]
    rw [List.getElem?_append_right (by simp; omega)] at hv
    simp only [List.length_map, List.length_range] at hv
    exact hN _ _ hv
end
end Go.Proofs.YgvajwGreat.Ev
