import Derived.Test.YgvajwGreatAp1
namespace Go.Proofs.YgvajwGreat.Ev
variable {P : Program}
section
variable {o : Oper} {cf : CallF} {dr : Option Nat} {r0 q v : Nat} {a : List Bnd} {H : Hp} {kk : K}
theorem code_le {k : IntKind} {cx cy : Nat} {m n : Int} (hx : isI cx k m) (hy : isI cy k n) : Nat.ble cx cy = decide (m ≤ n) := by
  rw [ble_dec]
  have h1 := isI_pay hx
  have h2 := isI_pay hy
  have t1 := isI_tag hx
  have t2 := isI_tag hy
  have e1 : cx = tag cx + 16 * pay cx := by rw [tag_eq, pay_eq]; omega
  have e2 : cy = tag cy + 16 * pay cy := by rw [tag_eq, pay_eq]; omega
  by_cases h : m ≤ n
  · rw [decide_eq_true h, decide_eq_true (by omega)]
  · rw [decide_eq_false h, decide_eq_false (by omega)]
theorem min_ok {mn : Bool} {xs : Array Operand} {ts : Array TypeId} {x y : Operand} (hx : xs.toList = [x, y]) (ho : o.op = .call ⟨.builtin (if mn then .min else .max), xs, ts⟩)
    (hr : (cMin mn (cOv x) (cOv y) (cPt o.dst)).run cf r0 q v a H kk = true) : OpOK P (cMin mn (cOv x) (cOv y) (cPt o.dst)) cf dr r0 q v a H o := by
  have hops : o.op.operands.toList = [x, y] := by rw [ho]; simp [Op.operands, Call.operands, hx]
  have e : ∀ k', (cMin mn (cOv x) (cOv y) (cPt o.dst)).run cf r0 q v a H k' = (cOv x).get v a fun cx => (cOv y).get v a fun cy => z0 (okTags (tag cx) cx cy) (z0 (tag cx) false (bB (Nat.ble (tag cx) 8)
      ((cPt o.dst).ps (bB mn (bB (Nat.ble cx cy) cx cy) (bB (Nat.ble cx cy) cy cx)) q v a H k') false)) false := fun k' => by
    show ((cOv x).get v a fun cx => (cOv y).get v a fun cy => z0 (okTags (tag cx) cx cy) (z0 (tag cx) false (bB (Nat.ble (tag cx) 8)
      (fN (bB mn (bB (Nat.ble cx cy) cx cy) (bB (Nat.ble cx cy) cy cx)) fun r => (cPt o.dst).ps r q v a H k') false)) false) = _
    simp only [fN_eq]
  rw [e] at hr
  obtain ⟨cx, xx, ex, hr, sx, bx⟩ := get_inv hr
  obtain ⟨cy, xy, ey, hr, sy, bY⟩ := get_inv hr
  obtain ⟨h0, hr⟩ := z0_and.1 hr
  obtain ⟨h1, hr⟩ := z0_nand.1 hr
  obtain ⟨h2, hr⟩ := bB_and.1 hr
  have g2 := ble_t h2
  obtain ⟨k, hk⟩ := kTag_of (t := tag cx) (by omega) g2
  obtain ⟨_, t2⟩ := okTags_inv (by omega) h0
  obtain ⟨m', hm'⟩ := Nat.exists_eq_succ_of_ne_zero h1
  have hbx := bx h1 (by omega)
  have hby := bY (by omega) (by omega)
  have hne : ∀ c, tag c = tag cx → c ≠ 0 := fun c hc h => h1 (by rw [← hc, h]; rfl)
  refine pureS (c := bB mn (bB (Nat.ble cx cy) cx cy) (bB (Nat.ble cx cy) cy cx)) (fun k' => by rw [e, ex, ey, h0, z0_0, hm', z0_s, ← hm', h2, bB_t]) (fun g w act hO hH => ?_) ?_ ?_
  · rw [hops] at hO
    obtain ⟨m1, ex1, ix⟩ := relA_int (sx g act hO.left) hk.symm
    obtain ⟨n1, ey1, iy⟩ := relA_int (sy g act hO.right) (t2.trans hk.symm)
    have hle := code_le ix iy
    have hxs : xs = #[x, y] := by cases xs; simp_all
    subst hxs
    cases mn with
    | true =>
      refine ⟨.int k (if n1 < m1 then n1 else m1), ?_, ?_⟩
      · simp [execOp, ho, resolve, invoke, builtin, Builtin.min_, ex1, ey1, Builtin.min2]
      · rw [bB_t, hle]
        by_cases h : m1 ≤ n1
        · rw [decide_eq_true h, bB_t, if_neg (by omega)]; exact ix
        · rw [decide_eq_false h, bB_f, if_pos (by omega)]; exact iy
    | false =>
      refine ⟨.int k (if n1 > m1 then n1 else m1), ?_, ?_⟩
      · simp [execOp, ho, resolve, invoke, builtin, Builtin.max_, ex1, ey1, Builtin.max2]
      · rw [bB_f, hle]
        by_cases h : m1 ≤ n1
        · rw [decide_eq_true h, bB_t]
          by_cases h' : n1 > m1
          · rw [if_pos h']; exact iy
          · rw [if_neg h', show m1 = n1 by omega]; exact iy
        · rw [decide_eq_false h, bB_f, if_neg (by omega)]; exact ix
  · cases mn <;> cases Nat.ble cx cy <;> first | exact hne cx rfl | exact hne cy t2
  · cases mn <;> cases Nat.ble cx cy <;> first | exact hbx | exact hby
end
end Go.Proofs.YgvajwGreat.Ev
