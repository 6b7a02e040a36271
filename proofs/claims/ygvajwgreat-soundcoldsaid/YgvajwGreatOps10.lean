import Derived.Test.YgvajwGreatOps9
namespace Go.Proofs.YgvajwGreat.Ev
variable {P : Program}
/-! loads and stores -/
/-- the packed cells of a value -/
theorem cells_inv {n c : Nat} {k : Nat → Bool} (h : cellsOf n c k = true) :
    ∃ X, (∀ k', cellsOf n c k' = k' X) ∧ k X = true ∧ tag c ≠ 15 ∧ ((tag c ≠ 0 → tag c < 14 → c < 2 ^ 128) → X < 2 ^ (128 * n)) ∧ ∀ g xs x, RelA g c xs x → x.cells.size = n ∧ X < 2 ^ (128 * n) ∧ ∀ i v, x.cells[i]? = some v → RelC g (cell X i) v := by
  have e : ∀ k', cellsOf n c k' = z0 (tag c) (bB (isAg n c) (k' (aggX n c)) false) (bB (Nat.beq n 1) (bB (Nat.ble (tag c) 13) (k' c) false) false) := fun k' => by unfold cellsOf; rw [fN_eq]
  rw [e] at h
  rcases z0_or.1 h with ⟨h0, h1⟩ | ⟨h0, h1⟩
  · obtain ⟨h2, h3⟩ := bB_and.1 h1
    refine ⟨_, fun k' => by rw [e, h0, z0_0, h2, bB_t], h3, by omega, fun _ => Nat.mod_lt _ (Nat.two_pow_pos _), fun g xs x hx => ?_⟩
    have ne1 : c ≠ 15 := by intro e; subst e; exact absurd h0 (by decide)
    obtain ⟨arr, rfl, s1, l1, e1, r1⟩ := (hx.val ne1).agg h0 h2
    exact ⟨s1, l1, r1⟩
  · obtain ⟨h2, h3⟩ := bB_and.1 h1
    obtain ⟨h4, h5⟩ := bB_and.1 h3
    have g2 := beq_t h2
    have g4 := ble_t h4
    obtain ⟨m, hm⟩ := Nat.exists_eq_succ_of_ne_zero h0
    subst g2
    refine ⟨c, fun k' => by rw [e, hm, z0_s, h2, bB_t, ← hm, h4, bB_t], h5, by omega, fun hb => by simpa using hb h0 (by omega), fun g xs x hx => ?_⟩
    have hc := relA_sc hx h0 (by omega)
    have hlt := hc.lt (by omega)
    have hcells : x.cells = #[x] := by cases x <;> first | rfl | exact hc.elim
    rw [hcells]
    refine ⟨rfl, by simpa using hlt, fun i v hv => ?_⟩
    cases i with
    | zero => simp at hv; subst hv; rw [cell0_of_lt hlt]; exact hc
    | succ i => simp at hv
section
variable {o : Oper} {cf : CallF} {dr : Option Nat} {r0 q v : Nat} {a : List Bnd} {H : Hp} {kk : K}
theorem isAggK_iff {k : Nat} : isAggK k = true ↔ k = 1 ∨ k = 2 := by
  unfold isAggK
  rw [bB_and]
  constructor
  · rintro ⟨h1, h2⟩; have := ble_t h1; have := ble_t h2; omega
  · intro h; exact ⟨Nat.ble_eq_true_of_le (by omega), Nat.ble_eq_true_of_le (by omega)⟩
theorem run_isAgg_t {E : Nat → TI} (hE : ∀ t, TIok P t (E t)) {t : TypeId} (h0 : (E t).k ≠ 0) (w : World) : (isAgg t).run P w = .ok (isAggK (E t).k) w := by
  have hk := (hE t).kind
  have h8 := hk.2.2.2.2.2.2.2.2
  have hc : (E t).k = 1 ∨ (E t).k = 2 ∨ (E t).k = 3 ∨ (E t).k = 4 ∨ (E t).k = 5 ∨ (E t).k = 6 ∨ (E t).k = 7 ∨ (E t).k = 8 := by omega
  rcases hc with h | h | h | h | h | h | h | h
  · obtain ⟨fs, hu, _⟩ := hk.1 h; rw [h]; simp [isAgg, run_underlying hu]; rfl
  · have hu := hk.2.1 h; rw [h]; simp [isAgg, run_underlying hu]; rfl
  · have hu := hk.2.2.1 h; rw [h]; simp [isAgg, run_underlying hu]; rfl
  · have hu := hk.2.2.2.1 h; rw [h]; simp [isAgg, run_underlying hu]; rfl
  · obtain ⟨k, hu, _⟩ := hk.2.2.2.2.1 h; rw [h]; simp [isAgg, run_underlying hu]; rfl
  · have hu := hk.2.2.2.2.2.1 h; rw [h]; simp [isAgg, run_underlying hu]; rfl
  · have hu := hk.2.2.2.2.2.2.1 h; rw [h]; simp [isAgg, run_underlying hu]; rfl
  · obtain ⟨d, hu, n1, n2, _⟩ := hk.2.2.2.2.2.2.2.1 h
    rw [h]
    cases d with
    | struct fs => exact absurd rfl (n1 fs)
    | array n e => exact absurd rfl (n2 n e)
    | _ => simp [isAgg, run_underlying hu]; rfl
theorem run_loadAgg {E : Nat → TI} (hE : ∀ t, TIok P t (E t)) {t : TypeId} (h0 : (E t).k ≠ 0) (hag : isAggK (E t).k = true) {a : Addr} {f : Nat → Value} {w : World}
    (h : ∀ j, j < (E t).sz → w.cell? (a.add j) = some (f j)) : (loadVar t a).run P w = .ok (.agg ((List.range (E t).sz).map f).toArray) w := by
  obtain ⟨i, j1, j2, _⟩ := (hE t).info h0
  have hz : (sizeOf t).run P w = .ok (E t).sz w := by simp [sizeOf, typeInfo, j1, j2]
  simp [loadVar, run_isAgg_t hE h0, hag, hz, run_loadCells w a (E t).sz f h]
theorem run_loadOne {E : Nat → TI} (hE : ∀ t, TIok P t (E t)) {t : TypeId} (h0 : (E t).k ≠ 0) (hag : isAggK (E t).k = false) {a : Addr} {x : Value} {w : World}
    (h : w.cell? a = some x) : (loadVar t a).run P w = .ok x w := by
  simp [loadVar, run_isAgg_t hE h0, hag, h]
theorem relV_agg {g : Gh} {n X : Nat} {f : Nat → Value} (hX : X < 2 ^ (128 * n)) (h : ∀ j, j < n → RelC g (cell X j) (f j)) : RelV g (cAgg n X) (.agg ((List.range n).map f).toArray) := by
  refine .inr ⟨n, X, _, rfl, hX, rfl, by simp, fun i v hv => ?_⟩
  by_cases hi : i < n
  · simp [hi] at hv; subst hv; exact h i hi
  · simp [hi] at hv
theorem addr_add0 (a : Addr) : a.add 0 = a := by unfold Addr.add; rw [if_pos rfl]
theorem load_ok {E : Nat → TI} (hE : ∀ t, TIok P t (E t)) {t : TypeId} {x : Operand} (h0 : (E t).k ≠ 0) (ho : o.op = .load t x)
    (hr : (cLoad (isAggK (E t).k) (E t).sz (cOv x) (cPt o.dst)).run cf r0 q v a H kk = true) : OpOK P (cLoad (isAggK (E t).k) (E t).sz (cOv x) (cPt o.dst)) cf dr r0 q v a H o := by
  have hops : o.op.operands.toList = [x] := by rw [ho]; rfl
  unfold cLoad at hr ⊢
  cases hag : isAggK (E t).k with
  | true =>
    rw [hag, bB_t] at hr
    rw [bB_t]
    have e : ∀ k', (Cl.mk fun _ _ q v a H k => (cOv x).get v a fun c => bB (Nat.beq (tag c) 11) (ldN H (pay c) (E t).sz fun X => fN (cAgg (E t).sz X) fun r => (cPt o.dst).pg r [] q v a H k) false).run cf r0 q v a H k' =
        (cOv x).get v a fun c => bB (Nat.beq (tag c) 11) (ldN H (pay c) (E t).sz fun X => (cPt o.dst).pg (cAgg (E t).sz X) [] q v a H k') false := fun k' => by
      show ((cOv x).get v a fun c => bB (Nat.beq (tag c) 11) (ldN H (pay c) (E t).sz fun X => fN (cAgg (E t).sz X) fun r => (cPt o.dst).pg r [] q v a H k') false) = _
      simp only [fN_eq]
    rw [e] at hr
    obtain ⟨cc, xc, ec, hr, sc, _⟩ := get_inv hr
    obtain ⟨h1, h2⟩ := bB_and.1 hr
    obtain ⟨_, _, h3, h4⟩ := ldN_inv h2
    obtain ⟨q', v', a', p1, p2⟩ := pg_put o.dst (cAgg (E t).sz (ldX H (pay cc) (E t).sz)) [] q v a H
    refine pureA (fun k' => by rw [e, ec, h1, bB_t, h3, p1]) p2 (fun g w act hO hH => ?_)
    rw [hops] at hO
    obtain ⟨b, hb, hc⟩ := relA_ptr (sc g act hO) (beq_t h1)
    obtain ⟨x3, f, x4⟩ := ld_sound hc.addr hH h2
    refine ⟨_, ?_, .inr ⟨rfl, relV_agg x3 (fun j hj => (x4 j hj).2)⟩⟩
    simp [execOp, ho, hb, Instr.loadAt, Instr.sureAddr, run_loadAgg hE h0 hag (fun j hj => (x4 j hj).1)]
  | false =>
    rw [hag, bB_f] at hr
    rw [bB_f]
    have e : ∀ k', (Cl.mk fun _ _ q v a H k => (cOv x).get v a fun c => bB (Nat.beq (tag c) 11) (ldN H (pay c) 1 fun X => z0 X false ((cPt o.dst).ps X q v a H k)) false).run cf r0 q v a H k' =
        (cOv x).get v a fun c => bB (Nat.beq (tag c) 11) (ldN H (pay c) 1 fun X => z0 X false ((cPt o.dst).ps X q v a H k')) false := fun _ => rfl
    rw [e] at hr
    obtain ⟨cc, xc, ec, hr, sc, _⟩ := get_inv hr
    obtain ⟨h1, h2⟩ := bB_and.1 hr
    obtain ⟨_, _, h3, h4⟩ := ldN_inv h2
    obtain ⟨hne, _⟩ := z0_nand.1 h4
    obtain ⟨m, hm⟩ := Nat.exists_eq_succ_of_ne_zero hne
    have hlt : ldX H (pay cc) 1 < 2 ^ 128 := ldX_lt H (pay cc) 1 (by omega)
    refine pureS (fun k' => by rw [e, ec, h1, bB_t, h3, hm, z0_s]) (fun g w act hO hH => ?_) hne hlt
    rw [hops] at hO
    obtain ⟨b, hb, hc⟩ := relA_ptr (sc g act hO) (beq_t h1)
    obtain ⟨x3, f, x4⟩ := ld_sound hc.addr hH h2
    obtain ⟨y1, y2⟩ := x4 0 (by omega)
    rw [addr_add0] at y1
    rw [cell0_of_lt hlt] at y2
    exact ⟨f 0, by simp [execOp, ho, hb, Instr.loadAt, Instr.sureAddr, run_loadOne hE h0 hag y1], y2⟩
theorem store_ok {E : Nat → TI} (hE : ∀ t, TIok P t (E t)) {t : TypeId} {x y : Operand} (h0 : (E t).k ≠ 0) (ho : o.op = .store t x y)
    (hr : (cStore (E t).sz (cOv x) (cOv y) (cPt o.dst)).run cf r0 q v a H kk = true) : OpOK P (cStore (E t).sz (cOv x) (cOv y) (cPt o.dst)) cf dr r0 q v a H o := by
  have hops : o.op.operands.toList = [x, y] := by rw [ho]; rfl
  have e : ∀ k', (cStore (E t).sz (cOv x) (cOv y) (cPt o.dst)).run cf r0 q v a H k' = (cOv x).get v a fun c => bB (Nat.beq (tag c) 11) ((cOv y).get v a fun cy => cellsOf (E t).sz cy fun X => stN q H (pay c) (E t).sz X fun H => (cPt o.dst).pg 15 [] q v a H k') false := fun _ => rfl
  rw [e] at hr
  obtain ⟨cc, xc, ec, hr, sc, _⟩ := get_inv hr
  obtain ⟨h1, h2⟩ := bB_and.1 hr
  obtain ⟨cy, yc, ey, h2, sy, _⟩ := get_inv h2
  obtain ⟨X, eX, h2, _, _, sX⟩ := cells_inv h2
  obtain ⟨_, _, h3, h4⟩ := stN_inv h2
  obtain ⟨q', v', a', p1, p2⟩ := pg_put o.dst 15 [] q v a (stH q H (pay cc) (E t).sz X)
  refine ⟨15, [], q', v', a', _, fun k' => by rw [e, ec, h1, bB_t, ey, eX, h3, p1], p2, fun g w act hO hH _ Q => ?_⟩
  rw [hops] at hO
  obtain ⟨b, hb, hc⟩ := relA_ptr (sc g act hO.left) (beq_t h1)
  obtain ⟨c1, c2, c3⟩ := sX g yc _ (sy g act hO.right)
  obtain ⟨w', s3, s4⟩ := st_sound (P := P) hc.addr hH h2 c2 (act.eval y).cells.toList (by simpa using c1) (fun i v hv => c3 i v (by simpa using hv))
  obtain ⟨i, j1, j2, _⟩ := (hE t).info h0
  have hz : (sizeOf t).run P w = .ok (E t).sz w := by simp [sizeOf, typeInfo, j1, j2]
  refine wp_skip' (w' := w') ?_ ⟨undef, g, rfl, RelA.undef g, s4⟩
  simp [execOp, ho, hb, Instr.storeAt, Instr.sureAddr, storeVar, hz, c1, s3]
end
end Go.Proofs.YgvajwGreat.Ev
