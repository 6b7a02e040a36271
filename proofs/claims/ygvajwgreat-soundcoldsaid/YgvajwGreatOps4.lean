import Derived.Test.YgvajwGreatOps3
namespace Go.Proofs.YgvajwGreat.Ev
variable {P : Program}
/-- a count -/
theorem cnt_inv {c : Nat} {k : Nat → Bool} (h : cntOf c k = true) :
    ∃ n, (∀ k', cntOf c k' = k' n) ∧ k n = true ∧ tag c ≠ 0 ∧ tag c ≤ 8 ∧ n ≤ pay c ∧ ∀ g xs x, RelA g c xs x → ∃ kk, x = .int kk (n : Int) ∧ isI c kk n := by
  have e : ∀ k', cntOf c k' = z0 (tag c) false (bB (Nat.ble (tag c) 4) (k' (pay c)) (bB (Nat.ble (tag c) 8) (bB (Nat.ble b63 (pay c)) (k' (pay c - b63)) false) false)) := fun k' => by
    unfold cntOf; simp only [fN_eq, nsub]
  rw [e] at h
  obtain ⟨h0, h⟩ := z0_nand.1 h
  obtain ⟨m, hm⟩ := Nat.exists_eq_succ_of_ne_zero h0
  rcases bB_or.1 h with ⟨h1, h⟩ | ⟨h1, h⟩
  · have g1 := ble_t h1
    refine ⟨pay c, fun k' => by rw [e, h1, bB_t, hm, z0_s], h, h0, by omega, Nat.le_refl _, fun g xs x hx => ?_⟩
    obtain ⟨kk, hk⟩ := kTag_of (t := tag c) (by omega) (by omega)
    obtain ⟨n, e1, e2⟩ := relA_int hx hk.symm
    have hs : kk.signed = false := (kTag_signed kk).1 (by omega)
    obtain ⟨e3, _⟩ := isI_u hs e2
    subst e3
    exact ⟨kk, e1, e2⟩
  · obtain ⟨h2, h⟩ := bB_and.1 h
    obtain ⟨h3, h⟩ := bB_and.1 h
    have g1 := ble_f h1
    have g2 := ble_t h2
    have g3 := ble_t h3
    refine ⟨pay c - b63, fun k' => by rw [e, h1, bB_f, h2, bB_t, h3, bB_t, hm, z0_s], h, h0, by omega, Nat.sub_le _ _, fun g xs x hx => ?_⟩
    obtain ⟨kk, hk⟩ := kTag_of (t := tag c) (by omega) (by omega)
    obtain ⟨n, e1, e2⟩ := relA_int hx hk.symm
    have hs : kk.signed = true := by
      cases hh : kk.signed
      · have := (kTag_signed kk).2 hh; omega
      · rfl
    have e3 := isI_pay e2
    rw [kOff_s hs] at e3
    have g4 := b63_eq
    have e4 : n = ((pay c - b63 : Nat) : Int) := by omega
    subst e4
    exact ⟨kk, e1, e2⟩
theorem tBits_k (k : IntKind) : tBits (kTag k) = k.bits := by cases k <;> rfl
section
variable {o : Oper} {t yt : TypeId} {x y : Operand} {k : IntKind} {cf : CallF} {dr : Option Nat} {r0 q v : Nat} {a : List Bnd} {H : Hp} {kk : K}
theorem run_shl {t : TypeId} (k yk : IntKind) (a : Int) (n : Nat) (w : World) : (binOp .shl t (.int k a) (.int yk (n : Int))).run P w = .ok (.int k (k.wrap (a * 2 ^ (min n k.bits)))) w := by
  have : ¬ ((n : Int) < 0) := by omega
  simp [binOp, Op.shift, this]
theorem run_shr {t : TypeId} (k yk : IntKind) (a : Int) (n : Nat) (w : World) : (binOp .shr t (.int k a) (.int yk (n : Int))).run P w = .ok (.int k (a.fdiv (2 ^ (min n k.bits)))) w := by
  have : ¬ ((n : Int) < 0) := by omega
  simp [binOp, Op.shift, this]
theorem shl_num {p n b : Nat} : ((p : Int) * 2 ^ (min n b)) % 2 ^ b = ((p <<< n % 2 ^ b : Nat) : Int) := by
  rw [Nat.shiftLeft_eq]
  by_cases h : n ≤ b
  · rw [Nat.min_eq_left h]; norm_cast
  · rw [Nat.min_eq_right (by omega)]
    have h1 : p * 2 ^ n % 2 ^ b = 0 := by
      obtain ⟨m, rfl⟩ : ∃ m, n = b + m := ⟨n - b, by omega⟩
      rw [Nat.pow_add, ← Nat.mul_assoc, Nat.mul_comm (p * 2 ^ b), ← Nat.mul_assoc]
      exact Nat.mul_mod_left _ _
    rw [h1]
    have h2 : ((p : Int) * 2 ^ b) % 2 ^ b = 0 := Int.mul_emod_left _ _
    rw [h2]; rfl
theorem shr_num {p n b : Nat} (h : p < 2 ^ b) : (p : Int).fdiv (2 ^ (min n b)) = ((p >>> n : Nat) : Int) := by
  rw [Nat.shiftRight_eq_div_pow]
  have e : (p : Int).fdiv (2 ^ (min n b)) = ((p / 2 ^ (min n b) : Nat) : Int) := by
    have : ((2 : Int) ^ (min n b)) = ((2 ^ (min n b) : Nat) : Int) := by norm_cast
    rw [this]
    exact (Int.ofNat_fdiv p _).symm
  rw [e]
  congr 1
  by_cases hn : n ≤ b
  · rw [Nat.min_eq_left hn]
  · rw [Nat.min_eq_right (by omega), Nat.div_eq_of_lt h, Nat.div_eq_of_lt (Nat.lt_of_lt_of_le h (Nat.pow_le_pow_right (by omega) (by omega)))]
theorem shft_ok (left : Bool) (ho : o.op = .binOp (if left then .shl else .shr) t x y yt) (hr : (shft (kTag k) left (cOv x) (cOv y) (cPt o.dst)).run cf r0 q v a H kk = true) :
    OpOK P (shft (kTag k) left (cOv x) (cOv y) (cPt o.dst)) cf dr r0 q v a H o := by
  have hk := kTag_pos k
  have e : ∀ k', (shft (kTag k) left (cOv x) (cOv y) (cPt o.dst)).run cf r0 q v a H k' = (cOv x).get v a fun cx => (cOv y).get v a fun cy => bB (Nat.beq (tag cx) (kTag k)) (bB (Nat.ble (kTag k) 4)
    (cntOf cy fun n => bB (Nat.ble n 64)
      ((cPt o.dst).ps (enc (kTag k) (bB left (pay cx <<< n % 2 ^ tBits (kTag k)) (pay cx >>> n))) q v a H k') false) false) false := fun _ => rfl
  rw [e] at hr
  obtain ⟨cx, xs, ex, hr, sx, bx⟩ := get_inv hr
  obtain ⟨cy, ys, ey, hr, sy, by'⟩ := get_inv hr
  obtain ⟨h1, hr⟩ := bB_and.1 hr
  obtain ⟨h2, hr⟩ := bB_and.1 hr
  obtain ⟨n, en, hr, _, _, _, sn⟩ := cnt_inv hr
  obtain ⟨h3, hr⟩ := bB_and.1 hr
  have t1 := beq_t h1
  have hs : k.signed = false := (kTag_signed k).1 (ble_t h2)
  have bx := pay_bd (bx (by omega) (by omega))
  have hb : bB left (pay cx <<< n % 2 ^ tBits (kTag k)) (pay cx >>> n) < 2 ^ 124 := by
    cases left
    · rw [bB_f, Nat.shiftRight_eq_div_pow]; exact Nat.lt_of_le_of_lt (Nat.div_le_self _ _) bx
    · rw [bB_t, tBits_k]
      refine Nat.lt_of_lt_of_le (Nat.mod_lt _ (Nat.two_pow_pos _)) (Nat.pow_le_pow_right (by omega) ?_)
      cases k <;> decide
  obtain ⟨d1, d2⟩ := enc_bd (t := kTag k) (by omega) (by omega) hb
  refine pureS (fun k' => by rw [e, ex, ey, h1, bB_t, h2, bB_t, en, h3, bB_t]) (fun g w act hO hH => ?_) d1 d2
  rw [ops_bin ho] at hO
  obtain ⟨m1, ex1, ix⟩ := relA_int (sx g act hO.left) t1
  obtain ⟨yk, ey1, iy⟩ := sn g ys _ (sy g act hO.right)
  obtain ⟨ea, la⟩ := isI_u hs ix
  subst ea
  cases left
  · refine ⟨_, exec_bin ho ex1 ey1 (run_shr k yk _ n w), ?_⟩
    rw [bB_f, shr_num la]
    exact isI_mku hs (by rw [Nat.shiftRight_eq_div_pow]; exact Nat.lt_of_le_of_lt (Nat.div_le_self _ _) la)
  · refine ⟨_, exec_bin ho ex1 ey1 (run_shl k yk _ n w), ?_⟩
    rw [bB_t, wrap_u hs, shl_num, tBits_k]
    exact isI_mku hs (Nat.mod_lt _ (Nat.two_pow_pos _))
end
end Go.Proofs.YgvajwGreat.Ev
