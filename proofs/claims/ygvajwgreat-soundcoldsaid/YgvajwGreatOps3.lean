import Derived.Test.YgvajwGreatOps2
namespace Go.Proofs.YgvajwGreat.Ev
variable {P : Program}
theorem kOff_u {k : IntKind} (h : k.signed = false) : kOff k = 0 := by unfold kOff; rw [h]; rfl
theorem kOff_s {k : IntKind} (h : k.signed = true) : kOff k = 9223372036854775808 := by unfold kOff; rw [h]; rfl
theorem inK_u {k : IntKind} (h : k.signed = false) {n : Int} : inK k n ↔ 0 ≤ n ∧ n < 2 ^ k.bits := by
  rw [inK_iff]
  cases k <;> simp only [IntKind.signed, IntKind.bits, Bool.true_eq_false] at h ⊢ <;> omega
theorem wrap_u {k : IntKind} (h : k.signed = false) (n : Int) : k.wrap n = n % 2 ^ k.bits := by
  unfold IntKind.wrap; simp [h]
theorem wrap_in {k : IntKind} {n : Int} (h : inK k n) : k.wrap n = n := by
  rw [inK_iff] at h
  rw [wrap_eq]
  cases k <;> simp only at h ⊢ <;> (try split) <;> omega
theorem isI_u {c : Nat} {k : IntKind} {n : Int} (hs : k.signed = false) (h : isI c k n) : n = pay c ∧ pay c < 2 ^ k.bits := by
  have h1 := isI_pay h
  rw [kOff_u hs] at h1
  have h2 := (inK_u hs).1 h.1
  refine ⟨by omega, ?_⟩
  have h3 : ((pay c : Nat) : Int) < ((2 ^ k.bits : Nat) : Int) := by rw [h1]; simpa using h2.2
  exact Int.ofNat_lt.1 h3
theorem isI_mku {k : IntKind} (hs : k.signed = false) {p : Nat} (h : p < 2 ^ k.bits) : isI (enc (kTag k) p) k (p : Int) := by
  refine isI_mk ((inK_u hs).2 ⟨by omega, ?_⟩) (by rw [kOff_u hs]; omega)
  have : ((p : Nat) : Int) < ((2 ^ k.bits : Nat) : Int) := Int.ofNat_lt.2 h
  simpa using this
theorem bv_of {n p : Nat} (h : p < 2 ^ n) : (BitVec.ofInt n (p : Int)).toNat = p := by
  rw [BitVec.ofInt_natCast, BitVec.toNat_ofNat]
  exact Nat.mod_eq_of_lt h
theorem wrap_nat {k : IntKind} (hs : k.signed = false) {p : Nat} (h : p < 2 ^ k.bits) : k.wrap (p : Int) = p :=
  wrap_in ((inK_u hs).2 ⟨by omega, by have : ((p : Nat) : Int) < ((2 ^ k.bits : Nat) : Int) := Int.ofNat_lt.2 h; simpa using this⟩)
section
variable {o : Oper} {t yt : TypeId} {x y : Operand} {k : IntKind} {cf : CallF} {dr : Option Nat} {r0 q v : Nat} {a : List Bnd} {H : Hp} {kk : K}
theorem and_ok (hs : k.signed = false) (ho : o.op = .binOp .and t x y yt) (hr : (bin2 (kTag k) (hAnd (kTag k)) (cOv x) (cOv y) (cPt o.dst)).run cf r0 q v a H kk = true) :
    OpOK P (bin2 (kTag k) (hAnd (kTag k)) (cOv x) (cOv y) (cPt o.dst)) cf dr r0 q v a H o :=
  binI_ok ho (r := fun a b => .int k (k.wrap ((BitVec.ofInt k.bits a &&& BitVec.ofInt k.bits b).toNat))) (fun a b w => by simp [binOp, Op.intBits]) (fun g cx cy a b hx hy => by
    obtain ⟨ea, la⟩ := isI_u hs hx
    obtain ⟨eb, lb⟩ := isI_u hs hy
    subst ea eb
    have hl : pay cx &&& pay cy < 2 ^ k.bits := Nat.and_lt_two_pow _ lb
    rw [BitVec.toNat_and, bv_of la, bv_of lb, wrap_nat hs hl]
    exact isI_mku hs hl) (fun cx cy _ h1 h2 => enc_bd (kTag_pos k).1 (by have := kTag_pos k; omega) (Nat.and_lt_two_pow _ (pay_bd h2))) hr
theorem or_ok (hs : k.signed = false) (ho : o.op = .binOp .or t x y yt) (hr : (bin2 (kTag k) (hOr (kTag k)) (cOv x) (cOv y) (cPt o.dst)).run cf r0 q v a H kk = true) :
    OpOK P (bin2 (kTag k) (hOr (kTag k)) (cOv x) (cOv y) (cPt o.dst)) cf dr r0 q v a H o :=
  binI_ok ho (r := fun a b => .int k (k.wrap ((BitVec.ofInt k.bits a ||| BitVec.ofInt k.bits b).toNat))) (fun a b w => by simp [binOp, Op.intBits]) (fun g cx cy a b hx hy => by
    obtain ⟨ea, la⟩ := isI_u hs hx
    obtain ⟨eb, lb⟩ := isI_u hs hy
    subst ea eb
    have hl : pay cx ||| pay cy < 2 ^ k.bits := Nat.or_lt_two_pow la lb
    rw [BitVec.toNat_or, bv_of la, bv_of lb, wrap_nat hs hl]
    exact isI_mku hs hl) (fun cx cy _ h1 h2 => enc_bd (kTag_pos k).1 (by have := kTag_pos k; omega) (Nat.or_lt_two_pow (pay_bd h1) (pay_bd h2))) hr
theorem xor_ok (hs : k.signed = false) (ho : o.op = .binOp .xor t x y yt) (hr : (bin2 (kTag k) (hXor (kTag k)) (cOv x) (cOv y) (cPt o.dst)).run cf r0 q v a H kk = true) :
    OpOK P (bin2 (kTag k) (hXor (kTag k)) (cOv x) (cOv y) (cPt o.dst)) cf dr r0 q v a H o :=
  binI_ok ho (r := fun a b => .int k (k.wrap ((BitVec.ofInt k.bits a ^^^ BitVec.ofInt k.bits b).toNat))) (fun a b w => by simp [binOp, Op.intBits]) (fun g cx cy a b hx hy => by
    obtain ⟨ea, la⟩ := isI_u hs hx
    obtain ⟨eb, lb⟩ := isI_u hs hy
    subst ea eb
    have hl : pay cx ^^^ pay cy < 2 ^ k.bits := Nat.xor_lt_two_pow la lb
    rw [BitVec.toNat_xor, bv_of la, bv_of lb, wrap_nat hs hl]
    exact isI_mku hs hl) (fun cx cy _ h1 h2 => enc_bd (kTag_pos k).1 (by have := kTag_pos k; omega) (Nat.xor_lt_two_pow (pay_bd h1) (pay_bd h2))) hr

theorem run_rem {t : TypeId} (k : IntKind) (a b : Int) (h : b ≠ 0) (w : World) : (binOp .rem t (.int k a) (.int k b)).run P w = .ok (.int k (a.tmod b)) w := by simp [binOp, Op.intDiv, h]
theorem run_quo {t : TypeId} (k : IntKind) (a b : Int) (h : b ≠ 0) (w : World) : (binOp .quo t (.int k a) (.int k b)).run P w = .ok (.int k (k.wrap (a.tdiv b))) w := by simp [binOp, Op.intDiv, h]
/-- quotient and remainder -/
theorem div_ok (quo : Bool) (ho : o.op = .binOp (if quo then .quo else .rem) t x y yt) (hr : (divR (kTag k) quo (cOv x) (cOv y) (cPt o.dst)).run cf r0 q v a H kk = true) :
    OpOK P (divR (kTag k) quo (cOv x) (cOv y) (cPt o.dst)) cf dr r0 q v a H o := by
  have hk := kTag_pos k
  have e : ∀ k', (divR (kTag k) quo (cOv x) (cOv y) (cPt o.dst)).run cf r0 q v a H k' = (cOv x).get v a fun cx => (cOv y).get v a fun cy => z0 (okTags (kTag k) cx cy)
    (bB (Nat.ble (kTag k) 4)
      (z0 (pay cy) false ((cPt o.dst).ps (enc (kTag k) (bB quo (pay cx / pay cy) (pay cx % pay cy))) q v a H k'))
      (bB (Nat.ble b63 (pay cx)) (bB (Nat.ble b631 (pay cy))
        ((cPt o.dst).ps (enc (kTag k) (b63 + (bB quo ((pay cx - b63) / (pay cy - b63)) ((pay cx - b63) % (pay cy - b63))))) q v a H k') false) false)) false := fun _ => rfl
  rw [e] at hr
  obtain ⟨cx, xs, ex, hr, sx, bx⟩ := get_inv hr
  obtain ⟨cy, ys, ey, hr, sy, by'⟩ := get_inv hr
  obtain ⟨h0, hr⟩ := z0_and.1 hr
  obtain ⟨t1, t2⟩ := okTags_inv (by omega) h0
  have bx := pay_bd (bx (by omega) (by omega))
  have hb : ∀ (a b : Nat), a < 2 ^ 124 → bB quo (a / b) (a % b) < 2 ^ 124 := fun a b h => by
    cases quo
    · rw [bB_f]; exact Nat.lt_of_le_of_lt (Nat.mod_le _ _) h
    · rw [bB_t]; exact Nat.lt_of_le_of_lt (Nat.div_le_self _ _) h
  rcases bB_or.1 hr with ⟨hs, hr⟩ | ⟨hs, hr⟩
  · have hsg : k.signed = false := (kTag_signed k).1 (ble_t hs)
    obtain ⟨hy0, hr⟩ := z0_nand.1 hr
    obtain ⟨m, hm⟩ := Nat.exists_eq_succ_of_ne_zero hy0
    obtain ⟨d1, d2⟩ := enc_bd (t := kTag k) (by omega) (by omega) (hb _ (pay cy) bx)
    refine pureS (fun k' => by rw [e, ex, ey, h0, z0_0, hs, bB_t, hm, z0_s]) (fun g w act hO hH => ?_) d1 d2
    rw [ops_bin ho] at hO
    obtain ⟨m1, ex1, ix⟩ := relA_int (sx g act hO.left) t1
    obtain ⟨n1, ey1, iy⟩ := relA_int (sy g act hO.right) t2
    obtain ⟨ea, la⟩ := isI_u hsg ix
    obtain ⟨eb, lb⟩ := isI_u hsg iy
    subst ea eb
    have hne : ((pay cy : Nat) : Int) ≠ 0 := by omega
    cases quo
    · refine ⟨.int k ((pay cx : Int).tmod (pay cy)), exec_bin ho ex1 ey1 (run_rem k _ _ hne w), ?_⟩
      rw [bB_f, ← Int.ofNat_tmod]
      exact isI_mku hsg (Nat.lt_of_le_of_lt (Nat.mod_le _ _) la)
    · refine ⟨.int k (k.wrap ((pay cx : Int).tdiv (pay cy))), exec_bin ho ex1 ey1 (run_quo k _ _ hne w), ?_⟩
      rw [bB_t, ← Int.ofNat_tdiv, wrap_nat hsg (Nat.lt_of_le_of_lt (Nat.div_le_self _ _) la)]
      exact isI_mku hsg (Nat.lt_of_le_of_lt (Nat.div_le_self _ _) la)
  · have hsg : k.signed = true := by
      cases h : k.signed
      · have := (kTag_signed k).2 h; have := ble_f hs; omega
      · rfl
    obtain ⟨h1, hr⟩ := bB_and.1 hr
    obtain ⟨h2, hr⟩ := bB_and.1 hr
    have g1 := ble_t h1
    have g2 := ble_t h2
    rw [b631_eq] at g2
    have g3 := b63_eq
    obtain ⟨d1, d2⟩ := enc_bd (t := kTag k) (p := b63 + bB quo ((pay cx - b63) / (pay cy - b63)) ((pay cx - b63) % (pay cy - b63))) (by omega) (by omega) (by
      have : bB quo ((pay cx - b63) / (pay cy - b63)) ((pay cx - b63) % (pay cy - b63)) ≤ pay cx - b63 := by
        cases quo
        · rw [bB_f]; exact Nat.mod_le _ _
        · rw [bB_t]; exact Nat.div_le_self _ _
      omega)
    refine pureS (fun k' => by rw [e, ex, ey, h0, z0_0, hs, bB_f, h1, bB_t, h2, bB_t]) (fun g w act hO hH => ?_) d1 d2
    rw [ops_bin ho] at hO
    obtain ⟨m1, ex1, ix⟩ := relA_int (sx g act hO.left) t1
    obtain ⟨n1, ey1, iy⟩ := relA_int (sy g act hO.right) t2
    have p1 := isI_pay ix
    have p2 := isI_pay iy
    rw [kOff_s hsg] at p1 p2
    have g3 := b63_eq
    obtain ⟨a1, rfl⟩ : ∃ a1 : Nat, m1 = a1 := ⟨m1.toNat, by omega⟩
    obtain ⟨b1, rfl⟩ : ∃ b1 : Nat, n1 = b1 := ⟨n1.toNat, by omega⟩
    have e1 : pay cx - b63 = a1 := by omega
    have e2 : pay cy - b63 = b1 := by omega
    have hne : ((b1 : Nat) : Int) ≠ 0 := by omega
    have hin : ∀ c : Nat, c ≤ a1 → inK k (c : Int) := fun c hc => by
      have := ix.1; rw [inK_iff] at this ⊢
      cases k <;> simp only [IntKind.signed, Bool.false_eq_true] at hsg this ⊢ <;> omega
    rw [e1, e2]
    cases quo
    · refine ⟨.int k ((a1 : Int).tmod b1), exec_bin ho ex1 ey1 (run_rem k _ _ hne w), ?_⟩
      rw [bB_f, ← Int.ofNat_tmod]
      exact isI_mk (hin _ (Nat.mod_le _ _)) (by rw [kOff_s hsg]; omega)
    · refine ⟨.int k (k.wrap ((a1 : Int).tdiv b1)), exec_bin ho ex1 ey1 (run_quo k _ _ hne w), ?_⟩
      rw [bB_t, ← Int.ofNat_tdiv, wrap_in (hin _ (Nat.div_le_self _ _))]
      exact isI_mk (hin _ (Nat.div_le_self _ _)) (by rw [kOff_s hsg]; omega)
end
end Go.Proofs.YgvajwGreat.Ev
