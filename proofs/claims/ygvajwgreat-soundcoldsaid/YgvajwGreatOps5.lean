import Derived.Test.YgvajwGreatOps4
namespace Go.Proofs.YgvajwGreat.Ev
variable {P : Program}
/-- what '==' of two codes owes: b -/
def EqSem (P : Program) (t : TypeId) (cx cy : Nat) (b : Bool) : Prop :=
  ∀ g xs ys X Y w (x y : Operand), RelA g cx xs X → RelA g cy ys Y → (binOp .eql t X Y).run P w = .ok (.bool b) w ∧ (binOp .neq t X Y).run P w = .ok (.bool (!b)) w ∧
    ∀ op, (eqGuard op t x y X Y).run P w = .ok () w
theorem eqCl_ok {o : Oper} {t yt : TypeId} {x y : Operand} {neg : Bool} {h : Nat → Nat → (Bool → Bool) → Bool}
    (hh : ∀ cx cy k, h cx cy k = true → ∃ b, (∀ k', h cx cy k' = k' b) ∧ EqSem P t cx cy b)
    (ho : o.op = .binOp (if neg then .neq else .eql) t x y yt)
    {cf : CallF} {dr : Option Nat} {r0 q v : Nat} {a : List Bnd} {H : Hp} {kk : K} (hr : (eqCl neg h (cOv x) (cOv y) (cPt o.dst)).run cf r0 q v a H kk = true) :
    OpOK P (eqCl neg h (cOv x) (cOv y) (cPt o.dst)) cf dr r0 q v a H o := by
  have e : ∀ k', (eqCl neg h (cOv x) (cOv y) (cPt o.dst)).run cf r0 q v a H k' = (cOv x).get v a fun cx => (cOv y).get v a fun cy => h cx cy fun b => (cPt o.dst).ps (cB (bB neg (not b) b)) q v a H k' := fun _ => rfl
  rw [e] at hr
  obtain ⟨cx, xs, ex, hr, sx, _⟩ := get_inv hr
  obtain ⟨cy, ys, ey, hr, sy, _⟩ := get_inv hr
  obtain ⟨b, eb, hb⟩ := hh _ _ _ hr
  obtain ⟨d1, d2⟩ := cB_bd (bB neg (not b) b)
  refine pureS (fun k' => by rw [e, ex, ey, eb]) (fun g w act hO hH => ?_) d1 d2
  rw [ops_bin ho] at hO
  obtain ⟨h1, h2, h3⟩ := hb g xs ys _ _ w x y (sx g act hO.left) (sy g act hO.right)
  cases neg
  · exact ⟨.bool b, by simp [execOp, ho, h3, h1], rfl⟩
  · exact ⟨.bool (!b), by simp [execOp, ho, h3, h2], rfl⟩

theorem relA_nilp {g : Gh} {c : Nat} {xs : List Nat} {x : Value} (h : RelA g c xs x) (hc : c = 10) : x = .pointer none := by
  subst hc; exact (relA_sc h (by decide) (by decide)).nilp rfl
theorem relA_ptr {g : Gh} {c : Nat} {xs : List Nat} {x : Value} (h : RelA g c xs x) (ht : tag c = 11) : ∃ a, x = .pointer (some a) ∧ RelC g c (.pointer (some a)) := by
  have h1 := relA_sc h (by omega) (by omega)
  obtain ⟨a, rfl⟩ := h1.ptr ht
  exact ⟨a, rfl, h1⟩
theorem relA_nils {g : Gh} {c : Nat} {xs : List Nat} {x : Value} (h : RelA g c xs x) (hc : c = 12) : x = .slice none 0 0 := by
  subst hc; exact (relA_sc h (by decide) (by decide)).nils rfl
theorem relA_sl {g : Gh} {c : Nat} {xs : List Nat} {x : Value} (h : RelA g c xs x) (ht : tag c = 13) : ∃ a n m, x = .slice (some a) n m ∧ RelC g c (.slice (some a) n m) := by
  have h1 := relA_sc h (by omega) (by omega)
  obtain ⟨a, n, m, rfl⟩ := h1.sl ht
  exact ⟨a, n, m, rfl, h1⟩
theorem relA_bool {g : Gh} {c : Nat} {xs : List Nat} {x : Value} (h : RelA g c xs x) (ht : tag c = 9) : ∃ b, x = .bool b ∧ c = cB b :=
  (relA_sc h (by omega) (by omega)).boolOf ht

/-! pointers -/
theorem bin_eql_ptr {t : TypeId} {a b : Option Addr} {w : World} {r : Bool} (h : (Op.equal t (.pointer a) (.pointer b)).run P w = .ok r w) : (binOp .eql t (.pointer a) (.pointer b)).run P w = .ok (.bool r) w := by
  show (do pure (Value.bool (← Op.equal t (.pointer a) (.pointer b))) : Sem Value).run P w = _
  rw [Sem.run_bind, h]; rfl
theorem bin_neq_ptr {t : TypeId} {a b : Option Addr} {w : World} {r : Bool} (h : (Op.equal t (.pointer a) (.pointer b)).run P w = .ok r w) : (binOp .neq t (.pointer a) (.pointer b)).run P w = .ok (.bool (!r)) w := by
  show (do pure (Value.bool (!(← Op.equal t (.pointer a) (.pointer b)))) : Sem Value).run P w = _
  rw [Sem.run_bind, h]; rfl
theorem eqIn_ptr (d : Nat) {t el : TypeId} {a b : Addr} {w : World} {i : TypeInfo} {r : Bool} (hT : P.underlying t = some (.pointer el)) (hi : P.info? el = some i) (hne : i.size ≠ 0) (hs : (sameAddr a b).run P w = .ok r w) :
    (Op.equalIn (d + 1) t (.pointer (some a)) (.pointer (some b))).run P w = .ok r w := by
  have hz : (sizeOf el).run P w = .ok i.size w := by simp [sizeOf, typeInfo, hi]
  simp only [Op.equalIn, Sem.run_bind, run_underlying hT, Result.andThen_ok, hz, ne_eq, hne, not_false_eq_true, if_true, hs]
theorem equal_ptr {t el : TypeId} {a b : Addr} {w : World} {i : TypeInfo} {r : Bool} (hT : P.underlying t = some (.pointer el)) (hi : P.info? el = some i) (hne : i.size ≠ 0) (hs : (sameAddr a b).run P w = .ok r w) :
    (Op.equal t (.pointer (some a)) (.pointer (some b))).run P w = .ok r w := eqIn_ptr 9999 hT hi hne hs
theorem eqIn_nilp (d : Nat) {t el : TypeId} {b : Option Addr} {w : World} (hT : P.underlying t = some (.pointer el)) : (Op.equalIn (d + 1) t (.pointer none) (.pointer b)).run P w = .ok b.isNone w := by
  simp [Op.equalIn, run_underlying hT]
theorem equal_nilp {t el : TypeId} {b : Option Addr} {w : World} (hT : P.underlying t = some (.pointer el)) : (Op.equal t (.pointer none) (.pointer b)).run P w = .ok b.isNone w := eqIn_nilp 9999 hT
theorem eqIn_pnil (d : Nat) {t el : TypeId} {b : Addr} {w : World} (hT : P.underlying t = some (.pointer el)) : (Op.equalIn (d + 1) t (.pointer (some b)) (.pointer none)).run P w = .ok false w := by
  simp [Op.equalIn, run_underlying hT]
theorem equal_pnil {t el : TypeId} {b : Addr} {w : World} (hT : P.underlying t = some (.pointer el)) : (Op.equal t (.pointer (some b)) (.pointer none)).run P w = .ok false w := eqIn_pnil 9999 hT
theorem bin_eql_sl {t : TypeId} {a b : Option Addr} {n m n' m' : Nat} {w : World} {r : Bool} (h : (Op.equal t (.slice a n m) (.slice b n' m')).run P w = .ok r w) : (binOp .eql t (.slice a n m) (.slice b n' m')).run P w = .ok (.bool r) w := by
  show (do pure (Value.bool (← Op.equal t (.slice a n m) (.slice b n' m'))) : Sem Value).run P w = _
  rw [Sem.run_bind, h]; rfl
theorem bin_neq_sl {t : TypeId} {a b : Option Addr} {n m n' m' : Nat} {w : World} {r : Bool} (h : (Op.equal t (.slice a n m) (.slice b n' m')).run P w = .ok r w) : (binOp .neq t (.slice a n m) (.slice b n' m')).run P w = .ok (.bool (!r)) w := by
  show (do pure (Value.bool (!(← Op.equal t (.slice a n m) (.slice b n' m')))) : Sem Value).run P w = _
  rw [Sem.run_bind, h]; rfl
theorem eqIn_nils (d : Nat) {t el : TypeId} {b : Option Addr} {n m n' m' : Nat} {w : World} (hT : P.underlying t = some (.slice el)) : (Op.equalIn (d + 1) t (.slice none n m) (.slice b n' m')).run P w = .ok b.isNone w := by
  simp [Op.equalIn, run_underlying hT]
theorem equal_nils {t el : TypeId} {b : Option Addr} {n m n' m' : Nat} {w : World} (hT : P.underlying t = some (.slice el)) : (Op.equal t (.slice none n m) (.slice b n' m')).run P w = .ok b.isNone w := eqIn_nils 9999 hT
theorem eqIn_snil (d : Nat) {t el : TypeId} {b : Addr} {n m n' m' : Nat} {w : World} (hT : P.underlying t = some (.slice el)) : (Op.equalIn (d + 1) t (.slice (some b) n m) (.slice none n' m')).run P w = .ok false w := by
  simp [Op.equalIn, run_underlying hT]
theorem equal_snil {t el : TypeId} {b : Addr} {n m n' m' : Nat} {w : World} (hT : P.underlying t = some (.slice el)) : (Op.equal t (.slice (some b) n m) (.slice none n' m')).run P w = .ok false w := eqIn_snil 9999 hT
theorem eqP_inv {t el : TypeId} {TE : TI} (hT : P.underlying t = some (.pointer el)) (hTE : TIok P el TE) (cx cy : Nat) (k : Bool → Bool)
    (h : eqP (bB (Nat.ble 1 TE.k) (Nat.ble 1 TE.sz) false) cx cy k = true) : ∃ b, (∀ k', eqP (bB (Nat.ble 1 TE.k) (Nat.ble 1 TE.sz) false) cx cy k' = k' b) ∧ EqSem P t cx cy b := by
  unfold eqP at h ⊢
  rcases bB_or.1 h with ⟨h1, hA⟩ | ⟨h1, hA⟩
  · rcases bB_or.1 hA with ⟨h2, hB⟩ | ⟨h2, hB⟩
    · refine ⟨true, fun k' => by rw [h1, bB_t, h2, bB_t], fun g xs ys X Y w x y hx hy => ?_⟩
      rw [relA_nilp hx (beq_t h1), relA_nilp hy (beq_t h2)]
      refine ⟨?_, ?_, fun op => ?_⟩
      · exact bin_eql_ptr (equal_nilp hT)
      · exact bin_neq_ptr (equal_nilp hT)
      · cases op <;> simp [eqGuard]
    · obtain ⟨h3, hC⟩ := bB_and.1 hB
      refine ⟨false, fun k' => by rw [h1, bB_t, h2, bB_f, h3, bB_t], fun g xs ys X Y w x y hx hy => ?_⟩
      obtain ⟨b, rfl, _⟩ := relA_ptr hy (beq_t h3)
      rw [relA_nilp hx (beq_t h1)]
      refine ⟨?_, ?_, fun op => ?_⟩
      · exact bin_eql_ptr (equal_nilp hT)
      · exact bin_neq_ptr (equal_nilp hT)
      · cases op <;> simp [eqGuard]
  · rcases bB_or.1 hA with ⟨h2, hB⟩ | ⟨h2, hB⟩
    · obtain ⟨h3, hC⟩ := bB_and.1 hB
      refine ⟨false, fun k' => by rw [h1, bB_f, h2, bB_t, h3, bB_t], fun g xs ys X Y w x y hx hy => ?_⟩
      obtain ⟨b, rfl, _⟩ := relA_ptr hx (beq_t h3)
      rw [relA_nilp hy (beq_t h2)]
      refine ⟨?_, ?_, fun op => ?_⟩
      · exact bin_eql_ptr (equal_pnil hT)
      · exact bin_neq_ptr (equal_pnil hT)
      · cases op <;> simp [eqGuard]
    · obtain ⟨h3, hC⟩ := bB_and.1 hB
      obtain ⟨h4, hD⟩ := bB_and.1 hC
      obtain ⟨h5, hE⟩ := bB_and.1 hD
      obtain ⟨h6, hF⟩ := bB_and.1 hE
      refine ⟨Nat.beq (aOff (pay cx)) (aOff (pay cy)), fun k' => by rw [h1, bB_f, h2, bB_f, h3, bB_t, h4, bB_t, h5, bB_t, h6, bB_t], fun g xs ys X Y w x y hx hy => ?_⟩
      obtain ⟨b1, rfl, c1⟩ := relA_ptr hx (beq_t h3)
      obtain ⟨b2, rfl, c2⟩ := relA_ptr hy (beq_t h4)
      obtain ⟨k1, k2⟩ := bB_and.1 h5
      obtain ⟨i, hi, hsz, _⟩ := hTE.info (by have := ble_t k1; omega)
      have hne : i.size ≠ 0 := by have := ble_t k2; omega
      obtain ⟨s1, u1, l1, z1, a1, a2, a3, a4⟩ := c1.addr
      obtain ⟨s2, u2, l2, z2, d1, d2, d3, d4⟩ := c2.addr
      have h7 := beq_t h6
      rw [a3, d3, aUid_pAddr a1, aUid_pAddr d1] at h7
      rw [← h7, a4] at d4
      have hbl : b1.block = b2.block := congrArg Prod.fst (Option.some.inj d4)
      have hb : (b1 == b2) = Nat.beq (aOff (pay cx)) (aOff (pay cy)) := by
        rw [a3, d3, aOff_pAddr a1 (by omega), aOff_pAddr d1 (by omega), beq_dec]
        obtain ⟨x1, x2, x3⟩ := b1
        obtain ⟨y1, y2, y3⟩ := b2
        simp only at s1 s2 hbl
        subst s1 s2 hbl
        show decide _ = decide _
        exact decide_eq_decide.2 (by simp)
      have hsame : (sameAddr b1 b2).run P w = .ok (b1 == b2) w := by simp [sameAddr, hbl]
      refine ⟨?_, ?_, fun op => ?_⟩
      · rw [bin_eql_ptr (equal_ptr hT hi hne hsame), hb]
      · rw [bin_neq_ptr (equal_ptr hT hi hne hsame), hb]
      · cases op <;> simp [eqGuard]
/-! slices against nil -/
theorem eqSl_inv {t el : TypeId} (hT : P.underlying t = some (.slice el)) (cx cy : Nat) (k : Bool → Bool)
    (h : eqSl cx cy k = true) : ∃ b, (∀ k', eqSl cx cy k' = k' b) ∧ EqSem P t cx cy b := by
  unfold eqSl at h ⊢
  rcases bB_or.1 h with ⟨h1, hA⟩ | ⟨h1, hA⟩
  · rcases bB_or.1 hA with ⟨h2, hB⟩ | ⟨h2, hB⟩
    · refine ⟨true, fun k' => by rw [h1, bB_t, h2, bB_t], fun g xs ys X Y w x y hx hy => ?_⟩
      rw [relA_nils hx (beq_t h1), relA_nils hy (beq_t h2)]
      refine ⟨?_, ?_, fun op => ?_⟩
      · exact bin_eql_sl (equal_nils hT)
      · exact bin_neq_sl (equal_nils hT)
      · cases op <;> simp [eqGuard]
    · obtain ⟨h3, hC⟩ := bB_and.1 hB
      refine ⟨false, fun k' => by rw [h1, bB_t, h2, bB_f, h3, bB_t], fun g xs ys X Y w x y hx hy => ?_⟩
      obtain ⟨b, n, m, rfl, _⟩ := relA_sl hy (beq_t h3)
      rw [relA_nils hx (beq_t h1)]
      refine ⟨?_, ?_, fun op => ?_⟩
      · exact bin_eql_sl (equal_nils hT)
      · exact bin_neq_sl (equal_nils hT)
      · cases op <;> simp [eqGuard]
  · obtain ⟨h2, hB⟩ := bB_and.1 hA
    obtain ⟨h3, hC⟩ := bB_and.1 hB
    refine ⟨false, fun k' => by rw [h1, bB_f, h2, bB_t, h3, bB_t], fun g xs ys X Y w x y hx hy => ?_⟩
    obtain ⟨b, n, m, rfl, _⟩ := relA_sl hx (beq_t h3)
    rw [relA_nils hy (beq_t h2)]
    refine ⟨?_, ?_, fun op => ?_⟩
    · exact bin_eql_sl (equal_snil hT)
    · exact bin_neq_sl (equal_snil hT)
    · cases op <;> simp [eqGuard]
/-! bools -/
theorem binB_ok {o : Oper} {neg : Bool} {t yt : TypeId} {x y : Operand} (hT : P.underlying t = some .bool) (ho : o.op = .binOp (if neg then .neq else .eql) t x y yt)
    {cf : CallF} {dr : Option Nat} {r0 q v : Nat} {a : List Bnd} {H : Hp} {kk : K} (hr : (bin2 9 (if neg then hNeq else hEql) (cOv x) (cOv y) (cPt o.dst)).run cf r0 q v a H kk = true) :
    OpOK P (bin2 9 (if neg then hNeq else hEql) (cOv x) (cOv y) (cPt o.dst)) cf dr r0 q v a H o := by
  obtain ⟨cx, cy, xs, ys, t1, t2, e, b1, b2, sx, sy⟩ := bin2_inv (by omega) (by omega) hr
  have hb : (if neg = true then hNeq else hEql) cx cy ≠ 0 ∧ (if neg = true then hNeq else hEql) cx cy < 2 ^ 128 := by cases neg <;> exact cB_bd _
  refine pureS e (fun g w act hO hH => ?_) hb.1 hb.2
  rw [ops_bin ho] at hO
  obtain ⟨m, ex, ix⟩ := relA_bool (sx g act hO.left) t1
  obtain ⟨n, ey, iy⟩ := relA_bool (sy g act hO.right) t2
  have hg : ∀ op, (eqGuard op t x y (.bool m) (.bool n)).run P w = .ok () w := fun op => by cases op <;> simp [eqGuard]
  have hq : Nat.beq cx cy = (m == n) := by rw [ix, iy]; cases m <;> cases n <;> rfl
  cases neg
  · refine ⟨.bool (m == n), by simp [execOp, ho, ex, ey, hg, binOp, run_equal_bool w t m n hT], ?_⟩
    show cB (Nat.beq cx cy) = _
    rw [hq]
  · refine ⟨.bool (!(m == n)), by simp [execOp, ho, ex, ey, hg, binOp, run_equal_bool w t m n hT], ?_⟩
    show cB (not (Nat.beq cx cy)) = _
    rw [hq]
end Go.Proofs.YgvajwGreat.Ev
