import Derived.Test.YgvajwGreatAp2
namespace Go.Proofs.YgvajwGreat.Ev
variable {P : Program}
section
variable {o : Oper} {cf : CallF} {dr : Option Nat} {r0 q v : Nat} {a : List Bnd} {H : Hp} {kk : K}
def sumC (a b c : Nat) : Nat := (a + b + c) % 18446744073709551616
def carC (a b c : Nat) : Nat := (a + b + c) / 18446744073709551616
def difC (a b c : Nat) : Nat := (a + 18446744073709551616 - b - c) % 18446744073709551616
def borC (a b c : Nat) : Nat := if a < b + c then 1 else 0
theorem sumC_eq (a b c : Nat) : Nat.mod (Nat.add (Nat.add a b) c) b64 = sumC a b c := by show (a + b + c) % b64 = sumC a b c; unfold sumC b64; rfl
theorem carC_eq (a b c : Nat) : Nat.div (Nat.add (Nat.add a b) c) b64 = carC a b c := by show (a + b + c) / b64 = carC a b c; unfold carC b64; rfl
theorem difC_eq (a b c : Nat) : Nat.mod (Nat.sub (Nat.sub (Nat.add a b64) b) c) b64 = difC a b c := by show (a + b64 - b - c) % b64 = difC a b c; unfold difC b64; rfl
theorem borC_eq (a b c : Nat) : (bB (Nat.ble (Nat.add b c) a) 0 1 : Nat) = borC a b c := by
  unfold borC
  show bB (Nat.ble (b + c) a) 0 1 = _
  cases hb : Nat.ble (b + c) a with
  | true => have := ble_t hb; rw [if_neg (by omega), bB_t]
  | false => have := ble_f hb; rw [if_pos (by omega), bB_f]
theorem sumC_lt (a b c : Nat) : sumC a b c < 2 ^ 64 := Nat.mod_lt _ (by decide)
theorem difC_lt (a b c : Nat) : difC a b c < 2 ^ 64 := Nat.mod_lt _ (by decide)
theorem borC_lt (a b c : Nat) : borC a b c < 2 ^ 64 := by unfold borC; split <;> decide
theorem carC_lt {a b c : Nat} (ha : a < 2 ^ 64) (hb : b < 2 ^ 64) (hc : c ≤ 1) : carC a b c < 2 ^ 64 := by
  unfold carC
  rw [Nat.div_lt_iff_lt_mul (by decide)]
  omega
/-- the two functions without a body that the evaluator knows -/
structure ExtOK (P : Program) (E : Env) : Prop where
  add : ∀ (x y c : Nat), c ≤ 1 → ∀ w, (callFunc E.add64 #[.int .u64 x, .int .u64 y, .int .u64 c]).run P w = .ok (.value (.tuple #[.int .u64 (sumC x y c : Nat), .int .u64 (carC x y c : Nat)])) w
  sub : ∀ (x y b : Nat), b ≤ 1 → ∀ w, (callFunc E.sub64 #[.int .u64 x, .int .u64 y, .int .u64 b]).run P w = .ok (.value (.tuple #[.int .u64 (difC x y b : Nat), .int .u64 (borC x y b : Nat)])) w
def asR (sub : Bool) (a b c : Nat) : List Nat := bB sub [enc 4 (difC a b c), enc 4 (borC a b c)] [enc 4 (sumC a b c), enc 4 (carC a b c)]
theorem asRun (sub : Bool) (x y c : Operand) (k' : K) : (cAddSub sub (cOv x) (cOv y) (cOv c) (cPt o.dst)).run cf r0 q v a H k' =
    (cOv x).get v a fun cx => (cOv y).get v a fun cy => (cOv c).get v a fun cc => z0 (okTags 4 cx cy) (bB (Nat.beq (tag cc) 4) (bB (Nat.ble (pay cc) 1) ((cPt o.dst).pg 15 (asR sub (pay cx) (pay cy) (pay cc)) q v a H k') false) false) false := by
  have e0 : (cAddSub sub (cOv x) (cOv y) (cOv c) (cPt o.dst)).run cf r0 q v a H k' = (cOv x).get v a fun cx => (cOv y).get v a fun cy => (cOv c).get v a fun cc => z0 (okTags 4 cx cy) (bB (Nat.beq (tag cc) 4) (bB (Nat.ble (pay cc) 1)
      (bB sub
        (fN (enc 4 (Nat.mod (Nat.sub (Nat.sub (Nat.add (pay cx) b64) (pay cy)) (pay cc)) b64)) fun r =>
         fN (enc 4 (bB (Nat.ble (Nat.add (pay cy) (pay cc)) (pay cx)) 0 1)) fun b => (cPt o.dst).pg 15 [r, b] q v a H k')
        (fN (enc 4 (Nat.mod (Nat.add (Nat.add (pay cx) (pay cy)) (pay cc)) b64)) fun r =>
         fN (enc 4 (Nat.div (Nat.add (Nat.add (pay cx) (pay cy)) (pay cc)) b64)) fun b => (cPt o.dst).pg 15 [r, b] q v a H k')) false) false) false := rfl
  rw [e0]
  cases sub
  · simp only [fN_eq, sumC_eq, carC_eq, asR, bB_f]
  · simp only [fN_eq, difC_eq, borC_eq, asR, bB_t]
theorem addsub_ok {E : Env} (hX : ExtOK P E) {sub : Bool} {f : FuncId} {xs : Array Operand} {ts : Array TypeId} {x y c : Operand} (hx : xs.toList = [x, y, c]) (hf : f = if sub then E.sub64 else E.add64)
    (ho : o.op = .call ⟨.value (.func f), xs, ts⟩)
    (hr : (cAddSub sub (cOv x) (cOv y) (cOv c) (cPt o.dst)).run cf r0 q v a H kk = true) : OpOK P (cAddSub sub (cOv x) (cOv y) (cOv c) (cPt o.dst)) cf dr r0 q v a H o := by
  have hops : o.op.operands.toList = [.func f, x, y, c] := by rw [ho]; simp [Op.operands, Call.operands, hx]
  rw [asRun] at hr
  obtain ⟨cx, xx, ex, hr, sx, _⟩ := get_inv hr
  obtain ⟨cy, xy, ey, hr, sy, _⟩ := get_inv hr
  obtain ⟨cc, xc, ec, hr, sc, _⟩ := get_inv hr
  obtain ⟨h0, hr⟩ := z0_and.1 hr
  obtain ⟨h1, hr⟩ := bB_and.1 hr
  obtain ⟨h2, hr⟩ := bB_and.1 hr
  have g2 := ble_t h2
  obtain ⟨t1, t2⟩ := okTags_inv (by omega) h0
  obtain ⟨q', v', a', p1, p2⟩ := pg_put o.dst 15 (asR sub (pay cx) (pay cy) (pay cc)) q v a H
  refine pureA (fun k' => by rw [asRun, ex, ey, ec, h0, z0_0, h1, bB_t, h2, bB_t, p1]) p2 (fun g w act hO hH => ?_)
  rw [hops] at hO
  obtain ⟨m1, ex1, ix⟩ := relA_int (k := .u64) (sx g act hO.right.left) t1
  obtain ⟨n1, ey1, iy⟩ := relA_int (k := .u64) (sy g act hO.right.right.left) t2
  obtain ⟨c1, ec1, ic⟩ := relA_int (k := .u64) (sc g act hO.right.right.right) (beq_t h1)
  obtain ⟨rfl, lx⟩ := isI_u rfl ix
  obtain ⟨rfl, ly⟩ := isI_u rfl iy
  obtain ⟨rfl, lc⟩ := isI_u rfl ic
  have hxs : xs = #[x, y, c] := by cases xs; simp_all
  have hargs : xs.map act.eval = #[.int .u64 (pay cx : Nat), .int .u64 (pay cy : Nat), .int .u64 (pay cc : Nat)] := by rw [hxs]; simp [ex1, ey1, ec1]
  have hrel : ∀ (p r : Nat), p < 2 ^ 64 → r < 2 ^ 64 → RelA g 15 [enc 4 p, enc 4 r] (.tuple #[.int .u64 (p : Nat), .int .u64 (r : Nat)]) := fun p r hp hr => by
    refine .inl ⟨rfl, _, rfl, rfl, fun i c' v hc hv => ?_⟩
    match i with
    | 0 => simp at hc hv; subst hc; subst hv; exact .inl (isI_mku (k := .u64) rfl hp)
    | 1 => simp at hc hv; subst hc; subst hv; exact .inl (isI_mku (k := .u64) rfl hr)
    | n + 2 => simp at hc
  have hex : ∀ r : Value, (callFunc f (xs.map act.eval)).run P w = .ok (.value r) w → (execOp act.eval o).run P w = .ok (.value r) w := fun r h => by
    unfold execOp
    simp [ho, resolve, Act.eval, Deferred.ofValue, invoke, h]
  cases sub with
  | false =>
    have hf' : f = E.add64 := hf
    exact ⟨_, hex _ (by rw [hargs, hf']; exact hX.add _ _ _ g2 w), hrel _ _ (sumC_lt _ _ _) (carC_lt lx ly g2)⟩
  | true =>
    have hf' : f = E.sub64 := hf
    exact ⟨_, hex _ (by rw [hargs, hf']; exact hX.sub _ _ _ g2 w), hrel _ _ (difC_lt _ _ _) (borC_lt _ _ _)⟩
end
end Go.Proofs.YgvajwGreat.Ev
