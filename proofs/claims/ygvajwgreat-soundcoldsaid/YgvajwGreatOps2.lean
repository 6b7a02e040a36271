import Derived.Test.YgvajwGreatOps1
namespace Go.Proofs.YgvajwGreat.Ev
variable {P : Program}

/-- what the types' table owes -/
def KindOK (P : Program) (t : Nat) (T : TI) : Prop :=
  (T.k = 1 → ∃ fs, P.underlying t = some (.struct fs) ∧ (∀ (j o n : Nat), T.offs[j]? = some (o, n) → ∃ (f : Field) (i : TypeInfo), fs[j]? = some f ∧ f.offset = o ∧ P.info? f.type = some i ∧ i.size = n) ∧
    fs.toList.mapM (fun f => (P.info? f.type).map fun i => (f.offset, i.size)) = some T.offs) ∧
  (T.k = 2 → P.underlying t = some (.array T.ln T.el)) ∧ (T.k = 3 → P.underlying t = some (.slice T.el)) ∧ (T.k = 4 → P.underlying t = some (.pointer T.el)) ∧
  (T.k = 5 → ∃ k, P.underlying t = some (.int k) ∧ T.ik = kTag k) ∧ (T.k = 6 → P.underlying t = some .string) ∧ (T.k = 7 → P.underlying t = some .bool) ∧
  (T.k = 8 → ∃ d, P.underlying t = some d ∧ (∀ fs, d ≠ .struct fs) ∧ (∀ n e, d ≠ .array n e) ∧ (∀ k, d ≠ .int k)) ∧ T.k ≤ 8
structure TIok (P : Program) (t : Nat) (T : TI) : Prop where
  info : T.k ≠ 0 → ∃ i, P.info? t = some i ∧ i.size = T.sz ∧ i.bytes = T.by_
  kind : KindOK P t T
  ik : T.ik ≠ 0 → T.k = 5
  zk : T.zk ≠ 0 → T.k ≠ 0
  zero : T.zk ≠ 0 → ∃ i zv, P.info? t = some i ∧ i.zero = some zv ∧ i.size = T.sz ∧ zv.cells.size = T.sz ∧ T.sz ≤ 31000 ∧
    ∀ j, j < T.sz → ∃ v, zv.cells[j]? = some v ∧ ∀ g, RelC g (cellB T.z.1 T.z.2 j) v
  pat : T.pat ≠ 0 → ∃ k i, T.k = 2 ∧ P.underlying T.el = some (.int k) ∧ P.info? T.el = some i ∧ i.size = 1 ∧ T.pat = rep 1 T.ln (kTag k) ∧ T.sz = T.ln ∧ P.eqGuardType P.depth t = false

theorem xor_zero {a b : Nat} (h : a ^^^ b = 0) : a = b := by
  apply Nat.eq_of_testBit_eq
  intro i
  have := congrArg (fun z => z.testBit i) h
  simp at this
  exact this
theorem or_zero {a b : Nat} (h : a ||| b = 0) : a = 0 ∧ b = 0 := by
  constructor <;> apply Nat.eq_of_testBit_eq <;> intro i <;> have := congrArg (fun z => z.testBit i) h <;> simp at this <;> simp [this]
theorem okTags_inv {t cx cy : Nat} (ht : t < 16) (h : okTags t cx cy = 0) : tag cx = t ∧ tag cy = t := by
  have h : ((cx ^^^ t) ||| (cy ^^^ t)) &&& 15 = 0 := h
  rw [show (15 : Nat) = 2 ^ 4 - 1 from rfl, Nat.and_two_pow_sub_one_eq_mod, Nat.or_mod_two_pow] at h
  obtain ⟨h1, h2⟩ := or_zero h
  rw [Nat.xor_mod_two_pow] at h1 h2
  have h1 := xor_zero h1
  have h2 := xor_zero h2
  rw [tag_eq, tag_eq]
  omega

/-- the two operands of a binary operation, of one tag -/
theorem bin2_inv {t : Nat} {h : Nat → Nat → Nat} {x y : Operand} {p : Pt} {cf : CallF} {r0 q v : Nat} {a : List Bnd} {H : Hp} {k : K} (ht : t < 14) (ht0 : t ≠ 0)
    (hr : (bin2 t h (cOv x) (cOv y) p).run cf r0 q v a H k = true) :
    ∃ cx cy xs ys, tag cx = t ∧ tag cy = t ∧ (∀ k', (bin2 t h (cOv x) (cOv y) p).run cf r0 q v a H k' = p.ps (h cx cy) q v a H k') ∧ cx < 2 ^ 128 ∧ cy < 2 ^ 128 ∧
      (∀ g (act : Act), RelO g v a act.tmps (tmpsOf [x]) → RelA g cx xs (act.eval x)) ∧ (∀ g (act : Act), RelO g v a act.tmps (tmpsOf [y]) → RelA g cy ys (act.eval y)) := by
  have e : ∀ k', (bin2 t h (cOv x) (cOv y) p).run cf r0 q v a H k' = (cOv x).get v a fun cx => (cOv y).get v a fun cy => z0 (okTags t cx cy) (p.ps (h cx cy) q v a H k') false := fun _ => rfl
  rw [e] at hr
  obtain ⟨cx, xs, ex, hr, sx, bx⟩ := get_inv hr
  obtain ⟨cy, ys, ey, hr, sy, by'⟩ := get_inv hr
  obtain ⟨h0, hr⟩ := z0_and.1 hr
  obtain ⟨t1, t2⟩ := okTags_inv (by omega) h0
  exact ⟨cx, cy, xs, ys, t1, t2, fun k' => by rw [e, ex, ey, h0, z0_0], bx (by omega) (by omega), by' (by omega) (by omega), sx, sy⟩

theorem relA_int {g : Gh} {c : Nat} {xs : List Nat} {x : Value} {k : IntKind} (h : RelA g c xs x) (ht : tag c = kTag k) : ∃ n, x = .int k n ∧ isI c k n := by
  have hk := kTag_pos k
  have h15 : c ≠ 15 := by intro e; subst e; rw [show tag 15 = 15 from rfl] at ht; omega
  exact ((h.val h15).scalar (by omega)).intOf ht
theorem relA_sc {g : Gh} {c : Nat} {xs : List Nat} {x : Value} (h : RelA g c xs x) (ht : tag c ≠ 0) (h15 : tag c ≠ 15) : RelC g c x := by
  have h15 : c ≠ 15 := by intro e; subst e; exact h15 rfl
  exact (h.val h15).scalar ht

theorem exec_bin {o : Oper} {op : BinOp} {t yt : TypeId} {x y : Operand} (ho : o.op = .binOp op t x y yt) {act : Act} {w : World} {k k' : IntKind} {a b : Int} {r : Value}
    (hx : act.eval x = .int k a) (hy : act.eval y = .int k' b) (hr : (binOp op t (.int k a) (.int k' b)).run P w = .ok r w) :
    (execOp act.eval o).run P w = .ok (.value r) w := by
  have hg : (eqGuard op t x y (.int k a) (.int k' b)).run P w = .ok () w := by cases op <;> simp [eqGuard]
  simp [execOp, ho, hx, hy, hg, hr]
theorem ops_bin {o : Oper} {op : BinOp} {t yt : TypeId} {x y : Operand} (ho : o.op = .binOp op t x y yt) : o.op.operands.toList = [x, y] := by rw [ho]; rfl

/-- arithmetic and comparisons of integers: what is owed of the model and of the codes -/
theorem binI_ok {o : Oper} {op : BinOp} {t yt : TypeId} {x y : Operand} (ho : o.op = .binOp op t x y yt) {k : IntKind} {h : Nat → Nat → Nat} {r : Int → Int → Value}
    (hrun : ∀ a b w, (binOp op t (.int k a) (.int k b)).run P w = .ok (r a b) w)
    (hrel : ∀ g cx cy a b, isI cx k a → isI cy k b → RelC g (h cx cy) (r a b))
    (hb : ∀ cx cy, tag cx = kTag k → cx < 2 ^ 128 → cy < 2 ^ 128 → h cx cy ≠ 0 ∧ h cx cy < 2 ^ 128)
    {cf : CallF} {dr : Option Nat} {r0 q v : Nat} {a : List Bnd} {H : Hp} {kk : K} (hr : (bin2 (kTag k) h (cOv x) (cOv y) (cPt o.dst)).run cf r0 q v a H kk = true) :
    OpOK P (bin2 (kTag k) h (cOv x) (cOv y) (cPt o.dst)) cf dr r0 q v a H o := by
  have hk := kTag_pos k
  obtain ⟨cx, cy, xs, ys, t1, t2, e, b1, b2, sx, sy⟩ := bin2_inv (by omega) (by omega) hr
  obtain ⟨h1, h2⟩ := hb cx cy t1 b1 b2
  refine pureS e (fun g w act hO hH => ?_) h1 h2
  rw [ops_bin ho] at hO
  obtain ⟨m, ex, ix⟩ := relA_int (sx g act hO.left) t1
  obtain ⟨n, ey, iy⟩ := relA_int (sy g act hO.right) t2
  exact ⟨_, exec_bin ho ex ey (hrun m n w), hrel g cx cy m n ix iy⟩
theorem enc_bd {t p : Nat} (ht : 1 ≤ t) (ht' : t < 16) (hp : p < 2 ^ 124) : enc t p ≠ 0 ∧ enc t p < 2 ^ 128 := by rw [enc_eq]; omega
theorem pay_bd {c : Nat} (h : c < 2 ^ 128) : pay c < 2 ^ 124 := by rw [pay_eq]; omega
theorem tfrom_bd {t : Nat} (ht : 1 ≤ t) (ht' : t ≤ 8) (x : Nat) : tfrom t x < 18446744073709551616 := by
  obtain ⟨k, rfl⟩ := kTag_of ht ht'
  cases k <;> simp only [kTag, tfrom_1, tfrom_2, tfrom_3, tfrom_4, tfrom_5, tfrom_6, tfrom_7, tfrom_8] <;> omega
theorem cB_bd (b : Bool) : cB b ≠ 0 ∧ cB b < 2 ^ 128 := by cases b <;> decide
section
variable {o : Oper} {t yt : TypeId} {x y : Operand} {k : IntKind} {cf : CallF} {dr : Option Nat} {r0 q v : Nat} {a : List Bnd} {H : Hp} {kk : K}
theorem add_ok (ho : o.op = .binOp .add t x y yt) (hr : (bin2 (kTag k) (hAdd (kTag k)) (cOv x) (cOv y) (cPt o.dst)).run cf r0 q v a H kk = true) :
    OpOK P (bin2 (kTag k) (hAdd (kTag k)) (cOv x) (cOv y) (cPt o.dst)) cf dr r0 q v a H o :=
  binI_ok ho (r := fun a b => .int k (k.wrap (a + b))) (fun a b w => by simp [binOp, Op.intArith]) (fun g cx cy a b hx hy => hAdd_spec hx hy)
    (fun cx cy _ _ _ => enc_bd (kTag_pos k).1 (by have := kTag_pos k; omega) (Nat.lt_of_lt_of_le (tfrom_bd (kTag_pos k).1 (kTag_pos k).2 _) (by decide))) hr
theorem sub_ok (ho : o.op = .binOp .sub t x y yt) (hr : (bin2 (kTag k) (hSub (kTag k)) (cOv x) (cOv y) (cPt o.dst)).run cf r0 q v a H kk = true) :
    OpOK P (bin2 (kTag k) (hSub (kTag k)) (cOv x) (cOv y) (cPt o.dst)) cf dr r0 q v a H o :=
  binI_ok ho (r := fun a b => .int k (k.wrap (a - b))) (fun a b w => by simp [binOp, Op.intArith]) (fun g cx cy a b hx hy => hSub_spec hx hy)
    (fun cx cy _ _ _ => enc_bd (kTag_pos k).1 (by have := kTag_pos k; omega) (Nat.lt_of_lt_of_le (tfrom_bd (kTag_pos k).1 (kTag_pos k).2 _) (by decide))) hr
theorem mul_ok (ho : o.op = .binOp .mul t x y yt) (hr : (bin2 (kTag k) (hMul (kTag k)) (cOv x) (cOv y) (cPt o.dst)).run cf r0 q v a H kk = true) :
    OpOK P (bin2 (kTag k) (hMul (kTag k)) (cOv x) (cOv y) (cPt o.dst)) cf dr r0 q v a H o :=
  binI_ok ho (r := fun a b => .int k (k.wrap (a * b))) (fun a b w => by simp [binOp, Op.intArith]) (fun g cx cy a b hx hy => hMul_spec hx hy)
    (fun cx cy _ _ _ => enc_bd (kTag_pos k).1 (by have := kTag_pos k; omega) (Nat.lt_of_lt_of_le (tfrom_bd (kTag_pos k).1 (kTag_pos k).2 _) (by decide))) hr
theorem ble_dec (a b : Nat) : Nat.ble a b = decide (a ≤ b) := by
  cases h : Nat.ble a b
  · have := ble_f h; exact (decide_eq_false (by omega)).symm
  · have := ble_t h; exact (decide_eq_true (by omega)).symm
theorem beq_dec (a b : Nat) : Nat.beq a b = decide (a = b) := by
  cases h : Nat.beq a b
  · exact (decide_eq_false (beq_f h)).symm
  · exact (decide_eq_true (beq_t h)).symm
theorem lss_ok (ho : o.op = .binOp .lss t x y yt) (hr : (bin2 (kTag k) hLss (cOv x) (cOv y) (cPt o.dst)).run cf r0 q v a H kk = true) :
    OpOK P (bin2 (kTag k) hLss (cOv x) (cOv y) (cPt o.dst)) cf dr r0 q v a H o :=
  binI_ok ho (r := fun a b => .bool (a < b)) (fun a b w => by simp [binOp, Op.intCmp]) (fun g cx cy a b hx hy => by
    show cB (Nat.ble (cx + 1) cy) = cB (decide (a < b))
    rw [ble_dec]; congr 1; exact decide_eq_decide.2 (by rw [cmp_lt hx hy]; omega)) (fun cx cy _ _ _ => cB_bd _) hr
theorem leq_ok (ho : o.op = .binOp .leq t x y yt) (hr : (bin2 (kTag k) hLeq (cOv x) (cOv y) (cPt o.dst)).run cf r0 q v a H kk = true) :
    OpOK P (bin2 (kTag k) hLeq (cOv x) (cOv y) (cPt o.dst)) cf dr r0 q v a H o :=
  binI_ok ho (r := fun a b => .bool (a ≤ b)) (fun a b w => by simp [binOp, Op.intCmp]) (fun g cx cy a b hx hy => by
    show cB (Nat.ble cx cy) = cB (decide (a ≤ b))
    rw [ble_dec]; congr 1; exact decide_eq_decide.2 (by have := cmp_lt hy hx; omega)) (fun cx cy _ _ _ => cB_bd _) hr
theorem gtr_ok (ho : o.op = .binOp .gtr t x y yt) (hr : (bin2 (kTag k) hGtr (cOv x) (cOv y) (cPt o.dst)).run cf r0 q v a H kk = true) :
    OpOK P (bin2 (kTag k) hGtr (cOv x) (cOv y) (cPt o.dst)) cf dr r0 q v a H o :=
  binI_ok ho (r := fun a b => .bool (a > b)) (fun a b w => by simp [binOp, Op.intCmp]) (fun g cx cy a b hx hy => by
    show cB (Nat.ble (cy + 1) cx) = cB (decide (a > b))
    rw [ble_dec]; congr 1; exact decide_eq_decide.2 (by have := cmp_lt hy hx; omega)) (fun cx cy _ _ _ => cB_bd _) hr
theorem geq_ok (ho : o.op = .binOp .geq t x y yt) (hr : (bin2 (kTag k) hGeq (cOv x) (cOv y) (cPt o.dst)).run cf r0 q v a H kk = true) :
    OpOK P (bin2 (kTag k) hGeq (cOv x) (cOv y) (cPt o.dst)) cf dr r0 q v a H o :=
  binI_ok ho (r := fun a b => .bool (a ≥ b)) (fun a b w => by simp [binOp, Op.intCmp]) (fun g cx cy a b hx hy => by
    show cB (Nat.ble cy cx) = cB (decide (a ≥ b))
    rw [ble_dec]; congr 1; exact decide_eq_decide.2 (by have := cmp_lt hx hy; omega)) (fun cx cy _ _ _ => cB_bd _) hr
theorem eql_ok (ho : o.op = .binOp .eql t x y yt) (hr : (bin2 (kTag k) hEql (cOv x) (cOv y) (cPt o.dst)).run cf r0 q v a H kk = true) :
    OpOK P (bin2 (kTag k) hEql (cOv x) (cOv y) (cPt o.dst)) cf dr r0 q v a H o :=
  binI_ok ho (r := fun a b => .bool (a == b)) (fun a b w => by simp [binOp, Op.intCmp]) (fun g cx cy a b hx hy => by
    show cB (Nat.beq cx cy) = cB (a == b)
    rw [beq_dec, show (a == b) = decide (a = b) from rfl]; congr 1; exact decide_eq_decide.2 (cmp_eq hx hy).symm) (fun cx cy _ _ _ => cB_bd _) hr
theorem neq_ok (ho : o.op = .binOp .neq t x y yt) (hr : (bin2 (kTag k) hNeq (cOv x) (cOv y) (cPt o.dst)).run cf r0 q v a H kk = true) :
    OpOK P (bin2 (kTag k) hNeq (cOv x) (cOv y) (cPt o.dst)) cf dr r0 q v a H o :=
  binI_ok ho (r := fun a b => .bool (a != b)) (fun a b w => by simp [binOp, Op.intCmp]) (fun g cx cy a b hx hy => by
    show cB (!(Nat.beq cx cy)) = cB (!(a == b))
    rw [beq_dec, show (a == b) = decide (a = b) from rfl]; congr 2; exact decide_eq_decide.2 (cmp_eq hx hy).symm) (fun cx cy _ _ _ => cB_bd _) hr
end
end Go.Proofs.YgvajwGreat.Ev
