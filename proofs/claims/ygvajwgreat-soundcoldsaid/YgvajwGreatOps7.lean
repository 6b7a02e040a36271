import Derived.Test.YgvajwGreatOps6
namespace Go.Proofs.YgvajwGreat.Ev
variable {P : Program}
/-- an operation that only reckons: whatever result -/
theorem pureA {cl : Cl} {cf : CallF} {dr : Option Nat} {r0 q v q' v' : Nat} {a a' : List Bnd} {H : Hp} {o : Oper} {c : Nat} {xs : List Nat}
    (hrun : ∀ k, cl.run cf r0 q v a H k = k q' v' a' H) (hp : RegPut o.dst c xs v a v' a')
    (hsem : ∀ g w (act : Act), RelO g v a act.tmps (tmpsOf o.op.operands.toList) → RelH g H w → ∃ x, (execOp act.eval o).run P w = .ok (.value x) w ∧ RelA g c xs x) :
    OpOK P cl cf dr r0 q v a H o :=
  ⟨c, xs, q', v', a', H, hrun, hp, fun g w act ho hH _ Q => by
    obtain ⟨x, hx, hc⟩ := hsem g w act ho hH
    exact wp_value hx ⟨x, g, rfl, hc, St.refl hH⟩⟩
theorem move_inv {x : Operand} {d : Option Nat} {cf : CallF} {r0 q v : Nat} {a : List Bnd} {H : Hp} {k : K} (h : (cMove x (cPt d)).run cf r0 q v a H k = true) :
    ∃ c xs q' v' a', (∀ k', (cMove x (cPt d)).run cf r0 q v a H k' = k' q' v' a' H) ∧ k q' v' a' H = true ∧ RegPut d c xs v a v' a' ∧ ∀ g (act : Act), RelO g v a act.tmps (tmpsOf [x]) → RelA g c xs (act.eval x) := by
  cases x with
  | tmp t =>
    have e : ∀ k', (cMove (.tmp t) (cPt d)).run cf r0 q v a H k' = z0 (gF (shOf t) v) (look t a fun c xs => (cPt d).pg c xs q v a H k') ((cPt d).ps (gF (shOf t) v) q v a H k') := fun _ => rfl
    have hev : ∀ c xs, rdA v a t = some (c, xs) → ∀ g (act : Act), RelO g v a act.tmps (tmpsOf [.tmp t]) → RelA g c xs (act.eval (.tmp t)) := fun c xs hr g act ho => by
      obtain ⟨x, h1, h2⟩ := ho t (by simp [tmpsOf]) c xs hr
      have : act.eval (.tmp t) = x := by simp [Act.eval, h1]
      rw [this]; exact h2
    rw [e] at h
    rcases z0_or.1 h with ⟨h0, h1⟩ | ⟨h0, h1⟩
    · rw [look_eq] at h1
      cases hl : lookA t a with
      | none => rw [hl] at h1; cases h1
      | some cx =>
        obtain ⟨c, xs⟩ := cx
        rw [hl] at h1
        obtain ⟨q', v', a', h2, h3⟩ := pg_put d c xs q v a H
        refine ⟨c, xs, q', v', a', fun k' => ?_, ?_, h3, hev c xs (by unfold rdA; rw [if_pos h0, hl])⟩
        · rw [e, h0, z0_0, look_eq, hl]; exact h2 k'
        · rw [← h2 k]; exact h1
    · obtain ⟨q', v', a', h2, h3⟩ := ps_put d (gF (shOf t) v) q v a H h0 (gF_lt t v)
      obtain ⟨m, hm⟩ := Nat.exists_eq_succ_of_ne_zero h0
      refine ⟨_, [], q', v', a', fun k' => ?_, ?_, h3, hev _ [] (by unfold rdA; rw [if_neg h0])⟩
      · rw [e, ← h2 k', hm]; rfl
      · rw [← h2 k]; exact h1
  | const u =>
    have e : cMove (.const u) (cPt d) = z0 (encV u) clNo ⟨fun _ _ q v a H k => (cPt d).pc (encV u) q v a H k⟩ := rfl
    cases hc : encV u with
    | zero => rw [e, hc] at h; cases h
    | succ m =>
      have hne : encV u ≠ 0 := by omega
      have e' : ∀ k', (cMove (.const u) (cPt d)).run cf r0 q v a H k' = (cPt d).pc (encV u) q v a H k' := fun k' => by rw [e, hc]; rfl
      obtain ⟨q', v', a', h2, h3⟩ := pc_put d (encV u) q v a H
      exact ⟨_, [], q', v', a', fun k' => by rw [e', h2], by rw [← h2 k, ← e']; exact h, h3, fun g act _ => .inr ⟨rfl, encV_rel hne g⟩⟩
  | global g => cases h
  | func f => cases h
section
variable {o : Oper} {cf : CallF} {dr : Option Nat} {r0 q v : Nat} {a : List Bnd} {H : Hp} {kk : K}
theorem move_ok {x : Operand} (ho : o.op = .move x ∨ o.op = .assign x) (hr : (cMove x (cPt o.dst)).run cf r0 q v a H kk = true) : OpOK P (cMove x (cPt o.dst)) cf dr r0 q v a H o := by
  obtain ⟨c, xs, q', v', a', h1, _, h3, h4⟩ := move_inv hr
  refine pureA h1 h3 (fun g w act hO hH => ⟨act.eval x, ?_, h4 g act ?_⟩)
  · rcases ho with ho | ho <;> simp [execOp, ho]
  · rcases ho with ho | ho <;> rw [ho] at hO <;> exact hO
theorem pick_ok {c x y : Operand} (ho : o.op = .pick c x y) (hr : (cPick (cOv c) (cMove x (cPt o.dst)) (cMove y (cPt o.dst))).run cf r0 q v a H kk = true) :
    OpOK P (cPick (cOv c) (cMove x (cPt o.dst)) (cMove y (cPt o.dst))) cf dr r0 q v a H o := by
  have e : ∀ k', (cPick (cOv c) (cMove x (cPt o.dst)) (cMove y (cPt o.dst))).run cf r0 q v a H k' = (cOv c).get v a fun c => bB (Nat.beq c 25) ((cMove x (cPt o.dst)).run cf r0 q v a H k') (bB (Nat.beq c 9) ((cMove y (cPt o.dst)).run cf r0 q v a H k') false) := fun _ => rfl
  have hops : o.op.operands.toList = [c, x, y] := by rw [ho]; rfl
  rw [e] at hr
  obtain ⟨cc, xc, ec, hr, sc, _⟩ := get_inv hr
  rcases bB_or.1 hr with ⟨h1, h2⟩ | ⟨h1, h2⟩
  · obtain ⟨c1, xs, q', v', a', g1, _, g3, g4⟩ := move_inv h2
    have t1 := beq_t h1
    refine pureA (fun k' => by rw [e, ec, h1, bB_t, g1]) g3 (fun g w act hO hH => ⟨act.eval x, ?_, g4 g act ?_⟩)
    · rw [hops] at hO
      obtain ⟨b, hb, hb2⟩ := relA_bool (sc g act hO.left) (by rw [t1]; rfl)
      have : b = true := by cases b; · rw [hb2] at t1; cases t1
                            · rfl
      subst this
      simp [execOp, ho, hb, asBool]
    · rw [hops] at hO; exact hO.right.left
  · obtain ⟨h3, h4⟩ := bB_and.1 h2
    obtain ⟨c1, xs, q', v', a', g1, _, g3, g4⟩ := move_inv h4
    have t1 := beq_t h3
    refine pureA (fun k' => by rw [e, ec, h1, bB_f, h3, bB_t, g1]) g3 (fun g w act hO hH => ⟨act.eval y, ?_, g4 g act ?_⟩)
    · rw [hops] at hO
      obtain ⟨b, hb, hb2⟩ := relA_bool (sc g act hO.left) (by rw [t1]; rfl)
      have : b = false := by cases b; · rfl
                             · rw [hb2] at t1; cases t1
      subst this
      simp [execOp, ho, hb, asBool]
    · rw [hops] at hO; exact hO.right.right
theorem not_ok {t : TypeId} {x : Operand} (ho : o.op = .unOp .not t x) (hr : (cNot (cOv x) (cPt o.dst)).run cf r0 q v a H kk = true) : OpOK P (cNot (cOv x) (cPt o.dst)) cf dr r0 q v a H o := by
  have e : ∀ k', (cNot (cOv x) (cPt o.dst)).run cf r0 q v a H k' = (cOv x).get v a fun c => bB (Nat.beq c 25) ((cPt o.dst).ps 9 q v a H k') (bB (Nat.beq c 9) ((cPt o.dst).ps 25 q v a H k') false) := fun _ => rfl
  have hops : o.op.operands.toList = [x] := by rw [ho]; rfl
  rw [e] at hr
  obtain ⟨cc, xc, ec, hr, sc, _⟩ := get_inv hr
  rcases bB_or.1 hr with ⟨h1, h2⟩ | ⟨h1, h2⟩
  · have t1 := beq_t h1
    refine pureS (fun k' => by rw [e, ec, h1, bB_t]) (fun g w act hO hH => ?_) (by decide) (by decide)
    rw [hops] at hO
    obtain ⟨b, hb, hb2⟩ := relA_bool (sc g act hO) (by rw [t1]; rfl)
    cases b
    · rw [hb2] at t1; cases t1
    · exact ⟨.bool false, by simp [execOp, ho, hb, Op.unary], rfl⟩
  · obtain ⟨h3, h4⟩ := bB_and.1 h2
    have t1 := beq_t h3
    refine pureS (fun k' => by rw [e, ec, h1, bB_f, h3, bB_t]) (fun g w act hO hH => ?_) (by decide) (by decide)
    rw [hops] at hO
    obtain ⟨b, hb, hb2⟩ := relA_bool (sc g act hO) (by rw [t1]; rfl)
    cases b
    · exact ⟨.bool true, by simp [execOp, ho, hb, Op.unary], rfl⟩
    · rw [hb2] at t1; cases t1
theorem nil_ok {x : Operand} (ho : o.op = .nilCheck x) (hr : (cNil (cOv x) (cPt o.dst)).run cf r0 q v a H kk = true) : OpOK P (cNil (cOv x) (cPt o.dst)) cf dr r0 q v a H o := by
  have e : ∀ k', (cNil (cOv x) (cPt o.dst)).run cf r0 q v a H k' = (cOv x).get v a fun c => bB (Nat.beq (tag c) 11) ((cPt o.dst).ps c q v a H k') false := fun _ => rfl
  have hops : o.op.operands.toList = [x] := by rw [ho]; rfl
  rw [e] at hr
  obtain ⟨cc, xc, ec, hr, sc, bc⟩ := get_inv hr
  obtain ⟨h1, h2⟩ := bB_and.1 hr
  have t1 := beq_t h1
  refine pureS (fun k' => by rw [e, ec, h1, bB_t]) (fun g w act hO hH => ?_) (fun h0 => by rw [h0] at t1; exact absurd t1 (by decide)) (bc (by omega) (by omega))
  rw [hops] at hO
  obtain ⟨b, hb, hc⟩ := relA_ptr (sc g act hO) t1
  exact ⟨.pointer (some b), by simp [execOp, ho, hb], hc⟩
/-! addresses -/
theorem toPtr_inv {p : Nat} {k : Nat → Bool} (h : toPtr p k = true) : (∀ k', toPtr p k' = k' (cPtr p)) ∧ k (cPtr p) = true ∧ cPtr p < 2 ^ 128 := by
  have e : ∀ k', toPtr p k' = bB (Nat.ble (cPtr p) 340282366920938463463374607431768211455) (k' (cPtr p)) false := fun k' => by unfold toPtr; rw [fN_eq]
  rw [e] at h
  obtain ⟨h1, h2⟩ := bB_and.1 h
  exact ⟨fun k' => by rw [e, h1, bB_t], h2, by have := ble_t h1; omega⟩
theorem cPtr_ne (p : Nat) : cPtr p ≠ 0 := by rw [cPtr_eq]; omega
theorem AddrOK.ptr {g : Gh} {p : Nat} {a : Addr} (h : AddrOK g p a) (hlt : cPtr p < 2 ^ 128) : RelC g (cPtr p) (.pointer (some a)) := by
  obtain ⟨h0, u, l, s, h1, h2, h3, h4⟩ := h
  exact ⟨h0, u, l, s, h1, h2, h3 ▸ hlt, by rw [h3], h4⟩
theorem field_ok {E : Nat → TI} (hE : ∀ t, TIok P t (E t)) {t : TypeId} {x : Operand} {f : Nat} {off sz : Nat} (hk : (E t).k = 1) (hf : (E t).offs[f]? = some (off, sz)) (ho : o.op = .fieldAddr t x f)
    (hr : (cField (off, sz) (cOv x) (cPt o.dst)).run cf r0 q v a H kk = true) : OpOK P (cField (off, sz) (cOv x) (cPt o.dst)) cf dr r0 q v a H o := by
  have hops : o.op.operands.toList = [x] := by rw [ho]; rfl
  have e0 : cField (off, sz) (cOv x) (cPt o.dst) = z0 sz clNo ⟨fun _ _ q v a H k => (cOv x).get v a fun c => bB (Nat.beq (tag c) 11) (toPtr (pAdd (pay c) off) fun r => (cPt o.dst).ps r q v a H k) false⟩ := by unfold cField; rw [fN_eq]
  cases hsz : sz with
  | zero => rw [e0, hsz] at hr; cases hr
  | succ m =>
  have e : ∀ k', (cField (off, m + 1) (cOv x) (cPt o.dst)).run cf r0 q v a H k' = (cOv x).get v a fun c => bB (Nat.beq (tag c) 11) (toPtr (pAdd (pay c) off) fun r => (cPt o.dst).ps r q v a H k') false := fun k' => by rw [← hsz, e0, hsz]; rfl
  rw [hsz] at hr hf
  rw [e] at hr
  obtain ⟨cc, xc, ec, hr, sc, bc⟩ := get_inv hr
  obtain ⟨h1, h2⟩ := bB_and.1 hr
  obtain ⟨h3, h4, h5⟩ := toPtr_inv h2
  refine pureS (fun k' => by rw [e, ec, h1, bB_t, h3]) (fun g w act hO hH => ?_) (cPtr_ne _) h5
  rw [hops] at hO
  obtain ⟨b, hb, hc⟩ := relA_ptr (sc g act hO) (beq_t h1)
  obtain ⟨fs, hu, hfs, _⟩ := (hE t).kind.1 hk
  obtain ⟨fd, i, g1, g2, g3, g4⟩ := hfs f off (m + 1) hf
  refine ⟨.pointer (some (b.add off)), ?_, (hc.addr.add off).ptr h5⟩
  have hz : (sizeOf fd.type).run P w = .ok (m + 1) w := by simp [sizeOf, typeInfo, g3, g4]
  simp [execOp, ho, hb, Instr.fieldAt, run_underlying hu, g1, Instr.sureAddr, fieldPlace, hz, g2]
theorem idxA_ok {E : Nat → TI} (hE : ∀ t, TIok P t (E t)) {t : TypeId} {x i : Operand} (hk : (E t).k = 2) (hk' : (E (E t).el).k ≠ 0) (ho : o.op = .indexAddr t x i)
    (hr : (idxCl (E t).ln (E (E t).el).sz (cOv x) (cOv i) (cPt o.dst)).run cf r0 q v a H kk = true) : OpOK P (idxCl (E t).ln (E (E t).el).sz (cOv x) (cOv i) (cPt o.dst)) cf dr r0 q v a H o := by
  have hops : o.op.operands.toList = [x, i] := by rw [ho]; rfl
  have e : ∀ k', (idxCl (E t).ln (E (E t).el).sz (cOv x) (cOv i) (cPt o.dst)).run cf r0 q v a H k' = (cOv x).get v a fun c => bB (Nat.beq (tag c) 11) ((cOv i).get v a fun ci => cntOf ci fun n =>
    bB (Nat.ble (n + 1) (E t).ln) (toPtr (pAdd (pay c) (n * (E (E t).el).sz)) fun r => (cPt o.dst).ps r q v a H k') false) false := fun _ => rfl
  rw [e] at hr
  obtain ⟨cc, xc, ec, hr, sc, bc⟩ := get_inv hr
  obtain ⟨h1, h2⟩ := bB_and.1 hr
  obtain ⟨ci, xi, ei, h2, si, _⟩ := get_inv h2
  obtain ⟨n, en, h2, _, _, _, sn⟩ := cnt_inv h2
  obtain ⟨h3, h4⟩ := bB_and.1 h2
  obtain ⟨h5, h6, h7⟩ := toPtr_inv h4
  refine pureS (fun k' => by rw [e, ec, h1, bB_t, ei, en, h3, bB_t, h5]) (fun g w act hO hH => ?_) (cPtr_ne _) h7
  rw [hops] at hO
  obtain ⟨b, hb, hc⟩ := relA_ptr (sc g act hO.left) (beq_t h1)
  obtain ⟨k1, hi, _⟩ := sn g xi _ (si g act hO.right)
  have hu := (hE t).kind.2.1 hk
  obtain ⟨ie, j1, j2, _⟩ := (hE (E t).el).info hk'
  have hz : (sizeOf (E t).el).run P w = .ok (E (E t).el).sz w := by simp [sizeOf, typeInfo, j1, j2]
  have hlt : n < (E t).ln := by have := ble_t h3; omega
  refine ⟨.pointer (some (b.add (n * (E (E t).el).sz))), ?_, (hc.addr.add _).ptr h7⟩
  simp [execOp, ho, hb, hi, Instr.indexAt, asIntOf, run_underlying hu, Instr.sureAddr, hz]
  intro h; omega
theorem idxS_ok {E : Nat → TI} (hE : ∀ t, TIok P t (E t)) {t : TypeId} {x i : Operand} (hk : (E t).k = 3) (hk' : (E (E t).el).k ≠ 0) (ho : o.op = .indexAddr t x i)
    (hr : (idxSl (E (E t).el).sz (cOv x) (cOv i) (cPt o.dst)).run cf r0 q v a H kk = true) : OpOK P (idxSl (E (E t).el).sz (cOv x) (cOv i) (cPt o.dst)) cf dr r0 q v a H o := by
  have hops : o.op.operands.toList = [x, i] := by rw [ho]; rfl
  have e : ∀ k', (idxSl (E (E t).el).sz (cOv x) (cOv i) (cPt o.dst)).run cf r0 q v a H k' = (cOv x).get v a fun c => bB (Nat.beq (tag c) 13) ((cOv i).get v a fun ci => cntOf ci fun n =>
    bB (Nat.ble (n + 1) (sLen c)) (toPtr (pAdd (sAddr c) (n * (E (E t).el).sz)) fun r => (cPt o.dst).ps r q v a H k') false) false := fun _ => rfl
  rw [e] at hr
  obtain ⟨cc, xc, ec, hr, sc, bc⟩ := get_inv hr
  obtain ⟨h1, h2⟩ := bB_and.1 hr
  obtain ⟨ci, xi, ei, h2, si, _⟩ := get_inv h2
  obtain ⟨n, en, h2, _, _, _, sn⟩ := cnt_inv h2
  obtain ⟨h3, h4⟩ := bB_and.1 h2
  obtain ⟨h5, h6, h7⟩ := toPtr_inv h4
  refine pureS (fun k' => by rw [e, ec, h1, bB_t, ei, en, h3, bB_t, h5]) (fun g w act hO hH => ?_) (cPtr_ne _) h7
  rw [hops] at hO
  obtain ⟨b, ln, cp, hb, hc⟩ := relA_sl (sc g act hO.left) (beq_t h1)
  obtain ⟨k1, hi, _⟩ := sn g xi _ (si g act hO.right)
  have hu := (hE t).kind.2.2.1 hk
  obtain ⟨ie, j1, j2, _⟩ := (hE (E t).el).info hk'
  have hz : (sizeOf (E t).el).run P w = .ok (E (E t).el).sz w := by simp [sizeOf, typeInfo, j1, j2]
  obtain ⟨ha, hl, _⟩ := hc.slAddr
  have hlt : n < ln := by have := ble_t h3; omega
  refine ⟨.pointer (some (b.add (n * (E (E t).el).sz))), ?_, (ha.add _).ptr h7⟩
  simp [execOp, ho, hb, hi, Instr.indexAt, asIntOf, run_underlying hu, hz]
  intro h; omega
end
end Go.Proofs.YgvajwGreat.Ev
