import Derived.Test.YgvajwGreatOps27
namespace Go.Proofs.YgvajwGreat.Ev
section
variable {P : Program} {ops : Array Oper} {cf : CallF} {r0 q v : Nat} {a : List Bnd} {H : Hp} {o : Oper} {kk : K}
/-- a guarded operation: either it is wanted, whatever the slots that are looked at say in the world, or it is not -/
theorem guard_inv {cl : Cl} {j d : Nat} {want : Bool} (hg : o.guard = some (j, want)) (hd : (ops[j]?).bind (·.dst) = some d) (hr : (cGuard (cPt o.dst) d (cB want) cl).run cf r0 q v a H kk = true) :
    (cl.run cf r0 q v a H kk = true ∧ (∀ H k, (cGuard (cPt o.dst) d (cB want) cl).run cf r0 q v a H k = cl.run cf r0 q v a H k) ∧
      ∀ g (act : Act), RelO g v a act.tmps (o.looksAt ops) → Region.wanted o (yielded ops act.tmps) = true) ∨
    (∃ q' v' a', (∀ H k, (cGuard (cPt o.dst) d (cB want) cl).run cf r0 q v a H k = k q' v' a' H) ∧ RegPut o.dst 15 [] v a v' a' ∧
      ∀ g (act : Act), RelO g v a act.tmps (o.looksAt ops) → Region.wanted o (yielded ops act.tmps) = false) := by
  have e : ∀ H k, (cGuard (cPt o.dst) d (cB want) cl).run cf r0 q v a H k = bB (Nat.beq (gF (shOf d) v) (cB want)) (cl.run cf r0 q v a H k)
      (bB (Nat.beq (tag (gF (shOf d) v)) 9) ((cPt o.dst).pg 15 [] q v a H k) (z0 (gF (shOf d) v) (look d a fun c _ => bB (Nat.beq c 15) ((cPt o.dst).pg 15 [] q v a H k) false) false)) := fun H k => by
    unfold cGuard
    rw [fN_eq, fN_eq]
    show (fN (gF (shOf d) v) fun x => bB (Nat.beq x (cB want)) (cl.run cf r0 q v a H k)
      (bB (Nat.beq (tag x) 9) ((cPt o.dst).pg 15 [] q v a H k) (z0 x (look d a fun c _ => bB (Nat.beq c 15) ((cPt o.dst).pg 15 [] q v a H k) false) false))) = _
    rw [fN_eq]
  rw [e] at hr
  have hy : ∀ act : Act, yielded ops act.tmps j = match act.tmps[d]? with | some (.bool b) => some b | _ => none := fun act => by
    unfold yielded
    rw [hd]
    rfl
  have hmem : d ∈ o.looksAt ops := by rw [looksAt_eq, hg]; exact List.mem_append_right _ (by show d ∈ ((ops[j]?).bind (·.dst)).toList; rw [hd]; simp)
  have hput : ∃ q' v' a', (∀ H k, (cPt o.dst).pg 15 [] q v a H k = k q' v' a' H) ∧ RegPut o.dst 15 [] v a v' a' := by
    cases hdst : o.dst with
    | none => exact ⟨q, v, a, fun _ _ => rfl, rfl, rfl⟩
    | some t =>
      obtain ⟨q1, v1, a1, hp1, hp2⟩ := pg_put (some t) 15 [] q v a hp0
      exact ⟨q + 1, setF (q + 1) (shOf t) v 0, ⟨t, 15, []⟩ :: a, fun _ _ => rfl, (by
        have e1 := hp1 (fun _ v' a' _ => by classical exact decide (v' = setF (q + 1) (shOf t) v 0 ∧ a' = ⟨t, 15, []⟩ :: a))
        have e2 : (cPt (some t)).pg 15 [] q v a hp0 (fun _ v' a' _ => by classical exact decide (v' = setF (q + 1) (shOf t) v 0 ∧ a' = ⟨t, 15, []⟩ :: a)) = (by classical exact decide (setF (q + 1) (shOf t) v 0 = setF (q + 1) (shOf t) v 0 ∧ (⟨t, 15, []⟩ :: a : List Bnd) = ⟨t, 15, []⟩ :: a)) := rfl
        rw [e2] at e1
        have := e1.symm
        simp at this
        obtain ⟨rfl, rfl⟩ := this
        exact hp2)⟩
  have hwant : ∀ act : Act, Region.wanted o (yielded ops act.tmps) = (yielded ops act.tmps j == some want) := fun act => by unfold Region.wanted; rw [hg]
  rcases bB_or.1 hr with ⟨h1, hr1⟩ | ⟨h1, hr1⟩
  · refine .inl ⟨hr1, fun H k => by rw [e, h1, bB_t], fun g act hO => ?_⟩
    have hne : gF (shOf d) v ≠ 0 := by rw [beq_t h1]; cases want <;> decide
    obtain ⟨x, hx, hxr⟩ := hO d hmem (gF (shOf d) v) [] (by unfold rdA; rw [if_neg hne])
    rw [beq_t h1] at hxr
    obtain ⟨b, hb, hcb⟩ := ((hxr.val (by cases want <;> decide)).scalar (by cases want <;> decide)).boolOf (by cases want <;> decide)
    have hbw : b = want := by cases b <;> cases want <;> first | rfl | (exact absurd hcb (by decide))
    rw [hwant, hy, hx, hb, hbw]
    cases want <;> rfl
  · obtain ⟨q', v', a', hp, hp2⟩ := hput
    have hno : ∀ act : Act, (∀ x, act.tmps[d]? = some x → x ≠ .bool want) → Region.wanted o (yielded ops act.tmps) = false := fun act hx => by
      rw [hwant, hy]
      cases hw : act.tmps[d]? with
      | none => rfl
      | some x =>
        have := hx x hw
        cases x with
        | bool b =>
          have hb : b ≠ want := fun e => this (by rw [e])
          cases b <;> cases want <;> first | rfl | exact absurd rfl hb
        | _ => rfl
    rcases bB_or.1 hr1 with ⟨h2, hr2⟩ | ⟨h2, hr2⟩
    · refine .inr ⟨q', v', a', fun H k => by rw [e, h1, bB_f, h2, bB_t, hp], hp2, fun g act hO => hno act fun x hx hxb => ?_⟩
      have hne : gF (shOf d) v ≠ 0 := fun h0 => by rw [h0] at h2; exact absurd h2 (by decide)
      obtain ⟨y, hy1, hyr⟩ := hO d hmem (gF (shOf d) v) [] (by unfold rdA; rw [if_neg hne])
      rw [hx] at hy1
      cases hy1
      subst hxb
      have h9 := beq_t h2
      obtain ⟨b, hb, hcb⟩ := ((hyr.val (fun e15 => by rw [e15] at h9; exact absurd h9 (by decide))).scalar (by omega)).boolOf h9
      cases hb
      rw [hcb] at h1
      exact absurd (Nat.beq_refl (cB want)) (by rw [h1]; decide)
    · obtain ⟨h3, hr3⟩ := z0_and.1 hr2
      rw [look_eq] at hr3
      cases hl : lookA d a with
      | none => rw [hl] at hr3; cases hr3
      | some cx =>
        obtain ⟨c, xs⟩ := cx
        rw [hl] at hr3
        obtain ⟨h15, _⟩ := bB_and.1 hr3
        refine .inr ⟨q', v', a', fun H k => ?_, hp2, fun g act hO => hno act fun x hx hxb => ?_⟩
        · rw [e, h1, bB_f, h2, bB_f, h3, z0_0, look_eq, hl]
          show bB (Nat.beq c 15) _ false = _
          rw [h15, bB_t, hp]
        · obtain ⟨y, hy1, hyr⟩ := hO d hmem c xs (by unfold rdA; rw [if_pos h3, hl])
          rw [hx] at hy1
          cases hy1
          subst hxb
          rcases hyr with ⟨_, vs, hv, _⟩ | ⟨_, hv⟩
          · cases hv
          · exact hv.ne15 (beq_t h15)
/-- the operations that make a block -/
theorem new_ok {E : Env} {fn : Nat} {dr : Option Nat} (hE : ∀ t, TIok P t (E.ti t)) (hk : kl E o.op = 3) (hr : (cOp E fn dr o).run cf r0 q v a H kk = true) : NewOK P (cOp E fn dr o) cf dr r0 q v a H o := by
  obtain ⟨dst, op, type, pos, after, guard⟩ := o
  have zz : ∀ {n : Nat} {c : Cl}, (z0 n clNo c).run cf r0 q v a H kk = true → ∃ m, n = m + 1 := fun {n c} h => by
    cases n with
    | zero => exact (Bool.false_ne_true h).elim
    | succ m => exact ⟨m, rfl⟩
  have bb : ∀ {b : Bool} {c : Cl}, (bB b c clNo).run cf r0 q v a H kk = true → b = true := fun {b c} h => by
    cases b with
    | false => exact (Bool.false_ne_true h).elim
    | true => rfl
  cases op with
  | alloc t => exact alloc_ok (o := ⟨dst, .alloc t, type, pos, after, guard⟩) hE rfl hr
  | box t x =>
    obtain ⟨loc, e⟩ : ∃ loc, cOp E fn dr ⟨dst, .box t x, type, pos, after, guard⟩ = z0 (E.ti t).k clNo (cBox dr loc t (E.ti t) (cOv x) (cPt dst)) := ⟨_, rfl⟩
    rw [e] at hr ⊢
    obtain ⟨m, hm⟩ := zz hr
    rw [hm, z0_s] at hr ⊢
    exact box_ok (E := E.ti) (o := ⟨dst, .box t x, type, pos, after, guard⟩) rfl hr
  | buildSlice t n ps =>
    obtain ⟨loc, e⟩ : ∃ loc, cOp E fn dr ⟨dst, .buildSlice t n ps, type, pos, after, guard⟩ = z0 (E.ti t).k clNo (bB (Nat.beq (E.ti t).k 3) (cBuildSl dr loc (E.ti t).el (E.ti (E.ti t).el) n ps.toList (cPt dst)) clNo) := ⟨_, rfl⟩
    rw [e] at hr ⊢
    obtain ⟨m, hm⟩ := zz hr
    rw [show z0 (E.ti t).k = z0 (m + 1) by rw [hm], z0_s] at hr ⊢
    have hb := bb hr
    rw [hb, bB_t] at hr
    rw [hb, bB_t]
    exact buildSl_ok (o := ⟨dst, .buildSlice t n ps, type, pos, after, guard⟩) hE (beq_t hb) rfl hr
  | makeSlice t l c =>
    obtain ⟨loc, e⟩ : ∃ loc, cOp E fn dr ⟨dst, .makeSlice t l c, type, pos, after, guard⟩ = bB (Nat.beq (E.ti t).k 3) (cMakeSl dr loc (E.ti t).el (E.ti (E.ti t).el) (cOv l) (cOv c) (cPt dst)) clNo := ⟨_, rfl⟩
    rw [e] at hr ⊢
    have hb := bb hr
    rw [hb, bB_t] at hr
    rw [hb, bB_t]
    exact make_ok (o := ⟨dst, .makeSlice t l c, type, pos, after, guard⟩) hE (beq_t hb) rfl hr
  | convert s t x =>
    have hk : bB (Nat.beq (E.ti t).k 5) 0 1 = 3 := hk
    cases h : Nat.beq (E.ti t).k 5 <;> rw [h] at hk <;> exact absurd hk (by decide)
  | call c =>
    obtain ⟨callee, xs, ts⟩ := c
    cases callee with
    | builtin b => cases b <;> first | exact absurd hk (by show ¬ (2 = 3); decide) | exact absurd hk (by show ¬ (0 = 3); decide)
    | invoke r m => exact absurd hk (by show ¬ (2 = 3); decide)
    | value f =>
      cases f with
      | func f =>
        have hk : bB (Nat.beq f E.add64) 0 (bB (Nat.beq f E.sub64) 0 2) = 3 := hk
        cases h1 : Nat.beq f E.add64 <;> cases h2 : Nat.beq f E.sub64 <;> rw [h1, h2] at hk <;> exact absurd hk (by decide)
      | _ => exact absurd hk (by show ¬ (2 = 3); decide)
  | load t x => exact absurd hk (by show ¬ (1 = 3); decide)
  | _ => first | exact absurd hk (by show ¬ (0 = 3); decide) | exact absurd hk (by show ¬ (2 = 3); decide)
/-- a block is made, in whatever heap -/
def FloatSem (P : Program) (ops : Array Oper) (v : Nat) (a : List Bnd) (o : Oper) (c : Nat) (xs : List Nat) (u : Nat) (B : Blk) : Prop :=
  ∀ g w (act : Act), RelO g v a act.tmps (o.looksAt ops) → ∀ Q, wpO P ops Q o (fun act' w' => ∃ x s, act' = act.put o.dst x ∧
    (∀ g', Ext g g' → g' u = some (w.heap.size, s) → RelA g' c xs x ∧ RelB g' w' B) ∧ (∀ b, b < w.heap.size → w'.heap[b]? = w.heap[b]?) ∧ w.heap.size < w'.heap.size ∧
      w'.os = w.os ∧ w'.output = w.output ∧ ∀ a, w'.frozen? a = w.frozen? a) act w
theorem float_ok {E : Env} {fn i : Nat} (hE : ∀ t, TIok P t (E.ti t)) (hk : kl E o.op = 3) (hr : (cOper E fn ops (some i) o).run cf r0 q v a H kk = true) :
    ∃ c xs q' v' a' H', (∀ k, (cOper E fn ops (some i) o).run cf r0 q v a H k = k q' v' a' H') ∧ RegPut o.dst c xs v a v' a' ∧
      ((∃ l B p t, l < 4096 ∧ B.uid = r0 + i ∧ H' = ⟨H.uid, p, t, qset 6 H.blks l B⟩ ∧ FloatSem P ops v a o c xs (r0 + i) B) ∨ (H' = H ∧ ∀ H2, OprSem P ops v a H2 o c xs H2)) := by
  have made : ∀ cl : Cl, (∀ k, cl.run cf r0 q v a H k = (cOp E fn (some i) o).run cf r0 q v a H k) → cl.run cf r0 q v a H kk = true → (∀ g (act : Act), RelO g v a act.tmps (o.looksAt ops) → Region.wanted o (yielded ops act.tmps) = true) →
      ∃ c xs q' v' a' H', (∀ k, cl.run cf r0 q v a H k = k q' v' a' H') ∧ RegPut o.dst c xs v a v' a' ∧
      ((∃ l B p t, l < 4096 ∧ B.uid = r0 + i ∧ H' = ⟨H.uid, p, t, qset 6 H.blks l B⟩ ∧ FloatSem P ops v a o c xs (r0 + i) B) ∨ (H' = H ∧ ∀ H2, OprSem P ops v a H2 o c xs H2)) := fun cl hcl hrc hw => by
    rw [hcl] at hrc
    obtain ⟨c, xs, q', v', a', u, l, hu', p, t, ty, sz, s0, more, h1, h2, h3, h4, h5, h6, h7⟩ := new_ok hE hk hrc
    rcases h6 with ⟨h6, _⟩ | ⟨i', h6, rfl, rfl⟩
    · cases h6
    cases h6
    refine ⟨c, xs, q', v', a', _, fun k => (hcl k).trans (h1 k), h2, .inl ⟨l, ⟨r0 + i, ty, sz, 0, s0, more⟩, p, t, h3, rfl, rfl, fun g w act hO Q => ?_⟩⟩
    obtain ⟨arr, x, s1, s2, s3, s4⟩ := h7 g w act (hO.subT fun t ht => by rw [looksAt_eq]; exact List.mem_append_left _ ht)
    unfold wpO
    rw [if_pos (hw g act hO)]
    refine wp_value s2 ⟨x, arr.size, rfl, fun g' hext hg' => ⟨s4 g' hg', w.heap.size, arr.size, arr, hg', ?_, rfl, by show sz ≤ _; omega, fun _ => s1.symm, h5, fun j hj => ?_⟩, fun b hb => ?_, ?_, rfl, rfl, frozen_alloc w arr ty⟩
    · show (w.heap.push _)[w.heap.size]? = _
      rw [Array.getElem?_push, if_pos rfl]
    · obtain ⟨v, e1, e2⟩ := s3 j hj
      exact ⟨v, e1, e2.mono hext⟩
    · show (w.heap.push _)[b]? = _
      rw [Array.getElem?_push, if_neg (Nat.ne_of_lt hb)]
    · show w.heap.size < (w.heap.push _).size
      rw [Array.size_push]; omega
  cases hg : o.guard with
  | none =>
    have e : cOper E fn ops (some i) o = cOp E fn (some i) o := by unfold cOper; rw [hg]
    rw [e] at hr ⊢
    exact made _ (fun _ => rfl) hr (fun g act _ => by unfold Region.wanted; rw [hg])
  | some jw =>
    obtain ⟨j, want⟩ := jw
    cases hd : (ops[j]?).bind (·.dst) with
    | none =>
      have e : cOper E fn ops (some i) o = clNo := by unfold cOper; rw [hg]; simp only [hd]
      rw [e] at hr
      exact (Bool.false_ne_true hr).elim
    | some d =>
      have e : cOper E fn ops (some i) o = cGuard (cPt o.dst) d (cB want) (cOp E fn (some i) o) := by unfold cOper; rw [hg]; simp only [hd]
      rw [e] at hr ⊢
      rcases guard_inv hg hd hr with ⟨h1, h2, h3⟩ | ⟨q', v', a', h1, h2, h3⟩
      · exact made _ (h2 H) (by rw [h2]; exact h1) h3
      · refine ⟨15, [], q', v', a', H, h1 H, h2, .inr ⟨rfl, fun H2 g w act hO hH Q => ?_⟩⟩
        unfold wpO
        rw [if_neg (by rw [h3 g act hO]; decide)]
        exact ⟨undef, g, rfl, .undef g, .refl hH⟩
end
end Go.Proofs.YgvajwGreat.Ev
