import Derived.Test.YgvajwGreatOps25
namespace Go.Proofs.YgvajwGreat.Ev
section
variable {P : Program} {ops : Array Oper} {cf : CallF} {r0 q v : Nat} {a : List Bnd} {H : Hp} {o : Oper} {kk : K}
/-- one operation with its guard comes up -/
def wpO (P : Program) (ops : Array Oper) (Q : Exit → Act → World → Prop) (o : Oper) (K : Act → World → Prop) (a : Act) (w : World) : Prop :=
  if Region.wanted o (yielded ops a.tmps) then o.wp P a w K Q else K (a.put o.dst undef) w
theorem wpO_wpOp {Q : Exit → Act → World → Prop} {i : Nat} {K : Act → World → Prop} {a : Act} {w : World} (hi : ops[i]? = some o) (h : wpO P ops Q o K a w) : wpOp P ops Q i K a w := by
  unfold wpOp wpO at *
  rw [hi]
  show if _ then _ else _
  split
  · rename_i hw; rw [if_pos hw] at h; exact .inl h
  · rename_i hw; rw [if_neg hw] at h; exact h
def OprSem (P : Program) (ops : Array Oper) (v : Nat) (a : List Bnd) (H : Hp) (o : Oper) (c : Nat) (xs : List Nat) (H' : Hp) : Prop :=
  ∀ g w (act : Act), RelO g v a act.tmps (o.looksAt ops) → RelH g H w →
    ∀ Q, wpO P ops Q o (fun act' w' => ∃ x g', act' = act.put o.dst x ∧ RelA g' c xs x ∧ St g H w g' H' w') act w
def OprOK (P : Program) (ops : Array Oper) (cl : Cl) (cf : CallF) (r0 q v : Nat) (a : List Bnd) (H : Hp) (o : Oper) : Prop :=
  ∃ c xs q' v' a' H', (∀ k, cl.run cf r0 q v a H k = k q' v' a' H') ∧ RegPut o.dst c xs v a v' a' ∧ OprSem P ops v a H o c xs H'
theorem looksAt_eq (o : Oper) (ops : Array Oper) : o.looksAt ops = tmpsOf o.op.operands.toList ++ (match o.guard with | some (g, _) => ((ops[g]?).bind (·.dst)).toList | none => []) := rfl
theorem RelO.subT {g : Gh} {v : Nat} {a : List Bnd} {tmps : Array Value} {ts us : List Nat} (h : RelO g v a tmps ts) (hs : ∀ t, t ∈ us → t ∈ ts) : RelO g v a tmps us := fun t ht => h t (hs t ht)
theorem cOper_ok {E : Env} {fn : Nat} (hE : ∀ t, TIok P t (E.ti t)) (hX : ExtOK P E) (hcf : CallOK P cf) (hr : (cOper E fn ops none o).run cf r0 q v a H kk = true) :
    OprOK P ops (cOper E fn ops none o) cf r0 q v a H o := by
  unfold cOper at hr ⊢
  cases hg : o.guard with
  | none =>
    rw [hg] at hr
    obtain ⟨c, xs, q', v', a', H', h1, h2, h3⟩ := cOp_ok hE hX hcf hr
    refine ⟨c, xs, q', v', a', H', h1, h2, fun g w act hO hH Q => ?_⟩
    unfold wpO
    rw [if_pos (by unfold Region.wanted; rw [hg])]
    exact h3 g w act (hO.subT fun t ht => by rw [looksAt_eq]; exact List.mem_append_left _ ht) hH trivial Q
  | some jw =>
    obtain ⟨j, want⟩ := jw
    rw [hg] at hr
    cases hd : (ops[j]?).bind (·.dst) with
    | none =>
      simp only [hd] at hr
      exact (Bool.false_ne_true hr).elim
    | some d =>
      simp only [hd] at hr ⊢
      have e : ∀ k, (cGuard (cPt o.dst) d (cB want) (cOp E fn none o)).run cf r0 q v a H k = bB (Nat.beq (gF (shOf d) v) (cB want)) ((cOp E fn none o).run cf r0 q v a H k)
          (bB (Nat.beq (tag (gF (shOf d) v)) 9) ((cPt o.dst).pg 15 [] q v a H k) (z0 (gF (shOf d) v) (look d a fun c _ => bB (Nat.beq c 15) ((cPt o.dst).pg 15 [] q v a H k) false) false)) := fun k => by
        unfold cGuard
        rw [fN_eq, fN_eq]
        show (fN (gF (shOf d) v) fun x => bB (Nat.beq x (cB want)) ((cOp E fn none o).run cf r0 q v a H k)
          (bB (Nat.beq (tag x) 9) ((cPt o.dst).pg 15 [] q v a H k) (z0 x (look d a fun c _ => bB (Nat.beq c 15) ((cPt o.dst).pg 15 [] q v a H k) false) false))) = _
        rw [fN_eq]
      rw [e] at hr
      have hy : ∀ act : Act, yielded ops act.tmps j = match act.tmps[d]? with | some (.bool b) => some b | _ => none := fun act => by
        unfold yielded
        rw [hd]
        rfl
      have hmem : d ∈ o.looksAt ops := by rw [looksAt_eq, hg]; exact List.mem_append_right _ (by show d ∈ ((ops[j]?).bind (·.dst)).toList; rw [hd]; simp)
      obtain ⟨q1, v1, a1, hp1, hp2⟩ := pg_put o.dst 15 [] q v a H
      rcases bB_or.1 hr with ⟨h1, hr1⟩ | ⟨h1, hr1⟩
      · obtain ⟨c, xs, q', v', a', H', g1, g2, g3⟩ := cOp_ok hE hX hcf hr1
        refine ⟨c, xs, q', v', a', H', fun k => by rw [e, h1, bB_t, g1], g2, fun g w act hO hH Q => ?_⟩
        have hne : gF (shOf d) v ≠ 0 := by rw [beq_t h1]; cases want <;> decide
        obtain ⟨x, hx, hxr⟩ := hO d hmem (gF (shOf d) v) [] (by unfold rdA; rw [if_neg hne])
        rw [beq_t h1] at hxr
        have hxb : x = .bool want := by
          obtain ⟨b, hb, hcb⟩ := ((hxr.val (by cases want <;> decide)).scalar (by cases want <;> decide)).boolOf (by cases want <;> decide)
          rw [hb]
          cases b <;> cases want <;> first | rfl | (exact absurd hcb (by decide))
        unfold wpO
        rw [if_pos (by unfold Region.wanted; rw [hg]; show (yielded ops act.tmps j == some want) = true; rw [hy, hx, hxb]; cases want <;> rfl)]
        exact g3 g w act (hO.subT fun t ht => by rw [looksAt_eq]; exact List.mem_append_left _ ht) hH trivial Q
      · have hno : ∀ g w (act : Act), RelO g v a act.tmps (o.looksAt ops) → (∀ x, act.tmps[d]? = some x → x ≠ .bool want) → RelH g H w → ∀ Q,
            wpO P ops Q o (fun act' w' => ∃ x g', act' = act.put o.dst x ∧ RelA g' 15 [] x ∧ St g H w g' H w') act w := fun g w act hO hx hH Q => by
          unfold wpO
          rw [if_neg]
          · exact ⟨undef, g, rfl, .undef g, .refl hH⟩
          · intro hw
            unfold Region.wanted at hw
            rw [hg] at hw
            have hw : (yielded ops act.tmps j == some want) = true := hw
            rw [hy] at hw
            split at hw
            · rename_i b hb
              have : b = want := by simpa using hw
              exact hx _ hb (by rw [this])
            · simp at hw
        rcases bB_or.1 hr1 with ⟨h2, hr2⟩ | ⟨h2, hr2⟩
        · refine ⟨15, [], q1, v1, a1, H, fun k => by rw [e, h1, bB_f, h2, bB_t, hp1], hp2, fun g w act hO hH Q => hno g w act hO (fun x hx hxb => ?_) hH Q⟩
          have hne : gF (shOf d) v ≠ 0 := fun h0 => by rw [h0] at h2; exact absurd h2 (by decide)
          obtain ⟨y, hy1, hyr⟩ := hO d hmem (gF (shOf d) v) [] (by unfold rdA; rw [if_neg hne])
          rw [hx] at hy1
          cases hy1
          subst hxb
          have h9 := beq_t h2
          obtain ⟨b, hb, hcb⟩ := ((hyr.val (fun e15 => by rw [e15] at h9; exact absurd h9 (by decide))).scalar (by omega)).boolOf h9
          cases hb
          rw [hcb] at h1
          exact absurd (Nat.beq_refl (cB want)) (by rw [h1]; decide)
        · obtain ⟨h3, hr3⟩ := z0_and.1 hr2
          rw [look_eq] at hr3
          cases hl : lookA d a with
          | none => rw [hl] at hr3; cases hr3
          | some cx =>
            obtain ⟨c, xs⟩ := cx
            rw [hl] at hr3
            obtain ⟨h15, _⟩ := bB_and.1 hr3
            refine ⟨15, [], q1, v1, a1, H, fun k => ?_, hp2, fun g w act hO hH Q => hno g w act hO (fun x hx hxb => ?_) hH Q⟩
            · rw [e, h1, bB_f, h2, bB_f, h3, z0_0, look_eq, hl]
              show bB (Nat.beq c 15) _ false = _
              rw [h15, bB_t, hp1]
            · obtain ⟨y, hy1, hyr⟩ := hO d hmem c xs (by unfold rdA; rw [if_pos h3, hl])
              rw [hx] at hy1
              cases hy1
              subst hxb
              rcases hyr with ⟨_, vs, hv, _⟩ | ⟨_, hv⟩
              · cases hv
              · exact hv.ne15 (beq_t h15)
end
end Go.Proofs.YgvajwGreat.Ev
