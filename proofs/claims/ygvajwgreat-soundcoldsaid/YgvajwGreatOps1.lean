import Derived.Test.YgvajwGreatHeap
namespace Go.Proofs.YgvajwGreat.Ev
/-! operands -/
/-- the slots' values that are looked at stand for what the registers say -/
def RelO (g : Gh) (v : Nat) (a : List Bnd) (tmps : Array Value) (ts : List Nat) : Prop :=
  ∀ t, t ∈ ts → ∀ c xs, rdA v a t = some (c, xs) → ∃ x, tmps[t]? = some x ∧ RelA g c xs x
theorem RelO.mono {g g' : Gh} (h : Ext g g') {v : Nat} {a : List Bnd} {tmps : Array Value} {ts : List Nat} (hr : RelO g v a tmps ts) : RelO g' v a tmps ts :=
  fun t ht c xs hc => by obtain ⟨x, h1, h2⟩ := hr t ht c xs hc; exact ⟨x, h1, h2.mono h⟩
theorem RelR.relO {g : Gh} {v : Nat} {a : List Bnd} {tmps : Array Value} (h : RelR g v a tmps) (ts : List Nat) : RelO g v a tmps ts := fun t _ c xs hc => h t c xs hc
def tmpsOf (xs : List Operand) : List Nat := xs.filterMap fun | .tmp t => some t | _ => none
theorem tmpsOf_cons (x : Operand) (xs : List Operand) : tmpsOf (x :: xs) = tmpsOf [x] ++ tmpsOf xs := by cases x <;> rfl
theorem RelO.left {g : Gh} {v : Nat} {a : List Bnd} {tmps : Array Value} {x : Operand} {xs : List Operand} (h : RelO g v a tmps (tmpsOf (x :: xs))) : RelO g v a tmps (tmpsOf [x]) :=
  fun t ht => h t (by rw [tmpsOf_cons]; exact List.mem_append_left _ ht)
theorem RelO.right {g : Gh} {v : Nat} {a : List Bnd} {tmps : Array Value} {x : Operand} {xs : List Operand} (h : RelO g v a tmps (tmpsOf (x :: xs))) : RelO g v a tmps (tmpsOf xs) :=
  fun t ht => h t (by rw [tmpsOf_cons]; exact List.mem_append_right _ ht)

/-! constants -/
theorem encS_rel {u : Value} (h : encS u ≠ 0) (g : Gh) : RelC g (encS u) u := by
  cases u with
  | int k n => exact isI_encI h
  | bool b => rfl
  | pointer a =>
    cases a with
    | none => rfl
    | some a => exact absurd rfl h
  | slice a n m =>
    cases a with
    | none =>
      cases n with
      | zero =>
        cases m with
        | zero => exact ⟨rfl, rfl, rfl⟩
        | succ m => exact absurd rfl h
      | succ n => exact absurd rfl h
    | some a => exact absurd rfl h
  | _ => exact absurd rfl h
theorem encS_lt (u : Value) : encS u < 2 ^ 128 := by
  by_cases h : encS u = 0
  · rw [h]; decide
  · have hr := encS_rel h (fun _ => none)
    refine hr.lt ?_
    intro h14
    rcases hr.tag_cases with ⟨k, n, _, h', _⟩ | ⟨b, _, _, h'⟩ | ⟨_, h'⟩ | ⟨a, _, h'⟩ | ⟨_, h'⟩ | ⟨a, n, m, _, h'⟩ | ⟨b, h', _⟩
    · have := kTag_pos k; omega
    · omega
    · rw [h'] at h14; exact absurd h14 (by decide)
    · omega
    · rw [h'] at h14; exact absurd h14 (by decide)
    · omega
    · subst h'; exact h rfl
theorem packL_lt : ∀ vs : List Value, packL vs < 2 ^ (128 * vs.length)
  | [] => by show 0 < 2 ^ (128 * 0); decide
  | v :: vs => by
    have h := add_shl_lt (m := 1) (n := vs.length) (by simpa using encS_lt v) (packL_lt vs)
    rw [show (v :: vs).length = 1 + vs.length by simp [Nat.add_comm]]
    exact h
theorem cell_packL : ∀ (vs : List Value) (i : Nat) (v : Value), vs[i]? = some v → cell (packL vs) i = encS v
  | [], i, v, h => by simp at h
  | u :: vs, i, v, h => by
    have e : packL (u :: vs) = encS u + packL vs <<< (128 * 1) := rfl
    rw [e, cell_add_shl (by simpa using encS_lt u)]
    cases i with
    | zero =>
      simp at h; subst h
      rw [if_pos (by decide), cell0_of_lt (encS_lt u)]
    | succ i =>
      simp at h
      rw [if_neg (by omega), show i + 1 - 1 = i by omega]
      exact cell_packL vs i v h
theorem encV_s {u : Value} (h : ∀ cs, u ≠ .agg cs) : encV u = encS u := by
  cases u with
  | agg cs => exact absurd rfl (h cs)
  | _ => rfl
theorem encV_rel {u : Value} (h : encV u ≠ 0) (g : Gh) : RelV g (encV u) u := by
  by_cases hu : ∀ cs, u ≠ .agg cs
  · rw [encV_s hu] at h ⊢
    exact .inl (encS_rel h g)
  · have : ∃ cs, u = .agg cs := by
      cases u with
      | agg cs => exact ⟨cs, rfl⟩
      | _ => exact absurd (fun cs e => by cases e) hu
    obtain ⟨cs, rfl⟩ := this
    have e : encV (.agg cs) = bB (cs.toList.all fun v => Nat.ble 1 (encS v)) (cAgg cs.toList.length (packL cs.toList)) 0 := rfl
    rw [e] at h ⊢
    cases hb : cs.toList.all fun v => Nat.ble 1 (encS v) with
    | false => rw [hb] at h; exact absurd rfl h
    | true =>
      rw [bB_t]
      refine .inr ⟨_, _, cs, rfl, packL_lt _, rfl, by simp, fun i v hv => ?_⟩
      rw [cell_packL cs.toList i v (by simpa using hv)]
      have := List.all_eq_true.1 hb v (by simpa using Array.mem_of_getElem? hv)
      exact encS_rel (by have := ble_t this; omega) g

theorem encV_lt {u : Value} (h : tag (encV u) ≠ 0) : encV u < 2 ^ 128 := by
  by_cases hu : ∀ cs, u ≠ .agg cs
  · rw [encV_s hu]; exact encS_lt u
  · have : ∃ cs, u = .agg cs := by
      cases u with
      | agg cs => exact ⟨cs, rfl⟩
      | _ => exact absurd (fun cs e => by cases e) hu
    obtain ⟨cs, rfl⟩ := this
    exfalso
    apply h
    have e : encV (.agg cs) = bB (cs.toList.all fun v => Nat.ble 1 (encS v)) (cAgg cs.toList.length (packL cs.toList)) 0 := rfl
    rw [e]
    cases cs.toList.all fun v => Nat.ble 1 (encS v)
    · rw [bB_f]; rfl
    · rw [bB_t, tag_cAgg]
theorem gF_lt (t v : Nat) : gF (shOf t) v < 2 ^ 128 := by rw [gF_eq]; exact cell_lt _ _
/-- what an operand's code stands for -/
theorem get_inv {x : Operand} {v : Nat} {a : List Bnd} {k : Nat → Bool} (h : (cOv x).get v a k = true) :
    ∃ c xs, (∀ k', (cOv x).get v a k' = k' c) ∧ k c = true ∧ (∀ g (act : Act), RelO g v a act.tmps (tmpsOf [x]) → RelA g c xs (act.eval x)) ∧ (tag c ≠ 0 → tag c < 14 → c < 2 ^ 128) := by
  cases x with
  | tmp t =>
    have e : ∀ k', (cOv (.tmp t)).get v a k' = z0 (gF (shOf t) v) (look t a fun c _ => z0 c false (z0 (tag c) (k' c) (bB (Nat.ble 14 (tag c)) (k' c) false))) (k' (gF (shOf t) v)) := fun _ => rfl
    have hev : ∀ g (act : Act) c xs, rdA v a t = some (c, xs) → RelO g v a act.tmps (tmpsOf [.tmp t]) → RelA g c xs (act.eval (.tmp t)) := fun g act c xs hr ho => by
      obtain ⟨x, h1, h2⟩ := ho t (by simp [tmpsOf]) c xs hr
      have : act.eval (.tmp t) = x := by simp [Act.eval, h1]
      rw [this]; exact h2
    rw [e, z0_or] at h
    rcases h with ⟨h0, h⟩ | ⟨h0, h⟩
    · rw [look_eq] at h
      cases hl : lookA t a with
      | none => rw [hl] at h; cases h
      | some cx =>
        obtain ⟨c, xs⟩ := cx
        rw [hl] at h
        obtain ⟨hc, hk⟩ := z0_nand.1 h
        obtain ⟨m, hm⟩ := Nat.exists_eq_succ_of_ne_zero hc
        have hsem : ∀ g (act : Act), RelO g v a act.tmps (tmpsOf [.tmp t]) → RelA g c xs (act.eval (.tmp t)) := fun g act ho => hev g act c xs (by unfold rdA; rw [if_pos h0, hl]) ho
        have e' : ∀ k', (cOv (.tmp t)).get v a k' = z0 (tag c) (k' c) (bB (Nat.ble 14 (tag c)) (k' c) false) := fun k' => by
          rw [e, h0, z0_0, look_eq, hl]
          show z0 c false _ = _
          rw [hm]; rfl
        rcases z0_or.1 hk with ⟨ht, hk⟩ | ⟨ht, hk⟩
        · exact ⟨c, xs, fun k' => by rw [e', ht, z0_0], hk, hsem, fun h => absurd ht h⟩
        · obtain ⟨hb, hk⟩ := bB_and.1 hk
          refine ⟨c, xs, fun k' => ?_, hk, hsem, fun _ h => by have := ble_t hb; omega⟩
          rw [e', hb, bB_t]
          obtain ⟨m, hm⟩ := Nat.exists_eq_succ_of_ne_zero ht
          rw [hm]; rfl
    · refine ⟨_, [], fun k' => ?_, h, fun g act ho => hev g act _ [] (by unfold rdA; rw [if_neg h0]) ho, fun _ _ => gF_lt t v⟩
      rw [e]
      obtain ⟨m, hm⟩ := Nat.exists_eq_succ_of_ne_zero h0
      rw [hm]; rfl
  | const u =>
    have e : cOv (.const u) = z0 (encV u) ⟨fun _ _ _ => false⟩ ⟨fun _ _ k => k (encV u)⟩ := rfl
    cases hc : encV u with
    | zero => rw [e, hc] at h; cases h
    | succ m =>
      have hne : encV u ≠ 0 := by omega
      have e' : ∀ k', (cOv (.const u)).get v a k' = k' (encV u) := fun k' => by rw [e, hc]; rfl
      rw [e'] at h
      exact ⟨encV u, [], e', h, fun g act _ => .inr ⟨rfl, encV_rel hne g⟩, fun h _ => encV_lt h⟩
  | global g => cases h
  | func f => cases h

/-! results -/
/-- slot d now holds (c, xs) -/
def RegPut (d : Option Nat) (c : Nat) (xs : List Nat) (v : Nat) (a : List Bnd) (v' : Nat) (a' : List Bnd) : Prop :=
  match d with
  | none => v' = v ∧ a' = a
  | some t => ∀ t', rdA v' a' t' = if t' = t then some (c, xs) else rdA v a t'
theorem ps_put (d : Option Nat) (c q v : Nat) (a : List Bnd) (H : Hp) (h0 : c ≠ 0) (hlt : c < 2 ^ 128) :
    ∃ q' v' a', (∀ k, (cPt d).ps c q v a H k = k q' v' a' H) ∧ RegPut d c [] v a v' a' := by
  cases d with
  | none => exact ⟨q, v, a, fun _ => rfl, rfl, rfl⟩
  | some t =>
    refine ⟨q + 1, setF (q + 1) (shOf t) v c, a, fun _ => rfl, fun t' => ?_⟩
    unfold rdA
    rw [gF_setF hlt]
    by_cases h : t' = t
    · rw [if_pos h, if_pos h, if_neg h0]
    · rw [if_neg h, if_neg h]
theorem pg_put (d : Option Nat) (c : Nat) (xs : List Nat) (q v : Nat) (a : List Bnd) (H : Hp) :
    ∃ q' v' a', (∀ k, (cPt d).pg c xs q v a H k = k q' v' a' H) ∧ RegPut d c xs v a v' a' := by
  cases d with
  | none => exact ⟨q, v, a, fun _ => rfl, rfl, rfl⟩
  | some t =>
    refine ⟨q + 1, setF (q + 1) (shOf t) v 0, ⟨t, c, xs⟩ :: a, fun _ => rfl, fun t' => ?_⟩
    unfold rdA
    rw [gF_setF (by decide)]
    by_cases h : t' = t
    · subst h; rw [if_pos rfl, if_pos rfl, if_pos rfl]; exact if_pos rfl
    · rw [if_neg h, if_neg h]
      have : lookA t' (⟨t, c, xs⟩ :: a) = lookA t' a := if_neg (Ne.symm h)
      rw [this]
theorem pc_put (d : Option Nat) (c q v : Nat) (a : List Bnd) (H : Hp) :
    ∃ q' v' a', (∀ k, (cPt d).pc c q v a H k = k q' v' a' H) ∧ RegPut d c [] v a v' a' := by
  have e : ∀ k, (cPt d).pc c q v a H k = z0 (tag c) ((cPt d).pg c [] q v a H k) (bB (Nat.ble c 340282366920938463463374607431768211455) ((cPt d).ps c q v a H k) ((cPt d).pg c [] q v a H k)) := fun _ => rfl
  obtain ⟨q1, v1, a1, h1, h2⟩ := pg_put d c [] q v a H
  by_cases h0 : tag c = 0
  · exact ⟨q1, v1, a1, fun k => by rw [e, h0, z0_0, h1], h2⟩
  · obtain ⟨m, hm⟩ := Nat.exists_eq_succ_of_ne_zero h0
    cases hb : Nat.ble c 340282366920938463463374607431768211455 with
    | true =>
      obtain ⟨q', v', a', h3, h4⟩ := ps_put d c q v a H (fun e => h0 (by rw [e]; rfl)) (by have := ble_t hb; omega)
      exact ⟨q', v', a', fun k => by rw [e, hm, z0_s, hb, bB_t, h3], h4⟩
    | false => exact ⟨q1, v1, a1, fun k => by rw [e, hm, z0_s, hb, bB_f, h1], h2⟩
/-- the slots behind a result -/
theorem RelR.put {g : Gh} {v v' : Nat} {a a' : List Bnd} {act : Act} {d : Option Nat} {c : Nat} {xs : List Nat} {x : Value} (hr : RelR g v a act.tmps)
    (hp : RegPut d c xs v a v' a') (hd : ∀ t, d = some t → t < act.tmps.size) (hx : RelA g c xs x) : RelR g v' a' (act.put d x).tmps := by
  cases d with
  | none => obtain ⟨rfl, rfl⟩ := hp; exact hr
  | some t =>
    intro t' c' xs' h
    rw [hp t'] at h
    by_cases e : t' = t
    · subst e
      rw [if_pos rfl] at h
      cases h
      exact ⟨x, by simp [Act.put, hd t' rfl], hx⟩
    · rw [if_neg e] at h
      obtain ⟨y, h1, h2⟩ := hr t' c' xs' h
      exact ⟨y, by simp only [Act.put]; rw [Array.getElem?_setIfInBounds_ne (Ne.symm e)]; exact h1, h2⟩

/-! what an operation owes -/
/-- the operation runs in the world as the closure says: result (c, xs), heap H' -/
def OpSem (P : Program) (_dr : Option Nat) (_r0 v : Nat) (a : List Bnd) (H : Hp) (o : Oper) (c : Nat) (xs : List Nat) (H' : Hp) : Prop :=
  ∀ g w (act : Act), RelO g v a act.tmps (tmpsOf o.op.operands.toList) → RelH g H w → True →
    ∀ Q, o.wp P act w (fun act' w' => ∃ x g', act' = act.put o.dst x ∧ RelA g' c xs x ∧ St g H w g' H' w') Q
def OpOK (P : Program) (cl : Cl) (cf : CallF) (dr : Option Nat) (r0 q v : Nat) (a : List Bnd) (H : Hp) (o : Oper) : Prop :=
  ∃ c xs q' v' a' H', (∀ k, cl.run cf r0 q v a H k = k q' v' a' H') ∧ RegPut o.dst c xs v a v' a' ∧ OpSem P dr r0 v a H o c xs H'
theorem wp_value {P : Program} {o : Oper} {act : Act} {w w' : World} {x : Value} {next : Act → World → Prop} {Q : Exit → Act → World → Prop}
    (h : (execOp act.eval o).run P w = .ok (.value x) w') (hn : next (act.put o.dst x) w') : o.wp P act w next Q := by
  unfold Oper.wp; rw [h]; exact hn
theorem wp_skip' {P : Program} {o : Oper} {act : Act} {w w' : World} {next : Act → World → Prop} {Q : Exit → Act → World → Prop}
    (h : (execOp act.eval o).run P w = .ok .skip w') (hn : next (act.put o.dst undef) w') : o.wp P act w next Q := by
  unfold Oper.wp; rw [h]; exact hn
/-- an operation that only reckons: a scalar -/
theorem pureS {P : Program} {cl : Cl} {cf : CallF} {dr : Option Nat} {r0 q v : Nat} {a : List Bnd} {H : Hp} {o : Oper} {c : Nat}
    (hrun : ∀ k, cl.run cf r0 q v a H k = (cPt o.dst).ps c q v a H k)
    (hsem : ∀ g w (act : Act), RelO g v a act.tmps (tmpsOf o.op.operands.toList) → RelH g H w → ∃ x, (execOp act.eval o).run P w = .ok (.value x) w ∧ RelC g c x)
    (hne : c ≠ 0) (hlt : c < 2 ^ 128) : OpOK P cl cf dr r0 q v a H o := by
  obtain ⟨q', v', a', h1, h2⟩ := ps_put o.dst c q v a H hne hlt
  refine ⟨c, [], q', v', a', H, fun k => by rw [hrun, h1], h2, fun g w act ho hH _ Q => ?_⟩
  obtain ⟨x, hx, hc⟩ := hsem g w act ho hH
  exact wp_value hx ⟨x, g, rfl, .inr ⟨rfl, .inl hc⟩, St.refl hH⟩
end Go.Proofs.YgvajwGreat.Ev
