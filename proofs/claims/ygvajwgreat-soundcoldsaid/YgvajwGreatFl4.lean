import Derived.Test.YgvajwGreatFl3
namespace Go.Proofs.YgvajwGreat.Ev
section
variable {P : Program} {ops : Array Oper} {E : Env}
variable {N r0 : Nat} {V : Nat → Nat} {A : Nat → List Bnd} {Hh : Nat → Hp} {C : Nat → Nat} {X : Nat → List Nat} {Bf : Nat → Option Blk} {ds : List Deferred} {H0 : Hp} {g0 : Gh} {w0 : World}
  {listed : Array Bool} {act : Act} {w : World} {g : Gh} {m : Nat}
theorem InvD.all (hG : goodR E ops = true) (I : InvD P E ops N r0 V A Hh C X Bf ds H0 g0 w0 listed act w g m) (hr : Region.ready .any ops listed = []) : ∀ i, i < ops.size → listed.getD i false = true := by
  intro i
  induction i using Nat.strongRecOn with
  | ind i ih =>
    intro hi
    cases hl : listed.getD i false with
    | true => rfl
    | false =>
      exfalso
      have ho : ops[i]? = some ops[i] := by simp [hi]
      have : i ∈ Region.ready .any ops listed := mem_ready.2 ⟨by
        have hlt : i < listed.size := by rw [I.size]; exact hi
        simp [hlt] at hl ⊢
        exact hl, ops[i], ho, fun e he hb => by
          have := (goodR_spec hG i _ ho).1 e he hb
          exact ih e.on this (by omega)⟩
      rw [hr] at this
      cases this
theorem InvD.final (hF : ∀ j o, ops[j]? = some o → FactD P E ops r0 V A Hh C X Bf j o) (I : InvD P E ops N r0 V A Hh C X Bf ds H0 g0 w0 listed act w g m) (hall : ∀ i, i < ops.size → listed.getD i false = true) :
    RelR g (V ops.size) (A ops.size) act.tmps ∧ act.tmps.size = N ∧ act.defers = ds ∧ St g0 H0 w0 g (Hh ops.size) w := by
  refine ⟨fun t c xs hc => ?_, I.len, I.defs, ?_⟩
  · rcases regs_at (fun j o h => (hF j o h).put) t ops.size (Nat.le_refl _) with ⟨k, o', h1, h2, h3, h4⟩ | ⟨h1, h2⟩
    · rw [h4] at hc; cases hc
      exact I.done k o' t h2 h3 (hall k h1)
    · rw [h2] at hc
      exact I.old t (fun k o' hk hd => absurd hd (h1 k o' (Array.getElem?_eq_some_iff.1 hk).1 hk)) c xs hc
  · obtain ⟨d, hd⟩ := Nat.exists_eq_add_of_le I.mle
    rw [hd]
    refine I.stGrow hF d (by omega) fun k o' h1 h2 hk => ⟨fun hk2 => ?_, fun _ => hall k (by omega)⟩
    have := (I.eff k o' hk hk2).1 (hall k (by omega))
    omega
theorem anyD_ok (hG : goodR E ops = true) (hF : ∀ j o, ops[j]? = some o → FactD P E ops r0 V A Hh C X Bf j o) (hN : ∀ (i : Nat) o, ops[i]? = some o → wfOper N o = true) (hr0 : H0.uid = r0) (hr1 : r0 ≠ 0)
    (hRd : ∀ (j : Nat) o, ops[j]? = some o → kl E o.op = 1 → ∀ m, (m = 0 ∨ ∃ k o', m = k + 1 ∧ ops[k]? = some o' ∧ kl E o'.op = 2) →
      (∀ (k : Nat) o', ops[k]? = some o' → kl E o'.op = 2 → (ancB ops ops.size k j = true → k < m) ∧ (ancB ops ops.size j k = true → m ≤ k)) → OprSem P ops (V ops.size) (A ops.size) (Hh m) o (C j) (X j) (Hh m))
    {Q : Exit → Act → World → Prop}
    (hQ : ∀ act w g, RelR g (V ops.size) (A ops.size) act.tmps → act.tmps.size = N → act.defers = ds → St g0 H0 w0 g (Hh ops.size) w → Q .normal act w) :
    ∀ (fuel : Nat) (listed : Array Bool) (act : Act) (w : World) (g : Gh) (m : Nat), InvD P E ops N r0 V A Hh C X Bf ds H0 g0 w0 listed act w g m →
      (List.range ops.size).countP (fun i => !listed.getD i false) ≤ fuel → wpAny P .any ops Q fuel listed act w
  | 0, listed, act, w, g, m, I, hc => by
    have hall : ∀ i, i < ops.size → listed.getD i false = true := fun i hi => by
      have := List.countP_eq_zero.1 (Nat.le_zero.1 hc) i (List.mem_range.2 hi)
      simpa using this
    have hr : Region.ready .any ops listed = [] := by
      apply List.eq_nil_iff_forall_not_mem.2
      intro i hi
      obtain ⟨hun, o, ho, _⟩ := mem_ready.1 hi
      have hlt : i < ops.size := (Array.getElem?_eq_some_iff.1 ho).1
      have h1 := hall i hlt
      have hltL : i < listed.size := by rw [I.size]; exact hlt
      simp [hltL] at hun h1
      rw [hun] at h1; cases h1
    obtain ⟨h1, h2, h3, h4⟩ := I.final hF hall
    exact ⟨hr, hQ act w g h1 h2 h3 h4⟩
  | fuel + 1, listed, act, w, g, m, I, hc => by
    refine ⟨fun hr => ?_, fun i hi => ?_⟩
    · obtain ⟨h1, h2, h3, h4⟩ := I.final hF (I.all hG hr)
      exact hQ act w g h1 h2 h3 h4
    · refine I.step hG hF hN hr0 hr1 hRd hi fun act' w' g' m' I' => anyD_ok hG hF hN hr0 hr1 hRd hQ fuel _ act' w' g' m' I' ?_
      obtain ⟨hun, o, ho, _⟩ := mem_ready.1 hi
      have hlt : i < ops.size := (Array.getElem?_eq_some_iff.1 ho).1
      have hltL : i < listed.size := by rw [I.size]; exact hlt
      have := countP_lt (p := fun i => !listed.getD i false) (p' := fun j => !(listed.setIfInBounds i true).getD j false) (List.range ops.size) (fun j hj => by
          rw [getD_set _ _ _ hltL] at hj
          by_cases hji : j = i
          · rw [if_pos hji] at hj; cases hj
          · rw [if_neg hji] at hj; exact hj) i (List.mem_range.2 hlt) (by simp [hltL] at hun ⊢; exact hun) (by rw [getD_set _ _ _ hltL, if_pos rfl]; rfl)
      omega
/-! what is looked at again -/
theorem heapAt_inv {m : Nat} {k : Hp → Bool} : ∀ hs : List (Nat × Hp), heapAt m hs k = true → ∃ H, (m, H) ∈ hs ∧ k H = true
  | [], h => (Bool.false_ne_true h).elim
  | (m', H) :: hs, h => by
    have h : bB (Nat.beq m' m) (k H) (heapAt m hs k) = true := h
    rcases bB_or.1 h with ⟨h1, h2⟩ | ⟨_, h2⟩
    · exact ⟨H, by rw [← beq_t h1]; exact List.mem_cons_self .., h2⟩
    · obtain ⟨H', h3, h4⟩ := heapAt_inv hs h2
      exact ⟨H', List.mem_cons_of_mem _ h3, h4⟩
theorem again_inv {fn : Nat} {cf : CallF} {q v : Nat} {a : List Bnd} {hs : List (Nat × Hp)} : ∀ (L : List (Nat × Nat)) (l : List Ag), mkAg E fn ops L = some l → again cf r0 q v a hs l = true → ∀ j m, (j, m) ∈ L →
    ∃ o d H, ops[j]? = some o ∧ o.dst = some d ∧ (m, H) ∈ hs ∧ ((cOper E fn ops none o).run cf r0 q v a H fun _ v' a' _ => sameReg d v a v' a') = true
  | [], l, _, _, j, m, h => by cases h
  | (j', m') :: L, l, hm, hr, j, m, h => by
    have hm : (match ops[j']?, mkAg E fn ops L with
      | some o, some r => (match o.dst with | some d => some (⟨m', d, cOper E fn ops none o⟩ :: r) | none => none)
      | _, _ => none) = some l := hm
    cases ho : ops[j']? with
    | none => rw [ho] at hm; cases hm
    | some o =>
      cases hL : mkAg E fn ops L with
      | none => rw [ho, hL] at hm; cases hm
      | some r =>
        rw [ho, hL] at hm
        cases hd : o.dst with
        | none => simp only [hd] at hm; cases hm
        | some d =>
          simp only [hd, Option.some.injEq] at hm
          subst hm
          have hr : (heapAt m' hs fun H => bB ((cOper E fn ops none o).run cf r0 q v a H fun _ v' a' _ => sameReg d v a v' a') (again cf r0 q v a hs r) false) = true := hr
          obtain ⟨H, h1, h2⟩ := heapAt_inv hs hr
          obtain ⟨h3, h4⟩ := bB_and.1 h2
          rcases List.mem_cons.1 h with h | h
          · cases h
            exact ⟨o, d, H, ho, hd, h1, h3⟩
          · exact again_inv L r hL h4 j m h
theorem sameReg_inv {d v v' : Nat} {a a' : List Bnd} (h : sameReg d v a v' a' = true) : rdA v a d = rdA v' a' d := by
  unfold sameReg at h
  obtain ⟨h1, h2⟩ := bB_and.1 h
  have e := beq_t h1
  unfold rdA
  rw [← e]
  rcases z0_or.1 h2 with ⟨h3, h4⟩ | ⟨h3, _⟩
  · rw [if_pos h3, if_pos h3]
    rw [look_eq] at h4
    cases hl : lookA d a with
    | none => rw [hl] at h4; cases h4
    | some cx =>
      obtain ⟨c, xs⟩ := cx
      rw [hl] at h4
      dsimp only at h4
      rw [look_eq] at h4
      cases hl' : lookA d a' with
      | none => rw [hl'] at h4; cases h4
      | some cx' =>
        obtain ⟨c', xs'⟩ := cx'
        rw [hl'] at h4
        dsimp only at h4
        obtain ⟨h5, h6⟩ := bB_and.1 h4
        have := beq_t h5
        subst this
        cases xs with
        | nil =>
          cases xs' with
          | nil => rfl
          | cons _ _ => cases h6
        | cons _ _ => cases h6
  · rw [if_neg h3, if_neg h3]
theorem klAt_eq {i : Nat} {o : Oper} (h : ops[i]? = some o) : klAt E ops i = kl E o.op := by unfold klAt; rw [h]
theorem mem_againL {j m : Nat} {o : Oper} (ho : ops[j]? = some o) (hk : kl E o.op = 1) (hm : m = 0 ∨ ∃ k o', m = k + 1 ∧ ops[k]? = some o' ∧ kl E o'.op = 2)
    (hs : ∀ (k : Nat) o', ops[k]? = some o' → kl E o'.op = 2 → (ancB ops ops.size k j = true → k < m) ∧ (ancB ops ops.size j k = true → m ≤ k)) : (j, m) ∈ againL E ops := by
  unfold againL
  refine List.mem_flatMap.2 ⟨j, List.mem_filter.2 ⟨List.mem_range.2 (Array.getElem?_eq_some_iff.1 ho).1, by rw [klAt_eq ho, hk]; rfl⟩, List.mem_map.2 ⟨m, List.mem_filter.2 ⟨?_, ?_⟩, rfl⟩⟩
  · unfold marks
    rcases hm with rfl | ⟨k, o', rfl, h1, h2⟩
    · exact List.mem_cons_self ..
    · exact List.mem_cons_of_mem _ (List.mem_map.2 ⟨k, List.mem_filter.2 ⟨List.mem_range.2 (Array.getElem?_eq_some_iff.1 h1).1, by rw [klAt_eq h1, h2]; rfl⟩, rfl⟩)
  · unfold sees
    refine List.all_eq_true.2 fun k hk' => ?_
    have hlt := List.mem_range.1 hk'
    have hko : ops[k]? = some ops[k] := by simp [hlt]
    rw [klAt_eq hko]
    by_cases h2 : kl E ops[k].op = 2
    · obtain ⟨s1, s2⟩ := hs k _ hko h2
      rw [h2]
      have e1 : (!(Nat.beq 2 2) || ((!(ancB ops ops.size k j) || Nat.ble (k + 1) m) && (!(ancB ops ops.size j k) || Nat.ble m k))) = true := by
        have a1 : (!(ancB ops ops.size k j) || Nat.ble (k + 1) m) = true := by
          cases h : ancB ops ops.size k j with
          | false => rfl
          | true => rw [Nat.ble_eq_true_of_le (s1 h)]; rfl
        have a2 : (!(ancB ops ops.size j k) || Nat.ble m k) = true := by
          cases h : ancB ops ops.size j k with
          | false => rfl
          | true => rw [Nat.ble_eq_true_of_le (s2 h)]; rfl
        rw [a1, a2]; rfl
      exact e1
    · rw [nbeq h2]; rfl
end
end Go.Proofs.YgvajwGreat.Ev
