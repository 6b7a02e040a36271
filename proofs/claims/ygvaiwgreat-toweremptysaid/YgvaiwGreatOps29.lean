import Derived.Test.YgvaiwGreatOps28
namespace Go.Proofs.YgvaiwGreat.Ev
section
variable {P : Program} {ops : Array Oper}
theorem wpO_mono {Q : Exit → Act → World → Prop} {o : Oper} {K K' : Act → World → Prop} {a : Act} {w : World} (h : ∀ a w, K a w → K' a w) (hh : wpO P ops Q o K a w) : wpO P ops Q o K' a w := by
  unfold wpO at *
  split
  · rename_i hw; rw [if_pos hw] at hh; exact Oper.wp_mono h hh
  · rename_i hw; rw [if_neg hw] at hh; exact h _ _ hh
theorem countP_lt {p p' : Nat → Bool} : ∀ (l : List Nat), (∀ i, p' i = true → p i = true) → ∀ i ∈ l, p i = true → p' i = false → l.countP p' < l.countP p
  | [], _, i, hi, _, _ => by cases hi
  | x :: l, h, i, hi, h1, h2 => by
    have hle : l.countP p' ≤ l.countP p := List.countP_mono_left fun x _ hx => h x hx
    rw [List.countP_cons, List.countP_cons]
    rcases List.mem_cons.1 hi with rfl | hi
    · rw [if_pos h1, if_neg (by rw [h2]; decide)]; omega
    · have := countP_lt l h i hi h1 h2
      by_cases hx : p' x = true
      · rw [if_pos hx, if_pos (h x hx)]; omega
      · rw [if_neg hx]; split <;> omega
/-- how things stand when these operations have come up -/
structure Inv (P : Program) (ops : Array Oper) (N : Nat) (V : Nat → Nat) (A : Nat → List Bnd) (Hh : Nat → Hp) (C : Nat → Nat) (X : Nat → List Nat) (ds : List Deferred) (g0 : Gh) (w0 : World)
    (listed : Array Bool) (act : Act) (w : World) (g : Gh) (m : Nat) : Prop where
  size : listed.size = ops.size
  closed : ∀ j, listed.getD j false = true → ∀ o, ops[j]? = some o → ∀ e ∈ o.after, Region.binds .any e = true → listed.getD e.on false = true
  mle : m ≤ ops.size
  eff : ∀ (i : Nat) o, ops[i]? = some o → kl o.op = 2 → (listed.getD i false = true ↔ i < m)
  st : St g0 (Hh 0) w0 g (Hh m) w
  done : ∀ (i : Nat) o t, ops[i]? = some o → o.dst = some t → listed.getD i false = true → ∃ x, act.tmps[t]? = some x ∧ RelA g (C i) (X i) x
  old : ∀ t, (∀ (i : Nat) o, ops[i]? = some o → o.dst ≠ some t) → ∀ c xs, rdA (V 0) (A 0) t = some (c, xs) → ∃ x, act.tmps[t]? = some x ∧ RelA g c xs x
  len : act.tmps.size = N
  defs : act.defers = ds
variable {N : Nat} {V : Nat → Nat} {A : Nat → List Bnd} {Hh : Nat → Hp} {C : Nat → Nat} {X : Nat → List Nat} {ds : List Deferred} {g0 : Gh} {w0 : World}
  {listed : Array Bool} {act : Act} {w : World} {g : Gh} {m : Nat}
theorem getD_set (listed : Array Bool) (i j : Nat) (hi : i < listed.size) : (listed.setIfInBounds i true).getD j false = if j = i then true else listed.getD j false := by
  by_cases h : j = i
  · subst h; rw [if_pos rfl]; simp [hi]
  · rw [if_neg h]; exact getD_set_ne false (Ne.symm h)
theorem put_get {act : Act} {d : Option Nat} {x : Value} {t : Nat} (h : d ≠ some t) : (act.put d x).tmps[t]? = act.tmps[t]? := by
  cases d with
  | none => rfl
  | some d => simp only [Act.put]; exact Array.getElem?_setIfInBounds_ne (fun e => h (by rw [e]))
theorem put_len {act : Act} {d : Option Nat} {x : Value} : (act.put d x).tmps.size = act.tmps.size := by cases d <;> simp [Act.put]
theorem put_defs {act : Act} {d : Option Nat} {x : Value} : (act.put d x).defers = act.defers := by cases d <;> rfl
theorem Inv.step (hG : goodR ops = true) (hF : ∀ j o, ops[j]? = some o → Fact P ops V A Hh C X j o) (hN : ∀ (i : Nat) o, ops[i]? = some o → wfOper N o = true)
    (I : Inv P ops N V A Hh C X ds g0 w0 listed act w g m) {i : Nat} (hi : i ∈ Region.ready .any ops listed) {Q : Exit → Act → World → Prop} {K : Act → World → Prop}
    (hK : ∀ act' w' g' m', Inv P ops N V A Hh C X ds g0 w0 (listed.setIfInBounds i true) act' w' g' m' → K act' w') : wpOp P ops Q i K act w := by
  obtain ⟨hun, o, ho, hall⟩ := mem_ready.1 hi
  have hlt : i < ops.size := (Array.getElem?_eq_some_iff.1 ho).1
  have hltL : i < listed.size := by rw [I.size]; exact hlt
  have hun' : listed.getD i false = false := by
    have h1 : listed[i]? = some listed[i] := by simp [hltL]
    simp [hltL] at hun ⊢
    exact hun
  have hEdge : ∀ o', ops[i]? = some o' → ∀ e ∈ o'.after, Region.binds .any e = true → listed.getD e.on false = true := fun o' ho' => by rw [ho] at ho'; cases ho'; exact hall
  have hS := goodR_spec hG
  obtain ⟨_, hself, hbefore⟩ := hS i o ho
  have hFi := hF i o ho
  -- what it looks at
  have hO : RelO g (V i) (A i) act.tmps (o.looksAt ops) := fun t ht c xs hc => by
    rcases regs_at hF t i (by omega) with ⟨k, o', h1, h2, h3, h4⟩ | ⟨h1, h2⟩
    · rw [h4] at hc
      cases hc
      refine I.done k o' t h2 h3 ?_
      obtain ⟨_, _, g3⟩ := hbefore k o' h1 h2
      rcases g3 with g3 | ⟨g3, _⟩
      · exact anc_listed I.closed _ _ _ g3 hEdge
      · rw [h3] at g3; exact absurd ht (reads_f g3)
    · rw [h2] at hc
      refine I.old t (fun k o' hk hd => ?_) c xs hc
      rcases Nat.lt_trichotomy k i with h | h | h
      · exact h1 k o' h hk hd
      · subst h; rw [ho] at hk; cases hk; rw [hd] at hself; exact reads_f hself ht
      · have := ((hS k o' hk).2.2 i o h ho).1
        rw [hd] at this
        exact reads_f this ht
  -- what stands behind it, whatever it has done
  have hDone : ∀ x g' w' m', m' ≤ ops.size → (∀ (k : Nat) o', ops[k]? = some o' → kl o'.op = 2 → ((listed.setIfInBounds i true).getD k false = true ↔ k < m')) → St g0 (Hh 0) w0 g' (Hh m') w' → Ext g g' →
      (∀ t, o.dst = some t → RelA g' (C i) (X i) x) → K (act.put o.dst x) w' := fun x g' w' m' hm' he hst hext hx => by
    refine hK _ _ g' m' ⟨by simp [I.size], fun j hj o' ho' e hin hb => ?_, hm', he, hst, fun k o' t hk hd hl => ?_, fun t ht c xs hc => ?_, by rw [put_len]; exact I.len, by rw [put_defs]; exact I.defs⟩
    · rw [getD_set _ _ _ hltL] at hj
      refine getD_set_true ?_
      by_cases hji : j = i
      · subst hji; exact hEdge o' ho' e hin hb
      · rw [if_neg hji] at hj; exact I.closed j hj o' ho' e hin hb
    · rw [getD_set _ _ _ hltL] at hl
      by_cases hki : k = i
      · subst hki
        rw [ho] at hk; cases hk
        refine ⟨x, ?_, hx t hd⟩
        have hwf := hN k o ho
        unfold wfOper at hwf
        rw [hd] at hwf
        have hlt' := ble_t hwf
        rw [hd]
        simp only [Act.put]
        have : t < act.tmps.size := by rw [I.len]; exact hlt'
        simp [this]
      · rw [if_neg hki] at hl
        obtain ⟨y, h1, h2⟩ := I.done k o' t hk hd hl
        refine ⟨y, ?_, h2.mono hext⟩
        rw [put_get]
        · exact h1
        · rcases Nat.lt_or_gt_of_ne hki with h | h
          · exact sameD_f (hbefore k o' h hk).2.1 hd
          · intro hdi
            exact sameD_f ((hS k o' hk).2.2 i o h ho).2.1 hdi hd
    · obtain ⟨y, h1, h2⟩ := I.old t ht c xs hc
      exact ⟨y, by rw [put_get (ht i o ho)]; exact h1, h2.mono hext⟩
  refine wpO_wpOp ho ?_
  by_cases hk0 : kl o.op = 0
  · obtain ⟨c, xs, hc, hsem⟩ := hFi.pure hk0 (Hh m)
    refine wpO_mono (fun act' w' h => ?_) (hsem g w act hO I.st.rel Q)
    obtain ⟨x, g', rfl, hx, hst⟩ := h
    refine hDone x g' w' m I.mle (fun k o' hk hk2 => ?_) (I.st.trans hst) hst.ext (fun t ht => by obtain ⟨rfl, rfl⟩ := hc t ht; exact hx)
    rw [getD_set _ _ _ hltL, if_neg (fun e => by subst e; rw [ho] at hk; cases hk; omega)]
    exact I.eff k o' hk hk2
  · -- no writer between m and i
    have hA : ∀ (k : Nat) o', ops[k]? = some o' → kl o'.op = 2 → k < i → k < m := fun k o' hk hk2 hki => by
      obtain ⟨_, _, g3⟩ := hbefore k o' hki hk
      rcases g3 with g3 | ⟨_, g3⟩
      · exact (I.eff k o' hk hk2).1 (anc_listed I.closed _ _ _ g3 hEdge)
      · omega
    have hB : ∀ (k : Nat) o', ops[k]? = some o' → kl o'.op = 2 → i < k → ¬ k < m := fun k o' hk hk2 hki hkm => by
      obtain ⟨_, _, g3⟩ := (hS k o' hk).2.2 i o hki ho
      rcases g3 with g3 | ⟨_, g3⟩
      · have := anc_listed I.closed _ _ _ g3 (fun o2 ho2 => I.closed k ((I.eff k o' hk hk2).2 hkm) o2 ho2)
        rw [hun'] at this; cases this
      · omega
    have hC : kl o.op = 2 → ¬ i < m := fun h2 hm => by
      have := (I.eff i o ho h2).2 hm
      rw [hun'] at this; cases this
    have hHm : Hh m = Hh i := by
      rcases Nat.le_total m i with h | h
      · obtain ⟨d, rfl⟩ := Nat.exists_eq_add_of_le h
        exact (heap_same hF m d (by omega) fun k o' h1 h2 hk hk2 => by have := hA k o' hk hk2 h2; omega).symm
      · obtain ⟨d, rfl⟩ := Nat.exists_eq_add_of_le h
        refine heap_same hF i d (by have := I.mle; omega) fun k o' h1 h2 hk hk2 => ?_
        by_cases hki : k = i
        · subst hki; rw [ho] at hk; cases hk; exact hC hk2 h2
        · exact hB k o' hk hk2 (by omega) h2
    have hst0 := I.st
    rw [hHm] at hst0
    refine wpO_mono (fun act' w' h => ?_) (hFi.sem g w act hO hst0.rel Q)
    obtain ⟨x, g', rfl, hx, hst⟩ := h
    by_cases hk2 : kl o.op = 2
    · refine hDone x g' w' (i + 1) (by omega) (fun k o' hk hkk => ?_) (hst0.trans hst) hst.ext (fun _ _ => hx)
      rw [getD_set _ _ _ hltL]
      by_cases hki : k = i
      · subst hki; rw [if_pos rfl]; exact ⟨fun _ => by omega, fun _ => rfl⟩
      · rw [if_neg hki, I.eff k o' hk hkk]
        constructor
        · intro hkm
          rcases Nat.lt_or_gt_of_ne hki with h | h
          · omega
          · exact absurd hkm (hB k o' hk hkk h)
        · intro hki'
          exact hA k o' hk hkk (by omega)
    · rw [hFi.still hk2, ← hHm] at hst
      refine hDone x g' w' m I.mle (fun k o' hk hkk => ?_) (I.st.trans hst) hst.ext (fun _ _ => hx)
      rw [getD_set _ _ _ hltL, if_neg (fun e => by subst e; rw [ho] at hk; cases hk; omega)]
      exact I.eff k o' hk hkk
theorem Inv.all (hG : goodR ops = true) (I : Inv P ops N V A Hh C X ds g0 w0 listed act w g m) (hr : Region.ready .any ops listed = []) : ∀ i, i < ops.size → listed.getD i false = true := by
  intro i
  induction i using Nat.strongRecOn with
  | ind i ih =>
    intro hi
    cases hl : listed.getD i false with
    | true => rfl
    | false =>
      exfalso
      have ho : ops[i]? = some ops[i] := by simp [hi]
      have : i ∈ Region.ready .any ops listed := mem_ready.2 ⟨by
        have hlt : i < listed.size := by rw [I.size]; exact hi
        simp [hlt] at hl ⊢
        exact hl, ops[i], ho, fun e he hb => by
          have := (goodR_spec hG i _ ho).1 e he hb
          exact ih e.on this (by omega)⟩
      rw [hr] at this
      cases this
theorem Inv.final (hF : ∀ j o, ops[j]? = some o → Fact P ops V A Hh C X j o) (I : Inv P ops N V A Hh C X ds g0 w0 listed act w g m) (hall : ∀ i, i < ops.size → listed.getD i false = true) :
    RelR g (V ops.size) (A ops.size) act.tmps ∧ act.tmps.size = N ∧ act.defers = ds ∧ St g0 (Hh 0) w0 g (Hh ops.size) w := by
  refine ⟨fun t c xs hc => ?_, I.len, I.defs, ?_⟩
  · rcases regs_at hF t ops.size (Nat.le_refl _) with ⟨k, o', h1, h2, h3, h4⟩ | ⟨h1, h2⟩
    · rw [h4] at hc; cases hc
      exact I.done k o' t h2 h3 (hall k h1)
    · rw [h2] at hc
      exact I.old t (fun k o' hk => h1 k o' (Array.getElem?_eq_some_iff.1 hk).1 hk) c xs hc
  · have : Hh ops.size = Hh m := by
      obtain ⟨d, hd⟩ := Nat.exists_eq_add_of_le I.mle
      rw [hd]
      refine heap_same hF m d (by omega) fun k o' h1 h2 hk hk2 => ?_
      have := (I.eff k o' hk hk2).1 (hall k (by omega))
      omega
    rw [this]; exact I.st
theorem any_ok (hG : goodR ops = true) (hF : ∀ j o, ops[j]? = some o → Fact P ops V A Hh C X j o) (hN : ∀ (i : Nat) o, ops[i]? = some o → wfOper N o = true) {Q : Exit → Act → World → Prop}
    (hQ : ∀ act w g, RelR g (V ops.size) (A ops.size) act.tmps → act.tmps.size = N → act.defers = ds → St g0 (Hh 0) w0 g (Hh ops.size) w → Q .normal act w) :
    ∀ (fuel : Nat) (listed : Array Bool) (act : Act) (w : World) (g : Gh) (m : Nat), Inv P ops N V A Hh C X ds g0 w0 listed act w g m →
      (List.range ops.size).countP (fun i => !listed.getD i false) ≤ fuel → wpAny P .any ops Q fuel listed act w
  | 0, listed, act, w, g, m, I, hc => by
    have hall : ∀ i, i < ops.size → listed.getD i false = true := fun i hi => by
      have := List.countP_eq_zero.1 (Nat.le_zero.1 hc) i (List.mem_range.2 hi)
      simpa using this
    have hr : Region.ready .any ops listed = [] := by
      apply List.eq_nil_iff_forall_not_mem.2
      intro i hi
      obtain ⟨hun, o, ho, _⟩ := mem_ready.1 hi
      have hlt : i < ops.size := (Array.getElem?_eq_some_iff.1 ho).1
      have h1 := hall i hlt
      have hltL : i < listed.size := by rw [I.size]; exact hlt
      simp [hltL] at hun h1
      rw [hun] at h1; cases h1
    obtain ⟨h1, h2, h3, h4⟩ := I.final hF hall
    exact ⟨hr, hQ act w g h1 h2 h3 h4⟩
  | fuel + 1, listed, act, w, g, m, I, hc => by
    refine ⟨fun hr => ?_, fun i hi => ?_⟩
    · obtain ⟨h1, h2, h3, h4⟩ := I.final hF (I.all hG hr)
      exact hQ act w g h1 h2 h3 h4
    · refine I.step hG hF hN hi fun act' w' g' m' I' => any_ok hG hF hN hQ fuel _ act' w' g' m' I' ?_
      obtain ⟨hun, o, ho, _⟩ := mem_ready.1 hi
      have hlt : i < ops.size := (Array.getElem?_eq_some_iff.1 ho).1
      have hltL : i < listed.size := by rw [I.size]; exact hlt
      have := countP_lt (p := fun i => !listed.getD i false) (p' := fun j => !(listed.setIfInBounds i true).getD j false) (List.range ops.size) (fun j hj => by
          rw [getD_set _ _ _ hltL] at hj
          by_cases hji : j = i
          · rw [if_pos hji] at hj; cases hj
          · rw [if_neg hji] at hj; exact hj) i (List.mem_range.2 hlt) (by simp [hltL] at hun ⊢; exact hun) (by rw [getD_set _ _ _ hltL, if_pos rfl]; rfl)
      omega
end
end Go.Proofs.YgvaiwGreat.Ev
