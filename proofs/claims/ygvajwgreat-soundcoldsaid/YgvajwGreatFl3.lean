import Derived.Test.YgvajwGreatFl2
namespace Go.Proofs.YgvajwGreat.Ev
section
variable {P : Program} {ops : Array Oper} {E : Env}
theorem wpO_mono {Q : Exit → Act → World → Prop} {o : Oper} {K K' : Act → World → Prop} {a : Act} {w : World} (h : ∀ a w, K a w → K' a w) (hh : wpO P ops Q o K a w) : wpO P ops Q o K' a w := by
  unfold wpO at *
  split
  · rename_i hw; rw [if_pos hw] at hh; exact Oper.wp_mono h hh
  · rename_i hw; rw [if_neg hw] at hh; exact h _ _ hh
theorem countP_lt {p p' : Nat → Bool} : ∀ (l : List Nat), (∀ i, p' i = true → p i = true) → ∀ i ∈ l, p i = true → p' i = false → l.countP p' < l.countP p
  | [], _, i, hi, _, _ => by cases hi
  | x :: l, h, i, hi, h1, h2 => by
    have hle : l.countP p' ≤ l.countP p := List.countP_mono_left fun x _ hx => h x hx
    rw [List.countP_cons, List.countP_cons]
    rcases List.mem_cons.1 hi with rfl | hi
    · rw [if_pos h1, if_neg (by rw [h2]; decide)]; omega
    · have := countP_lt l h i hi h1 h2
      by_cases hx : p' x = true
      · rw [if_pos hx, if_pos (h x hx)]; omega
      · rw [if_neg hx]; split <;> omega
theorem getD_set (listed : Array Bool) (i j : Nat) (hi : i < listed.size) : (listed.setIfInBounds i true).getD j false = if j = i then true else listed.getD j false := by
  by_cases h : j = i
  · subst h; rw [if_pos rfl]; simp [hi]
  · rw [if_neg h]; exact getD_set_ne false (Ne.symm h)
theorem put_get {act : Act} {d : Option Nat} {x : Value} {t : Nat} (h : d ≠ some t) : (act.put d x).tmps[t]? = act.tmps[t]? := by
  cases d with
  | none => rfl
  | some d => simp only [Act.put]; exact Array.getElem?_setIfInBounds_ne (fun e => h (by rw [e]))
theorem put_len {act : Act} {d : Option Nat} {x : Value} : (act.put d x).tmps.size = act.tmps.size := by cases d <;> simp [Act.put]
theorem put_defs {act : Act} {d : Option Nat} {x : Value} : (act.put d x).defers = act.defers := by cases d <;> rfl
theorem relB_keep {g g' : Gh} {w w' : World} {B : Blk} {b s : Nat} (h : RelB g w B) (hg : g B.uid = some (b, s)) (hext : Ext g g') (hw : w'.heap[b]? = w.heap[b]?) : RelB g' w' B := by
  obtain ⟨b', s', arr, h1, h2, h3, h4, h5, h6, h7⟩ := h
  rw [hg] at h1
  cases h1
  exact ⟨b, s, arr, hext _ _ hg, by rw [hw]; exact h2, h3, h4, h5, h6, fun i hi => by obtain ⟨v, hv, hr⟩ := h7 i hi; exact ⟨v, hv, hr.mono hext⟩⟩
theorem kl_le (o : Op) : kl E o ≤ 3 := by
  cases o with
  | convert s t x =>
    show bB (Nat.beq (E.ti t).k 5) 0 1 ≤ 3
    cases Nat.beq (E.ti t).k 5 <;> decide
  | call c =>
    obtain ⟨callee, xs, ts⟩ := c
    cases callee with
    | builtin b => cases b <;> first | exact Nat.zero_le 3 | exact (by decide : 2 ≤ 3)
    | invoke r m => exact (by decide : 2 ≤ 3)
    | value f =>
      cases f with
      | func f =>
        show bB (Nat.beq f E.add64) 0 (bB (Nat.beq f E.sub64) 0 2) ≤ 3
        cases Nat.beq f E.add64 <;> cases Nat.beq f E.sub64 <;> decide
      | _ => exact (by decide : 2 ≤ 3)
  | _ => first | exact Nat.zero_le 3 | exact (by decide : 1 ≤ 3) | exact (by decide : 2 ≤ 3) | exact (by decide : 3 ≤ 3)
/-- a block that has been made ahead of its turn in the text -/
structure Pend (g : Gh) (Hm : Hp) (w : World) (n0 u : Nat) (B : Blk) (b s : Nat) : Prop where
  uid : B.uid = u
  at_ : g u = some (b, s)
  rel : RelB g w B
  own : ¬ Owns g Hm b
  new : n0 ≤ b
  lt : b < w.heap.size
/-- how things stand when these operations have come up -/
structure InvD (P : Program) (E : Env) (ops : Array Oper) (N r0 : Nat) (V : Nat → Nat) (A : Nat → List Bnd) (Hh : Nat → Hp) (C : Nat → Nat) (X : Nat → List Nat) (Bf : Nat → Option Blk) (ds : List Deferred) (H0 : Hp) (g0 : Gh) (w0 : World)
    (listed : Array Bool) (act : Act) (w : World) (g : Gh) (m : Nat) : Prop where
  size : listed.size = ops.size
  closed : ∀ j, listed.getD j false = true → ∀ o, ops[j]? = some o → ∀ e ∈ o.after, Region.binds .any e = true → listed.getD e.on false = true
  mark : m = 0 ∨ ∃ k o, m = k + 1 ∧ ops[k]? = some o ∧ kl E o.op = 2 ∧ listed.getD k false = true
  mle : m ≤ ops.size
  eff : ∀ (i : Nat) o, ops[i]? = some o → kl E o.op = 2 → (listed.getD i false = true ↔ i < m)
  st : St g0 H0 w0 g (Hh m) w
  big : r0 + ops.size ≤ (Hh m).uid
  fresh : ∀ (i : Nat) o, ops[i]? = some o → kl E o.op = 3 → (listed.getD i false = false ∨ Bf i = none) → g (r0 + i) = none
  pend : ∀ (i : Nat) o B, ops[i]? = some o → kl E o.op = 3 → listed.getD i false = true → m ≤ i → Bf i = some B → ∃ b s, Pend g (Hh m) w w0.heap.size (r0 + i) B b s
  pinj : ∀ (i i' : Nat) o o' b s s', ops[i]? = some o → ops[i']? = some o' → kl E o.op = 3 → kl E o'.op = 3 → m ≤ i → m ≤ i' → i ≠ i' → g (r0 + i) = some (b, s) → g (r0 + i') ≠ some (b, s')
  done : ∀ (i : Nat) o t, ops[i]? = some o → o.dst = some t → listed.getD i false = true → ∃ x, act.tmps[t]? = some x ∧ RelA g (C i) (X i) x
  old : ∀ t, (∀ (i : Nat) o, ops[i]? = some o → o.dst = some t → listed.getD i false = false) → ∀ c xs, rdA (V 0) (A 0) t = some (c, xs) → ∃ x, act.tmps[t]? = some x ∧ RelA g c xs x
  len : act.tmps.size = N
  defs : act.defers = ds
variable {N r0 : Nat} {V : Nat → Nat} {A : Nat → List Bnd} {Hh : Nat → Hp} {C : Nat → Nat} {X : Nat → List Nat} {Bf : Nat → Option Blk} {ds : List Deferred} {H0 : Hp} {g0 : Gh} {w0 : World}
  {listed : Array Bool} {act : Act} {w : World} {g : Gh} {m : Nat}
/-- the heap of the text, as far as the blocks between have been made -/
theorem InvD.grow (hF : ∀ j o, ops[j]? = some o → FactD P E ops r0 V A Hh C X Bf j o) (I : InvD P E ops N r0 V A Hh C X Bf ds H0 g0 w0 listed act w g m) : ∀ d, m + d ≤ ops.size →
    (∀ (k : Nat) o, m ≤ k → k < m + d → ops[k]? = some o → kl E o.op ≠ 2 ∧ (kl E o.op = 3 → listed.getD k false = true)) →
    RelH g (Hh (m + d)) w ∧ (Hh (m + d)).uid = (Hh m).uid ∧ ∀ b, Owns g (Hh (m + d)) b → Owns g (Hh m) b ∨ ∃ k o s, m ≤ k ∧ k < m + d ∧ ops[k]? = some o ∧ kl E o.op = 3 ∧ g (r0 + k) = some (b, s) ∧ w0.heap.size ≤ b
  | 0, _, _ => ⟨I.st.rel, rfl, fun b h => .inl h⟩
  | d + 1, hd, hk => by
    obtain ⟨h1, h2, h3⟩ := InvD.grow hF I d (by omega) fun k o a b => hk k o a (by omega)
    obtain ⟨o, ho⟩ : ∃ o, ops[m + d]? = some o := ⟨ops[m + d], by simp [show m + d < ops.size by omega]⟩
    obtain ⟨hk2, hk3⟩ := hk (m + d) o (by omega) (by omega) ho
    have hFo := hF (m + d) o ho
    have same : Hh (m + (d + 1)) = Hh (m + d) → RelH g (Hh (m + (d + 1))) w ∧ (Hh (m + (d + 1))).uid = (Hh m).uid ∧ ∀ b, Owns g (Hh (m + (d + 1))) b → Owns g (Hh m) b ∨ ∃ k o s, m ≤ k ∧ k < m + (d + 1) ∧ ops[k]? = some o ∧ kl E o.op = 3 ∧ g (r0 + k) = some (b, s) ∧ w0.heap.size ≤ b := fun e => by
      rw [e]
      refine ⟨h1, h2, fun b hb => ?_⟩
      rcases h3 b hb with h | ⟨k, o, s, a1, a2, a3⟩
      · exact .inl h
      · exact .inr ⟨k, o, s, a1, by omega, a3⟩
    by_cases h3' : kl E o.op = 3
    · rcases hFo.flt h3' with ⟨l, B, p, t, f1, f2, f3, f4, _⟩ | ⟨_, f2, _⟩
      · obtain ⟨b, s, pd⟩ := I.pend (m + d) o B ho h3' (hk3 h3') (by omega) f1
        have hgB : g B.uid = some (b, s) := by rw [f3]; exact pd.at_
        have hno : ¬ Owns g (Hh (m + d)) b := fun hb => by
          rcases h3 b hb with h | ⟨k, o', s', a1, a2, a3, a4, a5, _⟩
          · exact pd.own h
          · exact I.pinj k (m + d) o' o b s' s a3 ho a4 h3' a1 (by omega) (by omega) a5 pd.at_
        have e : Hh (m + (d + 1)) = ⟨(Hh (m + d)).uid, p, t, qset 6 (Hh (m + d)).blks l B⟩ := f4
        rw [e]
        refine ⟨h1.insert f2 pd.rel hgB hno, h2, fun b' hb' => ?_⟩
        rcases owns_insert f2 hgB hb' with rfl | h
        · exact .inr ⟨m + d, o, s, by omega, by omega, ho, h3', pd.at_, pd.new⟩
        · rcases h3 b' h with h | ⟨k, o, s, a1, a2, a3⟩
          · exact .inl h
          · exact .inr ⟨k, o, s, a1, by omega, a3⟩
      · exact same f2
    · exact same (hFo.still (by have := kl_le (E := E) o.op; omega))
theorem InvD.stGrow (hF : ∀ j o, ops[j]? = some o → FactD P E ops r0 V A Hh C X Bf j o) (I : InvD P E ops N r0 V A Hh C X Bf ds H0 g0 w0 listed act w g m) (d : Nat) (hd : m + d ≤ ops.size)
    (hk : ∀ (k : Nat) o, m ≤ k → k < m + d → ops[k]? = some o → kl E o.op ≠ 2 ∧ (kl E o.op = 3 → listed.getD k false = true)) : St g0 H0 w0 g (Hh (m + d)) w := by
  obtain ⟨h1, h2, h3⟩ := I.grow hF d hd hk
  refine ⟨I.st.ext, h1, ⟨I.st.fr.size, I.st.fr.os, I.st.fr.out, I.st.fr.fz, fun b hb ho => ?_⟩, by rw [h2]; exact I.st.um, I.st.kept⟩
  obtain ⟨k1, k2⟩ := I.st.fr.keep b hb ho
  refine ⟨k1, fun hw => ?_⟩
  rcases h3 b hw with h | ⟨_, _, _, _, _, _, _, _, h⟩
  · exact k2 h
  · omega
theorem InvD.step (hG : goodR E ops = true) (hF : ∀ j o, ops[j]? = some o → FactD P E ops r0 V A Hh C X Bf j o) (hN : ∀ (i : Nat) o, ops[i]? = some o → wfOper N o = true) (hr0 : H0.uid = r0) (hr1 : r0 ≠ 0)
    (hRd : ∀ (j : Nat) o, ops[j]? = some o → kl E o.op = 1 → ∀ m, (m = 0 ∨ ∃ k o', m = k + 1 ∧ ops[k]? = some o' ∧ kl E o'.op = 2) →
      (∀ (k : Nat) o', ops[k]? = some o' → kl E o'.op = 2 → (ancB ops ops.size k j = true → k < m) ∧ (ancB ops ops.size j k = true → m ≤ k)) → OprSem P ops (V ops.size) (A ops.size) (Hh m) o (C j) (X j) (Hh m))
    (I : InvD P E ops N r0 V A Hh C X Bf ds H0 g0 w0 listed act w g m) {i : Nat} (hi : i ∈ Region.ready .any ops listed) {Q : Exit → Act → World → Prop} {K : Act → World → Prop}
    (hK : ∀ act' w' g' m', InvD P E ops N r0 V A Hh C X Bf ds H0 g0 w0 (listed.setIfInBounds i true) act' w' g' m' → K act' w') : wpOp P ops Q i K act w := by
  obtain ⟨hun, o, ho, hall⟩ := mem_ready.1 hi
  have hlt : i < ops.size := (Array.getElem?_eq_some_iff.1 ho).1
  have hltL : i < listed.size := by rw [I.size]; exact hlt
  have hun' : listed.getD i false = false := by
    simp [hltL] at hun ⊢
    exact hun
  have hEdge : ∀ o', ops[i]? = some o' → ∀ e ∈ o'.after, Region.binds .any e = true → listed.getD e.on false = true := fun o' ho' => by rw [ho] at ho'; cases ho'; exact hall
  have hS := goodR_spec hG
  obtain ⟨_, hself, hbefore⟩ := hS i o ho
  have hFi := hF i o ho
  have hPut := fun (j : Nat) o h => (hF j o h).put
  -- a slot that is looked at: who wrote it is listed
  have hnl : ∀ t, t ∈ o.looksAt ops → ∀ (k : Nat) o', ops[k]? = some o' → o'.dst = some t → k < i → listed.getD k false = true := fun t ht k o' hk hd hki => by
    rcases (hbefore k o' hki hk).2.2 with g3 | ⟨g3, _⟩
    · exact anc_listed I.closed _ _ _ g3 hEdge
    · rw [hd] at g3; exact absurd ht (reads_f g3)
  have hlater : ∀ t, t ∈ o.looksAt ops → ∀ (k : Nat) o', ops[k]? = some o' → o'.dst = some t → ¬ k < i → k ≠ i ∧ listed.getD k false = false ∧ kl E o.op ≠ 1 := fun t ht k o' hk hd hki => by
    have hne : k ≠ i := fun e => by subst e; rw [ho] at hk; cases hk; rw [hd] at hself; exact reads_f hself ht
    rcases ((hS k o' hk).2.2 i o (by omega) ho).1 with h | ⟨h, h'⟩
    · rw [hd] at h; exact absurd ht (reads_f h)
    · refine ⟨hne, ?_, h'⟩
      cases hl : listed.getD k false with
      | false => rfl
      | true =>
        have := anc_listed I.closed _ _ _ h (fun o2 ho2 => I.closed k hl o2 ho2)
        rw [hun'] at this; cases this
  have hO : RelO g (V i) (A i) act.tmps (o.looksAt ops) := fun t ht c xs hc => by
    rcases regs_at hPut t i (by omega) with ⟨k, o', h1, h2, h3, h4⟩ | ⟨h1, h2⟩
    · rw [h4] at hc
      cases hc
      exact I.done k o' t h2 h3 (hnl t ht k o' h2 h3 h1)
    · rw [h2] at hc
      refine I.old t (fun k o' hk hd => ?_) c xs hc
      by_cases hki : k < i
      · exact absurd hd (h1 k o' hki hk)
      · exact (hlater t ht k o' hk hd hki).2.1
  -- what stands behind it
  have hRegs : ∀ x g', Ext g g' → (∀ t, o.dst = some t → RelA g' (C i) (X i) x) →
      (∀ (k : Nat) o' t, ops[k]? = some o' → o'.dst = some t → (listed.setIfInBounds i true).getD k false = true → ∃ y, (act.put o.dst x).tmps[t]? = some y ∧ RelA g' (C k) (X k) y) ∧
      (∀ t, (∀ (k : Nat) o', ops[k]? = some o' → o'.dst = some t → (listed.setIfInBounds i true).getD k false = false) → ∀ c xs, rdA (V 0) (A 0) t = some (c, xs) → ∃ y, (act.put o.dst x).tmps[t]? = some y ∧ RelA g' c xs y) := fun x g' hext hx => by
    refine ⟨fun k o' t hk hd hl => ?_, fun t ht c xs hc => ?_⟩
    · rw [getD_set _ _ _ hltL] at hl
      by_cases hki : k = i
      · subst hki
        rw [ho] at hk; cases hk
        refine ⟨x, ?_, hx t hd⟩
        have hwf := hN k o ho
        unfold wfOper at hwf
        rw [hd] at hwf
        have hlt' := ble_t hwf
        rw [hd]
        simp only [Act.put]
        have : t < act.tmps.size := by rw [I.len]; exact hlt'
        simp [this]
      · rw [if_neg hki] at hl
        obtain ⟨y, h1, h2⟩ := I.done k o' t hk hd hl
        refine ⟨y, ?_, h2.mono hext⟩
        rw [put_get]
        · exact h1
        · rcases Nat.lt_or_gt_of_ne hki with h | h
          · exact sameD_f (hbefore k o' h hk).2.1 hd
          · intro hdi
            exact sameD_f ((hS k o' hk).2.2 i o h ho).2.1 hdi hd
    · have hne : o.dst ≠ some t := fun hd => by
        have := ht i o ho hd
        rw [getD_set _ _ _ hltL, if_pos rfl] at this; cases this
      obtain ⟨y, h1, h2⟩ := I.old t (fun k o' hk hd => by
        have := ht k o' hk hd
        rw [getD_set _ _ _ hltL] at this
        by_cases hki : k = i
        · rw [if_pos hki] at this; cases this
        · rw [if_neg hki] at this; exact this) c xs hc
      exact ⟨y, by rw [put_get hne]; exact h1, h2.mono hext⟩
  have hClosed : ∀ j, (listed.setIfInBounds i true).getD j false = true → ∀ o', ops[j]? = some o' → ∀ e ∈ o'.after, Region.binds .any e = true → (listed.setIfInBounds i true).getD e.on false = true := fun j hj o' ho' e hin hb => by
    rw [getD_set _ _ _ hltL] at hj
    refine getD_set_true ?_
    by_cases hji : j = i
    · subst hji; exact hEdge o' ho' e hin hb
    · rw [if_neg hji] at hj; exact I.closed j hj o' ho' e hin hb
  have hmk : m = 0 ∨ ∃ k o', m = k + 1 ∧ ops[k]? = some o' ∧ kl E o'.op = 2 ∧ (listed.setIfInBounds i true).getD k false = true := by
    rcases I.mark with h | ⟨k, o', h1, h2, h3, h4⟩
    · exact .inl h
    · exact .inr ⟨k, o', h1, h2, h3, getD_set_true h4⟩
  have hunl : ∀ k, (listed.setIfInBounds i true).getD k false = false → k ≠ i ∧ listed.getD k false = false := fun k hk => by
    rw [getD_set _ _ _ hltL] at hk
    by_cases h : k = i
    · rw [if_pos h] at hk; cases hk
    · rw [if_neg h] at hk; exact ⟨h, hk⟩
  have hlis : ∀ k, k ≠ i → (listed.setIfInBounds i true).getD k false = listed.getD k false := fun k hk => by rw [getD_set _ _ _ hltL, if_neg hk]
  -- nothing is written: the heap's place stays
  have calm : kl E o.op ≠ 2 → (kl E o.op = 3 → Bf i = none) → ∀ x g' w', St g (Hh m) w g' (Hh m) w' → (∀ t, o.dst = some t → RelA g' (C i) (X i) x) → K (act.put o.dst x) w' := fun h2 h3 x g' w' hst hx => by
    obtain ⟨r1, r2⟩ := hRegs x g' hst.ext hx
    have hres : ∀ k, k < ops.size → g' (r0 + k) = g (r0 + k) := fun k hk => hst.kept _ (by have := I.big; omega)
    refine hK _ _ g' m ⟨by simp [I.size], hClosed, hmk, I.mle, fun k o' hk hk2 => ?_, I.st.trans hst, I.big, fun k o' hk hk3 hl => ?_, fun k o' B hk hk3 hl hmk' hB => ?_, fun k k' o1 o2 b s s' h1 h2 h3 h4 h5 h6 h7 h8 h9 => ?_, r1, r2,
      by rw [put_len]; exact I.len, by rw [put_defs]; exact I.defs⟩
    · rw [hlis k (fun e => by subst e; rw [ho] at hk; cases hk; exact h2 hk2)]
      exact I.eff k o' hk hk2
    · rw [hres k (Array.getElem?_eq_some_iff.1 hk).1]
      exact I.fresh k o' hk hk3 (hl.elim (fun h => .inl (hunl k h).2) .inr)
    · have hki : k ≠ i := fun e => by subst e; rw [ho] at hk; cases hk; rw [h3 hk3] at hB; cases hB
      rw [hlis k hki] at hl
      obtain ⟨b, s, pd⟩ := I.pend k o' B hk hk3 hl hmk' hB
      obtain ⟨e1, e2⟩ := hst.fr.keep b pd.lt pd.own
      exact ⟨b, s, pd.uid, hst.ext _ _ pd.at_, relB_keep pd.rel (by rw [pd.uid]; exact pd.at_) hst.ext e1, e2, pd.new, Nat.lt_of_lt_of_le pd.lt hst.fr.size⟩
    · rw [hres k (Array.getElem?_eq_some_iff.1 h1).1] at h8
      rw [hres k' (Array.getElem?_eq_some_iff.1 h2).1] at h9
      exact I.pinj k k' o1 o2 b s s' h1 h2 h3 h4 h5 h6 h7 h8 h9
  refine wpO_wpOp ho ?_
  by_cases hk0 : kl E o.op = 0
  · obtain ⟨c, xs, hc, hsem⟩ := hFi.pure hk0 (Hh m)
    refine wpO_mono (fun act' w' h => ?_) (hsem g w act hO I.st.rel Q)
    obtain ⟨x, g', rfl, hx, hst⟩ := h
    exact calm (by omega) (by omega) x g' w' hst (fun t ht => by obtain ⟨rfl, rfl⟩ := hc t ht; exact hx)
  by_cases hk1 : kl E o.op = 1
  · have hOn : RelO g (V ops.size) (A ops.size) act.tmps (o.looksAt ops) := fun t ht c xs hc => by
      rcases regs_at hPut t ops.size (Nat.le_refl _) with ⟨k, o', h1, h2, h3, h4⟩ | ⟨h1, h2⟩
      · rw [h4] at hc
        cases hc
        by_cases hki : k < i
        · exact I.done k o' t h2 h3 (hnl t ht k o' h2 h3 hki)
        · exact absurd hk1 (hlater t ht k o' h2 h3 hki).2.2
      · rw [h2] at hc
        exact I.old t (fun k o' hk hd => absurd hd (h1 k o' (Array.getElem?_eq_some_iff.1 hk).1 hk)) c xs hc
    have hsem := hRd i o ho hk1 m (by
      rcases I.mark with h | ⟨k, o', h1, h2, h3, _⟩
      · exact .inl h
      · exact .inr ⟨k, o', h1, h2, h3⟩) (fun k o' hk hk2 => ⟨fun h => (I.eff k o' hk hk2).1 (anc_listed I.closed _ _ _ h hEdge), fun h => by
        rcases Nat.lt_or_ge k m with hkm | hkm
        · have := anc_listed I.closed _ _ _ h (fun o2 ho2 => I.closed k ((I.eff k o' hk hk2).2 hkm) o2 ho2)
          rw [hun'] at this; cases this
        · exact hkm⟩)
    refine wpO_mono (fun act' w' h => ?_) (hsem g w act hOn I.st.rel Q)
    obtain ⟨x, g', rfl, hx, hst⟩ := h
    exact calm (by omega) (by omega) x g' w' hst (fun _ _ => hx)
  by_cases hk2 : kl E o.op = 2
  · have hA : ∀ (k : Nat) o', ops[k]? = some o' → 2 ≤ kl E o'.op → k < i → listed.getD k false = true := fun k o' hk hkk hki => by
      rcases (hbefore k o' hki hk).2.2 with g3 | ⟨_, g3⟩
      · exact anc_listed I.closed _ _ _ g3 hEdge
      · have := g3 hk2; omega
    have hmi : m ≤ i := by
      rcases Nat.lt_or_ge i m with h | h
      · have := (I.eff i o ho hk2).2 h
        rw [hun'] at this; cases this
      · exact h
    obtain ⟨d, hd⟩ := Nat.exists_eq_add_of_le hmi
    have hbet : ∀ (k : Nat) o', m ≤ k → k < m + d → ops[k]? = some o' → kl E o'.op ≠ 2 ∧ (kl E o'.op = 3 → listed.getD k false = true) := fun k o' h1 h2 hk => by
      refine ⟨fun hkk => ?_, fun hkk => hA k o' hk (by omega) (by omega)⟩
      have := (I.eff k o' hk hkk).1 (hA k o' hk (by omega) (by omega))
      omega
    obtain ⟨q1, q2, q3⟩ := I.grow hF d (by omega) hbet
    have hst0 := I.stGrow hF d (by omega) hbet
    rw [← hd] at q1 q2 q3 hst0
    refine wpO_mono (fun act' w' h => ?_) (hFi.sem (by omega) g w act hO q1 Q)
    obtain ⟨x, g', rfl, hx, hst⟩ := h
    obtain ⟨r1, r2⟩ := hRegs x g' hst.ext (fun _ _ => hx)
    have hbig : r0 + ops.size ≤ (Hh i).uid := by rw [q2]; exact I.big
    have hres : ∀ k, k < ops.size → g' (r0 + k) = g (r0 + k) := fun k hk => hst.kept _ (by omega)
    refine hK _ _ g' (i + 1) ⟨by simp [I.size], hClosed, .inr ⟨i, o, rfl, ho, hk2, by rw [getD_set _ _ _ hltL, if_pos rfl]⟩, by omega, fun k o' hk hkk => ?_, hst0.trans hst, Nat.le_trans hbig hst.um, fun k o' hk hk3 hl => ?_,
      fun k o' B hk hk3 hl hmk' hB => ?_, fun k k' o1 o2 b s s' h1 h2 h3 h4 h5 h6 h7 h8 h9 => ?_, r1, r2, by rw [put_len]; exact I.len, by rw [put_defs]; exact I.defs⟩
    · by_cases hki : k = i
      · subst hki; rw [getD_set _ _ _ hltL, if_pos rfl]; exact ⟨fun _ => by omega, fun _ => rfl⟩
      · rw [hlis k hki]
        constructor
        · intro h
          have := (I.eff k o' hk hkk).1 h
          omega
        · intro h
          exact hA k o' hk (by omega) (by omega)
    · rw [hres k (Array.getElem?_eq_some_iff.1 hk).1]
      exact I.fresh k o' hk hk3 (hl.elim (fun h => .inl (hunl k h).2) .inr)
    · have hki : k ≠ i := by omega
      rw [hlis k hki] at hl
      obtain ⟨b, s, pd⟩ := I.pend k o' B hk hk3 hl (by omega) hB
      have hown : ¬ Owns g (Hh i) b := fun hb => by
        rcases q3 b hb with h | ⟨k', o2, s', a1, a2, a3, a4, a5, _⟩
        · exact pd.own h
        · exact I.pinj k' k o2 o' b s' s a3 hk a4 hk3 a1 (by omega) (by omega) a5 pd.at_
      obtain ⟨e1, e2⟩ := hst.fr.keep b pd.lt hown
      exact ⟨b, s, pd.uid, hst.ext _ _ pd.at_, relB_keep pd.rel (by rw [pd.uid]; exact pd.at_) hst.ext e1, e2, pd.new, Nat.lt_of_lt_of_le pd.lt hst.fr.size⟩
    · rw [hres k (Array.getElem?_eq_some_iff.1 h1).1] at h8
      rw [hres k' (Array.getElem?_eq_some_iff.1 h2).1] at h9
      exact I.pinj k k' o1 o2 b s s' h1 h2 h3 h4 (by omega) (by omega) h7 h8 h9
  · have hk3 : kl E o.op = 3 := by
      have := kl_le (E := E) o.op
      omega
    have hmi : m ≤ i := by
      rcases Nat.lt_or_ge i m with h | h
      · rcases I.mark with h0 | ⟨k, o', h1, h2, h3, h4⟩
        · omega
        · have hne : i ≠ k := fun e => by subst e; rw [h4] at hun'; cases hun'
          rcases ((hS k o' h2).2.2 i o (by omega) ho).2.2 with g3 | ⟨_, g3⟩
          · have := anc_listed I.closed _ _ _ g3 (fun o2 ho2 => I.closed k h4 o2 ho2)
            rw [hun'] at this; cases this
          · have := g3 h3; omega
      · exact h
    rcases hFi.flt hk3 with ⟨l, B, p, t, f1, f2, f3, f4, f5⟩ | ⟨f1, f2, f3⟩
    · have hgn := I.fresh i o ho hk3 (.inl hun')
      have hlt2 : r0 + i < (Hh m).uid := by have := I.big; omega
      refine wpO_mono (fun act' w' h => ?_) (f5 g w act hO Q)
      obtain ⟨x, s, rfl, e1, e2, e3, e4, e5, e6⟩ := h
      have hext : Ext g (gPut g (r0 + i) w.heap.size s) := gPut_ext hgn
      obtain ⟨hx, hB⟩ := e1 _ hext (gPut_same _ _ _ _)
      obtain ⟨r1, r2⟩ := hRegs x _ hext (fun _ _ => hx)
      have hrel : RelH (gPut g (r0 + i) w.heap.size s) (Hh m) w' := I.st.rel.grow hgn (Nat.ne_of_gt (Nat.lt_of_lt_of_le (Nat.pos_of_ne_zero hr1) (Nat.le_add_right _ _))) hlt2 e2
      have hst : St g0 H0 w0 (gPut g (r0 + i) w.heap.size s) (Hh m) w' := by
        refine ⟨I.st.ext.trans hext, hrel, ⟨Nat.le_trans I.st.fr.size (Nat.le_of_lt e3), e4.trans I.st.fr.os, e5.trans I.st.fr.out, fun a => (e6 a).trans (I.st.fr.fz a), fun b hb hno => ?_⟩, I.st.um, fun u hu => ?_⟩
        · obtain ⟨k1, k2⟩ := I.st.fr.keep b hb hno
          exact ⟨(e2 b (Nat.lt_of_lt_of_le hb I.st.fr.size)).trans k1, fun h => k2 (owns_grow I.st.rel hgn h)⟩
        · rw [gPut_ne g (by omega)]; exact I.st.kept u hu
      have hgne : ∀ k, k ≠ i → gPut g (r0 + i) w.heap.size s (r0 + k) = g (r0 + k) := fun k hk => gPut_ne g (by omega)
      have hothers : ∀ (k : Nat) o' B', ops[k]? = some o' → kl E o'.op = 3 → k ≠ i → listed.getD k false = true → m ≤ k → Bf k = some B' → ∃ b s', Pend (gPut g (r0 + i) w.heap.size s) (Hh m) w' w0.heap.size (r0 + k) B' b s' := fun k o' B' hk hkk hki hl hmk' hB' => by
        obtain ⟨b, s', pd⟩ := I.pend k o' B' hk hkk hl hmk' hB'
        exact ⟨b, s', pd.uid, hext _ _ pd.at_, relB_keep pd.rel (by rw [pd.uid]; exact pd.at_) hext (e2 b pd.lt), fun h => pd.own (owns_grow I.st.rel hgn h), pd.new, Nat.lt_trans pd.lt e3⟩
      have hblk : ∀ (k : Nat) o' b s', ops[k]? = some o' → kl E o'.op = 3 → k ≠ i → m ≤ k → g (r0 + k) = some (b, s') → b < w.heap.size := fun k o' b s' hk hkk hki hmk' hg => by
        cases hl : listed.getD k false with
        | false => rw [I.fresh k o' hk hkk (.inl hl)] at hg; cases hg
        | true =>
          cases hB' : Bf k with
          | some B' =>
            obtain ⟨b', s2, pd⟩ := I.pend k o' B' hk hkk hl hmk' hB'
            rw [pd.at_] at hg; cases hg
            exact pd.lt
          | none => rw [I.fresh k o' hk hkk (.inr hB')] at hg; cases hg
      refine hK _ _ _ m ⟨by simp [I.size], hClosed, hmk, I.mle, fun k o' hk hkk => ?_, hst, I.big, fun k o' hk hkk hl => ?_, fun k o' B' hk hkk hl hmk' hB' => ?_, fun k k' o1 o2 b s1 s2 h1 h2 h3 h4 h5 h6 h7 h8 h9 => ?_, r1, r2,
        by rw [put_len]; exact I.len, by rw [put_defs]; exact I.defs⟩
      · rw [hlis k (fun e => by subst e; rw [ho] at hk; cases hk; omega)]
        exact I.eff k o' hk hkk
      · have n1 : k ≠ i := fun e => by
          subst e
          rcases hl with h | h
          · exact (hunl k h).1 rfl
          · rw [f1] at h; cases h
        rw [hgne k n1]
        exact I.fresh k o' hk hkk (hl.elim (fun h => .inl (hunl k h).2) .inr)
      · by_cases hki : k = i
        · subst hki
          rw [f1] at hB'; cases hB'
          exact ⟨w.heap.size, s, f3, gPut_same _ _ _ _, hB, (fun h => Nat.lt_irrefl _ (owns_lt I.st.rel (owns_grow I.st.rel hgn h))), I.st.fr.size, e3⟩
        · rw [hlis k hki] at hl
          exact hothers k o' B' hk hkk hki hl hmk' hB'
      · by_cases hki : k = i
        · subst hki
          rw [gPut_same] at h8; cases h8
          rw [hgne k' (Ne.symm h7)] at h9
          have := hblk k' o2 _ _ h2 h4 (Ne.symm h7) h6 h9
          omega
        · by_cases hki' : k' = i
          · subst hki'
            rw [gPut_same] at h9; cases h9
            rw [hgne k h7] at h8
            have := hblk k o1 _ _ h1 h3 h7 h5 h8
            omega
          · rw [hgne k hki] at h8
            rw [hgne k' hki'] at h9
            exact I.pinj k k' o1 o2 b s1 s2 h1 h2 h3 h4 h5 h6 h7 h8 h9
    · refine wpO_mono (fun act' w' h => ?_) (f3 (Hh m) g w act hO I.st.rel Q)
      obtain ⟨x, g', rfl, hx, hst⟩ := h
      exact calm (by omega) (fun _ => f1) x g' w' hst (fun _ _ => hx)
end
end Go.Proofs.YgvajwGreat.Ev
