import Derived.Test.YgvajwGreatFl1
namespace Go.Proofs.YgvajwGreat.Ev
section
variable {P : Program} {ops : Array Oper} {cf : CallF}
theorem k_inj {q q' v v' : Nat} {a a' : List Bnd} {H H' : Hp} (h : ∀ k : K, k q v a H = k q' v' a' H') : v = v' ∧ a = a' ∧ H = H' := by
  classical
  have := h (fun _ v1 a1 H1 => decide (v1 = v' ∧ a1 = a' ∧ H1 = H'))
  simpa using this
/-- in text order -/
structure FactN (P : Program) (ops : Array Oper) (V : Nat → Nat) (A : Nat → List Bnd) (Hh : Nat → Hp) (C : Nat → Nat) (X : Nat → List Nat) (j : Nat) (o : Oper) : Prop where
  put : RegPut o.dst (C j) (X j) (V j) (A j) (V (j + 1)) (A (j + 1))
  sem : OprSem P ops (V j) (A j) (Hh j) o (C j) (X j) (Hh (j + 1))
theorem ops_trace {E : Env} {fn : Nat} (hE : ∀ t, TIok P t (E.ti t)) (hX : ExtOK P E) (hcf : CallOK P cf) : ∀ (l : List Oper) (i q v : Nat) (a : List Bnd) (H : Hp) (kk : K), (∀ j, l[j]? = ops[i + j]?) →
    (cOps E fn ops l).run cf 0 q v a H kk = true →
    ∃ (V : Nat → Nat) (A : Nat → List Bnd) (Hh : Nat → Hp) (C : Nat → Nat) (X : Nat → List Nat) (q' : Nat), V i = v ∧ A i = a ∧ Hh i = H ∧
      (∀ k, (cOps E fn ops l).run cf 0 q v a H k = k q' (V (i + l.length)) (A (i + l.length)) (Hh (i + l.length))) ∧
      ∀ j o, i ≤ j → j < i + l.length → ops[j]? = some o → FactN P ops V A Hh C X j o
  | [], i, q, v, a, H, kk, hl, hr => ⟨fun _ => v, fun _ => a, fun _ => H, fun _ => 0, fun _ => [], q, rfl, rfl, rfl, fun _ => rfl, fun j o h1 h2 => by simp at h2; omega⟩
  | o :: l, i, q, v, a, H, kk, hl, hr => by
    have e : ∀ k, (cOps E fn ops (o :: l)).run cf 0 q v a H k = (cOper E fn ops none o).run cf 0 q v a H fun q v a H => (cOps E fn ops l).run cf 0 q v a H k := fun _ => rfl
    rw [e] at hr
    obtain ⟨c, xs, q1, v1, a1, H1, h1, h2, h3⟩ := cOper_ok hE hX hcf hr
    rw [h1] at hr
    obtain ⟨V, A, Hh, C, X, q', g1, g2, g3, g4, g5⟩ := ops_trace hE hX hcf l (i + 1) q1 v1 a1 H1 kk (fun j => by have := hl (j + 1); simpa [Nat.add_assoc, Nat.add_comm 1 j] using this) hr
    have hlen : i + (o :: l).length = i + 1 + l.length := by simp; omega
    have h0 : ops[i]? = some o := by simpa using (hl 0).symm
    refine ⟨fun j => if j = i then v else V j, fun j => if j = i then a else A j, fun j => if j = i then H else Hh j, fun j => if j = i then c else C j, fun j => if j = i then xs else X j, q',
      if_pos rfl, if_pos rfl, if_pos rfl, fun k => ?_, fun j o' hj hj' ho => ?_⟩
    · rw [e, h1, g4, hlen]
      simp only [show ¬ (i + 1 + l.length = i) by omega, if_false]
    · by_cases hji : j = i
      · subst hji
        rw [h0] at ho
        cases ho
        have hn : ¬ (j + 1 = j) := by omega
        refine ⟨?_, ?_⟩
        · simp only [if_neg hn, if_true, g1, g2]; exact h2
        · simp only [if_neg hn, if_true, g3]; exact h3
      · have hF := g5 j o' (by omega) (by omega) ho
        refine ⟨?_, ?_⟩
        · simp only [if_neg hji, show ¬ (j + 1 = i) by omega, if_false]; exact hF.put
        · simp only [if_neg hji, show ¬ (j + 1 = i) by omega, if_false]; exact hF.sem
/-- in a region that draws -/
structure FactD (P : Program) (E : Env) (ops : Array Oper) (r0 : Nat) (V : Nat → Nat) (A : Nat → List Bnd) (Hh : Nat → Hp) (C : Nat → Nat) (X : Nat → List Nat) (Bf : Nat → Option Blk) (j : Nat) (o : Oper) : Prop where
  put : RegPut o.dst (C j) (X j) (V j) (A j) (V (j + 1)) (A (j + 1))
  sem : kl E o.op ≠ 3 → OprSem P ops (V j) (A j) (Hh j) o (C j) (X j) (Hh (j + 1))
  still : kl E o.op < 2 → Hh (j + 1) = Hh j
  pure : kl E o.op = 0 → ∀ H, ∃ c xs, (∀ t, o.dst = some t → c = C j ∧ xs = X j) ∧ OprSem P ops (V j) (A j) H o c xs H
  flt : kl E o.op = 3 → (∃ l B p t, Bf j = some B ∧ l < 4096 ∧ B.uid = r0 + j ∧ Hh (j + 1) = ⟨(Hh j).uid, p, t, qset 6 (Hh j).blks l B⟩ ∧ FloatSem P ops (V j) (A j) o (C j) (X j) (r0 + j) B) ∨
    (Bf j = none ∧ Hh (j + 1) = Hh j ∧ ∀ H2, OprSem P ops (V j) (A j) H2 o (C j) (X j) H2)
theorem FactD.congr {E : Env} {r0 : Nat} {V V' : Nat → Nat} {A A' : Nat → List Bnd} {Hh Hh' : Nat → Hp} {C C' : Nat → Nat} {X X' : Nat → List Nat} {Bf Bf' : Nat → Option Blk} {j : Nat} {o : Oper}
    (h : FactD P E ops r0 V A Hh C X Bf j o) (h1 : V' j = V j) (h2 : V' (j + 1) = V (j + 1)) (h3 : A' j = A j) (h4 : A' (j + 1) = A (j + 1)) (h5 : Hh' j = Hh j) (h6 : Hh' (j + 1) = Hh (j + 1))
    (h7 : C' j = C j) (h8 : X' j = X j) (h9 : Bf' j = Bf j) : FactD P E ops r0 V' A' Hh' C' X' Bf' j o :=
  ⟨by rw [h1, h2, h3, h4, h7, h8]; exact h.put, by rw [h1, h3, h5, h6, h7, h8]; exact h.sem, by rw [h5, h6]; exact h.still, by rw [h1, h3, h7, h8]; exact h.pure,
    by rw [h1, h3, h5, h6, h7, h8, h9]; exact h.flt⟩
theorem one_fact {E : Env} {fn : Nat} (hE : ∀ t, TIok P t (E.ti t)) (hX : ExtOK P E) (hcf : CallOK P cf) {r0 i q v : Nat} {a : List Bnd} {H : Hp} {o : Oper} {kk : K} (hr : (cOper E fn ops (some i) o).run cf r0 q v a H kk = true) :
    ∃ c xs q' v' a' H', ∃ B : Option Blk, (∀ k, (cOper E fn ops (some i) o).run cf r0 q v a H k = k q' v' a' H') ∧ RegPut o.dst c xs v a v' a' ∧
      (kl E o.op ≠ 3 → OprSem P ops v a H o c xs H') ∧ (kl E o.op < 2 → H' = H) ∧ (kl E o.op = 0 → ∀ H, ∃ c' xs', (∀ t, o.dst = some t → c' = c ∧ xs' = xs) ∧ OprSem P ops v a H o c' xs' H) ∧
      (kl E o.op = 3 → (∃ l B' p t, B = some B' ∧ l < 4096 ∧ B'.uid = r0 + i ∧ H' = ⟨H.uid, p, t, qset 6 H.blks l B'⟩ ∧ FloatSem P ops v a o c xs (r0 + i) B') ∨ (B = none ∧ H' = H ∧ ∀ H2, OprSem P ops v a H2 o c xs H2)) := by
  by_cases hk : kl E o.op = 3
  · obtain ⟨c, xs, q', v', a', H', h1, h2, h3⟩ := float_ok hE hk hr
    rcases h3 with ⟨l, B, p, t, h3, h4, h5, h6⟩ | ⟨h3, h4⟩
    · exact ⟨c, xs, q', v', a', H', some B, h1, h2, fun h => absurd hk h, fun h => by omega, fun h => by omega, fun _ => .inl ⟨l, B, p, t, rfl, h3, h4, h5, h6⟩⟩
    · exact ⟨c, xs, q', v', a', H', none, h1, h2, fun h => absurd hk h, fun h => by omega, fun h => by omega, fun _ => .inr ⟨rfl, h3, h4⟩⟩
  · rw [cOper_dr hk] at hr ⊢
    obtain ⟨c, xs, q1, v1, a1, H1, h1, h2, h3⟩ := cOper_ok hE hX hcf hr
    refine ⟨c, xs, q1, v1, a1, H1, none, h1, h2, fun _ => h3, fun hk => ?_, fun hk H2 => ?_, fun h => absurd h hk⟩
    · have hW := noW_cOper (E := E) (fn := fn) (ops := ops) hk cf r0 q v a H
      exact (k_inj (q := q1) (q' := q1) (v := v1) (v' := v1) (a := a1) (a' := a1) (H := H1) (H' := H) fun k => (h1 k).symm.trans ((hW k).trans (h1 _))).2.2
    · have hH := noH_cOper (E := E) (fn := fn) (ops := ops) hk cf r0 q v a
      have hr2 : ∀ k : K, (cOper E fn ops none o).run cf r0 q v a H2 k = k q1 v1 a1 H2 := fun k => by
        rw [hH]
        have := hH H (fun q v a _ => k q v a H2)
        rw [h1] at this
        exact this.symm
      obtain ⟨c2, xs2, q2, v2, a2, H2', e1, e2, e3⟩ := cOper_ok (kk := fun _ _ _ _ => true) hE hX hcf (by rw [hr2])
      obtain ⟨k1, k2, k3⟩ := k_inj (q := q2) (q' := q1) fun k => (e1 k).symm.trans (hr2 k)
      subst k1; subst k2; subst k3
      refine ⟨c2, xs2, fun t ht => ?_, e3⟩
      rw [ht] at e2 h2
      have := (e2 t).symm.trans (h2 t)
      rw [if_pos rfl, if_pos rfl] at this
      cases this
      exact ⟨rfl, rfl⟩
theorem traceD {E : Env} {fn : Nat} (hE : ∀ t, TIok P t (E.ti t)) (hX : ExtOK P E) (hcf : CallOK P cf) (r0 : Nat) : ∀ (l : List Oper) (i q v : Nat) (a : List Bnd) (H : Hp) (hs : List (Nat × Hp)) (kk : Nat → Nat → List Bnd → Hp → List (Nat × Hp) → Bool), (∀ j, l[j]? = ops[i + j]?) →
    (cOpsH E fn ops l i).run cf r0 q v a H hs kk = true →
    ∃ (V : Nat → Nat) (A : Nat → List Bnd) (Hh : Nat → Hp) (C : Nat → Nat) (X : Nat → List Nat) (Bf : Nat → Option Blk) (q' : Nat) (hs' : List (Nat × Hp)), V i = v ∧ A i = a ∧ Hh i = H ∧
      (∀ k, (cOpsH E fn ops l i).run cf r0 q v a H hs k = k q' (V (i + l.length)) (A (i + l.length)) (Hh (i + l.length)) hs') ∧
      (∀ j o, i ≤ j → j < i + l.length → ops[j]? = some o → FactD P E ops r0 V A Hh C X Bf j o) ∧
      ∀ m H', (m, H') ∈ hs' → (m, H') ∈ hs ∨ (i < m ∧ m ≤ i + l.length ∧ H' = Hh m)
  | [], i, q, v, a, H, hs, kk, hl, hr => ⟨fun _ => v, fun _ => a, fun _ => H, fun _ => 0, fun _ => [], fun _ => none, q, hs, rfl, rfl, rfl, fun _ => rfl, (fun j o h1 h2 => by simp at h2; omega), fun m H' h => .inl h⟩
  | o :: l, i, q, v, a, H, hs, kk, hl, hr => by
    have e : ∀ k, (cOpsH E fn ops (o :: l) i).run cf r0 q v a H hs k = (cOper E fn ops (some i) o).run cf r0 q v a H fun q v a H => (cOpsH E fn ops l (i + 1)).run cf r0 q v a H (bB (Nat.beq (kl E o.op) 2) ((i + 1, H) :: hs) hs) k := fun _ => rfl
    rw [e] at hr
    obtain ⟨c, xs, q1, v1, a1, H1, B, h1, h2, h3, h4, h5, h6⟩ := one_fact hE hX hcf hr
    rw [h1] at hr
    obtain ⟨V, A, Hh, C, X, Bf, q', hs', g1, g2, g3, g4, g5, g6⟩ := traceD hE hX hcf r0 l (i + 1) q1 v1 a1 H1 _ kk (fun j => by have := hl (j + 1); simpa [Nat.add_assoc, Nat.add_comm 1 j] using this) hr
    have hlen : i + (o :: l).length = i + 1 + l.length := by simp; omega
    have h0 : ops[i]? = some o := by simpa using (hl 0).symm
    refine ⟨fun j => if j = i then v else V j, fun j => if j = i then a else A j, fun j => if j = i then H else Hh j, fun j => if j = i then c else C j, fun j => if j = i then xs else X j, fun j => if j = i then B else Bf j, q', hs',
      if_pos rfl, if_pos rfl, if_pos rfl, fun k => ?_, fun j o' hj hj' ho => ?_, fun m H' hm => ?_⟩
    · rw [e, h1, g4, hlen]
      simp only [show ¬ (i + 1 + l.length = i) by omega, if_false]
    · by_cases hji : j = i
      · subst hji
        rw [h0] at ho
        cases ho
        have hn : ¬ (j + 1 = j) := by omega
        exact ⟨by simp only [if_neg hn, if_true, g1, g2]; exact h2, by simp only [if_neg hn, if_true, g3]; exact h3, by simp only [if_neg hn, if_true, g3]; exact h4, by simp only [if_true]; exact h5, by simp only [if_neg hn, if_true, g3]; exact h6⟩
      · refine (g5 j o' (by omega) (by omega) ho).congr ?_ ?_ ?_ ?_ ?_ ?_ ?_ ?_ ?_ <;> exact if_neg (by omega)
    · rw [hlen]
      rcases g6 m H' hm with h | ⟨k1, k2, k3⟩
      · cases hb : Nat.beq (kl E o.op) 2 with
        | false => rw [hb, bB_f] at h; exact .inl h
        | true =>
          rw [hb, bB_t] at h
          rcases List.mem_cons.1 h with h | h
          · cases h
            refine .inr ⟨by omega, by omega, ?_⟩
            show H1 = if i + 1 = i then H else Hh (i + 1)
            rw [if_neg (by omega)]; exact g3.symm
          · exact .inl h
      · refine .inr ⟨by omega, by omega, ?_⟩
        show H' = if m = i then H else Hh m
        rw [if_neg (by omega)]; exact k3
/-- the registers in text order -/
theorem regs_at {V : Nat → Nat} {A : Nat → List Bnd} {C : Nat → Nat} {X : Nat → List Nat} (hP : ∀ (j : Nat) o, ops[j]? = some o → RegPut o.dst (C j) (X j) (V j) (A j) (V (j + 1)) (A (j + 1))) (t : Nat) : ∀ i, i ≤ ops.size →
    (∃ k o, k < i ∧ ops[k]? = some o ∧ o.dst = some t ∧ rdA (V i) (A i) t = some (C k, X k)) ∨ ((∀ (k : Nat) o, k < i → ops[k]? = some o → o.dst ≠ some t) ∧ rdA (V i) (A i) t = rdA (V 0) (A 0) t)
  | 0, _ => .inr ⟨fun k o h => by omega, rfl⟩
  | i + 1, hi => by
    obtain ⟨o, ho⟩ : ∃ o, ops[i]? = some o := ⟨ops[i], by simp [show i < ops.size by omega]⟩
    have hp := hP i o ho
    by_cases hd : o.dst = some t
    · rw [hd] at hp
      have := hp t
      rw [if_pos rfl] at this
      exact .inl ⟨i, o, by omega, ho, hd, this⟩
    · have hsame : rdA (V (i + 1)) (A (i + 1)) t = rdA (V i) (A i) t := by
        cases hd' : o.dst with
        | none => rw [hd'] at hp; obtain ⟨h1, h2⟩ := hp; rw [h1, h2]
        | some t' =>
          rw [hd'] at hp
          have := hp t
          rw [if_neg (fun e => hd (by rw [hd', e]))] at this
          exact this
      rw [hsame]
      rcases regs_at hP t i (by omega) with ⟨k, o', h1, h2, h3, h4⟩ | ⟨h1, h2⟩
      · exact .inl ⟨k, o', by omega, h2, h3, h4⟩
      · refine .inr ⟨fun k o' hk ho' => ?_, h2⟩
        by_cases hki : k = i
        · subst hki; rw [ho] at ho'; cases ho'; exact hd
        · exact h1 k o' (by omega) ho'
/-! the check -/
theorem goodR_spec {E : Env} (h : goodR E ops = true) : ∀ j y, ops[j]? = some y → (∀ e ∈ y.after, Region.binds .any e = true → e.on < j) ∧ reads ops y y.dst = false ∧
    ∀ i x, i < j → ops[i]? = some x → (reads ops x y.dst = false ∨ (ancB ops ops.size i j = true ∧ kl E x.op ≠ 1)) ∧ sameD x.dst y.dst = false ∧
      (ancB ops ops.size i j = true ∨ (reads ops y x.dst = false ∧ (kl E y.op = 2 → kl E x.op < 2))) := by
  intro j y hj
  have hlt : j < ops.size := (Array.getElem?_eq_some_iff.1 hj).1
  unfold goodR at h
  have h1 := List.all_eq_true.1 h j (List.mem_range.2 hlt)
  rw [hj] at h1
  simp only [Bool.and_eq_true] at h1
  obtain ⟨h1, h2, h3⟩ := h1
  refine ⟨fun e he hb => ?_, by simpa using h2, fun i x hi hx => ?_⟩
  · have := List.all_eq_true.1 h1 e (by simpa using he)
    rw [hb] at this
    have := ble_t (by simpa using this)
    omega
  · have h4 := List.all_eq_true.1 h3 i (List.mem_range.2 hi)
    rw [hx] at h4
    unfold goodP freeK at h4
    simp only [Bool.and_eq_true, Bool.or_eq_true, Bool.not_eq_true'] at h4
    obtain ⟨g1, g2, g3⟩ := h4
    refine ⟨?_, g2, ?_⟩
    · rcases g1 with g1 | ⟨g1, g4⟩
      · exact .inl g1
      · exact .inr ⟨g1, beq_f g4⟩
    · rcases g3 with g3 | ⟨k1, k2⟩
      · exact .inl g3
      · refine .inr ⟨k1, fun h2 => ?_⟩
        rw [h2] at k2
        have k2 : Nat.ble 2 (kl E x.op) = false := by simpa using k2
        exact ble_f k2
theorem reads_f {o : Oper} {t : Nat} (h : reads ops o (some t) = false) : t ∉ o.looksAt ops := fun hm => by
  have : reads ops o (some t) = true := List.any_eq_true.2 ⟨t, hm, Nat.beq_refl t⟩
  rw [h] at this
  cases this
theorem sameD_f {x y : Option Nat} {t : Nat} (h : sameD x y = false) (hx : x = some t) : y ≠ some t := fun hy => by
  subst hx; subst hy
  have : sameD (some t) (some t) = true := Nat.beq_refl t
  rw [h] at this
  cases this
/-- what comes before is listed -/
theorem anc_listed {listed : Array Bool} (hc : ∀ j, listed.getD j false = true → ∀ o, ops[j]? = some o → ∀ e ∈ o.after, Region.binds .any e = true → listed.getD e.on false = true) :
    ∀ f i j, ancB ops f i j = true → (∀ o, ops[j]? = some o → ∀ e ∈ o.after, Region.binds .any e = true → listed.getD e.on false = true) → listed.getD i false = true
  | 0, _, _, h, _ => by cases h
  | f + 1, i, j, h, hj => by
    unfold ancB at h
    cases ho : ops[j]? with
    | none => rw [ho] at h; cases h
    | some o =>
      rw [ho] at h
      obtain ⟨e, he, h⟩ := List.any_eq_true.1 h
      simp only [Bool.and_eq_true, Bool.or_eq_true] at h
      obtain ⟨hb, h⟩ := h
      have hl := hj o ho e (by simpa using he) hb
      rcases h with h | h
      · rw [← beq_t h]; exact hl
      · exact anc_listed hc f i e.on h fun o' ho' => hc e.on hl o' ho'
end
end Go.Proofs.YgvajwGreat.Ev
