import Derived.Test.YgvajwGreatOps30
namespace Go.Proofs.YgvajwGreat.Ev
/-- s rounds over empty places -/
def SkipOK (P : Program) (x : Code) : Prop := ∀ (s : Nat) (w : World) (tmps : Array Value) (a : Addr) (j : Nat), tmps.size = 43 → tmps[9]? = some (.pointer (some a)) → tmps[10]? = some (.int .i64 (j : Int)) → j + s ≤ 4096 →
  (∀ i, i < s → w.cell? (a.add (j + i)) = some (.int .i32 (-1))) → ∀ (Q : Exit → Act → World → Prop) (m : Nat),
  (∀ tmps' : Array Value, tmps'.size = 43 → tmps'[10]? = some (.int .i64 ((j + s : Nat) : Int)) → (∀ t, t ≠ 10 → t ∉ deadT → tmps'[t]? = tmps[t]?) → Code.rounds P x Q m ⟨tmps', []⟩ w) → Code.rounds P x Q (s + m) ⟨tmps, []⟩ w

def skV (s q v j : Nat) : Nat := setF q (shOf 10) (eraseT q deadT v) (enc 8 (b63 + (j + s)))
theorem gF_erase (q t : Nat) : ∀ (l : List Nat) (v : Nat), gF (shOf t) (eraseT q l v) = if t ∈ l then 0 else gF (shOf t) v
  | [], v => by simp [eraseT]
  | t' :: l, v => by
    have e : eraseT q (t' :: l) v = eraseT q l (setF q (shOf t') v 0) := fN_eq _ _
    rw [e, gF_erase q t l, gF_setF (by decide)]
    by_cases h1 : t ∈ l
    · rw [if_pos h1, if_pos (List.mem_cons_of_mem _ h1)]
    · rw [if_neg h1]
      by_cases h2 : t = t'
      · rw [if_pos h2, if_pos (by rw [h2]; exact List.mem_cons_self ..)]
      · rw [if_neg h2, if_neg (by intro h; rcases List.mem_cons.1 h with h | h <;> contradiction)]
theorem tryT_inv {s q v : Nat} {H : Hp} {yes : Nat → Bool} {no : Bool} (h : tryT s q v H yes no = true) :
    ((∀ yes' no', tryT s q v H yes' no' = no') ∧ no = true) ∨
    (∃ j, tag (gF (shOf 9) v) = 11 ∧ tag (gF (shOf 10) v) = 8 ∧ b63 ≤ pay (gF (shOf 10) v) ∧ j = pay (gF (shOf 10) v) - b63 ∧ j + s ≤ 4096 ∧
      ldN H (pAdd (pay (gF (shOf 9) v)) j) s (fun _ => true) = true ∧ ldX H (pAdd (pay (gF (shOf 9) v)) j) s = rep 1 s cM1 ∧ (∀ yes' no', tryT s q v H yes' no' = yes' (skV s q v j)) ∧ yes (skV s q v j) = true) := by
  have e : ∀ yes no, tryT s q v H yes no = bB (Nat.beq (tag (gF (shOf 9) v)) 11) (bB (Nat.beq (tag (gF (shOf 10) v)) 8) (bB (Nat.ble b63 (pay (gF (shOf 10) v)))
      (bB (Nat.ble (pay (gF (shOf 10) v) - b63 + s) 4096) (ldN H (pAdd (pay (gF (shOf 9) v)) (pay (gF (shOf 10) v) - b63)) s fun X => bB (Nat.beq X (rep 1 s cM1)) (yes (skV s q v (pay (gF (shOf 10) v) - b63))) no) no) no) no) no := fun yes no => by
    unfold tryT
    simp only [fN_eq]
    rfl
  rw [e] at h
  have e' : ∀ yes no, tryT s q v H yes no = _ := e
  cases h1 : Nat.beq (tag (gF (shOf 9) v)) 11 with
  | false => rw [h1, bB_f] at h; exact .inl ⟨fun _ _ => by rw [e, h1, bB_f], h⟩
  | true =>
    rw [h1, bB_t] at h
    cases h2 : Nat.beq (tag (gF (shOf 10) v)) 8 with
    | false => rw [h2, bB_f] at h; exact .inl ⟨fun _ _ => by rw [e, h1, bB_t, h2, bB_f], h⟩
    | true =>
      rw [h2, bB_t] at h
      cases h3 : Nat.ble b63 (pay (gF (shOf 10) v)) with
      | false => rw [h3, bB_f] at h; exact .inl ⟨fun _ _ => by rw [e, h1, bB_t, h2, bB_t, h3, bB_f], h⟩
      | true =>
        rw [h3, bB_t] at h
        cases h4 : Nat.ble (pay (gF (shOf 10) v) - b63 + s) 4096 with
        | false => rw [h4, bB_f] at h; exact .inl ⟨fun _ _ => by rw [e, h1, bB_t, h2, bB_t, h3, bB_t, h4, bB_f], h⟩
        | true =>
          rw [h4, bB_t] at h
          obtain ⟨_, _, e5, h5⟩ := ldN_inv h
          cases h6 : Nat.beq (ldX H (pAdd (pay (gF (shOf 9) v)) (pay (gF (shOf 10) v) - b63)) s) (rep 1 s cM1) with
          | false => rw [h6, bB_f] at h5; exact .inl ⟨fun _ _ => by rw [e, h1, bB_t, h2, bB_t, h3, bB_t, h4, bB_t, e5, h6, bB_f], h5⟩
          | true =>
            rw [h6, bB_t] at h5
            exact .inr ⟨_, beq_t h1, beq_t h2, ble_t h3, rfl, ble_t h4, e5 _, beq_t h6, fun _ _ => by rw [e, h1, bB_t, h2, bB_t, h3, bB_t, h4, bB_t, e5, h6, bB_t], h5⟩
theorem cM1_int {g : Gh} {x : Value} (h : RelC g cM1 x) : x = .int .i32 (-1) := by
  obtain ⟨n, rfl, hi⟩ := h.intOf (k := .i32) (by decide)
  have hp := isI_pay hi
  have h1 : ((pay cM1 : Nat) : Int) = 9223372036854775807 := by decide
  have h2 : kOff .i32 = 9223372036854775808 := rfl
  rw [h1, h2] at hp
  have : n = -1 := by omega
  rw [this]
theorem loopT_ok {P : Program} {x : Code} {cx : CC} (hx : CodeOK P 43 x cx) (hSk : SkipOK P x) (n : Nat) : CodeOK P 43 (.loop x) ⟨fun cf q v a H k => loopT cx n cf q v a H k⟩ := fun cf q v a H kk hcf hr => by
  have key : ∀ n q v a H, loopT cx n cf q v a H kk = true → ∃ e q' v' a' H' m, (∀ k, loopT cx n cf q v a H k = k e q' v' a' H') ∧
      ∀ g w act, Good 43 g v a H w act → Code.rounds P x (Post 43 g H w e v' a' H') m act w := by
    intro n
    induction n with
    | zero => intro q v a H h; exact (Bool.false_ne_true h).elim
    | succ n ih =>
      intro q v a H h
      have er : ∀ k, loopT cx (n + 1) cf q v a H k = tryT 64 q v H (fun v => loopT cx n cf q v [] H k) (tryT 8 q v H (fun v => loopT cx n cf q v [] H k) (cx.run cf q v a H fun e q v a H => z0 e (loopT cx n cf q v a H k) (k e q v a H))) := fun _ => rfl
      rw [er] at h
      -- one jump
      have jump : ∀ s, s ≤ 64 → ∀ j, tag (gF (shOf 9) v) = 11 → tag (gF (shOf 10) v) = 8 → b63 ≤ pay (gF (shOf 10) v) → j = pay (gF (shOf 10) v) - b63 → j + s ≤ 4096 →
          ldN H (pAdd (pay (gF (shOf 9) v)) j) s (fun _ => true) = true → ldX H (pAdd (pay (gF (shOf 9) v)) j) s = rep 1 s cM1 → (∀ k, loopT cx (n + 1) cf q v a H k = loopT cx n cf q (skV s q v j) [] H k) → loopT cx n cf q (skV s q v j) [] H kk = true →
          ∃ e q' v' a' H' m, (∀ k, loopT cx (n + 1) cf q v a H k = k e q' v' a' H') ∧ ∀ g w act, Good 43 g v a H w act → Code.rounds P x (Post 43 g H w e v' a' H') m act w := fun s hs j t1 t2 t3 t4 t5 t6 t7 t8 t9 => by
        obtain ⟨e2, q2, v2, a2, H2, m, g1, g2⟩ := ih q (skV s q v j) [] H t9
        refine ⟨e2, q2, v2, a2, H2, s + m, fun k => (t8 k).trans (g1 k), fun g w act G => ?_⟩
        obtain ⟨tmps, ds⟩ := act
        have hds : ds = [] := G.defs
        subst hds
        have n9 : gF (shOf 9) v ≠ 0 := fun h0 => by rw [h0] at t1; exact absurd t1 (by decide)
        have n10 : gF (shOf 10) v ≠ 0 := fun h0 => by rw [h0] at t2; exact absurd t2 (by decide)
        obtain ⟨x9, y9, r9⟩ := G.rel 9 (gF (shOf 9) v) [] (by unfold rdA; rw [if_neg n9])
        obtain ⟨x10, y10, r10⟩ := G.rel 10 (gF (shOf 10) v) [] (by unfold rdA; rw [if_neg n10])
        obtain ⟨b, rfl, hc⟩ := relA_ptr r9 t1
        obtain ⟨z, rfl, iz⟩ := relA_int (k := .i64) r10 t2
        have hz : z = (j : Int) := by
          have hp := isI_pay iz
          have h2 : kOff .i64 = 9223372036854775808 := rfl
          have h3 : b63 = 9223372036854775808 := rfl
          rw [h2] at hp
          omega
        subst hz
        obtain ⟨x3, f, x4⟩ := ld_sound (hc.addr.add j) G.heap t6
        refine hSk s w tmps b j G.size y9 y10 t5 (fun i hi => ?_) _ m fun tmps' s1 s2 s3 => g2 g w ⟨tmps', []⟩ ⟨fun t c xs ht => ?_, G.heap, s1, rfl⟩
        · obtain ⟨c1, c2⟩ := x4 i hi
          rw [t7, cell_rep (by omega) (by decide), if_pos (by omega), Nat.mod_one, cell0_of_lt (by decide)] at c2
          rw [addr_add b hc.addr.1, addr_add _ rfl] at c1
          rw [addr_add b hc.addr.1, ← Nat.add_assoc, c1, cM1_int c2]
        · unfold rdA at ht
          unfold skV at ht
          have hcode : enc 8 (b63 + (j + s)) < 2 ^ 128 := by
            have h3 : b63 = 9223372036854775808 := rfl
            rw [enc_eq]; omega
          rw [gF_setF hcode] at ht
          by_cases ht10 : t = 10
          · subst ht10
            rw [if_pos rfl, if_neg (by rw [enc_eq]; omega)] at ht
            cases ht
            refine ⟨_, s2, .inr ⟨rfl, .inl ?_⟩⟩
            have h3 : b63 = 9223372036854775808 := rfl
            have hk : kTag .i64 = 8 := rfl
            rw [← hk]
            exact isI_mk ((inK_iff .i64 _).2 (by constructor <;> omega)) (by show ((b63 + (j + s) : Nat) : Int) = _; rw [h3]; show _ = ((j + s : Nat) : Int) + kOff .i64; rw [show kOff .i64 = 9223372036854775808 from rfl]; omega)
          · rw [if_neg ht10, gF_erase] at ht
            by_cases htd : t ∈ deadT
            · rw [if_pos htd, if_pos rfl] at ht
              cases ht
            · rw [if_neg htd] at ht
              by_cases h0 : gF (shOf t) v = 0
              · rw [if_pos h0] at ht; cases ht
              rw [if_neg h0] at ht
              obtain ⟨x, hx1, hx2⟩ := G.rel t c xs (by unfold rdA; rw [if_neg h0]; exact ht)
              exact ⟨x, by rw [s3 t ht10 htd]; exact hx1, hx2⟩
      rcases tryT_inv h with ⟨t1', t2'⟩ | ⟨j, t1, t2, t3, t4, t5, t6, t7, t8, t9⟩
      rcases tryT_inv t2' with ⟨t1'', t2⟩ | ⟨j, t1, t2, t3, t4, t5, t6, t7, t8, t9⟩
      · have t1 : ∀ k, loopT cx (n + 1) cf q v a H k = cx.run cf q v a H fun e q v a H => z0 e (loopT cx n cf q v a H k) (k e q v a H) := fun k => (er k).trans ((t1' _ _).trans (t1'' _ _))
        obtain ⟨e, q1, v1, a1, H1, h1, h2⟩ := hx cf q v a H _ hcf t2
        rw [h1] at t2
        by_cases he : e = 0
        · subst he
          obtain ⟨e2, q2, v2, a2, H2, m, g1, g2⟩ := ih q1 v1 a1 H1 t2
          refine ⟨e2, q2, v2, a2, H2, m + 1, fun k => (t1 k).trans ((h1 _).trans (g1 k)), fun g w act G => ?_⟩
          rw [rounds_succ]
          refine wp_mono (h2 g w act G) fun ex act' w' hp => ?_
          obtain ⟨rfl, g', G', hst⟩ := hp
          exact rounds_mono (fun ex a w h => h.trans hst) m _ _ (g2 g' w' act' G')
        · obtain ⟨m, rfl⟩ := Nat.exists_eq_succ_of_ne_zero he
          refine ⟨_, q1, v1, a1, H1, 1, fun k => (t1 k).trans (h1 _), fun g w act G => ?_⟩
          rw [rounds_succ]
          exact wp_mono (h2 g w act G) fun ex act' w' h => then_other (by rw [h.1]; exact exOf_normal he) h
      · exact jump 8 (by omega) j t1 t2 t3 t4 t5 t6 t7 (fun k => (er k).trans ((t1' _ _).trans (t8 _ _))) t9
      · exact jump 64 (by omega) j t1 t2 t3 t4 t5 t6 t7 (fun k => (er k).trans (t8 _ _)) t9
  obtain ⟨e, q', v', a', H', m, h1, h2⟩ := key n q v a H hr
  exact ⟨e, q', v', a', H', h1, fun g w act G => wp_loop_rounds m (h2 g w act G)⟩
end Go.Proofs.YgvajwGreat.Ev
