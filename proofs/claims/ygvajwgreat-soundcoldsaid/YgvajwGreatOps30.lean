import Derived.Test.YgvajwGreatFl4
import Derived.LoopN
namespace Go.Proofs.YgvajwGreat.Ev
section
variable {P : Program}
/-- registers, heap and world go together -/
structure Good (N : Nat) (g : Gh) (v : Nat) (a : List Bnd) (H : Hp) (w : World) (act : Act) : Prop where
  rel : RelR g v a act.tmps
  heap : RelH g H w
  size : act.tmps.size = N
  defs : act.defers = []
def exOf : Nat → Exit
  | 0 => .normal
  | 1 => .ret
  | n + 2 => .exit n
/-- behind the code -/
def Post (N : Nat) (g : Gh) (H : Hp) (w : World) (e v' : Nat) (a' : List Bnd) (H' : Hp) : Exit → Act → World → Prop :=
  fun ex act' w' => ex = exOf e ∧ ∃ g', Good N g' v' a' H' w' act' ∧ St g H w g' H' w'
def CodeOK (P : Program) (N : Nat) (c : Code) (cc : CC) : Prop :=
  ∀ cf q v a H kk, CallOK P cf → cc.run cf q v a H kk = true → ∃ e q' v' a' H', (∀ k, cc.run cf q v a H k = k e q' v' a' H') ∧
    ∀ g w act, Good N g v a H w act → c.wp P (Post N g H w e v' a' H') act w
theorem CodeOK.no {N : Nat} {c : Code} : CodeOK P N c ccNo := fun _ _ _ _ _ _ _ h => (Bool.false_ne_true h).elim
theorem St.drawn {g g' : Gh} {H H' : Hp} {w w' : World} {n : Nat} (h : St g H { w with drawn := n } g' H' w') : St g H w g' H' w' := ⟨h.ext, h.rel, ⟨h.fr.size, h.fr.os, h.fr.out, h.fr.fz, h.fr.keep⟩, h.um, h.kept⟩
theorem RelH.drawn {g : Gh} {H : Hp} {w : World} (n : Nat) (h : RelH g H w) : RelH g H { w with drawn := n } := ⟨h.live, h.inj, h.fresh, h.zero, h.pos⟩
variable {E : Env} {fn N : Nat}
theorem wf_all {ops : Array Oper} (h : ops.toList.all (wfOper N) = true) (i : Nat) (o : Oper) (ho : ops[i]? = some o) : wfOper N o = true :=
  List.all_eq_true.1 h o (by simpa using Array.mem_of_getElem? ho)
theorem region_ok (hE : ∀ t, TIok P t (E.ti t)) (hX : ExtOK P E) {ops : Array Oper} {id : Nat} (hw : ops.toList.all (wfOper N) = true) :
    CodeOK P N (.region id ops false) ⟨fun cf q v a H k => (cOps E fn ops ops.toList).run cf 0 q v a H (k 0)⟩ := fun cf q v a H kk hcf hr => by
  obtain ⟨V, A, Hh, C, X, q', h1, h2, h3, h4, h5⟩ := ops_trace hE hX hcf ops.toList 0 q v a H (kk 0) (by simp) hr
  have hlen : 0 + ops.toList.length = ops.size := by simp
  rw [hlen] at h4 h5
  refine ⟨0, q', V ops.size, A ops.size, Hh ops.size, fun k => h4 (k 0), fun g w act G => wp_region ?_⟩
  have key : ∀ (n i : Nat), i + n = ops.size → ∀ act' w' g', RelR g' (V i) (A i) act'.tmps → act'.tmps.size = N → act'.defers = [] → St g H w g' (Hh i) w' →
      wpOps P ops (Post N g H w 0 (V ops.size) (A ops.size) (Hh ops.size)) (List.range' i n) act' w' := by
    intro n
    induction n with
    | zero =>
      intro i hi act' w' g' k1 k2 k3 k4
      have : i = ops.size := by omega
      subst this
      exact ⟨rfl, g', ⟨k1, k4.rel, k2, k3⟩, k4⟩
    | succ n ih =>
      intro i hi act' w' g' k1 k2 k3 k4
      have hlt : i < ops.size := by omega
      have ho : ops[i]? = some ops[i] := by simp [hlt]
      have hF := h5 i ops[i] (by omega) hlt ho
      rw [List.range'_succ, wpOps_cons]
      refine wpO_wpOp ho (wpO_mono (fun act'' w'' h => ?_) (hF.sem g' w' act' (k1.relO _) k4.rel _))
      obtain ⟨x, g'', rfl, hx, hst⟩ := h
      have hd : ∀ t, ops[i].dst = some t → t < act'.tmps.size := fun t ht => by
        have := wf_all hw i _ ho
        unfold wfOper at this
        rw [ht] at this
        rw [k2]; exact ble_t this
      exact ih (i + 1) (by omega) _ _ g'' ((k1.mono hst.ext).put hF.put hd hx) (by rw [put_len]; exact k2) (by rw [put_defs]; exact k3) (k4.trans hst)
  rw [List.range_eq_range']
  exact key ops.size 0 (by omega) act w g (by rw [h1, h2]; exact G.rel) G.size G.defs (by rw [h3]; exact St.refl G.heap)
theorem draw_ok (hE : ∀ t, TIok P t (E.ti t)) (hX : ExtOK P E) (hm : P.follows .mixedOrders = true) {ops : Array Oper} {id : Nat} (hw : ops.toList.all (wfOper N) = true) (hG : goodR E ops = true) {l : List Ag}
    (hl : mkAg E fn ops (againL E ops) = some l) :
    CodeOK P N (.region id ops true) ⟨fun cf q v a H k => hpK H fun hu pt lt bs => fN (Nat.add hu ops.size) fun hu' =>
          (cOpsH E fn ops ops.toList 0).run cf hu q v a ⟨hu', pt, lt, bs⟩ [(0, ⟨hu', pt, lt, bs⟩)] fun q v a H hs => bB (again cf hu q v a hs l) (k 0 q v a H) false⟩ := fun cf q v a H kk hcf hr => by
  obtain ⟨hu, pt, lt, bs⟩ := H
  have e : ∀ k : KE, (CC.mk fun cf q v a H k => hpK H fun hu pt lt bs => fN (Nat.add hu ops.size) fun hu' =>
          (cOpsH E fn ops ops.toList 0).run cf hu q v a ⟨hu', pt, lt, bs⟩ [(0, ⟨hu', pt, lt, bs⟩)] fun q v a H hs => bB (again cf hu q v a hs l) (k 0 q v a H) false).run cf q v a ⟨hu, pt, lt, bs⟩ k =
      (cOpsH E fn ops ops.toList 0).run cf hu q v a ⟨hu + ops.size, pt, lt, bs⟩ [(0, ⟨hu + ops.size, pt, lt, bs⟩)] fun q v a H hs => bB (again cf hu q v a hs l) (k 0 q v a H) false := fun k => by
    show (fN (Nat.add hu ops.size) fun hu' => (cOpsH E fn ops ops.toList 0).run cf hu q v a ⟨hu', pt, lt, bs⟩ [(0, ⟨hu', pt, lt, bs⟩)] fun q v a H hs => bB (again cf hu q v a hs l) (k 0 q v a H) false) = _
    rw [fN_eq]
    rfl
  rw [e] at hr
  obtain ⟨V, A, Hh, C, X, Bf, q', hs', h1, h2, h3, h4, h5, h6⟩ := traceD hE hX hcf hu ops.toList 0 q v a ⟨hu + ops.size, pt, lt, bs⟩ _ _ (by simp) hr
  have hlen : 0 + ops.toList.length = ops.size := by simp
  rw [hlen] at h4 h5 h6
  rw [h4] at hr
  obtain ⟨hag, _⟩ := bB_and.1 hr
  refine ⟨0, q', V ops.size, A ops.size, Hh ops.size, fun k => by rw [e, h4, hag, bB_t], fun g w act G => wp_region_any hm ?_⟩
  have hF : ∀ j o, ops[j]? = some o → FactD P E ops hu V A Hh C X Bf j o := fun j o ho => h5 j o (by omega) (Array.getElem?_eq_some_iff.1 ho).1 ho
  have hno : ∀ j, (Array.replicate ops.size false).getD j false = false := fun j => by
    by_cases hj : j < ops.size <;> simp [hj]
  have hhs : ∀ m H', (m, H') ∈ hs' → H' = Hh m := fun m H' hm => by
    rcases h6 m H' hm with h | ⟨_, _, h⟩
    · rw [List.mem_singleton] at h
      cases h
      exact h3.symm
    · exact h
  have hPut := fun (j : Nat) o h => (hF j o h).put
  have hRd : ∀ (j : Nat) o, ops[j]? = some o → kl E o.op = 1 → ∀ m, (m = 0 ∨ ∃ k o', m = k + 1 ∧ ops[k]? = some o' ∧ kl E o'.op = 2) →
      (∀ (k : Nat) o', ops[k]? = some o' → kl E o'.op = 2 → (ancB ops ops.size k j = true → k < m) ∧ (ancB ops ops.size j k = true → m ≤ k)) → OprSem P ops (V ops.size) (A ops.size) (Hh m) o (C j) (X j) (Hh m) := fun j o ho hk m hm' hs => by
    obtain ⟨o', d, H', a1, a2, a3, a4⟩ := again_inv _ l hl hag j m (mem_againL ho hk hm' hs)
    rw [ho] at a1; cases a1
    rw [hhs m H' a3] at a4
    obtain ⟨c, xs, q1, v1, a1, H1, b1, b2, b3⟩ := cOper_ok hE hX hcf a4
    rw [b1] at a4
    have hsame := sameReg_inv a4
    rw [a2] at b2
    have hd := b2 d
    rw [if_pos rfl] at hd
    rw [hd] at hsame
    have hCX : rdA (V ops.size) (A ops.size) d = some (C j, X j) := by
      have hlt : j < ops.size := (Array.getElem?_eq_some_iff.1 ho).1
      rcases regs_at hPut d ops.size (Nat.le_refl _) with ⟨k, o', c1, c2, c3, c4⟩ | ⟨c1, _⟩
      · have hkj : k = j := by
          rcases Nat.lt_trichotomy k j with h | h | h
          · exact absurd a2 (sameD_f ((goodR_spec hG j o ho).2.2 k o' h c2).2.1 c3)
          · exact h
          · exact absurd c3 (sameD_f ((goodR_spec hG k o' c2).2.2 j o h ho).2.1 a2)
        rw [c4, hkj]
      · exact absurd a2 (c1 j o hlt ho)
    rw [hCX] at hsame
    cases hsame
    have hH1 : H1 = Hh m := by
      have hW := noW_cOper (E := E) (fn := fn) (ops := ops) (show kl E o.op < 2 by omega) cf hu q' (V ops.size) (A ops.size) (Hh m)
      exact (k_inj (q := q1) (q' := q1) (v := v1) (v' := v1) (a := a1) (a' := a1) (H := H1) (H' := Hh m) fun k => (b1 k).symm.trans ((hW k).trans (b1 _))).2.2
    rw [hH1] at b3
    exact b3
  have hrel0 : RelH g ⟨hu + ops.size, pt, lt, bs⟩ { w with drawn := w.drawn + 1 } := (G.heap.drawn _).uid (u := hu + ops.size) (p := pt) (t := lt) (Nat.le_add_right _ _)
  refine anyD_ok (N := N) (ds := []) (H0 := ⟨hu, pt, lt, bs⟩) (g0 := g) (w0 := { w with drawn := w.drawn + 1 }) hG hF (wf_all hw) rfl G.heap.pos hRd (fun act' w' g' k1 k2 k3 k4 => ⟨rfl, g', ⟨k1, k4.rel, k2, k3⟩, k4.drawn⟩) ops.size _ act _ g 0
    ⟨by simp, (fun j hj => by rw [hno] at hj; cases hj), .inl rfl, by omega, (fun i o _ _ => by rw [hno]; simp), ?_, ?_, (fun i o ho _ _ => ?_), (fun i o B _ _ hl => by rw [hno] at hl; cases hl), (fun i i' o o' b s s' ho _ _ _ _ _ _ h8 => ?_),
      (fun i o t _ _ hl => by rw [hno] at hl; cases hl), (fun t _ c xs hc => G.rel t c xs (by rw [← h1, ← h2]; exact hc)), G.size, G.defs⟩ ?_
  · rw [h3]
    exact ⟨Ext.refl g, hrel0, ⟨Nat.le_refl _, rfl, rfl, fun _ => rfl, fun b _ ho => ⟨rfl, ho⟩⟩, Nat.le_add_right _ _, fun _ _ => rfl⟩
  · rw [h3]; exact Nat.le_refl _
  · exact G.heap.fresh _ (Nat.le_add_right _ _)
  · have := G.heap.fresh (hu + i) (Nat.le_add_right _ _)
    rw [this] at h8; cases h8
  · exact Nat.le_trans List.countP_le_length (by simp)
theorem Post.trans {N : Nat} {g g1 : Gh} {H H1 : Hp} {w w1 : World} (hst : St g H w g1 H1 w1) {e v' : Nat} {a' : List Bnd} {H' : Hp} {ex : Exit} {act' : Act} {w' : World} (h : Post N g1 H1 w1 e v' a' H' ex act' w') :
    Post N g H w e v' a' H' ex act' w' := by
  obtain ⟨h1, g', h2, h3⟩ := h
  exact ⟨h1, g', h2, hst.trans h3⟩
theorem exOf_normal {e : Nat} (h : e ≠ 0) : exOf e ≠ .normal := by
  match e, h with
  | 0, h => exact absurd rfl h
  | 1, _ => intro h; cases h
  | n + 2, _ => intro h; cases h
theorem then_other {next : Act → World → Prop} {Q : Exit → Act → World → Prop} {ex : Exit} {a : Act} {w : World} (h : ex ≠ .normal) (hq : Q ex a w) : Exit.then next Q ex a w := by
  cases ex <;> first | exact absurd rfl h | exact hq
theorem seq_ok {x y : Code} {cx cy : CC} (hx : CodeOK P N x cx) (hy : CodeOK P N y cy) :
    CodeOK P N (.seq x y) ⟨fun cf q v a H k => cx.run cf q v a H fun e q v a H => z0 e (cy.run cf q v a H k) (k e q v a H)⟩ := fun cf q v a H kk hcf hr => by
  have hr' : (cx.run cf q v a H fun e q v a H => z0 e (cy.run cf q v a H kk) (kk e q v a H)) = true := hr
  obtain ⟨e, q1, v1, a1, H1, h1, h2⟩ := hx cf q v a H _ hcf hr'
  rw [h1] at hr'
  by_cases he : e = 0
  · subst he
    obtain ⟨e2, q2, v2, a2, H2, g1, g2⟩ := hy cf q1 v1 a1 H1 kk hcf hr'
    refine ⟨e2, q2, v2, a2, H2, fun k => (h1 _).trans (g1 k), fun g w act G => wp_seq (wp_mono (h2 g w act G) fun ex act' w' h => ?_)⟩
    obtain ⟨rfl, g', G', hst⟩ := h
    exact wp_mono (g2 g' w' act' G') fun ex act'' w'' h => h.trans hst
  · obtain ⟨n, rfl⟩ := Nat.exists_eq_succ_of_ne_zero he
    refine ⟨_, q1, v1, a1, H1, fun k => h1 _, fun g w act G => wp_seq (wp_mono (h2 g w act G) fun ex act' w' h => then_other (by rw [h.1]; exact exOf_normal he) h)⟩
theorem cond_ok {x y : Code} {c : Operand} {cx cy : CC} (hx : CodeOK P N x cx) (hy : CodeOK P N y cy) :
    CodeOK P N (.cond c x y) ⟨fun cf q v a H k => (cOv c).get v a fun c => bB (Nat.beq c 25) (cx.run cf q v a H k) (bB (Nat.beq c 9) (cy.run cf q v a H k) false)⟩ := fun cf q v a H kk hcf hr => by
  have hr' : ((cOv c).get v a fun c => bB (Nat.beq c 25) (cx.run cf q v a H kk) (bB (Nat.beq c 9) (cy.run cf q v a H kk) false)) = true := hr
  obtain ⟨cc, xs, hg, hk, hs, _⟩ := get_inv hr'
  have hev : ∀ g w act, Good N g v a H w act → RelA g cc xs (act.eval c) := fun g w act G => hs g act (G.rel.relO _)
  rcases bB_or.1 hk with ⟨h1, hk1⟩ | ⟨h1, hk1⟩
  · obtain ⟨e, q1, v1, a1, H1, g1, g2⟩ := hx cf q v a H kk hcf hk1
    refine ⟨e, q1, v1, a1, H1, fun k => (hg _).trans (by rw [h1, bB_t]; exact g1 k), fun g w act G => wp_cond_true ?_ (g2 g w act G)⟩
    have h25 := beq_t h1
    obtain ⟨b, hb, hcb⟩ := (((hev g w act G).val (by omega)).scalar (by rw [h25]; decide)).boolOf (by rw [h25]; decide)
    rw [hb]; rw [h25] at hcb; cases b
    · exact absurd hcb (by decide)
    · rfl
  · obtain ⟨h2, hk2⟩ := bB_and.1 hk1
    obtain ⟨e, q1, v1, a1, H1, g1, g2⟩ := hy cf q v a H kk hcf hk2
    refine ⟨e, q1, v1, a1, H1, fun k => (hg _).trans (by rw [h1, bB_f, h2, bB_t]; exact g1 k), fun g w act G => wp_cond_false ?_ (g2 g w act G)⟩
    have h9 := beq_t h2
    obtain ⟨b, hb, hcb⟩ := (((hev g w act G).val (by omega)).scalar (by rw [h9]; decide)).boolOf (by rw [h9]; decide)
    rw [hb]; rw [h9] at hcb; cases b
    · rfl
    · exact absurd hcb (by decide)
theorem block_ok {id : Nat} {x : Code} {cx : CC} (hx : CodeOK P N x cx) :
    CodeOK P N (.block id x) ⟨fun cf q v a H k => cx.run cf q v a H fun e q v a H => fN (bB (Nat.beq e (id + 2)) 0 e) fun e => k e q v a H⟩ := fun cf q v a H kk hcf hr => by
  have hr' : (cx.run cf q v a H fun e q v a H => fN (bB (Nat.beq e (id + 2)) 0 e) fun e => kk e q v a H) = true := hr
  obtain ⟨e, q1, v1, a1, H1, h1, h2⟩ := hx cf q v a H _ hcf hr'
  refine ⟨bB (Nat.beq e (id + 2)) 0 e, q1, v1, a1, H1, fun k => (h1 _).trans (fN_eq _ _), fun g w act G => wp_block (wp_mono (h2 g w act G) fun ex act' w' h => ?_)⟩
  obtain ⟨rfl, h⟩ := h
  by_cases he : e = id + 2
  · subst he
    rw [show Nat.beq (id + 2) (id + 2) = true from Nat.beq_refl _, bB_t]
    show if id = id then _ else _
    rw [if_pos rfl]
    exact ⟨rfl, h⟩
  · rw [nbeq he, bB_f]
    match e, he with
    | 0, _ => exact ⟨rfl, h⟩
    | 1, _ => exact ⟨rfl, h⟩
    | n + 2, he =>
      show if n = id then _ else _
      rw [if_neg (by omega)]
      exact ⟨rfl, h⟩
theorem rounds_mono {c : Code} {Q Q' : Exit → Act → World → Prop} (hq : ∀ e a w, Q e a w → Q' e a w) : ∀ n a w, Code.rounds P c Q n a w → Code.rounds P c Q' n a w
  | 0, _, _, h => h
  | n + 1, a, w, h => by
    rw [rounds_succ] at h ⊢
    refine wp_mono h fun ex a w h => ?_
    cases ex with
    | normal => exact rounds_mono hq n a w h
    | _ => exact hq _ _ _ h
theorem loop_ok {x : Code} {cx : CC} (hx : CodeOK P N x cx) (n : Nat) : CodeOK P N (.loop x) ⟨fun cf q v a H k => loopN cx n cf q v a H k⟩ := fun cf q v a H kk hcf hr => by
  have key : ∀ n q v a H, loopN cx n cf q v a H kk = true → ∃ e q' v' a' H', (∀ k, loopN cx n cf q v a H k = k e q' v' a' H') ∧
      ∀ g w act, Good N g v a H w act → Code.rounds P x (Post N g H w e v' a' H') n act w := by
    intro n
    induction n with
    | zero => intro q v a H h; exact (Bool.false_ne_true h).elim
    | succ n ih =>
      intro q v a H h
      have er : ∀ k, loopN cx (n + 1) cf q v a H k = cx.run cf q v a H fun e q v a H => z0 e (loopN cx n cf q v a H k) (k e q v a H) := fun _ => rfl
      rw [er] at h
      obtain ⟨e, q1, v1, a1, H1, h1, h2⟩ := hx cf q v a H _ hcf h
      rw [h1] at h
      by_cases he : e = 0
      · subst he
        obtain ⟨e2, q2, v2, a2, H2, g1, g2⟩ := ih q1 v1 a1 H1 h
        refine ⟨e2, q2, v2, a2, H2, fun k => (er k).trans ((h1 _).trans (g1 k)), fun g w act G => ?_⟩
        rw [rounds_succ]
        refine wp_mono (h2 g w act G) fun ex act' w' hp => ?_
        obtain ⟨rfl, g', G', hst⟩ := hp
        exact rounds_mono (fun ex a w h => h.trans hst) n _ _ (g2 g' w' act' G')
      · obtain ⟨m, rfl⟩ := Nat.exists_eq_succ_of_ne_zero he
        refine ⟨_, q1, v1, a1, H1, fun k => (er k).trans (h1 _), fun g w act G => ?_⟩
        rw [rounds_succ]
        exact wp_mono (h2 g w act G) fun ex act' w' h => then_other (by rw [h.1]; exact exOf_normal he) h
  obtain ⟨e, q', v', a', H', h1, h2⟩ := key n q v a H hr
  exact ⟨e, q', v', a', H', h1, fun g w act G => wp_loop_rounds n (h2 g w act G)⟩
end
end Go.Proofs.YgvajwGreat.Ev
