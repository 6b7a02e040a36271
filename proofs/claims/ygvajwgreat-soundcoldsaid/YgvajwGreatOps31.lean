import Derived.Test.YgvajwGreatLt
import Derived.Tactics
namespace Go.Proofs.YgvajwGreat.Ev
theorem mapM_run {α β : Type} {P : Program} {w : World} {f : α → Sem β} : ∀ (l : List α) (vs : List β), l.length = vs.length → (∀ (i : Nat) r x, l[i]? = some r → vs[i]? = some x → (f r).run P w = .ok x w) → (l.mapM f).run P w = .ok vs w
  | [], [], _, _ => by simp
  | [], _ :: _, h, _ => by simp at h
  | _ :: _, [], h, _ => by simp at h
  | r :: l, x :: vs, hl, h => by
    have h1 := h 0 r x rfl rfl
    have h2 := mapM_run l vs (by simpa using hl) (fun i r x hr hx => h (i + 1) r x (by simpa using hr) (by simpa using hx))
    simp [List.mapM_cons, h1, h2]
def resV : List Value → Value
  | [x] => x
  | vs => .tuple vs.toArray
def resF (tmps : Array Value) : ResultVar → Sem Value
  | .tmp t => pure (tmps.getD t undef)
  | .cell a t => do loadVar t (← asAddr (tmps.getD a undef))
theorem results_run {fn : Func} (tmps : Array Value) (P : Program) (w : World) (vs : List Value) (hl : fn.results.toList.length = vs.length)
    (hx : ∀ (i : Nat) r x, fn.results.toList[i]? = some r → vs[i]? = some x → (resF tmps r).run P w = .ok x w) : (results fn tmps).run P w = .ok (resV vs) w := by
  have e : results fn tmps = (fn.results.mapM (resF tmps) >>= fun vs => pure (if h : vs.size = 1 then vs[0] else .tuple vs)) := rfl
  rw [e]
  generalize fn.results = rs at hx hl
  obtain ⟨l⟩ := rs
  have key := mapM_run l vs hl hx
  rw [List.mapM_toArray]
  simp only [bind_map_left]
  have e2 : ∀ (f : List Value → Sem Value), ((l.mapM (resF tmps)) >>= f).run P w = (f vs).run P w := fun f => by simp [key]
  rw [e2]
  match vs with
  | [] => rfl
  | [x] => rfl
  | x :: y :: l => simp [resV]

section
variable {P : Program} {E : Env} {fn N : Nat}
theorem cCode_ok (hE : ∀ t, TIok P t (E.ti t)) (hX : ExtOK P E) (hm : P.follows .mixedOrders = true) : ∀ c : Code, wfCode N c = true → (fn = E.tab → N = 43 ∧ ∀ b, b ∈ loopsOf c → SkipOK P b) → CodeOK P N c (cCode E fn c)
  | .skip, _, _ => fun _ q v a H _ _ _ => ⟨0, q, v, a, H, fun _ => rfl, fun g w act G => wp_skip ⟨rfl, g, G, St.refl G.heap⟩⟩
  | .region id ops false, h, _ => by
    have e : cCode E fn (.region id ops false) = ⟨fun cf q v a H k => (cOps E fn ops ops.toList).run cf 0 q v a H (k 0)⟩ := rfl
    rw [e]; exact region_ok hE hX h
  | .region id ops true, h, _ => by
    have e : cCode E fn (.region id ops true) = match goodR E ops, cOpsH E fn ops ops.toList 0, mkAg E fn ops (againL E ops) with
      | true, c, some l => fN ops.size fun n => ⟨fun cf q v a H k => hpK H fun hu pt lt bs => fN (Nat.add hu n) fun hu' =>
            c.run cf hu q v a ⟨hu', pt, lt, bs⟩ [(0, ⟨hu', pt, lt, bs⟩)] fun q v a H hs => bB (again cf hu q v a hs l) (k 0 q v a H) false⟩
      | _, _, _ => ccNo := rfl
    rw [e]
    cases hG : goodR E ops with
    | false => exact .no
    | true =>
      cases hl : mkAg E fn ops (againL E ops) with
      | none => exact .no
      | some l =>
        dsimp only
        rw [fN_eq]
        exact draw_ok hE hX hm h hG hl
  | .seq x y, h, hT => by
    have h : and (wfCode N x) (wfCode N y) = true := h
    rw [Bool.and_eq_true] at h
    exact seq_ok (cCode_ok hE hX hm x h.1 fun e => ⟨(hT e).1, fun b hb => (hT e).2 b (List.mem_append_left _ hb)⟩) (cCode_ok hE hX hm y h.2 fun e => ⟨(hT e).1, fun b hb => (hT e).2 b (List.mem_append_right _ hb)⟩)
  | .cond c x y, h, hT => by
    have h : and (wfCode N x) (wfCode N y) = true := h
    rw [Bool.and_eq_true] at h
    exact cond_ok (cCode_ok hE hX hm x h.1 fun e => ⟨(hT e).1, fun b hb => (hT e).2 b (List.mem_append_left _ hb)⟩) (cCode_ok hE hX hm y h.2 fun e => ⟨(hT e).1, fun b hb => (hT e).2 b (List.mem_append_right _ hb)⟩)
  | .block id b, h, hT => block_ok (cCode_ok hE hX hm b h hT)
  | .loop b, h, hT => by
    have hb := cCode_ok hE hX hm b h fun e => ⟨(hT e).1, fun b' hb' => (hT e).2 b' (List.mem_cons_of_mem _ hb')⟩
    have e : cCode E fn (.loop b) = match Nat.beq fn E.tab, cCode E fn b with
      | true, b => ⟨fun cf q v a H k => loopT b 100000 cf q v a H k⟩
      | false, b => ⟨fun cf q v a H k => loopN b 100000 cf q v a H k⟩ := rfl
    rw [e]
    cases ht : Nat.beq fn E.tab with
    | false => exact loop_ok hb 100000
    | true =>
      obtain ⟨h1, h2⟩ := hT (beq_t ht)
      subst h1
      exact loopT_ok hb (h2 b (List.mem_cons_self ..)) 100000
  | .exit id, _, _ => fun _ q v a H _ _ _ => ⟨id + 2, q, v, a, H, fun _ => rfl, fun g w act G => wp_exit ⟨rfl, g, G, St.refl G.heap⟩⟩
  | .ret, _, _ => fun _ q v a H _ _ _ => ⟨1, q, v, a, H, fun _ => rfl, fun g w act G => wp_ret ⟨rfl, g, G, St.refl G.heap⟩⟩
  | .rangeFunc .., _, _ => .no
  | .scope _, _, _ => .no
  | .label _, _, _ => .no
  | .goto _, _, _ => .no
  | .refuse _, _, _ => .no
/-! results -/
theorem resK_inv (hE : ∀ t, TIok P t (E.ti t)) : ∀ (rs : List ResultVar) {v : Nat} {a : List Bnd} {H : Hp} {k : List Nat → Bool}, resK E rs v a H k = true →
    ∃ cs, (∀ k', resK E rs v a H k' = k' cs) ∧ k cs = true ∧ cs.length = rs.length ∧
      ∀ g w (act : Act), RelR g v a act.tmps → RelH g H w → ∃ vs : List Value, rs.length = vs.length ∧ (∀ (i : Nat) r x, rs[i]? = some r → vs[i]? = some x → (resF act.tmps r).run P w = .ok x w) ∧
        ∀ (i : Nat) c x, cs[i]? = some c → vs[i]? = some x → RelV g c x
  | [], v, a, H, k, h => ⟨[], fun _ => rfl, h, rfl, fun g w act _ _ => ⟨[], rfl, (fun i r x hr => by simp at hr), fun i c x hc => by simp at hc⟩⟩
  | r :: rs, v, a, H, k, h => by
    have one : ∀ (c : Nat), (∀ k', resK E (r :: rs) v a H k' = resK E rs v a H fun cs => k' (c :: cs)) →
        (∀ g w (act : Act), RelR g v a act.tmps → RelH g H w → ∃ x, (resF act.tmps r).run P w = .ok x w ∧ RelV g c x) →
        ∃ cs, (∀ k', resK E (r :: rs) v a H k' = k' cs) ∧ k cs = true ∧ cs.length = (r :: rs).length ∧
          ∀ g w (act : Act), RelR g v a act.tmps → RelH g H w → ∃ vs : List Value, (r :: rs).length = vs.length ∧ (∀ (i : Nat) r' x, (r :: rs)[i]? = some r' → vs[i]? = some x → (resF act.tmps r').run P w = .ok x w) ∧
            ∀ (i : Nat) c x, cs[i]? = some c → vs[i]? = some x → RelV g c x := fun c e hs => by
      rw [e] at h
      obtain ⟨cs, h1, h2, h3, h4⟩ := resK_inv hE rs h
      refine ⟨c :: cs, fun k' => by rw [e, h1], h2, by simp [h3], fun g w act hr hH => ?_⟩
      obtain ⟨x, x1, x2⟩ := hs g w act hr hH
      obtain ⟨vs, v1, v2, v3⟩ := h4 g w act hr hH
      refine ⟨x :: vs, by simp [v1], fun i r' y hr' hy => ?_, fun i c' y hc hy => ?_⟩
      · cases i with
        | zero => simp at hr' hy; subst hr'; subst hy; exact x1
        | succ i => exact v2 i r' y (by simpa using hr') (by simpa using hy)
      · cases i with
        | zero => simp at hc hy; subst hc; subst hy; exact x2
        | succ i => exact v3 i c' y (by simpa using hc) (by simpa using hy)
    cases r with
    | tmp t =>
      have e : ∀ k', resK E (.tmp t :: rs) v a H k' = (cOv (.tmp t)).get v a fun c => bB (Nat.ble (tag c) 14) (resK E rs v a H fun cs => k' (c :: cs)) false := fun _ => rfl
      have hh := h
      rw [e] at hh
      obtain ⟨c, ys, hg, hk, hs, _⟩ := get_inv hh
      obtain ⟨ht, hk⟩ := bB_and.1 hk
      refine one c (fun k' => by rw [e, hg, ht, bB_t]) (fun g w act hr hH => ⟨act.tmps.getD t undef, rfl, (hs g act (hr.relO _)).val fun e15 => ?_⟩)
      rw [e15] at ht
      exact absurd ht (by decide)
    | cell t ty =>
      have e : ∀ k', resK E (.cell t ty :: rs) v a H k' = (cOv (.tmp t)).get v a fun c => bB (Nat.beq (tag c) 11)
          (z0 (E.ti ty).k false (bB (isAggK (E.ti ty).k)
            (ldN H (pay c) (E.ti ty).sz fun X => resK E rs v a H fun cs => k' (cAgg (E.ti ty).sz X :: cs))
            (ldN H (pay c) 1 fun c => z0 c false (resK E rs v a H fun cs => k' (c :: cs))))) false := fun k' => by
        show ((cOv (.tmp t)).get v a fun c => bB (Nat.beq (tag c) 11)
          (z0 (E.ti ty).k false (bB (isAggK (E.ti ty).k)
            (ldN H (pay c) (E.ti ty).sz fun X => fN (cAgg (E.ti ty).sz X) fun c => resK E rs v a H fun cs => k' (c :: cs))
            (ldN H (pay c) 1 fun c => z0 c false (resK E rs v a H fun cs => k' (c :: cs))))) false) = _
        simp only [fN_eq]
      have hh := h
      rw [e] at hh
      obtain ⟨c, ys, hg, hk, hs, _⟩ := get_inv hh
      obtain ⟨h11, hk⟩ := bB_and.1 hk
      obtain ⟨h0, hk⟩ := z0_nand.1 hk
      obtain ⟨m0, hm0⟩ := Nat.exists_eq_succ_of_ne_zero h0
      have ez : ∀ (y : Bool), z0 (E.ti ty).k false y = y := fun y => by rw [hm0, z0_s]
      cases hag : isAggK (E.ti ty).k with
      | true =>
        rw [hag, bB_t] at hk
        obtain ⟨_, _, e3, _⟩ := ldN_inv hk
        refine one (cAgg (E.ti ty).sz (ldX H (pay c) (E.ti ty).sz)) (fun k' => by rw [e, hg, h11, bB_t, ez, hag, bB_t, e3]) (fun g w act hr hH => ?_)
        obtain ⟨b, hb, hc⟩ := relA_ptr (hs g act (hr.relO _)) (beq_t h11)
        obtain ⟨x3, f, x4⟩ := ld_sound hc.addr hH hk
        refine ⟨_, ?_, relV_agg x3 (fun j hj => (x4 j hj).2)⟩
        have hb' : act.tmps.getD t undef = .pointer (some b) := hb
        unfold resF
        simp [hb', asAddr, run_loadAgg hE h0 hag (fun j hj => (x4 j hj).1)]
      | false =>
        rw [hag, bB_f] at hk
        obtain ⟨_, _, e3, h4⟩ := ldN_inv hk
        obtain ⟨hne, _⟩ := z0_nand.1 h4
        obtain ⟨m1, hm1⟩ := Nat.exists_eq_succ_of_ne_zero hne
        have hlt : ldX H (pay c) 1 < 2 ^ 128 := ldX_lt H (pay c) 1 (by omega)
        refine one (ldX H (pay c) 1) (fun k' => by rw [e, hg, h11, bB_t, ez, hag, bB_f, e3, hm1, z0_s]) (fun g w act hr hH => ?_)
        obtain ⟨b, hb, hc⟩ := relA_ptr (hs g act (hr.relO _)) (beq_t h11)
        obtain ⟨x3, f, x4⟩ := ld_sound hc.addr hH hk
        obtain ⟨y1, y2⟩ := x4 0 (by omega)
        rw [addr_add0] at y1
        rw [cell0_of_lt hlt] at y2
        refine ⟨f 0, ?_, .inl y2⟩
        have hb' : act.tmps.getD t undef = .pointer (some b) := hb
        unfold resF
        simp [hb', asAddr, run_loadOne hE h0 hag y1]
theorem relRes_of {g : Gh} {cs : List Nat} {vs : List Value} (hl : cs.length = vs.length) (h : ∀ (i : Nat) c x, cs[i]? = some c → vs[i]? = some x → RelV g c x) : RelRes g cs (resV vs) := by
  by_cases h1 : ∃ x, vs = [x]
  · obtain ⟨x, rfl⟩ := h1
    match cs, hl with
    | [c], _ => exact .inl ⟨c, rfl, h 0 c x rfl rfl⟩
  · have e : resV vs = .tuple vs.toArray := by
      match vs, h1 with
      | [], _ => rfl
      | [x], h => exact absurd ⟨x, rfl⟩ h
      | x :: y :: l, _ => rfl
    rw [e]
    refine .inr ⟨fun c hc => ?_, .inl ⟨rfl, vs.toArray, rfl, by simp [hl], fun i c x hc hx => h i c x hc (by simpa using hx)⟩⟩
    subst hc
    match vs, hl, h1 with
    | [x], _, h => exact absurd ⟨x, rfl⟩ h
/-! the way in -/
theorem entry_inv : ∀ (cs : List Nat) (q t v : Nat) (a : List Bnd) {k : Nat → List Bnd → Bool}, (∀ t', t ≤ t' → gF (shOf t') v = 0) → entry cs q t v a k = true →
    ∃ v' a', (∀ k', entry cs q t v a k' = k' v' a') ∧ k v' a' = true ∧ ∀ t', rdA v' a' t' = if t ≤ t' ∧ t' < t + cs.length then (cs[t' - t]?).map fun c => (c, []) else rdA v a t'
  | [], q, t, v, a, k, _, h => ⟨v, a, fun _ => rfl, h, fun t' => by rw [if_neg (by simp only [List.length_nil]; omega)]⟩
  | c :: cs, q, t, v, a, k, hz, h => by
    have e : ∀ k', entry (c :: cs) q t v a k' = z0 (tag c) (entry cs q (t + 1) v (⟨t, c, []⟩ :: a) k')
      (bB (Nat.ble c 340282366920938463463374607431768211455) (entry cs q (t + 1) (setF q (shOf t) v c) a k') (entry cs q (t + 1) v (⟨t, c, []⟩ :: a) k')) := fun k' => by
      show z0 (tag c) _ (bB _ (fN (setF q (shOf t) v c) fun v => entry cs q (t + 1) v a k') _) = _
      rw [fN_eq]
    -- the slot holds the code
    have fin : ∀ v1 a1, (∀ t', rdA v1 a1 t' = if t' = t then some (c, []) else rdA v a t') → ∀ v' a', (∀ t', rdA v' a' t' = if t + 1 ≤ t' ∧ t' < t + 1 + cs.length then (cs[t' - (t + 1)]?).map fun c => (c, []) else rdA v1 a1 t') →
        ∀ t', rdA v' a' t' = if t ≤ t' ∧ t' < t + (c :: cs).length then ((c :: cs)[t' - t]?).map fun c => (c, []) else rdA v a t' := fun v1 a1 h1 v' a' h4 t' => by
      rw [h4, h1]
      by_cases ht : t' = t
      · subst ht
        rw [if_neg (by omega), if_pos rfl, if_pos (by simp)]
        simp
      · by_cases hin : t + 1 ≤ t' ∧ t' < t + 1 + cs.length
        · rw [if_pos hin, if_pos (by simp; omega)]
          obtain ⟨d, rfl⟩ := Nat.exists_eq_add_of_le hin.1
          rw [show t + 1 + d - t = d + 1 by omega, show t + 1 + d - (t + 1) = d by omega]
          simp
        · rw [if_neg hin, if_neg ht, if_neg (by simp; omega)]
    have agg : ∀ t', rdA v (⟨t, c, []⟩ :: a) t' = if t' = t then some (c, []) else rdA v a t' := fun t' => by
      unfold rdA
      by_cases ht : t' = t
      · subst ht
        rw [if_pos rfl, if_pos (hz t' (Nat.le_refl _))]
        exact if_pos rfl
      · rw [if_neg ht]
        have : lookA t' (⟨t, c, []⟩ :: a) = lookA t' a := if_neg (Ne.symm ht)
        rw [this]
    rw [e] at h
    rcases z0_or.1 h with ⟨h0, h⟩ | ⟨h0, h⟩
    · obtain ⟨v', a', g1, g2, g3⟩ := entry_inv cs q (t + 1) v (⟨t, c, []⟩ :: a) (fun t' ht => hz t' (by omega)) h
      exact ⟨v', a', fun k' => by rw [e, h0, z0_0, g1], g2, fin _ _ agg v' a' g3⟩
    · obtain ⟨m, hm⟩ := Nat.exists_eq_succ_of_ne_zero h0
      rcases bB_or.1 h with ⟨hb, h⟩ | ⟨hb, h⟩
      · have hlt : c < 2 ^ 128 := by have := ble_t hb; omega
        obtain ⟨v', a', g1, g2, g3⟩ := entry_inv cs q (t + 1) (setF q (shOf t) v c) a (fun t' ht => by rw [gF_setF hlt, if_neg (by omega)]; exact hz t' (by omega)) h
        refine ⟨v', a', fun k' => by rw [e, hm, z0_s, hb, bB_t, g1], g2, fin _ _ (fun t' => ?_) v' a' g3⟩
        unfold rdA
        rw [gF_setF hlt]
        by_cases ht : t' = t
        · rw [if_pos ht, if_pos ht, if_neg (fun e => h0 (by rw [e]; rfl))]
        · rw [if_neg ht, if_neg ht]
      · obtain ⟨v', a', g1, g2, g3⟩ := entry_inv cs q (t + 1) v (⟨t, c, []⟩ :: a) (fun t' ht => hz t' (by omega)) h
        exact ⟨v', a', fun k' => by rw [e, hm, z0_s, hb, bB_f, g1], g2, fin _ _ agg v' a' g3⟩
theorem gF_zero (t : Nat) : gF (shOf t) 0 = 0 := by
  show Nat.land (Nat.shiftRight 0 _) _ = 0
  rw [show Nat.shiftRight 0 (shOf t) = 0 from Nat.zero_shiftRight _]
  rfl
/-! functions -/
def FCok (P : Program) (f : FuncId) (fc : FC) : Prop :=
  ∀ ih, CallOK P ih → ∀ q cs H k, fc.run ih q cs H k = true → (∃ fn c, P.funcs[f]? = some fn ∧ (fn.name == "runtime.NumGoroutine") = false ∧ fn.body = some c) ∧
    ∃ q' rs H', (∀ k', fc.run ih q cs H k' = k' q' rs H') ∧
      ∀ g w (as : Array Value), as.size = cs.length → (∀ (i : Nat) c x, cs[i]? = some c → as[i]? = some x → RelV g c x) → RelH g H w →
        Calls P f as w (fun e w' => ∃ x g', e = .returned x ∧ RelRes g' rs x ∧ St g H w g' H' w')
theorem FCok.no {f : FuncId} : FCok P f fcNo := fun _ _ _ _ _ _ h => (Bool.false_ne_true h).elim
theorem callN_ok {F : Nat → FC} (hF : ∀ f, FCok P f (F f)) : ∀ n, CallOK P (callN F n)
  | 0 => fun _ _ _ _ _ h => (Bool.false_ne_true h).elim
  | n + 1 => fun q f cs H k h => by
    have e : ∀ k, callN F (n + 1) q f cs H k = (F f).run (callN F n) q cs H k := fun k => by
      have : ∀ fc : FC, (@FC.casesOn (fun _ => Bool) fc fun r => r (callN F n) q cs H k) = fc.run (callN F n) q cs H k := fun fc => by cases fc; rfl
      exact this (F f)
    rw [e] at h
    obtain ⟨h1, q', rs, H', h2, h3⟩ := hF f _ (callN_ok hF n) q cs H k h
    exact ⟨h1, q', rs, H', fun k' => (e k').trans (h2 k'), h3⟩
theorem fcOf_ok (hE : ∀ t, TIok P t (E.ti t)) (hX : ExtOK P E) (hm : P.follows .mixedOrders = true)
    (hTab : ∀ F c, P.funcs[E.tab]? = some F → F.body = some c → F.ntmps = 43 ∧ ∀ b, b ∈ loopsOf c → SkipOK P b) {k : FuncId} : FCok P k (fcOf E k (P.funcs[k]?)) := by
  cases hf : P.funcs[k]? with
  | none => exact .no
  | some F =>
    have e0 : fcOf E k (some F) = match F.body with
      | some c => match cCode E k c, F.results.toList, and (wfCode F.ntmps c) (not (F.name == "runtime.NumGoroutine")) with
        | b, r, true => fN F.ntmps fun N => ⟨fun ih q cs H k => fN (Nat.succ q) fun q => bB (Nat.ble cs.length N) (entry cs q 0 0 [] fun v a => b.run ih q v a H fun e q v a H => bB (Nat.ble e 1) (resK E r v a H fun rs => k q rs H) false) false⟩
        | _, _, false => fcNo
      | none => fcNo := rfl
    rw [e0]
    cases hb : F.body with
    | none => exact .no
    | some c =>
      cases hw : and (wfCode F.ntmps c) (not (F.name == "runtime.NumGoroutine")) with
      | false => simp only [hw]; exact .no
      | true =>
        simp only [hw, fN_eq]
        rw [Bool.and_eq_true, Bool.not_eq_true'] at hw
        obtain ⟨hwf, hname⟩ := hw
        intro ih hih q cs H kk h
        refine ⟨⟨F, c, hf, hname, hb⟩, ?_⟩
        have h' : bB (Nat.ble cs.length F.ntmps) (entry cs (q + 1) 0 0 [] fun v a => (cCode E k c).run ih (q + 1) v a H fun e q v a H => bB (Nat.ble e 1) (resK E F.results.toList v a H fun rs => kk q rs H) false) false = true := h
        obtain ⟨hn, h1⟩ := bB_and.1 h'
        obtain ⟨v0, a0, e1, h2, hreg⟩ := entry_inv cs (q + 1) 0 0 [] (fun t' _ => gF_zero t') h1
        obtain ⟨ex, q1, v1, a1, H1, e2, hsem⟩ := cCode_ok (N := F.ntmps) (fn := k) hE hX hm c hwf (fun e => hTab F c (by rw [← e]; exact hf) hb) ih (q + 1) v0 a0 H _ hih h2
        rw [e2] at h2
        obtain ⟨hex, h3⟩ := bB_and.1 h2
        obtain ⟨rs, e3, _, hlen, hrel⟩ := resK_inv hE F.results.toList h3
        refine ⟨q1, rs, H1, fun k' => ?_, fun g w as hs hargs hH => calls_of_wp hf hb (wp_mono (hsem g w _ ⟨fun t cc xs hc => ?_, hH, ?_, rfl⟩) fun ex' act' w' hp => ?_)⟩
        · show bB (Nat.ble cs.length F.ntmps) (entry cs (q + 1) 0 0 [] fun v a => (cCode E k c).run ih (q + 1) v a H fun e q v a H => bB (Nat.ble e 1) (resK E F.results.toList v a H fun rs => k' q rs H) false) false = _
          rw [hn, bB_t, e1, e2, hex, bB_t, e3]
        · rw [hreg] at hc
          by_cases ht : t < cs.length
          · rw [if_pos (by omega)] at hc
            simp only [Nat.sub_zero] at hc
            have hct : cs[t]? = some cs[t] := by simp [ht]
            rw [hct] at hc
            cases hc
            have hat : as[t]? = some as[t] := by simp [hs, ht]
            refine ⟨as[t], ?_, .inr ⟨rfl, hargs t _ _ hct hat⟩⟩
            show (as ++ Array.replicate (F.ntmps - as.size) undef)[t]? = _
            rw [Array.getElem?_append_left (by omega)]
            exact hat
          · rw [if_neg (by omega)] at hc
            unfold rdA at hc
            rw [if_pos (gF_zero t)] at hc
            cases hc
        · show (as ++ Array.replicate (F.ntmps - as.size) undef).size = F.ntmps
          have := ble_t hn
          simp
          omega
        · obtain ⟨hx, g', G', hst⟩ := hp
          have hpost : act'.defers = [] ∧ ∃ x, (results F act'.tmps).run P w' = .ok x w' ∧ ∃ x' g', Ending.returned x = .returned x' ∧ RelRes g' rs x' ∧ St g H w g' H1 w' := by
            obtain ⟨vs, n1, n2, n3⟩ := hrel g' w' act' G'.rel G'.heap
            exact ⟨G'.defs, _, results_run act'.tmps P w' vs n1 n2, _, g', rfl, relRes_of (by omega) n3, hst⟩
          subst hx
          match ex, ble_t hex with
          | 0, _ => exact hpost
          | 1, _ => exact hpost
end
end Go.Proofs.YgvajwGreat.Ev
