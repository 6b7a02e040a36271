import Derived.Test.YgvajwGreatAp5
namespace Go.Proofs.YgvajwGreat.Ev
/-- what a call hands back -/
def RelRes (g : Gh) (rs : List Nat) (x : Value) : Prop := (∃ c, rs = [c] ∧ RelV g c x) ∨ ((∀ c, rs ≠ [c]) ∧ RelA g 15 rs x)
/-- what a called function owes -/
def CallOK (P : Program) (cf : CallF) : Prop :=
  ∀ q f cs H k, cf q f cs H k = true → (∃ fn c, P.funcs[f]? = some fn ∧ (fn.name == "runtime.NumGoroutine") = false ∧ fn.body = some c) ∧
    ∃ q' rs H', (∀ k', cf q f cs H k' = k' q' rs H') ∧
      ∀ g w (as : Array Value), as.size = cs.length → (∀ (i : Nat) c x, cs[i]? = some c → as[i]? = some x → RelV g c x) → RelH g H w →
        Calls P f as w (fun e w' => ∃ x g', e = .returned x ∧ RelRes g' rs x ∧ St g H w g' H' w')
theorem args_inv : ∀ (xs : List Operand) {v : Nat} {a : List Bnd} {k : List Nat → Bool}, args (xs.map cOv) v a k = true →
    ∃ cs, (∀ k', args (xs.map cOv) v a k' = k' cs) ∧ k cs = true ∧ cs.length = xs.length ∧
      ∀ g (act : Act), RelO g v a act.tmps (tmpsOf xs) → ∀ (i : Nat) c x, cs[i]? = some c → xs[i]? = some x → RelV g c (act.eval x)
  | [], v, a, k, h => ⟨[], fun _ => rfl, h, rfl, fun g act _ i c x h => by simp at h⟩
  | x :: xs, v, a, k, h => by
    have e : ∀ k', args ((x :: xs).map cOv) v a k' = (cOv x).get v a fun c => bB (Nat.ble (tag c) 14) (args (xs.map cOv) v a fun cs => k' (c :: cs)) false := fun _ => rfl
    rw [e] at h
    obtain ⟨c, ys, hg, hk, hs, _⟩ := get_inv h
    obtain ⟨ht, hk⟩ := bB_and.1 hk
    obtain ⟨cs, h1, h2, h3, h4⟩ := args_inv xs hk
    refine ⟨c :: cs, fun k' => by rw [e, hg, ht, bB_t, h1], h2, by simp [h3], fun g act ho i c' x' hc hx => ?_⟩
    cases i with
    | zero =>
      simp at hc hx
      subst hc; subst hx
      refine (hs g act ho.left).val ?_
      intro e15
      rw [e15] at ht
      exact absurd ht (by decide)
    | succ i =>
      simp at hc hx
      exact h4 g act ho.right i c' x' hc hx
theorem ret1_put (d : Option Nat) (rs : List Nat) (q v : Nat) (a : List Bnd) (H : Hp) :
    ∃ c xs q' v' a', (∀ k, ret1 (cPt d) rs q v a H k = k q' v' a' H) ∧ RegPut d c xs v a v' a' ∧ ∀ g x, RelRes g rs x → RelA g c xs x := by
  by_cases h : ∃ c, rs = [c]
  · obtain ⟨c, rfl⟩ := h
    obtain ⟨q', v', a', h1, h2⟩ := pc_put d c q v a H
    refine ⟨c, [], q', v', a', h1, h2, fun g x hr => .inr ⟨rfl, ?_⟩⟩
    rcases hr with ⟨c', h, hv⟩ | ⟨h, _⟩
    · cases h; exact hv
    · exact absurd rfl (h c)
  · obtain ⟨q', v', a', h1, h2⟩ := pg_put d 15 rs q v a H
    have hne : ∀ c, rs ≠ [c] := fun c e => h ⟨c, e⟩
    refine ⟨15, rs, q', v', a', fun k => ?_, h2, fun g x hr => ?_⟩
    · refine Eq.trans ?_ (h1 k)
      match rs, hne with
      | [], _ => rfl
      | [c], hn => exact absurd rfl (hn c)
      | _ :: _ :: _, _ => rfl
    · rcases hr with ⟨c', h', hv⟩ | ⟨_, h'⟩
      · exact absurd h' (hne c')
      · exact h'
theorem RelH.tops {g : Gh} {H : Hp} {w : World} (h : RelH g H w) (p l : Nat) : RelH g ⟨H.uid, p, l, H.blks⟩ w := ⟨h.live, h.inj, h.fresh, h.zero, h.pos⟩
theorem St.tops {g g' : Gh} {H H' : Hp} {w w' : World} (h : St g H w g' H' w') (p l : Nat) : St g H w g' ⟨H'.uid, p, l, H'.blks⟩ w' :=
  ⟨h.ext, h.rel.tops p l, ⟨h.fr.size, h.fr.os, h.fr.out, h.fr.fz, h.fr.keep⟩, h.um, h.kept⟩
theorem call_ok {P : Program} {cf : CallF} {dr : Option Nat} {r0 q v : Nat} {a : List Bnd} {H : Hp} {o : Oper} {kk : K} (hcf : CallOK P cf) {f : FuncId} {xs : Array Operand} {ts : Array TypeId}
    (ho : o.op = .call ⟨.value (.func f), xs, ts⟩) (hr : (cCall f (xs.toList.map cOv) (cPt o.dst)).run cf r0 q v a H kk = true) :
    OpOK P (cCall f (xs.toList.map cOv) (cPt o.dst)) cf dr r0 q v a H o := by
  have e : ∀ k, (cCall f (xs.toList.map cOv) (cPt o.dst)).run cf r0 q v a H k = args (xs.toList.map cOv) v a fun cs =>
      cf q f cs H fun q rs H' => ret1 (cPt o.dst) rs q v a ⟨H'.uid, H'.ptop, H.ltop, H'.blks⟩ k := fun _ => by cases H; rfl
  rw [e] at hr
  obtain ⟨cs, ha, hk, hlen, hsem⟩ := args_inv xs.toList hr
  obtain ⟨⟨fn, c, hfn, hname, hbody⟩, q1, rs, H1, hcf1, hcalls⟩ := hcf q f cs H _ hk
  obtain ⟨cc, ys, q', v', a', hp, hput, hres⟩ := ret1_put o.dst rs q1 v a ⟨H1.uid, H1.ptop, H.ltop, H1.blks⟩
  refine ⟨cc, ys, q', v', a', _, fun k => by rw [e, ha, hcf1, hp], hput, fun g w act hO hH _ Q => ?_⟩
  have hops : o.op.operands.toList = .func f :: xs.toList := by rw [ho]; simp [Op.operands, Call.operands]
  rw [hops] at hO
  have hex : (execOp act.eval o).run P w = .ok (.enter f (xs.map act.eval)) w := by
    have h1 : fn.name ≠ "runtime.NumGoroutine" := by simpa using hname
    unfold execOp
    simp [ho, resolve, Act.eval, Deferred.ofValue, invoke, callFunc, hfn, h1, hbody]
  unfold Oper.wp
  rw [hex]
  refine Calls.mono (hcalls g w (xs.map act.eval) (by simp [hlen]) (fun i c x hc hx => ?_) hH) fun e' w' h => ?_
  · rw [Array.getElem?_map] at hx
    cases hxi : xs[i]? with
    | none => rw [hxi] at hx; cases hx
    | some y =>
      rw [hxi] at hx
      cases hx
      exact hsem g act hO.right i c y hc (by simpa using hxi)
  · obtain ⟨x, g', he, hrel, hst⟩ := h
    subst he
    exact ⟨x, g', rfl, hres g' x hrel, hst.tops _ _⟩
end Go.Proofs.YgvajwGreat.Ev
