import Derived.Test.YgvajwGreatOps18
namespace Go.Proofs.YgvajwGreat.Ev
variable {P : Program}
section
variable {o : Oper} {cf : CallF} {dr : Option Nat} {r0 q v : Nat} {a : List Bnd} {H : Hp} {kk : K}
/-- what append is given, once and for all -/
structure AppCtx (P : Program) (o : Oper) (v : Nat) (a : List Bnd) (H : Hp) (t u : TypeId) (el es cs n X : Nat) (i : TypeInfo) (zv : Value) (s x : Operand) : Prop where
  hu : P.underlying t = some (.slice el)
  z1 : P.info? el = some i
  z2 : i.zero = some zv
  z3 : i.size = es
  z4 : zv.cells.size = es
  hb : i.bytes ≤ 1048576
  hes : 0 < es
  ho : o.op = .call ⟨.builtin .append, #[s, x], #[t, u]⟩
  hcs : ∀ g (act : Act), RelO g v a act.tmps (tmpsOf [s]) → ∃ xs, RelA g cs xs (act.eval s)
  hsl : isSl cs = true
  hbd : cs < 2 ^ 128
  hX : X < 2 ^ (128 * (n * es))
  harg : ∀ g w (act : Act), RelO g v a act.tmps (tmpsOf [x]) → RelH g H w → ∃ news, AppArg P w u i zv (act.eval x) n news ∧ ∀ j v, news[j]? = some v → RelC g (cell X j) v
theorem AppCtx.ops {t u : TypeId} {el es cs n X : Nat} {i : TypeInfo} {zv : Value} {s x : Operand} (c : AppCtx P o v a H t u el es cs n X i zv s x) : o.op.operands.toList = [s, x] := by rw [c.ho]; rfl
theorem AppCtx.exec {t u : TypeId} {el es cs n X : Nat} {i : TypeInfo} {zv : Value} {s x : Operand} (c : AppCtx P o v a H t u el es cs n X i zv s x) {act : Act} {w w' : World} {r : Value}
    (h : (Builtin.append_ #[t, u] o.type #[act.eval s, act.eval x]).run P w = .ok r w') : (execOp act.eval o).run P w = .ok (.value r) w' := by
  simp [execOp, c.ho, resolve, invoke, builtin, h]
theorem AppCtx.one {g : Gh} {X : Nat} {news : List Value} (h : ∀ j v, news[j]? = some v → RelC g (cell X j) v) : ∀ v ∈ news, v.oneCell' = true := fun v hv => by
  obtain ⟨j, hj⟩ := List.mem_iff_getElem?.1 hv
  exact (h j v hj).one
/-- in place -/
theorem app_room {t u : TypeId} {el es cs n X : Nat} {i : TypeInfo} {zv : Value} {s x : Operand} (c : AppCtx P o v a H t u el es cs n X i zv s x) {cl : Cl}
    (hrun : ∀ k', cl.run cf r0 q v a H k' = stN q H (pAdd (sAddr cs) (sLen cs * es)) (n * es) X fun H => toSl (sAddr cs) (sLen cs + n) (sCap cs) fun r => (cPt o.dst).ps r q v a H k')
    (hr : (stN q H (pAdd (sAddr cs) (sLen cs * es)) (n * es) X fun H => toSl (sAddr cs) (sLen cs + n) (sCap cs) fun r => (cPt o.dst).ps r q v a H kk) = true)
    (h13 : tag cs = 13) (hroom : ∀ g w b m, RelH g H w → RelC g cs (.slice (some b) (sLen cs) m) → sLen cs + n ≤ m) : OpOK P cl cf dr r0 q v a H o := by
  obtain ⟨_, _, e1, h1⟩ := stN_inv hr
  obtain ⟨e2, _, b1, b2, b3⟩ := toSl_inv h1
  obtain ⟨q', v', a', p1, p2⟩ := ps_put o.dst (cSl (sAddr cs) (sLen cs + n) (sCap cs)) q v a (stH q H (pAdd (sAddr cs) (sLen cs * es)) (n * es) X) (by rw [cSl_eq]; omega) (cSl_lt b1 b2 b3)
  refine ⟨_, [], q', v', a', _, fun k' => by rw [hrun, e1, e2, p1], p2, fun g w act hO hH _ Q => ?_⟩
  rw [c.ops] at hO
  obtain ⟨xs, hcs⟩ := c.hcs g act hO.left
  obtain ⟨b, l, m, hb, hc⟩ := relA_sl hcs h13
  have hl := hc.slAddr.2.1
  subst hl
  obtain ⟨news, hA, hN⟩ := c.harg g w act hO.right hH
  have hm := hroom g w b m hH hc
  have hlen : news.length = n * es := by rw [hA.1, c.z3]
  obtain ⟨w', s3, s4⟩ := st_sound (P := P) (hc.slAddr.1.add (sLen cs * es)) hH hr c.hX news hlen hN
  refine wp_value (c.exec (by rw [hb]; exact run_app_room c.hu c.z1 c.z2 c.hb hA hm (by rw [c.z3]; exact s3))) ⟨_, g, rfl, .inr ⟨rfl, .inl (hc.slRe hm b2)⟩, s4⟩
end
end Go.Proofs.YgvajwGreat.Ev
