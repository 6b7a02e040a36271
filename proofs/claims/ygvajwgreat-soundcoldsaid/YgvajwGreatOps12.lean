import Derived.Test.YgvajwGreatOps11
namespace Go.Proofs.YgvajwGreat.Ev
variable {P : Program}
/-! segments of packed cells -/
theorem segs_spec {q n X : Nat} (hn : n ≤ 31000) (hX : X < 2 ^ (128 * n)) (i : Nat) (hi : i < n) : cellB (segs q n X).1 (segs q n X).2 i = cell X i := by
  unfold segs
  cases h : Nat.ble n 64 with
  | true =>
    rw [bB_t, fN_eq]
    have hn' := ble_t h
    show cellB (X <<< 64 + (q &&& 18446744073709551615)) noSegs i = _
    unfold cellB
    have h1 : i / 64 = 0 := by omega
    rw [h1, segOf_0, Nat.mod_eq_of_lt (by omega)]
    congr 1
    have h2 : q &&& 18446744073709551615 < 2 ^ 64 := Nat.lt_of_le_of_lt Nat.and_le_right (by decide)
    rw [Nat.shiftRight_eq_div_pow, Nat.shiftLeft_eq]
    omega
  | false =>
    rw [bB_f, scat_spec 500 q 0 noSegs 0 n X (by omega) (by omega) hX i (by omega), if_pos (by omega)]
    simp
theorem zeroX_spec {T : TI} (h : T.sz ≤ 31000) : zeroX T < 2 ^ (128 * T.sz) ∧ ∀ i, i < T.sz → cell (zeroX T) i = cellB T.z.1 T.z.2 i := by
  have e : zeroX T = gath 500 T.z.1 T.z.2 0 T.sz := by unfold zeroX; rw [prK_eq]
  rw [e]
  obtain ⟨g1, g2⟩ := gath_spec 500 T.z.1 T.z.2 0 T.sz (by omega)
  exact ⟨g1, fun i hi => by rw [g2, if_pos hi]; simp⟩
section
variable {o : Oper} {cf : CallF} {dr : Option Nat} {r0 q v : Nat} {a : List Bnd} {H : Hp} {kk : K}
/-- an operation that makes a block -/
def NewOK (P : Program) (cl : Cl) (cf : CallF) (dr : Option Nat) (r0 q v : Nat) (a : List Bnd) (H : Hp) (o : Oper) : Prop :=
  ∃ c xs q' v' a' u l hu' p t ty sz s0 more,
    (∀ k, cl.run cf r0 q v a H k = k q' v' a' ⟨hu', p, t, qset 6 H.blks l ⟨u, ty, sz, 0, s0, more⟩⟩) ∧ RegPut o.dst c xs v a v' a' ∧ l < 4096 ∧ u < 16777216 ∧ sz ≤ 31000 ∧
    ((dr = none ∧ u = H.uid ∧ hu' = H.uid + 1) ∨ ∃ i, dr = some i ∧ u = r0 + i ∧ hu' = H.uid) ∧
    ∀ g w (act : Act), RelO g v a act.tmps (tmpsOf o.op.operands.toList) → ∃ (arr : Array Value) (x : Value), arr.size = sz ∧ (execOp act.eval o).run P w = .ok (.value x) (w.alloc (.cells arr ty)) ∧
      (∀ i, i < sz → ∃ v, arr[i]? = some v ∧ RelC g (cellB s0 more i) v) ∧ ∀ g', g' u = some (w.heap.size, arr.size) → RelA g' c xs x
theorem NewOK.op {cl : Cl} (h : NewOK P cl cf none r0 q v a H o) : OpOK P cl cf none r0 q v a H o := by
  obtain ⟨c, xs, q', v', a', u, l, hu', p, t, ty, sz, s0, more, h1, h2, h3, h4, h5, h6, h7⟩ := h
  refine ⟨c, xs, q', v', a', _, h1, h2, fun g w act hO hH _ Q => ?_⟩
  obtain ⟨arr, x, s1, s2, s3, s4⟩ := h7 g w act hO
  rcases h6 with ⟨_, rfl, rfl⟩ | ⟨i, hi, _⟩
  · obtain ⟨g', k1, k2, _⟩ := alloc_sound hH (es := 0) (z := (s0, more)) (p := p) (t := t) (ty := ty) h3 h4 h5 (hH.fresh _ (Nat.le_refl _)) hH.pos (Nat.lt_succ_self _) (Nat.le_succ _) (Nat.le_refl _) (arr := arr) (by omega) (fun _ => s1.symm) s3
    exact wp_value s2 ⟨_, g', rfl, s4 g' k2, k1⟩
  · cases hi
/-- a new block whose cells are arr: a pointer to it -/
theorem newPtr {cl : Cl} {ty sz : Nat} {loc : Bool} {z : Nat × QT Nat 5}
    (hrun : ∀ k', cl.run cf r0 q v a H k' = alloc dr loc ty sz 0 z r0 H fun p' H => toPtr p' fun r => (cPt o.dst).ps r q v a H k')
    (hr : (alloc dr loc ty sz 0 z r0 H fun p' H => toPtr p' fun r => (cPt o.dst).ps r q v a H kk) = true)
    (hsem : ∀ g w (act : Act), RelO g v a act.tmps (tmpsOf o.op.operands.toList) → sz ≤ 31000 → ∃ arr : Array Value, arr.size = sz ∧
      (execOp act.eval o).run P w = .ok (.value (.pointer (some ⟨w.heap.size, 0, none⟩))) (w.alloc (.cells arr ty)) ∧ ∀ i, i < sz → ∃ v, arr[i]? = some v ∧ RelC g (cellB z.1 z.2 i) v) :
    NewOK P cl cf dr r0 q v a H o := by
  obtain ⟨u, l, hu', p, t, e1, h1, hl, hu, hsz, hd⟩ := alloc_inv hr
  obtain ⟨e2, _, hlt⟩ := toPtr_inv h1
  obtain ⟨q', v', a', p1, p2⟩ := ps_put o.dst (cPtr (pAddr u l 0)) q v a ⟨hu', p, t, qset 6 H.blks l ⟨u, ty, sz, 0, z.1, z.2⟩⟩ (cPtr_ne _) hlt
  refine ⟨_, [], q', v', a', u, l, hu', p, t, ty, sz, z.1, z.2, fun k' => by rw [hrun, e1, e2, p1], p2, hl, hu, hsz, hd, fun g w act hO => ?_⟩
  obtain ⟨arr, s1, s2, s3⟩ := hsem g w act hO hsz
  refine ⟨arr, _, s1, s2, s3, fun g' hg' => .inr ⟨rfl, .inl ?_⟩⟩
  have k3 : AddrOK g' (pAddr u l 0) ⟨w.heap.size, 0, none⟩ := ⟨rfl, u, l, arr.size, hu, hl, rfl, hg'⟩
  exact k3.ptr hlt
theorem alloc_ok {E : Nat → TI} (hE : ∀ t, TIok P t (E t)) {t : TypeId} {loc : Bool} (ho : o.op = .alloc t)
    (hr : (cAlloc dr loc t (E t) (cPt o.dst)).run cf r0 q v a H kk = true) : NewOK P (cAlloc dr loc t (E t) (cPt o.dst)) cf dr r0 q v a H o := by
  unfold cAlloc at hr ⊢
  by_cases hz : (E t).zk = 0
  · rw [hz, z0_0] at hr; cases hr
  · obtain ⟨m, hm⟩ := Nat.exists_eq_succ_of_ne_zero hz
    rw [hm, z0_s] at hr ⊢
    refine newPtr (fun _ => rfl) hr (fun g w act hO hsz => ?_)
    obtain ⟨i, zv, z1, z2, z3, z4, z5, z6⟩ := (hE t).zero hz
    refine ⟨zv.cells, z4, ?_, fun j hj => ?_⟩
    · simp [execOp, ho, Instr.alloc, zeroValue, typeInfo, z1, z2, newVar, Go.newRow]
    · obtain ⟨v, y1, y2⟩ := z6 j hj
      exact ⟨v, y1, y2 g⟩
theorem box_ok {E : Nat → TI} {t : TypeId} {loc : Bool} {x : Operand} (ho : o.op = .box t x)
    (hr : (cBox dr loc t (E t) (cOv x) (cPt o.dst)).run cf r0 q v a H kk = true) : NewOK P (cBox dr loc t (E t) (cOv x) (cPt o.dst)) cf dr r0 q v a H o := by
  have hops : o.op.operands.toList = [x] := by rw [ho]; rfl
  have e : ∀ k', (cBox dr loc t (E t) (cOv x) (cPt o.dst)).run cf r0 q v a H k' = (cOv x).get v a fun c => cellsOf (E t).sz c fun X => alloc dr loc t (E t).sz 0 (segs q (E t).sz X) r0 H fun p' H => toPtr p' fun r => (cPt o.dst).ps r q v a H k' := fun _ => rfl
  rw [e] at hr
  obtain ⟨cc, xc, ec, hr, sc, _⟩ := get_inv hr
  obtain ⟨X, eX, h2, _, _, sX⟩ := cells_inv hr
  refine newPtr (fun k' => by rw [e, ec, eX]) h2 (fun g w act hO hsz => ?_)
  rw [hops] at hO
  obtain ⟨c1, c2, c3⟩ := sX g xc _ (sc g act hO)
  refine ⟨(act.eval x).cells, c1, ?_, fun j hj => ?_⟩
  · simp [execOp, ho, Instr.box, newVar, Go.newRow]
  · have hj' : j < (act.eval x).cells.size := by omega
    refine ⟨(act.eval x).cells[j], Array.getElem?_eq_getElem hj', ?_⟩
    rw [segs_spec hsz c2 j hj]
    exact c3 j _ (Array.getElem?_eq_getElem hj')
end
end Go.Proofs.YgvajwGreat.Ev
