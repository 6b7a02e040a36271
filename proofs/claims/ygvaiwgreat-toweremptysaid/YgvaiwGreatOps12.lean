import Derived.Test.YgvaiwGreatOps11
namespace Go.Proofs.YgvaiwGreat.Ev
variable {P : Program}
/-! segments of packed cells -/
theorem segs_spec {q n X : Nat} (hn : n ≤ 31000) (hX : X < 2 ^ (128 * n)) (i : Nat) (hi : i < n) : cellB (segs q n X).1 (segs q n X).2 i = cell X i := by
  unfold segs
  cases h : Nat.ble n 64 with
  | true =>
    rw [bB_t, fN_eq]
    have hn' := ble_t h
    show cellB (X <<< 64 + (q &&& 18446744073709551615)) noSegs i = _
    unfold cellB
    have h1 : i / 64 = 0 := by omega
    rw [h1, segOf_0, Nat.mod_eq_of_lt (by omega)]
    congr 1
    have h2 : q &&& 18446744073709551615 < 2 ^ 64 := Nat.lt_of_le_of_lt Nat.and_le_right (by decide)
    rw [Nat.shiftRight_eq_div_pow, Nat.shiftLeft_eq]
    omega
  | false =>
    rw [bB_f, scat_spec 500 q 0 noSegs 0 n X (by omega) (by omega) hX i (by omega), if_pos (by omega)]
    simp
theorem zeroX_spec {T : TI} (h : T.sz ≤ 31000) : zeroX T < 2 ^ (128 * T.sz) ∧ ∀ i, i < T.sz → cell (zeroX T) i = cellB T.z.1 T.z.2 i := by
  have e : zeroX T = gath 500 T.z.1 T.z.2 0 T.sz := by unfold zeroX; rw [prK_eq]
  rw [e]
  obtain ⟨g1, g2⟩ := gath_spec 500 T.z.1 T.z.2 0 T.sz (by omega)
  exact ⟨g1, fun i hi => by rw [g2, if_pos hi]; simp⟩
section
variable {o : Oper} {cf : CallF} {dr : Option Nat} {r0 q v : Nat} {a : List Bnd} {H : Hp} {kk : K}
theorem dr_facts {g : Gh} {w : World} {u hu' : Nat} (hH : RelH g H w) (hd : (dr = none ∧ u = H.uid ∧ hu' = H.uid + 1) ∨ ∃ i, dr = some i ∧ u = r0 + i ∧ hu' = H.uid)
    (hdr : ∀ i, dr = some i → g (r0 + i) = none ∧ r0 + i < H.uid ∧ r0 + i ≠ 0) : g u = none ∧ u ≠ 0 ∧ u < hu' ∧ H.uid ≤ hu' := by
  rcases hd with ⟨_, rfl, rfl⟩ | ⟨i, hi, rfl, rfl⟩
  · exact ⟨hH.fresh _ (Nat.le_refl _), hH.pos, by omega, by omega⟩
  · obtain ⟨h1, h2, h3⟩ := hdr i hi
    exact ⟨h1, h3, h2, by omega⟩
/-- a new block whose cells are arr: a pointer to it -/
theorem newPtr {cl : Cl} {ty sz : Nat} {loc : Bool} {z : Nat × QT Nat 5}
    (hrun : ∀ k', cl.run cf r0 q v a H k' = alloc dr loc ty sz 0 z r0 H fun p' H => toPtr p' fun r => (cPt o.dst).ps r q v a H k')
    (hr : (alloc dr loc ty sz 0 z r0 H fun p' H => toPtr p' fun r => (cPt o.dst).ps r q v a H kk) = true)
    (hsem : ∀ g w (act : Act), RelO g v a act.tmps (tmpsOf o.op.operands.toList) → RelH g H w → sz ≤ 31000 → ∃ arr : Array Value, arr.size = sz ∧
      (execOp act.eval o).run P w = .ok (.value (.pointer (some ⟨w.heap.size, 0, none⟩))) (w.alloc (.cells arr ty)) ∧ ∀ i, i < sz → ∃ v, arr[i]? = some v ∧ RelC g (cellB z.1 z.2 i) v) :
    OpOK P cl cf dr r0 q v a H o := by
  obtain ⟨u, l, hu', p, t, e1, h1, hl, hu, hsz, hd⟩ := alloc_inv hr
  obtain ⟨e2, _, hlt⟩ := toPtr_inv h1
  obtain ⟨q', v', a', p1, p2⟩ := ps_put o.dst (cPtr (pAddr u l 0)) q v a ⟨hu', p, t, qset 6 H.blks l ⟨u, ty, sz, 0, z.1, z.2⟩⟩ (cPtr_ne _) hlt
  refine ⟨_, [], q', v', a', _, fun k' => by rw [hrun, e1, e2, p1], p2, fun g w act hO hH hdr Q => ?_⟩
  obtain ⟨arr, s1, s2, s3⟩ := hsem g w act hO hH hsz
  obtain ⟨f1, f2, f3, f4⟩ := dr_facts hH hd hdr
  obtain ⟨g', k1, k2, k3⟩ := alloc_sound hH (es := 0) (z := z) (p := p) (t := t) (ty := ty) hl hu hsz f1 f2 f3 f4 (arr := arr) (by omega) (fun _ => s1.symm) s3
  exact wp_value s2 ⟨_, g', rfl, .inr ⟨rfl, .inl (k3.ptr hlt)⟩, k1⟩
theorem alloc_ok {E : Nat → TI} (hE : ∀ t, TIok P t (E t)) {t : TypeId} {loc : Bool} (ho : o.op = .alloc t)
    (hr : (cAlloc dr loc t (E t) (cPt o.dst)).run cf r0 q v a H kk = true) : OpOK P (cAlloc dr loc t (E t) (cPt o.dst)) cf dr r0 q v a H o := by
  unfold cAlloc at hr ⊢
  by_cases hz : (E t).zk = 0
  · rw [hz, z0_0] at hr; cases hr
  · obtain ⟨m, hm⟩ := Nat.exists_eq_succ_of_ne_zero hz
    rw [hm, z0_s] at hr ⊢
    refine newPtr (fun _ => rfl) hr (fun g w act hO hH hsz => ?_)
    obtain ⟨i, zv, z1, z2, z3, z4, z5, z6⟩ := (hE t).zero hz
    refine ⟨zv.cells, z4, ?_, fun j hj => ?_⟩
    · simp [execOp, ho, Instr.alloc, zeroValue, typeInfo, z1, z2, newVar, Go.newRow]
    · obtain ⟨v, y1, y2⟩ := z6 j hj
      exact ⟨v, y1, y2 g⟩
theorem box_ok {E : Nat → TI} {t : TypeId} {loc : Bool} {x : Operand} (ho : o.op = .box t x)
    (hr : (cBox dr loc t (E t) (cOv x) (cPt o.dst)).run cf r0 q v a H kk = true) : OpOK P (cBox dr loc t (E t) (cOv x) (cPt o.dst)) cf dr r0 q v a H o := by
  have hops : o.op.operands.toList = [x] := by rw [ho]; rfl
  have e : ∀ k', (cBox dr loc t (E t) (cOv x) (cPt o.dst)).run cf r0 q v a H k' = (cOv x).get v a fun c => cellsOf (E t).sz c fun X => alloc dr loc t (E t).sz 0 (segs q (E t).sz X) r0 H fun p' H => toPtr p' fun r => (cPt o.dst).ps r q v a H k' := fun _ => rfl
  rw [e] at hr
  obtain ⟨cc, xc, ec, hr, sc, _⟩ := get_inv hr
  obtain ⟨X, eX, h2, _, _, sX⟩ := cells_inv hr
  refine newPtr (fun k' => by rw [e, ec, eX]) h2 (fun g w act hO hH hsz => ?_)
  rw [hops] at hO
  obtain ⟨c1, c2, c3⟩ := sX g xc _ (sc g act hO)
  refine ⟨(act.eval x).cells, c1, ?_, fun j hj => ?_⟩
  · simp [execOp, ho, Instr.box, newVar, Go.newRow]
  · have hj' : j < (act.eval x).cells.size := by omega
    refine ⟨(act.eval x).cells[j], Array.getElem?_eq_getElem hj', ?_⟩
    rw [segs_spec hsz c2 j hj]
    exact c3 j _ (Array.getElem?_eq_getElem hj')
end
end Go.Proofs.YgvaiwGreat.Ev
