import Derived.Test.YgvajwGreatOps13
namespace Go.Proofs.YgvajwGreat.Ev
variable {P : Program}
theorem tmpsOf_mem {xs : List Operand} {x : Operand} (h : x ∈ xs) : ∀ t, t ∈ tmpsOf [x] → t ∈ tmpsOf xs := by
  intro t ht
  unfold tmpsOf at ht ⊢
  rw [List.mem_filterMap] at ht ⊢
  obtain ⟨y, hy, e⟩ := ht
  simp at hy
  subst hy
  exact ⟨y, h, e⟩
theorem RelO.mem {g : Gh} {v : Nat} {a : List Bnd} {tmps : Array Value} {xs : List Operand} {x : Operand} (hO : RelO g v a tmps (tmpsOf xs)) (h : x ∈ xs) : RelO g v a tmps (tmpsOf [x]) :=
  fun t ht => hO t (tmpsOf_mem h t ht)
def placeF (T : TI) (E : Nat) (i : Nat) : Option (Nat × Nat) := if T.k = 1 then T.offs[i]? else some (i * E, E)
theorem placesO_inv {T : TI} {E : Nat} : ∀ {ps : List (Nat × Operand)} {r : List (Nat × Nat × Operand)}, placesO T E ps = some r →
    r.length = ps.length ∧ (∀ o n x, (o, n, x) ∈ r → o + n ≤ T.sz ∧ ∃ i, (i, x) ∈ ps) ∧ (∀ act : Act, ((ps.map Prod.fst).zip r).map (fun (i, _, _, x) => (i, act.eval x)) = ps.map (fun (i, x) => (i, act.eval x))) ∧
    ∀ (j i o n : Nat) (x : Operand), (ps.map Prod.fst)[j]? = some i → r[j]? = some (o, n, x) → placeF T E i = some (o, n)
  | [], r, h => by
    cases h
    exact ⟨rfl, (fun o n x h => by cases h), fun _ => rfl, (fun j i o n x h => by simp at h)⟩
  | (i, x) :: ps, r, h => by
    unfold placesO at h
    cases h1 : (if T.k = 1 then T.offs[i]? else some (i * E, E) : Option (Nat × Nat)) with
    | none => rw [h1] at h; cases h
    | some on =>
      obtain ⟨o, n⟩ := on
      rw [h1] at h
      cases h2 : placesO T E ps with
      | none => rw [h2] at h; cases h
      | some r' =>
        rw [h2] at h
        simp only at h
        by_cases h3 : o + n ≤ T.sz
        · rw [if_pos h3] at h
          cases h
          obtain ⟨e1, e2, e3, e4⟩ := placesO_inv h2
          refine ⟨by simp [e1], fun o' n' x' hm => ?_, fun act => ?_, fun j i' o' n' x' hj hr => ?_⟩
          · rcases List.mem_cons.1 hm with hm | hm
            · cases hm; exact ⟨h3, i, by simp⟩
            · obtain ⟨k1, i2, k2⟩ := e2 _ _ _ hm
              exact ⟨k1, i2, by simp [k2]⟩
          · have := e3 act
            simp only [List.map_cons, List.zip_cons_cons]
            rw [this]
          · cases j with
            | zero => simp at hj hr; obtain ⟨rfl, rfl, rfl⟩ := hr; subst hj; exact h1
            | succ j => exact e4 j i' o' n' x' (by simpa using hj) (by simpa using hr)
        · rw [if_neg h3] at h; cases h
section
variable {o : Oper} {cf : CallF} {dr : Option Nat} {r0 q v : Nat} {a : List Bnd} {H : Hp} {kk : K}
theorem zero_row {E : Nat → TI} (hE : ∀ t, TIok P t (E t)) {t : TypeId} (hz : (E t).zk ≠ 0) : (E t).sz ≤ 31000 ∧ zeroX (E t) < 2 ^ (128 * (E t).sz) ∧ ∃ i zv, P.info? t = some i ∧ i.zero = some zv ∧ i.size = (E t).sz ∧ zv.cells.size = (E t).sz ∧
    ∀ g j v, zv.cells[j]? = some v → RelC g (cell (zeroX (E t)) j) v := by
  obtain ⟨i, zv, z1, z2, z3, z4, z5, z6⟩ := (hE t).zero hz
  obtain ⟨x1, x2⟩ := zeroX_spec z5
  refine ⟨z5, x1, i, zv, z1, z2, z3, z4, fun g j v hv => ?_⟩
  have hj : j < (E t).sz := by rw [← z4]; exact (Array.getElem?_eq_some_iff.1 hv).1
  obtain ⟨v', y1, y2⟩ := z6 j hj
  rw [y1] at hv; cases hv
  rw [x2 j hj]; exact y2 g
theorem build_ok {E : Nat → TI} (hE : ∀ t, TIok P t (E t)) {t : TypeId} {ps : Array (Nat × Operand)} (hag : isAggK (E t).k = true) (hel : (E t).k ≠ 1 → (E (E t).el).k ≠ 0) (ho : o.op = .build t ps)
    (hr : (cBuild (E t) (E (E t).el).sz ps.toList (cPt o.dst)).run cf r0 q v a H kk = true) : OpOK P (cBuild (E t) (E (E t).el).sz ps.toList (cPt o.dst)) cf dr r0 q v a H o := by
  unfold cBuild at hr ⊢
  by_cases hz : (E t).zk = 0
  · rw [hz, z0_0] at hr; cases hr
  obtain ⟨m, hm⟩ := Nat.exists_eq_succ_of_ne_zero hz
  rw [hm, z0_s, fN_eq] at hr ⊢
  rw [places_eq] at hr ⊢
  cases hp : placesO (E t) (E (E t).el).sz ps.toList with
  | none => rw [hp] at hr; cases hr
  | some r =>
    rw [hp] at hr
    simp only [Option.map_some] at hr ⊢
    obtain ⟨z5, x1, i, zv, z1, z2, z3, z4, z6⟩ := zero_row hE hz
    obtain ⟨e1, e2, e3, e4⟩ := placesO_inv hp
    have e : ∀ k', (Cl.mk fun _ _ q v a H k => lay (r.map fun (o, n, x) => (o, n, cOv x)) v a (zeroX (E t)) fun X => fN (cAgg (E t).sz X) fun r => (cPt o.dst).pg r [] q v a H k).run cf r0 q v a H k' =
        lay (r.map fun (o, n, x) => (o, n, cOv x)) v a (zeroX (E t)) fun X => (cPt o.dst).pg (cAgg (E t).sz X) [] q v a H k' := fun k' => by
      show (lay (r.map fun (o, n, x) => (o, n, cOv x)) v a (zeroX (E t)) fun X => fN (cAgg (E t).sz X) fun r => (cPt o.dst).pg r [] q v a H k') = _
      simp only [fN_eq]
    rw [e] at hr
    obtain ⟨Y, k1, _, k2, k3⟩ := lay_inv (N := (E t).sz) hr x1 (fun o n x hm => (e2 o n x hm).1)
    obtain ⟨q', v', a', p1, p2⟩ := pg_put o.dst (cAgg (E t).sz Y) [] q v a H
    refine pureA (fun k' => by rw [e, k1, p1]) p2 (fun g w act hO hH => ?_)
    have hO' : ∀ o n x, (o, n, x) ∈ r → RelO g v a act.tmps (tmpsOf [x]) := fun o' n x hm => by
      obtain ⟨_, i, hi⟩ := e2 o' n x hm
      refine hO.mem ?_
      rw [ho]
      simp only [Op.operands, List.mem_map]
      exact ⟨(i, x), by simpa using hi, rfl⟩
    obtain ⟨out, o1, o2, o3⟩ := k3 g act zv.cells hO' z4 (fun i v hv => z6 g i v hv)
    refine ⟨.agg out, ?_, .inr ⟨rfl, .inr ⟨_, Y, out, rfl, k2 g act hO', rfl, o1, o2⟩⟩⟩
    have hfill := o3 (placeF (E t) (E (E t).el).sz) (ps.toList.map Prod.fst) (by simp [e1]) e4
    rw [e3 act] at hfill
    have hb : P.built t (ps.map fun (i, x) => (i, act.eval x)).toList = some out := by
      unfold Program.built
      rw [z1]
      rcases isAggK_iff.1 hag with hk | hk
      · obtain ⟨fs, hu, _, hoff⟩ := (hE t).kind.1 hk
        rw [hu]
        simp only [z2, hoff]
        rw [Array.toList_map, ← hfill]
        congr 1
        funext i
        unfold placeF
        rw [if_pos hk]; simp
      · have hu := (hE t).kind.2.1 hk
        rw [hu]
        obtain ⟨ie, j1, j2, _⟩ := (hE (E t).el).info (hel (by omega))
        simp only [z2, j1]
        rw [Array.toList_map, ← hfill]
        congr 1
        funext i
        unfold placeF
        rw [if_neg (by omega), j2]
    simp [execOp, ho, run_build w t _ _ hb]
/-- a new block whose cells are arr: a slice of it -/
theorem newSl {cl : Cl} {ty sz n m : Nat} {loc : Bool} {z : Nat × QT Nat 5} (hnm : n ≤ m) (hm : m < openCap)
    (hrun : ∀ k', cl.run cf r0 q v a H k' = alloc dr loc ty sz 0 z r0 H fun p' H => toSl p' n m fun r => (cPt o.dst).ps r q v a H k')
    (hr : (alloc dr loc ty sz 0 z r0 H fun p' H => toSl p' n m fun r => (cPt o.dst).ps r q v a H kk) = true)
    (hsem : ∀ g w (act : Act), RelO g v a act.tmps (tmpsOf o.op.operands.toList) → sz ≤ 31000 → ∃ arr : Array Value, arr.size = sz ∧
      (execOp act.eval o).run P w = .ok (.value (.slice (some ⟨w.heap.size, 0, none⟩) n m)) (w.alloc (.cells arr ty)) ∧ ∀ i, i < sz → ∃ v, arr[i]? = some v ∧ RelC g (cellB z.1 z.2 i) v) :
    NewOK P cl cf dr r0 q v a H o := by
  obtain ⟨u, l, hu', p, t, e1, h1, hl, hu, hsz, hd⟩ := alloc_inv hr
  obtain ⟨e2, _, b1, b2, b3⟩ := toSl_inv h1
  obtain ⟨q', v', a', p1, p2⟩ := ps_put o.dst (cSl (pAddr u l 0) n m) q v a ⟨hu', p, t, qset 6 H.blks l ⟨u, ty, sz, 0, z.1, z.2⟩⟩ (by rw [cSl_eq]; omega) (cSl_lt b1 b2 b3)
  refine ⟨_, [], q', v', a', u, l, hu', p, t, ty, sz, z.1, z.2, fun k' => by rw [hrun, e1, e2, p1], p2, hl, hu, hsz, hd, fun g w act hO => ?_⟩
  obtain ⟨arr, s1, s2, s3⟩ := hsem g w act hO hsz
  exact ⟨arr, _, s1, s2, s3, fun g' hg' => .inr ⟨rfl, .inl ⟨rfl, hnm, u, l, _, m, hu, hl, b1, b2, b3, rfl, hg', fun _ => rfl, fun h => by omega⟩⟩⟩
theorem made_get {z : Array Value} {n i : Nat} (h : i < n) (hz : 0 < z.size) : ∃ v, (madeCells z n)[i]? = some v ∧ z[i % z.size]? = some v := by
  have hi : i % z.size < z.size := Nat.mod_lt _ hz
  refine ⟨z[i % z.size], ?_, Array.getElem?_eq_getElem hi⟩
  simp [madeCells, h, getElem!_pos, hi]
theorem make_ok {E : Nat → TI} (hE : ∀ t, TIok P t (E t)) {t : TypeId} {loc : Bool} {l c : Operand} (hk : (E t).k = 3) (ho : o.op = .makeSlice t l c)
    (hr : (cMakeSl dr loc (E t).el (E (E t).el) (cOv l) (cOv c) (cPt o.dst)).run cf r0 q v a H kk = true) : NewOK P (cMakeSl dr loc (E t).el (E (E t).el) (cOv l) (cOv c) (cPt o.dst)) cf dr r0 q v a H o := by
  have hops : o.op.operands.toList = [l, c] := by rw [ho]; rfl
  have hu := (hE t).kind.2.2.1 hk
  revert hr
  generalize (E t).el = el at hu ⊢
  intro hr
  unfold cMakeSl at hr ⊢
  by_cases hz : (E el).zk = 0
  · rw [hz, z0_0] at hr; cases hr
  obtain ⟨m1, hm1⟩ := Nat.exists_eq_succ_of_ne_zero hz
  rw [hm1, z0_s] at hr ⊢
  by_cases hs : (E el).sz = 0
  · rw [hs, z0_0] at hr; cases hr
  obtain ⟨m2, hm2⟩ := Nat.exists_eq_succ_of_ne_zero hs
  rw [show z0 (E el).sz = z0 (m2 + 1) by rw [hm2], z0_s] at hr ⊢
  cases hb : Nat.ble (E el).by_ 1048576 with
  | false => rw [hb] at hr; cases hr
  | true =>
    rw [hb, bB_t] at hr
    rw [bB_t]
    simp only [fN_eq] at hr ⊢
    have e : ∀ k', (Cl.mk fun _ r0 q v a H k => (cOv l).get v a fun cl => cntOf cl fun n => (cOv c).get v a fun cc => cntOf cc fun m =>
        bB (Nat.ble n m) (bB (Nat.ble m 8000000)
        (alloc dr loc el (Nat.mul m (E el).sz) 0 (segs q (Nat.mul m (E el).sz) (rep (E el).sz m (zeroX (E el)))) r0 H fun p' H => toSl p' n m fun r => (cPt o.dst).ps r q v a H k) false) false).run cf r0 q v a H k' =
        (cOv l).get v a fun cl => cntOf cl fun n => (cOv c).get v a fun cc => cntOf cc fun m =>
        bB (Nat.ble n m) (bB (Nat.ble m 8000000)
        (alloc dr loc el (m * (E el).sz) 0 (segs q (m * (E el).sz) (rep (E el).sz m (zeroX (E el)))) r0 H fun p' H => toSl p' n m fun r => (cPt o.dst).ps r q v a H k') false) false := fun _ => rfl
    rw [e] at hr
    obtain ⟨cl, xl, el1, hr, sl, _⟩ := get_inv hr
    obtain ⟨n, en, hr, _, _, _, sn⟩ := cnt_inv hr
    obtain ⟨cc, xc, ec, hr, sc, _⟩ := get_inv hr
    obtain ⟨m, em, hr, _, _, _, sm⟩ := cnt_inv hr
    obtain ⟨h1, h2⟩ := bB_and.1 hr
    obtain ⟨h3, h4⟩ := bB_and.1 h2
    have g1 := ble_t h1
    have g3 := ble_t h3
    obtain ⟨z5, x1, i, zv, z1, z2, z3, z4, z6⟩ := zero_row hE hz
    refine newSl g1 (by unfold openCap; omega) (fun k' => by rw [e, el1, en, ec, em, h1, bB_t, h3, bB_t]) h4 (fun g w act hO hsz => ?_)
    rw [hops] at hO
    obtain ⟨kl, hl1, _⟩ := sn g xl _ (sl g act hO.left)
    obtain ⟨kc, hc1, _⟩ := sm g xc _ (sc g act hO.right)
    have hby : i.bytes ≤ 1048576 := by
      obtain ⟨i', j1, _, j3⟩ := (hE el).info ((hE el).zk hz)
      rw [z1] at j1; cases j1
      rw [j3]; exact ble_t hb
    have hbb : (i.bytes : Int) * (m : Int) ≤ 281474976710656 := by
      have : i.bytes * m ≤ 1048576 * 8000000 := Nat.mul_le_mul hby g3
      have h2 : ((i.bytes * m : Nat) : Int) ≤ 281474976710656 := by omega
      rwa [Int.natCast_mul] at h2
    have hrun := run_make (P := P) w t el i zv hu z1 z2 kl kc n m (by omega) (by omega) hbb (by omega)
    rw [z3] at hrun
    simp only [Int.toNat_natCast] at hrun
    refine ⟨madeCells zv.cells (m * (E el).sz), size_madeCells _ _, ?_, fun j hj => ?_⟩
    · simp [execOp, ho, hl1, hc1, hrun]
    · obtain ⟨v, v1, v2⟩ := made_get (z := zv.cells) hj (by omega)
      refine ⟨v, v1, ?_⟩
      rw [segs_spec hsz (rep_lt (by omega) x1 m) j hj, cell_rep (by omega) x1, if_pos hj]
      rw [z4] at v2
      exact z6 g _ _ v2
theorem buildSl_ok {E : Nat → TI} (hE : ∀ t, TIok P t (E t)) {t : TypeId} {loc : Bool} {n : Nat} {ps : Array (Nat × Operand)} (hk : (E t).k = 3) (ho : o.op = .buildSlice t n ps)
    (hr : (cBuildSl dr loc (E t).el (E (E t).el) n ps.toList (cPt o.dst)).run cf r0 q v a H kk = true) : NewOK P (cBuildSl dr loc (E t).el (E (E t).el) n ps.toList (cPt o.dst)) cf dr r0 q v a H o := by
  have hu := (hE t).kind.2.2.1 hk
  revert hr
  generalize (E t).el = el at hu ⊢
  intro hr
  unfold cBuildSl at hr ⊢
  by_cases hz : (E el).zk = 0
  · rw [hz, z0_0] at hr; cases hr
  obtain ⟨m1, hm1⟩ := Nat.exists_eq_succ_of_ne_zero hz
  rw [hm1, z0_s] at hr ⊢
  by_cases hs : (E el).sz = 0
  · rw [hs, z0_0] at hr; cases hr
  obtain ⟨m2, hm2⟩ := Nat.exists_eq_succ_of_ne_zero hs
  rw [show z0 (E el).sz = z0 (m2 + 1) by rw [hm2], z0_s] at hr ⊢
  simp only [fN_eq] at hr ⊢
  cases hb : Nat.ble (n * (E el).sz) 16777215 with
  | false => rw [hb] at hr; cases hr
  | true =>
    have hm := ble_t hb
    rw [hb, bB_t, places_eq] at hr
    rw [bB_t, places_eq]
    cases hp : placesO { noTI with sz := n * (E el).sz } (E el).sz ps.toList with
    | none => rw [hp] at hr; cases hr
    | some r =>
      rw [hp] at hr
      simp only [Option.map_some] at hr ⊢
      obtain ⟨z5, x1, i, zv, z1, z2, z3, z4, z6⟩ := zero_row hE hz
      obtain ⟨e1, e2, e3, e4⟩ := placesO_inv hp
      have e : ∀ k', (Cl.mk fun _ r0 q v a H k => lay (r.map fun (o, n, x) => (o, n, cOv x)) v a (rep (E el).sz n (zeroX (E el))) fun X => alloc dr loc el (n * (E el).sz) 0 (segs q (n * (E el).sz) X) r0 H fun p' H => bB (Nat.ble n 8388607) (toSl p' n n fun r => (cPt o.dst).ps r q v a H k) false).run cf r0 q v a H k' =
          lay (r.map fun (o, n, x) => (o, n, cOv x)) v a (rep (E el).sz n (zeroX (E el))) fun X => alloc dr loc el (n * (E el).sz) 0 (segs q (n * (E el).sz) X) r0 H fun p' H => bB (Nat.ble n 8388607) (toSl p' n n fun r => (cPt o.dst).ps r q v a H k') false := fun _ => rfl
      rw [e] at hr
      have hrl := rep_lt (by omega) x1 n
      obtain ⟨Y, k1, h4, k2, k3⟩ := lay_inv (N := n * (E el).sz) hr hrl (fun o n x hm => (e2 o n x hm).1)
      cases hb2 : Nat.ble n 8388607 with
      | false =>
        rw [hb2] at h4
        obtain ⟨_, _, _, _, _, _, h, _⟩ := alloc_inv h4
        cases h
      | true =>
        have hn := ble_t hb2
        rw [hb2] at h4
        simp only [bB_t] at h4
        refine newSl (Nat.le_refl n) (by unfold openCap; omega) (fun k' => by rw [hb2] at e; rw [e, k1]; simp only [bB_t]) h4 (fun g w act hO hsz => ?_)
        have hO' : ∀ o n x, (o, n, x) ∈ r → RelO g v a act.tmps (tmpsOf [x]) := fun o' n x hm => by
          obtain ⟨_, i, hi⟩ := e2 o' n x hm
          refine hO.mem ?_
          rw [ho]
          simp only [Op.operands, List.mem_map]
          exact ⟨(i, x), by simpa using hi, rfl⟩
        obtain ⟨out, o1, o2, o3⟩ := k3 g act (madeCells zv.cells (n * (E el).sz)) hO' (size_madeCells _ _) (fun j v hv => by
          have hj : j < n * (E el).sz := by have := (Array.getElem?_eq_some_iff.1 hv).1; rwa [size_madeCells] at this
          obtain ⟨v', v1, v2⟩ := made_get (z := zv.cells) hj (by omega)
          rw [v1] at hv; cases hv
          rw [cell_rep (by omega) x1, if_pos hj]
          rw [z4] at v2
          exact z6 g _ _ v2)
        have hfill := o3 (fun i => some (i * (E el).sz, (E el).sz)) (ps.toList.map Prod.fst) (by simp [e1]) (fun j i o n x h1 h2 => by
          have := e4 j i o n x h1 h2
          unfold placeF at this
          rw [if_neg (by show (0 : Nat) ≠ 1; decide)] at this
          exact this)
        rw [e3 act] at hfill
        refine ⟨out, o1, ?_, fun j hj => ?_⟩
        · have hsz' : (sizeOf el).run P w = .ok (E el).sz w := by simp [sizeOf, typeInfo, z1, z3]
          have hnb : ¬ 16777216 < n * (E el).sz := by omega
          by_cases h0 : n * (E el).sz = 0
          · have hfill' : Instr.fill (fun i => some (i * (E el).sz, (E el).sz)) ((Array.range (n * (E el).sz)).map ((#[] : Array Value)[· % (#[] : Array Value).size]!)) (ps.map fun (i, x) => (i, act.eval x)).toList = some out := by
              rw [← hfill, Array.toList_map, h0]
              have e0 : ∀ z : Array Value, (Array.range 0).map (z[· % z.size]!) = #[] := fun z => by simp [Array.range_zero']
              unfold madeCells
              rw [e0, e0]
            simp only [execOp, ho, Instr.buildSlice]
            simp [run_underlying hu, hsz', h0] at hfill' ⊢
            rw [hfill']
            simp [Go.newRow]
          · have hfill' : Instr.fill (fun i => some (i * (E el).sz, (E el).sz)) ((Array.range (n * (E el).sz)).map (zv.cells[· % zv.cells.size]!)) (ps.map fun (i, x) => (i, act.eval x)).toList = some out := by
              rw [← hfill, Array.toList_map]; rfl
            simp only [execOp, ho, Instr.buildSlice]
            simp [run_underlying hu, hsz', h0, hnb, zeroValue, typeInfo, z1, z2] at hfill' ⊢
            rw [hfill']
            simp [Go.newRow]
        · have hj' : j < out.size := by omega
          refine ⟨out[j], Array.getElem?_eq_getElem hj', ?_⟩
          rw [segs_spec hsz (k2 g act hO') j hj]
          exact o2 j _ (Array.getElem?_eq_getElem hj')
end
end Go.Proofs.YgvajwGreat.Ev
