import Derived.Test.YgvajwGreatOps14
namespace Go.Proofs.YgvajwGreat.Ev
variable {P : Program}
theorem nthF_eq {α : Type} : ∀ (i : Nat) (l : List α), nthF i l = l[i]?
  | 0, [] => rfl
  | 0, x :: xs => rfl
  | i + 1, [] => rfl
  | i + 1, x :: xs => by
    show nthF i xs = _
    rw [nthF_eq i xs, List.getElem?_cons_succ]
section
variable {o : Oper} {cf : CallF} {dr : Option Nat} {r0 q v : Nat} {a : List Bnd} {H : Hp} {kk : K}
theorem extract_ok {t i : Nat} (ho : o.op = .extract (.tmp t) i)
    (hr : (cExtract t i (cPt o.dst)).run cf r0 q v a H kk = true) : OpOK P (cExtract t i (cPt o.dst)) cf dr r0 q v a H o := by
  have hops : o.op.operands.toList = [.tmp t] := by rw [ho]; rfl
  have e : ∀ k', (cExtract t i (cPt o.dst)).run cf r0 q v a H k' = z0 (gF (shOf t) v) (look t a fun c xs => bB (Nat.beq c 15) (match nthF i xs with | some c => (cPt o.dst).pc c q v a H k' | none => false) false) false := fun _ => rfl
  rw [e] at hr
  obtain ⟨h0, h1⟩ := z0_and.1 hr
  rw [look_eq] at h1
  cases hl : lookA t a with
  | none => rw [hl] at h1; cases h1
  | some cx =>
    obtain ⟨c, xs⟩ := cx
    rw [hl] at h1
    obtain ⟨h2, h3⟩ := bB_and.1 h1
    have h2' := beq_t h2
    cases hn : nthF i xs with
    | none => rw [hn] at h3; cases h3
    | some c1 =>
      obtain ⟨q', v', a', p1, p2⟩ := pc_put o.dst c1 q v a H
      refine pureA (q' := q') (fun k' => ?_) p2 (fun g w act hO hH => ?_)
      · rw [e, h0, z0_0, look_eq, hl]
        show bB (Nat.beq c 15) (match nthF i xs with | some c => (cPt o.dst).pc c q v a H k' | none => false) false = _
        rw [h2, bB_t, hn]
        exact p1 k'
      · rw [hops] at hO
        obtain ⟨x, x1, x2⟩ := hO t (by simp [tmpsOf]) c xs (by unfold rdA; rw [if_pos h0, hl])
        have hev : act.eval (.tmp t) = x := by simp [Act.eval, x1]
        rw [nthF_eq] at hn
        rcases x2 with ⟨_, vs, rfl, s1, s2⟩ | ⟨_, x3⟩
        · have hi : i < vs.size := by rw [s1]; exact (List.getElem?_eq_some_iff.1 hn).1
          refine ⟨vs[i], ?_, .inr ⟨rfl, s2 i c1 _ hn (Array.getElem?_eq_getElem hi)⟩⟩
          simp [execOp, ho, hev, Instr.extract, hi]
        · exact absurd h2' x3.ne15
theorem isSl_inv {c : Nat} (h : isSl c = true) : tag c = 12 ∨ tag c = 13 := by
  have h1 : tag c ||| 1 = 13 := beq_t h
  have h2 : tag c < 16 := by rw [tag_eq]; omega
  have h3 : (tag c ||| 1) / 2 = 6 := by rw [h1]
  have h4 : (tag c ||| 1) >>> 1 = tag c >>> 1 := by rw [Nat.shiftRight_or_distrib]; simp
  rw [Nat.shiftRight_eq_div_pow, Nat.shiftRight_eq_div_pow] at h4
  omega
theorem relA_isSl {g : Gh} {c : Nat} {xs : List Nat} {x : Value} (h : RelA g c xs x) (hs : isSl c = true) : (x = .slice none 0 0 ∧ c = 12 ∧ sLen c = 0) ∨ ∃ b n m, x = .slice (some b) n m ∧ RelC g c (.slice (some b) n m) ∧ sLen c = n ∧ tag c = 13 := by
  rcases isSl_inv hs with ht | ht
  · have h1 := relA_sc h (by omega) (by omega)
    rcases h1.tag_cases with ⟨k, n, _, h', _⟩ | ⟨b, _, _, h'⟩ | ⟨_, h'⟩ | ⟨a, _, h'⟩ | ⟨h2, h'⟩ | ⟨a, n, m, _, h'⟩ | ⟨b, _, h'⟩
    · have := kTag_pos k; omega
    · omega
    · subst h'; exact absurd ht (by decide)
    · omega
    · exact .inl ⟨h2, h', by subst h'; decide⟩
    · omega
    · omega
  · obtain ⟨b, n, m, e, hc⟩ := relA_sl h ht
    exact .inr ⟨b, n, m, e, hc, hc.slAddr.2.1, ht⟩
theorem i64_of (n : Nat) (hn : n < 9223372036854775808) : isI (enc 8 (Nat.add b63 n)) .i64 (n : Int) := by
  refine isI_mk (k := .i64) ((inK_iff .i64 n).2 ⟨by omega, by omega⟩) ?_
  show ((b63 + n : Nat) : Int) = _
  rw [b63_eq]; show ((9223372036854775808 + n : Nat) : Int) = (n : Int) + 9223372036854775808
  omega
def minL (cd cs : Nat) : Nat := bB (Nat.ble (sLen cd) (sLen cs)) (sLen cd) (sLen cs)
theorem minL_eq (cd cs : Nat) : minL cd cs = Nat.min (sLen cs) (sLen cd) := by
  unfold minL
  cases h : Nat.ble (sLen cd) (sLen cs)
  · have := ble_f h; rw [bB_f]; exact (Nat.min_eq_left (by omega)).symm
  · have := ble_t h; rw [bB_t]; exact (Nat.min_eq_right this).symm
theorem run_load0 (b : Addr) (w : World) : (loadCells b 0).run P w = .ok #[] w := by
  have := run_loadCells (P := P) w b 0 (fun _ => undef) (fun j hj => by omega)
  simpa using this
theorem copy_ok {E : Nat → TI} (hE : ∀ t, TIok P t (E t)) {t : TypeId} {d s : Operand} {ts : Array TypeId} (hts : ts[0]? = some t) (hk : (E t).k = 3) (he : (E (E t).el).k ≠ 0) (ho : o.op = .call ⟨.builtin .copy, #[d, s], ts⟩)
    (hr : (cCopy (E (E t).el).sz (cOv d) (cOv s) (cPt o.dst)).run cf r0 q v a H kk = true) : OpOK P (cCopy (E (E t).el).sz (cOv d) (cOv s) (cPt o.dst)) cf dr r0 q v a H o := by
  have hops : o.op.operands.toList = [d, s] := by rw [ho]; rfl
  have hu := (hE t).kind.2.2.1 hk
  revert hr he
  generalize (E t).el = el at hu ⊢
  intro he hr
  obtain ⟨i, j1, j2, _⟩ := (hE el).info he
  have hz : ∀ w, (sizeOf el).run P w = .ok (E el).sz w := fun w => by simp [sizeOf, typeInfo, j1, j2]
  have e : ∀ k', (cCopy (E el).sz (cOv d) (cOv s) (cPt o.dst)).run cf r0 q v a H k' = (cOv d).get v a fun cd => (cOv s).get v a fun cs => bB (isSl cd) (bB (isSl cs)
      (z0 (minL cd cs) ((cPt o.dst).ps (enc 8 (Nat.add b63 (minL cd cs))) q v a H k')
      (ldN H (sAddr cs) (minL cd cs * (E el).sz) fun X => stN q H (sAddr cd) (minL cd cs * (E el).sz) X fun H =>
        (cPt o.dst).ps (enc 8 (Nat.add b63 (minL cd cs))) q v a H k')) false) false := fun k' => by
    show ((cOv d).get v a fun cd => (cOv s).get v a fun cs => bB (isSl cd) (bB (isSl cs) (fN (minL cd cs) fun n => _) false) false) = _
    simp only [fN_eq, nmul]
  rw [e] at hr
  obtain ⟨cd, xd, ed, hr, sd, _⟩ := get_inv hr
  obtain ⟨cs, xs, es, hr, ss, _⟩ := get_inv hr
  obtain ⟨h1, hr⟩ := bB_and.1 hr
  obtain ⟨h2, hr⟩ := bB_and.1 hr
  have hl24 : minL cd cs < 16777216 := by
    rw [minL_eq]
    exact Nat.lt_of_le_of_lt (Nat.min_le_left _ _) (Nat.mod_lt _ (by decide))
  have hI := i64_of (minL cd cs) (by omega)
  have hb63 := b63_eq
  obtain ⟨d1, d2⟩ := enc_bd (t := 8) (p := Nat.add b63 (minL cd cs)) (by omega) (by omega) (by rw [nadd]; omega)
  have hrun : ∀ (act : Act) (w w' : World) (r : Value), (Builtin.copy_ ts o.type #[act.eval d, act.eval s]).run P w = .ok r w' → (execOp act.eval o).run P w = .ok (.value r) w' := fun act w w' r h => by
    simp [execOp, ho, resolve, invoke, builtin, h]
  rcases z0_or.1 hr with ⟨h3, h4⟩ | ⟨h3, h4⟩
  · refine pureS (fun k' => by rw [e, ed, es, h1, bB_t, h2, bB_t, h3, z0_0]) (fun g w act hO hH => ?_) (by rw [h3] at d1; exact d1) (by rw [h3] at d2; exact d2)
    rw [hops] at hO
    refine ⟨.int .i64 0, hrun act w w _ ?_, by rw [h3] at hI; exact hI⟩
    have hm := minL_eq cd cs
    rw [h3] at hm
    rcases relA_isSl (sd g act hO.left) h1 with ⟨x1, _, y1⟩ | ⟨b1, n1, m1, x1, _, y1, _⟩ <;> rcases relA_isSl (ss g act hO.right) h2 with ⟨x2, _, y2⟩ | ⟨b2, n2, m2, x2, _, y2, _⟩
    · rw [x1, x2]; simp [Builtin.copy_, hts, run_underlying hu, Builtin.lenOf, Builtin.firstCells, hz, goInt]
    · rw [x1, x2]; simp [Builtin.copy_, hts, run_underlying hu, Builtin.lenOf, Builtin.firstCells, hz, goInt, run_load0]
    · rw [x1, x2]; simp [Builtin.copy_, hts, run_underlying hu, Builtin.lenOf, Builtin.firstCells, hz, goInt, storeCells]
    · rw [y1, y2] at hm
      have hm' : min n2 n1 = 0 := hm.symm
      rw [x1, x2]; simp [Builtin.copy_, hts, run_underlying hu, Builtin.lenOf, Builtin.firstCells, hz, goInt, storeCells, hm', run_load0]
  · obtain ⟨m', hm'⟩ := Nat.exists_eq_succ_of_ne_zero h3
    obtain ⟨_, _, e5, h5⟩ := ldN_inv h4
    obtain ⟨_, _, e6, h6⟩ := stN_inv h5
    obtain ⟨q', v', a', p1, p2⟩ := ps_put o.dst (enc 8 (Nat.add b63 (minL cd cs))) q v a (stH q H (sAddr cd) (minL cd cs * (E el).sz) (ldX H (sAddr cs) (minL cd cs * (E el).sz))) d1 d2
    have ez : ∀ (x y : Bool), z0 (minL cd cs) x y = y := fun x y => by rw [hm', z0_s]
    refine ⟨_, [], q', v', a', _, fun k' => by rw [e, ed, es, h1, bB_t, h2, bB_t, ez, e5, e6, p1], p2, fun g w act hO hH _ Q => ?_⟩
    rw [hops] at hO
    have hm := minL_eq cd cs
    rcases relA_isSl (sd g act hO.left) h1 with ⟨x1, _, y1⟩ | ⟨b1, n1, m1, x1, c1, y1, _⟩
    · rw [y1, show Nat.min (sLen cs) 0 = 0 from Nat.min_zero _] at hm; exact absurd hm h3
    rcases relA_isSl (ss g act hO.right) h2 with ⟨x2, _, y2⟩ | ⟨b2, n2, m2, x2, c2, y2, _⟩
    · rw [y2, show Nat.min 0 (sLen cd) = 0 from Nat.zero_min _] at hm; exact absurd hm h3
    rw [y1, y2] at hm
    obtain ⟨l1, f, l2⟩ := ld_sound c2.slAddr.1 hH h4
    have hld := run_loadCells (P := P) w b2 (minL cd cs * (E el).sz) f (fun j hj => (l2 j hj).1)
    obtain ⟨w', s3, s4⟩ := st_sound (P := P) c1.slAddr.1 hH h5 l1 ((List.range (minL cd cs * (E el).sz)).map f) (by simp) (fun i v hv => by
      have hi : i < minL cd cs * (E el).sz := by
        have := (List.getElem?_eq_some_iff.1 hv).1; simpa using this
      simp [hi] at hv
      subst hv
      exact (l2 i hi).2)
    refine wp_value (hrun act w w' (.int .i64 (minL cd cs : Int)) ?_) ⟨_, g, rfl, .inr ⟨rfl, .inl hI⟩, s4⟩
    rw [x1, x2]
    have hmin : min n2 n1 = minL cd cs := hm.symm
    have hmin' : Nat.min n2 n1 = minL cd cs := hm.symm
    simp [Builtin.copy_, hts, run_underlying hu, Builtin.lenOf, Builtin.firstCells, hz, goInt, hmin, hld, s3]
theorem clear_ok {E : Nat → TI} (hE : ∀ t, TIok P t (E t)) {t : TypeId} {s : Operand} (hk : (E t).k = 3) (ho : o.op = .call ⟨.builtin .clear, #[s], #[t]⟩)
    (hr : (cClear (E (E t).el) (cOv s) (cPt o.dst)).run cf r0 q v a H kk = true) : OpOK P (cClear (E (E t).el) (cOv s) (cPt o.dst)) cf dr r0 q v a H o := by
  have hops : o.op.operands.toList = [s] := by rw [ho]; rfl
  have hu := (hE t).kind.2.2.1 hk
  revert hr
  generalize (E t).el = el at hu ⊢
  intro hr
  unfold cClear at hr ⊢
  by_cases hz : (E el).zk = 0
  · rw [hz, z0_0] at hr; cases hr
  obtain ⟨m1, hm1⟩ := Nat.exists_eq_succ_of_ne_zero hz
  rw [hm1, z0_s] at hr ⊢
  by_cases hs : (E el).sz = 0
  · rw [hs, z0_0] at hr; cases hr
  obtain ⟨m2, hm2⟩ := Nat.exists_eq_succ_of_ne_zero hs
  rw [show z0 (E el).sz = z0 (m2 + 1) by rw [hm2], z0_s] at hr ⊢
  simp only [fN_eq] at hr ⊢
  obtain ⟨z5, x1, i, zv, z1, z2, z3, z4, z6⟩ := zero_row hE hz
  have e : ∀ k', (Cl.mk fun _ _ q v a H k => (cOv s).get v a fun c => bB (Nat.beq c 12) ((cPt o.dst).pg 15 [] q v a H k) (bB (Nat.beq (tag c) 13)
      (z0 (sLen c) ((cPt o.dst).pg 15 [] q v a H k) (stN q H (sAddr c) (Nat.mul (sLen c) (E el).sz) (rep (E el).sz (sLen c) (zeroX (E el))) fun H => (cPt o.dst).pg 15 [] q v a H k)) false)).run cf r0 q v a H k' =
      (cOv s).get v a fun c => bB (Nat.beq c 12) ((cPt o.dst).pg 15 [] q v a H k') (bB (Nat.beq (tag c) 13)
      (z0 (sLen c) ((cPt o.dst).pg 15 [] q v a H k') (stN q H (sAddr c) (sLen c * (E el).sz) (rep (E el).sz (sLen c) (zeroX (E el))) fun H => (cPt o.dst).pg 15 [] q v a H k')) false) := fun _ => rfl
  rw [e] at hr
  obtain ⟨cc, xc, ec, hr, sc, _⟩ := get_inv hr
  have hrun : ∀ (act : Act) (w w' : World), (Builtin.clear_ #[t] o.type #[act.eval s]).run P w = .ok (.tuple #[]) w' → (execOp act.eval o).run P w = .ok (.value undef) w' := fun act w w' h => by
    simp [execOp, ho, resolve, invoke, builtin, h]; rfl
  obtain ⟨q', v', a', p1, p2⟩ := pg_put o.dst 15 [] q v a H
  rcases bB_or.1 hr with ⟨h1, h2⟩ | ⟨h1, h2⟩
  · refine pureA (fun k' => by rw [e, ec, h1, bB_t, p1]) p2 (fun g w act hO hH => ?_)
    rw [hops] at hO
    have hb := relA_nils (sc g act hO) (beq_t h1)
    exact ⟨undef, hrun act w w (by rw [hb]; simp [Builtin.clear_, run_underlying hu]), RelA.undef g⟩
  · obtain ⟨h3, h4⟩ := bB_and.1 h2
    rcases z0_or.1 h4 with ⟨h5, h6⟩ | ⟨h5, h6⟩
    · refine pureA (fun k' => by rw [e, ec, h1, bB_f, h3, bB_t, h5, z0_0, p1]) p2 (fun g w act hO hH => ?_)
      rw [hops] at hO
      obtain ⟨b, n, m, hb, hc⟩ := relA_sl (sc g act hO) (beq_t h3)
      have hn : n = 0 := by rw [← hc.slAddr.2.1]; exact h5
      subst hn
      exact ⟨undef, hrun act w w (by rw [hb]; simp [Builtin.clear_, run_underlying hu]), RelA.undef g⟩
    · obtain ⟨_, _, e6, h7⟩ := stN_inv h6
      obtain ⟨m', hm'⟩ := Nat.exists_eq_succ_of_ne_zero h5
      have ez : ∀ (x y : Bool), z0 (sLen cc) x y = y := fun x y => by rw [hm', z0_s]
      obtain ⟨q', v', a', p1, p2⟩ := pg_put o.dst 15 [] q v a (stH q H (sAddr cc) (sLen cc * (E el).sz) (rep (E el).sz (sLen cc) (zeroX (E el))))
      refine ⟨15, [], q', v', a', _, fun k' => by rw [e, ec, h1, bB_f, h3, bB_t, ez, e6, p1], p2, fun g w act hO hH _ Q => ?_⟩
      rw [hops] at hO
      obtain ⟨b, n, m, hb, hc⟩ := relA_sl (sc g act hO) (beq_t h3)
      have hn := hc.slAddr.2.1
      obtain ⟨w', s3, s4⟩ := st_sound (P := P) hc.slAddr.1 hH h6 (rep_lt (by omega) x1 _) (madeCells zv.cells (sLen cc * (E el).sz)).toList (by simp [size_madeCells]) (fun j v hv => by
        have hv' : (madeCells zv.cells (sLen cc * (E el).sz))[j]? = some v := by simpa using hv
        have hj : j < sLen cc * (E el).sz := by have := (Array.getElem?_eq_some_iff.1 hv').1; rwa [size_madeCells] at this
        obtain ⟨v', v1, v2⟩ := made_get (z := zv.cells) hj (by omega)
        rw [v1] at hv'; cases hv'
        rw [cell_rep (by omega) x1, if_pos hj]
        rw [z4] at v2
        exact z6 g _ _ v2)
      have hzc : Builtin.zeroCells zv.cells n = madeCells zv.cells (sLen cc * (E el).sz) := by
        unfold Builtin.zeroCells madeCells
        rw [z4, hn]
      refine wp_value (hrun act w w' ?_) ⟨undef, g, rfl, RelA.undef g, s4⟩
      rw [hb]
      cases n with
      | zero => omega
      | succ n => simp [Builtin.clear_, run_underlying hu, zeroValue, typeInfo, z1, z2, hzc, s3]
end
end Go.Proofs.YgvajwGreat.Ev
