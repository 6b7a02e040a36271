import Derived.Test.YgvajwGreatOps22
namespace Go.Proofs.YgvajwGreat.Ev
variable {P : Program}
section
variable {o : Oper} {cf : CallF} {dr : Option Nat} {r0 q v : Nat} {a : List Bnd} {H : Hp} {kk : K}
theorem nonInt {E : Nat → TI} (hE : ∀ t, TIok P t (E t)) {u : TypeId} (h0 : (E u).k ≠ 0) (h5 : (E u).k ≠ 5) : ∃ d, P.underlying u = some d ∧ ∀ k, d ≠ .int k := by
  have hk := (hE u).kind
  have h8 := hk.2.2.2.2.2.2.2.2
  have hc : (E u).k = 1 ∨ (E u).k = 2 ∨ (E u).k = 3 ∨ (E u).k = 4 ∨ (E u).k = 6 ∨ (E u).k = 7 ∨ (E u).k = 8 := by omega
  rcases hc with h | h | h | h | h | h | h
  · obtain ⟨fs, hu, _⟩ := hk.1 h; exact ⟨_, hu, fun k e => by cases e⟩
  · exact ⟨_, hk.2.1 h, fun k e => by cases e⟩
  · exact ⟨_, hk.2.2.1 h, fun k e => by cases e⟩
  · exact ⟨_, hk.2.2.2.1 h, fun k e => by cases e⟩
  · exact ⟨_, hk.2.2.2.2.2.1 h, fun k e => by cases e⟩
  · exact ⟨_, hk.2.2.2.2.2.2.1 h, fun k e => by cases e⟩
  · obtain ⟨d, hu, _, _, h3⟩ := hk.2.2.2.2.2.2.2.1 h; exact ⟨d, hu, h3⟩
theorem append_ok {E : Nat → TI} (hE : ∀ t, TIok P t (E t)) {t u : TypeId} {loc : Bool} {s x : Operand} (hk : (E t).k = 3) (hu0 : (E u).k ≠ 0)
    (ho : o.op = .call ⟨.builtin .append, #[s, x], #[t, u]⟩)
    (hr : (cApp loc (E t).el (E (E t).el) (Nat.beq (E u).k 5) (cOv s) (cOv x) (cPt o.dst)).run cf r0 q v a H kk = true) :
    OpOK P (cApp loc (E t).el (E (E t).el) (Nat.beq (E u).k 5) (cOv s) (cOv x) (cPt o.dst)) cf dr r0 q v a H o := by
  have hut := (hE t).kind.2.2.1 hk
  revert hr
  generalize (E t).el = el at hut ⊢
  intro hr
  unfold cApp at hr ⊢
  by_cases hz : (E el).zk = 0
  · rw [hz, z0_0] at hr; cases hr
  obtain ⟨m1, hm1⟩ := Nat.exists_eq_succ_of_ne_zero hz
  rw [hm1, z0_s] at hr ⊢
  by_cases hs : (E el).sz = 0
  · rw [hs, z0_0] at hr; cases hr
  obtain ⟨m2, hm2⟩ := Nat.exists_eq_succ_of_ne_zero hs
  rw [show z0 (E el).sz = z0 (m2 + 1) by rw [hm2], z0_s] at hr ⊢
  cases hb : Nat.ble (E el).by_ 1048576 with
  | false => rw [hb] at hr; cases hr
  | true =>
    rw [hb, bB_t] at hr
    rw [bB_t]
    simp only [fN_eq] at hr ⊢
    obtain ⟨z5, x1, i, zv, z1, z2, z3, z4, z6⟩ := zero_row hE hz
    have hby : i.bytes ≤ 1048576 := by
      obtain ⟨i', j1, _, j3⟩ := (hE el).info ((hE el).zk hz)
      rw [z1] at j1; cases j1
      rw [j3]; exact ble_t hb
    cases h5 : Nat.beq (E u).k 5 with
    | true =>
      rw [h5, bB_t] at hr
      rw [bB_t]
      have e : ∀ k', (Cl.mk fun _ _ q v a H k => (cOv s).get v a fun cs => bB (isSl cs) ((cOv x).get v a fun cx => cntOf cx fun n => bB (Nat.ble n 8000000) (appN (E el).sz el loc cs n (rep (E el).sz n (zeroX (E el))) (cPt o.dst) q v a H k) false) false).run cf r0 q v a H k' =
          (cOv s).get v a fun cs => bB (isSl cs) ((cOv x).get v a fun cx => cntOf cx fun n => bB (Nat.ble n 8000000) (appN (E el).sz el loc cs n (rep (E el).sz n (zeroX (E el))) (cPt o.dst) q v a H k') false) false := fun _ => rfl
      rw [e] at hr
      obtain ⟨cs, xs, es, hr, ss, bs⟩ := get_inv hr
      obtain ⟨hsl, hr⟩ := bB_and.1 hr
      obtain ⟨cx, xx, ex, hr, sx, _⟩ := get_inv hr
      obtain ⟨n, en, hr, _, _, _, sn⟩ := cnt_inv hr
      obtain ⟨h8, hr⟩ := bB_and.1 hr
      have g8 := ble_t h8
      obtain ⟨k, huk, _⟩ := (hE u).kind.2.2.2.2.1 (beq_t h5)
      have htag := isSl_inv hsl
      refine appN_ok (t := t) (u := u) (i := i) (zv := zv) (s := s) (x := x)
        ⟨hut, z1, z2, z3, z4, hby, by omega, ho, fun g act hO => ⟨xs, ss g act hO⟩, hsl, bs (by omega) (by omega), rep_lt (by omega) x1 n, fun g w act hO hH => ?_⟩ (fun k' => by rw [e, es, hsl, bB_t, ex, en, h8, bB_t]) hr
      obtain ⟨kk', hx, _⟩ := sn g xx _ (sx g act hO)
      have hzs : (Builtin.zeroCells zv.cells n).size = n * (E el).sz := by rw [size_zeroCells, z4]
      refine ⟨(Builtin.zeroCells zv.cells n).toList, ⟨by simp [hzs, z3], .inr ⟨k, kk', huk, hx, g8, fun _ => rfl⟩⟩, fun j v hv => ?_⟩
      have hv' : (Builtin.zeroCells zv.cells n)[j]? = some v := by simpa using hv
      have hj : j < n * (E el).sz := by have := (Array.getElem?_eq_some_iff.1 hv').1; omega
      rw [cell_rep (by omega) x1, if_pos hj]
      have hmod : j % (E el).sz < zv.cells.size := by rw [z4]; exact Nat.mod_lt _ (by omega)
      have hvz : zv.cells[j % (E el).sz]? = some v := by
        unfold Builtin.zeroCells at hv'
        rw [z4] at hv'
        simp [hj, getElem!_pos, hmod] at hv'
        rw [← hv']
        exact Array.getElem?_eq_getElem hmod
      exact z6 g _ _ hvz
    | false =>
      rw [h5, bB_f] at hr
      rw [bB_f]
      have e : ∀ k', (Cl.mk fun _ _ q v a H k => (cOv s).get v a fun cs => bB (isSl cs) ((cOv x).get v a fun cx => bB (isSl cx) (bB (Nat.ble (Nat.mul (sLen cx) (E el).sz) 31000) (slCells H (E el).sz cx (sLen cx) fun X => appN (E el).sz el loc cs (sLen cx) X (cPt o.dst) q v a H k) false) false) false).run cf r0 q v a H k' =
          (cOv s).get v a fun cs => bB (isSl cs) ((cOv x).get v a fun cx => bB (isSl cx) (bB (Nat.ble (sLen cx * (E el).sz) 31000) (slCells H (E el).sz cx (sLen cx) fun X => appN (E el).sz el loc cs (sLen cx) X (cPt o.dst) q v a H k') false) false) false := fun _ => rfl
      rw [e] at hr
      obtain ⟨cs, xs, es, hr, ss, bs⟩ := get_inv hr
      obtain ⟨hsl, hr⟩ := bB_and.1 hr
      obtain ⟨cx, xx, ex, hr, sx, _⟩ := get_inv hr
      obtain ⟨hsx, hr⟩ := bB_and.1 hr
      obtain ⟨h31, hr⟩ := bB_and.1 hr
      obtain ⟨Y, eY, hr, hYl, hY⟩ := slCells_inv hr
      have htag := isSl_inv hsl
      have hn5 : (E u).k ≠ 5 := fun e5 => by rw [e5] at h5; exact absurd h5 (by decide)
      obtain ⟨d, hud, hdn⟩ := nonInt hE hu0 hn5
      refine appN_ok (t := t) (u := u) (i := i) (zv := zv) (s := s) (x := x)
        ⟨hut, z1, z2, z3, z4, hby, by omega, ho, fun g act hO => ⟨xs, ss g act hO⟩, hsl, bs (by omega) (by omega), hYl (ble_t h31), fun g w act hO hH => ?_⟩ (fun k' => by rw [e, es, hsl, bB_t, ex, hsx, bB_t, h31, bB_t, eY]) hr
      rcases relA_isSl (sx g act hO) hsx with ⟨hx, _, hl⟩ | ⟨b, n, m, hx, hc, hl, _⟩
      · refine ⟨[], ⟨by simp [hl], .inl ⟨d, hud, hdn, .inl ⟨hx, hl⟩⟩⟩, fun j v hv => by simp at hv⟩
      · subst hl
        obtain ⟨_, f, hf⟩ := hY g w b m hH hc
        refine ⟨(List.range (sLen cx * (E el).sz)).map f, ⟨by simp [z3], .inl ⟨d, hud, hdn, .inr ⟨b, m, hx, fun j v hv => ?_⟩⟩⟩, fun j v hv => ?_⟩
        · by_cases hj : j < sLen cx * (E el).sz
          · simp [hj] at hv; rw [← hv]; exact (hf j hj).1
          · simp [hj] at hv
        · by_cases hj : j < sLen cx * (E el).sz
          · simp [hj] at hv; rw [← hv]; exact (hf j hj).2
          · simp [hj] at hv
end
end Go.Proofs.YgvajwGreat.Ev
