import Derived.Test.YgvajwGreatOps16
namespace Go.Proofs.YgvajwGreat.Ev
variable {P : Program}
theorem RelH.drew {g : Gh} {H : Hp} {w : World} (h : RelH g H w) : RelH g H w.drew := ⟨h.live, h.inj, h.fresh, h.zero, h.pos⟩
theorem St.ofDrew {g g' : Gh} {H H' : Hp} {w w' : World} (h : St g H w.drew g' H' w') : St g H w g' H' w' := ⟨h.ext, h.rel, ⟨h.fr.size, h.fr.os, h.fr.out, h.fr.fz, h.fr.keep⟩, h.um, h.kept⟩
/-- the block at place l is let go, another under a new number comes to its place -/
theorem RelH.replace {g : Gh} {H : Hp} {w w' : World} (hH : RelH g H w) {l : Nat} (hl : l < 4096) {b s ty sz es s0 : Nat} {more : QT Nat 5}
    (hw : ∀ l' b' s', l' < 4096 → l' ≠ l → (bk H l').uid ≠ 0 → g (bk H l').uid = some (b', s') → w'.heap[b']? = w.heap[b']? ∧ b' ≠ b)
    (hB : RelB (gPut g H.uid b s) w' ⟨H.uid, ty, sz, es, s0, more⟩) {p t : Nat} : RelH (gPut g H.uid b s) ⟨H.uid + 1, p, t, qset 6 H.blks l ⟨H.uid, ty, sz, es, s0, more⟩⟩ w' := by
  have hg : g H.uid = none := hH.fresh _ (Nat.le_refl _)
  have hext : Ext g (gPut g H.uid b s) := gPut_ext hg
  have hne : ∀ l', l' < 4096 → (bk H l').uid ≠ 0 → (bk H l').uid ≠ H.uid := fun l' h1 h2 e => by
    obtain ⟨b', s', arr, e1, _⟩ := hH.live l' h1 h2
    rw [e, hg] at e1; cases e1
  have hset : ∀ l', l' < 4096 → bk ⟨H.uid + 1, p, t, qset 6 H.blks l ⟨H.uid, ty, sz, es, s0, more⟩⟩ l' = if l' = l then ⟨H.uid, ty, sz, es, s0, more⟩ else bk H l' := fun l' hl' => bk_set hl hl'
  refine ⟨fun l' hl' hn => ?_, fun l1 l2 b1 s1 s2 h1 h2 n1 n2 g1 g2 => ?_, fun u hu => ?_, ?_, Nat.succ_ne_zero _⟩
  · rw [hset l' hl'] at hn ⊢
    by_cases h : l' = l
    · rw [if_pos h]; exact hB
    · rw [if_neg h] at hn ⊢
      obtain ⟨b', s', arr, e1, e2, e3⟩ := (hH.live l' hl' hn)
      obtain ⟨x1, _⟩ := hw l' b' s' hl' h hn e1
      exact RelB.mono hext ⟨b', s', arr, e1, x1.trans e2, e3⟩
  · rw [hset l1 h1] at n1 g1
    rw [hset l2 h2] at n2 g2
    by_cases e1 : l1 = l <;> by_cases e2 : l2 = l
    · omega
    · rw [if_pos e1] at g1
      rw [if_neg e2] at n2 g2
      rw [gPut_same] at g1; cases g1
      rw [gPut_ne g (hne l2 h2 n2)] at g2
      exact absurd rfl (hw l2 _ _ h2 e2 n2 g2).2
    · rw [if_neg e1] at n1 g1
      rw [if_pos e2] at g2
      rw [gPut_same] at g2; cases g2
      rw [gPut_ne g (hne l1 h1 n1)] at g1
      exact absurd rfl (hw l1 _ _ h1 e1 n1 g1).2
    · rw [if_neg e1] at n1 g1
      rw [if_neg e2] at n2 g2
      rw [gPut_ne g (hne l1 h1 n1)] at g1
      rw [gPut_ne g (hne l2 h2 n2)] at g2
      exact hH.inj l1 l2 b1 s1 s2 h1 h2 n1 n2 g1 g2
  · have hu : H.uid + 1 ≤ u := hu
    rw [gPut_ne g (by omega)]; exact hH.fresh u (by omega)
  · rw [gPut_ne g (Ne.symm hH.pos)]; exact hH.zero
theorem owns_replace {g : Gh} {H : Hp} {w : World} (hH : RelH g H w) {l : Nat} (hl : l < 4096) {b s ty sz es s0 p t b' : Nat} {more : QT Nat 5}
    (h : Owns (gPut g H.uid b s) ⟨H.uid + 1, p, t, qset 6 H.blks l ⟨H.uid, ty, sz, es, s0, more⟩⟩ b') : b' = b ∨ Owns g H b' := by
  obtain ⟨l', s', h1, h2, h3⟩ := h
  rw [bk_set hl h1] at h2 h3
  by_cases e : l' = l
  · rw [if_pos e, gPut_same] at h3
    cases h3
    exact .inl rfl
  · rw [if_neg e] at h2 h3
    refine .inr ⟨l', s', h1, h2, ?_⟩
    rw [gPut_ne g] at h3
    · exact h3
    · intro e
      obtain ⟨b', s', arr, e1, _⟩ := hH.live l' h1 h2
      have e : (bk H l').uid = H.uid := e
      rw [e, hH.fresh _ (Nat.le_refl _)] at e1; cases e1
section
variable {o : Oper} {cf : CallF} {dr : Option Nat} {r0 q v : Nat} {a : List Bnd} {H : Hp} {kk : K}
/-- a new open row -/
theorem newRow_ok {cl : Cl} {el es N X : Nat} {loc : Bool} (hes : 0 < es) (hX : X < 2 ^ (128 * (N * es)))
    (hrun : ∀ k', cl.run cf r0 q v a H k' = newRow es el loc N X (cPt o.dst) q v a H k')
    (hr : newRow es el loc N X (cPt o.dst) q v a H kk = true)
    (hsem : ∀ g w (act : Act), RelO g v a act.tmps (tmpsOf o.op.operands.toList) → RelH g H w → N * es ≤ 31000 → ∃ (front : List Value) (z : Array Value) (cap : Nat), front.length = N * es ∧ z.size = es ∧ N ≤ cap ∧
      (execOp act.eval o).run P w = .ok (.value (.slice (some ⟨w.heap.size, 0, none⟩) N cap)) (w.drew.alloc (.cells (front.toArray ++ Builtin.zeroCells z (cap - N)) el)) ∧ ∀ i v, front[i]? = some v → RelC g (cell X i) v) :
    OpOK P cl cf dr r0 q v a H o := by
  have e : ∀ k', newRow es el loc N X (cPt o.dst) q v a H k' = alloc none loc el (N * es) es (segs q (N * es) X) 0 H fun p' H => toSl p' N (openCap + es) fun r => (cPt o.dst).ps r q v a H k' := fun k' => by
    unfold newRow; rw [fN_eq]; rfl
  rw [e] at hr
  obtain ⟨u, l, hu', p, t, e1, h1, hl, hu, hsz, hd⟩ := alloc_inv hr
  obtain ⟨e2, _, b1, b2, b3⟩ := toSl_inv h1
  obtain ⟨q', v', a', p1, p2⟩ := ps_put o.dst (cSl (pAddr u l 0) N (openCap + es)) q v a ⟨hu', p, t, qset 6 H.blks l ⟨u, el, N * es, es, (segs q (N * es) X).1, (segs q (N * es) X).2⟩⟩ (by rw [cSl_eq]; omega) (cSl_lt b1 b2 b3)
  refine ⟨_, [], q', v', a', _, fun k' => by rw [hrun, e, e1, e2, p1], p2, fun g w act hO hH _ Q => ?_⟩
  obtain ⟨front, z, cap, f1, f2, f3, f4, f5⟩ := hsem g w act hO hH hsz
  obtain ⟨d1, d2, d3, d4, d5⟩ : g u = none ∧ u ≠ 0 ∧ u < hu' ∧ H.uid ≤ hu' ∧ H.uid ≤ u := by
    rcases hd with ⟨_, rfl, rfl⟩ | ⟨i, hi, _⟩
    · exact ⟨hH.fresh _ (Nat.le_refl _), hH.pos, by omega, by omega, Nat.le_refl _⟩
    · cases hi
  have hsize : (front.toArray ++ Builtin.zeroCells z (cap - N)).size = cap * es := by
    rw [Array.size_append, size_zeroCells, List.size_toArray, f1, f2, ← Nat.add_mul]
    congr 1; omega
  have hle : N * es ≤ cap * es := Nat.mul_le_mul_right _ f3
  obtain ⟨g', k1, k2, k3⟩ := alloc_sound hH.drew (es := es) (z := segs q (N * es) X) (p := p) (t := t) (ty := el) hl hu hsz d1 d2 d3 d4 d5 (arr := front.toArray ++ Builtin.zeroCells z (cap - N)) (by omega) (fun h => by omega) (fun i hi => by
    have hi' : i < front.length := by omega
    refine ⟨front[i], ?_, ?_⟩
    · rw [Array.getElem?_append_left (by simpa using hi')]; simp [hi']
    · rw [segs_spec hsz hX i hi]; exact f5 i _ (List.getElem?_eq_getElem hi'))
  refine wp_value f4 ⟨_, g', rfl, .inr ⟨rfl, .inl ?_⟩, k1.ofDrew⟩
  refine ⟨rfl, f3, u, l, _, openCap + es, hu, hl, b1, b2, b3, rfl, k2, fun h => by omega, fun _ => ⟨by omega, ?_⟩⟩
  rw [hsize, show openCap + es - openCap = es by omega]; simp
end
end Go.Proofs.YgvajwGreat.Ev
