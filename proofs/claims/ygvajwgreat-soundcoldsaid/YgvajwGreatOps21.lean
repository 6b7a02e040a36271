import Derived.Test.YgvajwGreatOps20
namespace Go.Proofs.YgvajwGreat.Ev
variable {P : Program}
section
variable {o : Oper} {cf : CallF} {dr : Option Nat} {r0 q v : Nat} {a : List Bnd} {H : Hp} {kk : K}
/-- an open slice that fills its block: in place, or to a new row; in both cases under a new number -/
theorem app_open {t u : TypeId} {el es cs n X : Nat} {i : TypeInfo} {zv : Value} {s x : Operand} (c : AppCtx P o v a H t u el es cs n X i zv s x) {cl : Cl} (h13 : tag cs = 13)
    (hopen : openCap ≤ sCap cs) (hces : sCap cs - openCap = es) (huid : (bk H (aLoc (sAddr cs))).uid = aUid (sAddr cs)) (hoff : aOff (sAddr cs) = 0) (hlen : sLen cs * es = (bk H (aLoc (sAddr cs))).sz)
    (hbes : (bk H (aLoc (sAddr cs))).es = es) (hu24 : H.uid < 16777216) (hty : (bk H (aLoc (sAddr cs))).ty = el)
    (hrun : ∀ k', cl.run cf r0 q v a H k' = appG es (sLen cs) n X (sCap cs) (sAddr cs) (cPt o.dst) q v a H k')
    (hr : appG es (sLen cs) n X (sCap cs) (sAddr cs) (cPt o.dst) q v a H kk = true) : OpOK P cl cf dr r0 q v a H o := by
  unfold appG at hr hrun
  obtain ⟨h1, h2⟩ := bB_and.1 hr
  have hsz := ble_t h1
  obtain ⟨e2, _, b1, b2, b3⟩ := toSl_inv h2
  obtain ⟨q', v', a', p1, p2⟩ := ps_put o.dst (cSl (pAddr H.uid (aLoc (sAddr cs)) 0) (sLen cs + n) (sCap cs)) q v a
    ⟨H.uid + 1, H.ptop, H.ltop, qset 6 H.blks (aLoc (sAddr cs)) ⟨H.uid, (bk H (aLoc (sAddr cs))).ty, (bk H (aLoc (sAddr cs))).sz + n * es, es,
        (scat q 500 (bk H (aLoc (sAddr cs))).s0 (bk H (aLoc (sAddr cs))).more (bk H (aLoc (sAddr cs))).sz (n * es) X).1, (scat q 500 (bk H (aLoc (sAddr cs))).s0 (bk H (aLoc (sAddr cs))).more (bk H (aLoc (sAddr cs))).sz (n * es) X).2⟩⟩ (by rw [cSl_eq]; omega) (cSl_lt b1 b2 b3)
  refine ⟨_, [], q', v', a', _, fun k' => by rw [hrun, h1, bB_t, e2, p1], p2, fun g w act hO hH _ Q => ?_⟩
  rw [c.ops] at hO
  obtain ⟨xs, hcs⟩ := c.hcs g act hO.left
  obtain ⟨b, l, m, hb, hc⟩ := relA_sl hcs h13
  have hl := hc.slAddr.2.1
  subst hl
  obtain ⟨news, hA, hN⟩ := c.harg g w act hO.right hH
  obtain ⟨hlm, _, hAd, _, hcap, u', l', s', k1, k2, k3, k4, _, k6⟩ := hc.slParts
  obtain ⟨_, k6⟩ := k6 hopen
  obtain ⟨hl4, ho2, hne, s2, arr, e3, e4, e5, e6, e7, e8, e9⟩ := hAd.block hH huid
  have hoff0 : b.off = 0 := by rw [← ho2]; exact hoff
  have hul : aUid (sAddr cs) = u' := by rw [k3, aUid_pAddr k1]
  have hs2 : s2 = s' := by
    rw [huid, hul, k4] at e3; cases e3; rfl
  subst hs2
  rw [hoff0, hces] at k6
  have hnl : news.length = n * es := by rw [hA.1, c.z3]
  have hsm : (bk H (aLoc (sAddr cs))).sz + n * es = (sLen cs + n) * es := by rw [Nat.add_mul, hlen]
  have hsc := scat_spec 500 q (bk H (aLoc (sAddr cs))).s0 (bk H (aLoc (sAddr cs))).more (bk H (aLoc (sAddr cs))).sz (n * es) X (by have : (bk H (aLoc (sAddr cs))).sz % 64 < 64 := Nat.mod_lt _ (by omega); omega) (by omega) c.hX
  have hg0 : g H.uid = none := hH.fresh _ (Nat.le_refl _)
  have hlive : ∀ l2 b2 s3, l2 < 4096 → l2 ≠ aLoc (sAddr cs) → (bk H l2).uid ≠ 0 → g (bk H l2).uid = some (b2, s3) → b2 ≠ b.block := fun l2 b2 s3 h1 h2 h3 h4 he => by
    subst he
    exact h2 (hH.inj l2 _ _ _ _ h1 hl4 h3 hne h4 e3)
  have hown : Owns g H b.block := ⟨_, _, hl4, hne, e3⟩
  rw [hty] at e4
  by_cases hm : sLen cs + n ≤ m
  · have hle : (sLen cs + n) * es ≤ m * es := Nat.mul_le_mul_right _ hm
    have hfit : sLen cs * es + news.length ≤ arr.size := by rw [hnl, hlen, hsm]; omega
    have hst := run_storeCells_at P b.block (sLen cs * es) el news 0 arr w e4 (by simpa using hfit) (AppCtx.one hN)
    have hst' : (storeCells (b.add (sLen cs * es)) news).run P w = .ok () (w.setRow b.block (arr.toList.take (sLen cs * es) ++ news ++ arr.toList.drop (sLen cs * es + news.length)).toArray) := by
      rw [addr_add b hAd.1, hoff0]; simpa using hst
    have hrun2 := run_app_room (P := P) (ty := o.type) (base := some b) c.hu c.z1 c.z2 c.hb hA hm (by rw [c.z3]; exact hst')
    rw [← hb] at hrun2
    refine wp_value (c.exec hrun2) ⟨_, gPut g H.uid b.block s2, rfl, .inr ⟨rfl, .inl ?_⟩, ⟨gPut_ext hg0, hH.replace hl4 (fun l2 b2 s3 h1 h2 h3 h4 => ?_) ?_, ⟨by simp, rfl, rfl, frozen_setRow e4, fun b2 hb2 ho => ⟨setRow_other _ _ _ _ (fun (e : b2 = b.block) => ho (by rw [e]; exact hown)), fun hw => ?_⟩⟩, Nat.le_succ _, fun x hx => gPut_ne g (by omega)⟩⟩
    · refine ⟨hAd.1, hm, H.uid, aLoc (sAddr cs), s2, sCap cs, hu24, hl4, ?_, b2, b3, ?_, gPut_same _ _ _ _, fun h => by omega, fun _ => ⟨by have := c.hes; omega, by rw [hoff0, hces]; exact k6⟩⟩
      · rw [hoff0]; exact b1
      · rw [hoff0]
    · have := hlive l2 b2 s3 h1 h2 h3 h4
      exact ⟨setRow_other _ _ _ _ this, this⟩
    · refine ⟨b.block, s2, (arr.toList.take (sLen cs * es) ++ news ++ arr.toList.drop (sLen cs * es + news.length)).toArray, gPut_same _ _ _ _, ?_, ?_, ?_, fun h => ?_, hsz, fun j hj => ?_⟩
      · rw [setRow_heap w b.block arr _ el _ e4, hty]
      · rw [splice_size arr _ news hfit]; exact e5
      · show (bk H (aLoc (sAddr cs))).sz + n * es ≤ s2
        rw [hsm]; omega
      · have := c.hes; have h : es = 0 := h; omega
      · have hj : j < (bk H (aLoc (sAddr cs))).sz + n * es := hj
        rw [splice_get arr _ news hfit]
        show ∃ v, _ ∧ RelC _ (cellB (scat q 500 _ _ _ _ X).1 (scat q 500 _ _ _ _ X).2 j) v
        rw [hsc j (by omega), hlen, hnl]
        by_cases hj' : (bk H (aLoc (sAddr cs))).sz ≤ j ∧ j < (bk H (aLoc (sAddr cs))).sz + n * es
        · rw [if_pos hj', if_pos hj']
          have hjl : j - (bk H (aLoc (sAddr cs))).sz < news.length := by omega
          exact ⟨news[j - (bk H (aLoc (sAddr cs))).sz], List.getElem?_eq_getElem hjl, (hN _ _ (List.getElem?_eq_getElem hjl)).mono (gPut_ext hg0)⟩
        · rw [if_neg hj', if_neg hj']
          obtain ⟨v, v1, v2⟩ := e9 j (by omega)
          exact ⟨v, v1, v2.mono (gPut_ext hg0)⟩
    · rcases owns_replace hH hl4 hw with e | e
      · exact ho (by rw [e]; exact hown)
      · exact ho e
  · have hlsz : sLen cs * es ≤ arr.size := by rw [hlen]; omega
    have holds : ∀ j v, (arr.toList.take (sLen cs * es))[j]? = some v → j < sLen cs * es ∧ arr[j]? = some v := fun j v hv => by
      rw [List.getElem?_take] at hv
      by_cases hj : j < sLen cs * es
      · rw [if_pos hj] at hv; exact ⟨hj, by simpa using hv⟩
      · rw [if_neg hj] at hv; cases hv
    have hnn : sLen cs + n ≤ 31000 := Nat.le_trans (Nat.le_mul_of_pos_right _ c.hes) (by rw [← hsm]; exact hsz)
    have hlt : (arr.toList.take (sLen cs * es)).length = sLen cs * es := by simp; omega
    have hg := run_app_grow (P := P) (ty := o.type) (base := some b) (sLen := sLen cs) (sCap := m) (olds := arr.toList.take (sLen cs * es)) c.hu c.z1 c.z2 c.hb hA (by omega) (by omega) (by rw [hlt, c.z3]) (fun j v hv => by
      obtain ⟨_, hv⟩ := holds j v hv
      rw [addr_add b hAd.1, hoff0]
      simp [World.cell?, e4, hv])
    rw [← hb] at hg
    have hge := grownCap_ge w (sLen cs + n) m el
    have hsize : ((arr.toList.take (sLen cs * es)).toArray ++ news.toArray ++ Builtin.zeroCells zv.cells (grownCap w (sLen cs + n) m el - (sLen cs + n))).size = grownCap w (sLen cs + n) m el * es := by
      rw [Array.size_append, Array.size_append, size_zeroCells, List.size_toArray, List.size_toArray, hlt, hnl, c.z4, ← Nat.add_mul, ← Nat.add_mul, Nat.add_sub_cancel' hge]
    have hle : (sLen cs + n) * es ≤ grownCap w (sLen cs + n) m el * es := Nat.mul_le_mul_right _ hge
    have hwh : ∀ b2, b2 < w.heap.size → (w.drew.alloc (.cells ((arr.toList.take (sLen cs * es)).toArray ++ news.toArray ++ Builtin.zeroCells zv.cells (grownCap w (sLen cs + n) m el - (sLen cs + n))) el)).heap[b2]? = w.heap[b2]? := fun b2 hb2 => by
      show (w.heap.push _)[b2]? = _
      rw [Array.getElem?_push, if_neg (Nat.ne_of_lt hb2)]
    refine wp_value (c.exec hg) ⟨_, gPut g H.uid w.heap.size (grownCap w (sLen cs + n) m el * es), rfl, .inr ⟨rfl, .inl ?_⟩, ⟨gPut_ext hg0, hH.replace hl4 (fun l2 b2 s3 h1 h2 h3 h4 => ?_) ?_, ⟨by show w.heap.size ≤ (w.heap.push _).size; rw [Array.size_push]; omega, rfl, rfl, frozen_alloc w.drew _ el, fun b2 hb2 ho => ⟨hwh b2 hb2, fun hw => ?_⟩⟩, Nat.le_succ _, fun x hx => gPut_ne g (by omega)⟩⟩
    · refine ⟨rfl, hge, H.uid, aLoc (sAddr cs), _, sCap cs, hu24, hl4, b1, b2, b3, rfl, gPut_same _ _ _ _, fun h => by omega, fun _ => ⟨by have := c.hes; omega, by rw [hces]; simp⟩⟩
    · have hb2 := owns_lt hH ⟨l2, s3, h1, h3, h4⟩
      exact ⟨hwh b2 hb2, Nat.ne_of_lt hb2⟩
    · refine ⟨w.heap.size, _, (arr.toList.take (sLen cs * es)).toArray ++ news.toArray ++ Builtin.zeroCells zv.cells (grownCap w (sLen cs + n) m el - (sLen cs + n)), gPut_same _ _ _ _, ?_, hsize, ?_, fun h => ?_, hsz, fun j hj => ?_⟩
      · have hnew := heap_alloc_new w.drew (.cells ((arr.toList.take (sLen cs * es)).toArray ++ news.toArray ++ Builtin.zeroCells zv.cells (grownCap w (sLen cs + n) m el - (sLen cs + n))) el)
        rw [← hty] at hnew ⊢
        exact hnew
      · show (bk H (aLoc (sAddr cs))).sz + n * es ≤ _
        rw [hsm]; exact hle
      · have := c.hes; have h : es = 0 := h; omega
      · have hj : j < (bk H (aLoc (sAddr cs))).sz + n * es := hj
        show ∃ v, _ ∧ RelC _ (cellB (scat q 500 _ _ _ _ X).1 (scat q 500 _ _ _ _ X).2 j) v
        rw [hsc j (by omega), Array.getElem?_append_left (by simp; omega)]
        by_cases hj' : j < (bk H (aLoc (sAddr cs))).sz
        · rw [if_neg (by omega), Array.getElem?_append_left (by simp; omega)]
          obtain ⟨v, v1, v2⟩ := e9 j hj'
          refine ⟨v, ?_, v2.mono (gPut_ext hg0)⟩
          rw [List.getElem?_toArray, List.getElem?_take, if_pos (by omega)]
          simpa using v1
        · rw [if_pos (by omega), Array.getElem?_append_right (by simp; omega)]
          have hjl : j - (bk H (aLoc (sAddr cs))).sz < news.length := by omega
          refine ⟨news[j - (bk H (aLoc (sAddr cs))).sz], ?_, (hN _ _ (List.getElem?_eq_getElem hjl)).mono (gPut_ext hg0)⟩
          rw [List.getElem?_toArray, List.size_toArray, hlt, hlen]
          exact List.getElem?_eq_getElem hjl
    · rcases owns_replace hH hl4 hw with e | e
      · omega
      · exact ho e
end
end Go.Proofs.YgvajwGreat.Ev
