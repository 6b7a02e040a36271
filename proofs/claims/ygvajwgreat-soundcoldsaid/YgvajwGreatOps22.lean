import Derived.Test.YgvajwGreatOps21
namespace Go.Proofs.YgvajwGreat.Ev
variable {P : Program}
section
variable {o : Oper} {cf : CallF} {dr : Option Nat} {r0 q v : Nat} {a : List Bnd} {H : Hp} {kk : K}
theorem newRow_sz {es el n X : Nat} {loc : Bool} {p : Pt} (h : newRow es el loc n X p q v a H kk = true) : n * es ≤ 31000 := by
  unfold newRow at h
  rw [fN_eq] at h
  obtain ⟨_, _, _, _, _, _, _, _, _, hsz, _⟩ := alloc_inv h
  exact hsz
theorem appO_ok {t u : TypeId} {el es cs n X : Nat} {i : TypeInfo} {zv : Value} {s x : Operand} (c : AppCtx P o v a H t u el es cs n X i zv s x) {cl : Cl} (h13 : tag cs = 13)
    (hopen : openCap ≤ sCap cs) (hces : sCap cs - openCap = es)
    (hrun : ∀ k', cl.run cf r0 q v a H k' = appO es el (sLen cs) n X (sCap cs) (sAddr cs) (cPt o.dst) q v a H k')
    (hr : appO es el (sLen cs) n X (sCap cs) (sAddr cs) (cPt o.dst) q v a H kk = true) : OpOK P cl cf dr r0 q v a H o := by
  unfold appO at hr hrun
  obtain ⟨g1, g2⟩ := bB_and.1 hr
  have huid := beq_t g1
  rcases bB_or.1 g2 with ⟨g3, g4⟩ | ⟨g3, g4⟩
  · have hfit := ble_t g3
    refine app_room c (fun k' => by rw [hrun, g1, bB_t, g3, bB_t]) g4 h13 (fun g w b m hH hc => ?_)
    obtain ⟨_, _, hAd, _, _, u', l', s', k1, k2, k3, k4, _, k6⟩ := hc.slParts
    obtain ⟨_, k6⟩ := k6 hopen
    obtain ⟨_, ho2, _, s2, arr, e3, _, _, e6, _⟩ := hAd.block hH huid
    have hul : aUid (sAddr cs) = u' := by rw [k3, aUid_pAddr k1]
    have hs2 : s2 = s' := by rw [huid, hul, k4] at e3; cases e3; rfl
    rw [hces] at k6
    have hle : (sLen cs + n) * es ≤ m * es := by omega
    exact Nat.le_of_mul_le_mul_right hle c.hes
  · obtain ⟨g5, g6⟩ := z0_and.1 g4
    obtain ⟨g7, g8⟩ := bB_and.1 g6
    obtain ⟨g9, g10⟩ := bB_and.1 g8
    obtain ⟨g11, g12⟩ := bB_and.1 g10
    obtain ⟨g13, g14⟩ := bB_and.1 g12
    have h24 : H.uid < 16777216 := Nat.lt_succ_of_le (ble_t g11)
    exact app_open c h13 hopen hces huid g5 (beq_t g7) (beq_t g9) h24 (beq_t g13) (fun k' => by rw [hrun, g1, bB_t, g3, bB_f, g5, z0_0, g7, bB_t, g9, bB_t, g11, bB_t, g13, bB_t]) g14
theorem appC_ok {t u : TypeId} {el es cs n X : Nat} {loc : Bool} {i : TypeInfo} {zv : Value} {s x : Operand} (c : AppCtx P o v a H t u el es cs n X i zv s x) {cl : Cl} (h13 : tag cs = 13)
    (hcap : sCap cs < openCap)
    (hrun : ∀ k', cl.run cf r0 q v a H k' = appC es el loc (sLen cs) n X cs (sCap cs) (sAddr cs) (cPt o.dst) q v a H k')
    (hr : appC es el loc (sLen cs) n X cs (sCap cs) (sAddr cs) (cPt o.dst) q v a H kk = true) : OpOK P cl cf dr r0 q v a H o := by
  unfold appC at hr hrun
  rcases bB_or.1 hr with ⟨g1, g2⟩ | ⟨g1, g2⟩
  · refine app_room c (fun k' => by rw [hrun, g1, bB_t]) g2 h13 (fun g w b m hH hc => ?_)
    obtain ⟨_, _, _, _, _, _, _, _, _, _, _, _, k5, _⟩ := hc.slParts
    rw [k5 hcap]; exact ble_t g1
  · have hno := ble_f g1
    obtain ⟨Y, e1, h8, hYl, hY⟩ := slCells_inv g2
    have hsz := newRow_sz h8
    have hsz2 : sLen cs * es ≤ 31000 := by rw [Nat.add_mul] at hsz; omega
    exact app_move c h13 hcap hno hY (hYl hsz2) (fun k' => by rw [hrun, g1, bB_f, e1]) h8
theorem appN_ok {t u : TypeId} {el es cs n X : Nat} {loc : Bool} {i : TypeInfo} {zv : Value} {s x : Operand} (c : AppCtx P o v a H t u el es cs n X i zv s x) {cl : Cl}
    (hrun : ∀ k', cl.run cf r0 q v a H k' = appN es el loc cs n X (cPt o.dst) q v a H k')
    (hr : appN es el loc cs n X (cPt o.dst) q v a H kk = true) : OpOK P cl cf dr r0 q v a H o := by
  rw [appN_eq] at hr
  rcases z0_or.1 hr with ⟨h0, h1⟩ | ⟨h0, h1⟩
  · subst h0
    exact app_none c (fun k' => by rw [hrun, appN_eq, z0_0])
  obtain ⟨m', hm'⟩ := Nat.exists_eq_succ_of_ne_zero h0
  have ez : ∀ (x y : Bool), z0 n x y = y := fun x y => by rw [hm', z0_s]
  rcases bB_or.1 h1 with ⟨h2, h3⟩ | ⟨h2, h3⟩
  · exact app_nil c (beq_t h2) h0 (fun k' => by rw [hrun, appN_eq, ez, h2, bB_t]) h3
  obtain ⟨h4, h5⟩ := bB_and.1 h3
  have h13 := beq_t h4
  rcases bB_or.1 h5 with ⟨h6, h7⟩ | ⟨h6, h7⟩
  · obtain ⟨h8, h9⟩ := bB_and.1 h7
    exact appO_ok c h13 (ble_t h6) (beq_t h8) (fun k' => by rw [hrun, appN_eq, ez, h2, bB_f, h4, bB_t, h6, bB_t, h8, bB_t]) h9
  · exact appC_ok c h13 (ble_f h6) (fun k' => by rw [hrun, appN_eq, ez, h2, bB_f, h4, bB_t, h6, bB_f]) h7
end
end Go.Proofs.YgvajwGreat.Ev
