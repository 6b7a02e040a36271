import Derived.Test.YgvajwGreatOps8
namespace Go.Proofs.YgvajwGreat.Ev
variable {P : Program}
theorem cap_open {c o e : Nat} (h : o ≤ c) (h' : c - o = e) : c = o + e := by omega
/-- a slice's code, opened -/
theorem slInv {g : Gh} {c n m : Nat} {a : Addr} (h : RelC g c (.slice (some a) n m)) : AddrOK g (sAddr c) a ∧ sLen c = n ∧ n ≤ m ∧ n < 16777216 ∧ sAddr c < 18446744073709551616 ∧ sCap c < 16777216 ∧
    (sCap c < openCap → m = sCap c) ∧ (openCap ≤ sCap c → sCap c ≠ openCap ∧ ∃ u l s, u < 16777216 ∧ l < 4096 ∧ sAddr c = pAddr u l a.off ∧ g u = some (a.block, s) ∧ a.off + m * (sCap c - openCap) = s) ∧ c = cSl (sAddr c) n (sCap c) := by
  obtain ⟨h0, h1, u, l, s, cap, h2, h3, h4, h5, h6, h7, h8, h9, h10⟩ := h
  subst h7
  rw [sAddr_cSl h4, sLen_cSl h4 h5, sCap_cSl h4 h5]
  exact ⟨⟨h0, u, l, s, h2, h3, rfl, h8⟩, rfl, h1, h5, h4, h6, h9, fun h => ⟨(h10 h).1, u, l, s, h2, h3, rfl, h8, (h10 h).2⟩, rfl⟩
section
variable {o : Oper} {cf : CallF} {dr : Option Nat} {r0 q v : Nat} {a : List Bnd} {H : Hp} {kk : K}
/-- the model's slice expression over a slice -/
theorem exec_slSl {E : Nat → TI} (hE : ∀ t, TIok P t (E t)) {t : TypeId} {x : Operand} {lo hi mx : Option Operand} (hk : (E t).k = 3) (hk' : (E (E t).el).k ≠ 0) (ho : o.op = .slice t x lo hi mx)
    {act : Act} {w : World} {b : Option Addr} {n cap l h m : Nat} (hb : act.eval x = .slice b n cap)
    (hbs : (Instr.sliceBounds true n cap (lo.map act.eval) (hi.map act.eval) (mx.map act.eval)).run P w = .ok (l, h, m) w) :
    (execOp act.eval o).run P w = .ok (.value (.slice (if m = l then b else b.map (·.add (l * (E (E t).el).sz))) (h - l) (m - l))) w := by
  have hu := (hE t).kind.2.2.1 hk
  obtain ⟨ie, j1, j2, _⟩ := (hE (E t).el).info hk'
  have hz : (sizeOf (E t).el).run P w = .ok (E (E t).el).sz w := by simp [sizeOf, typeInfo, j1, j2]
  simp [execOp, ho, hb, Instr.sliceAt, Instr.slice, run_underlying hu, hbs, hz]
theorem slSl_ok {E : Nat → TI} (hE : ∀ t, TIok P t (E t)) {t : TypeId} {x : Operand} {lo hi mx : Option Operand} (hk : (E t).k = 3) (hk' : (E (E t).el).k ≠ 0) (hes : (E (E t).el).sz ≠ 0) (ho : o.op = .slice t x lo hi mx)
    (hwf : mx ≠ none → hi ≠ none)
    (hr : (slSl (E (E t).el).sz (cOv x) (lo.map cOv) (hi.map cOv) (mx.map cOv) (cPt o.dst)).run cf r0 q v a H kk = true) :
    OpOK P (slSl (E (E t).el).sz (cOv x) (lo.map cOv) (hi.map cOv) (mx.map cOv) (cPt o.dst)) cf dr r0 q v a H o := by
  have hoc : openCap = 8388608 := rfl
  have e : ∀ k', (slSl (E (E t).el).sz (cOv x) (lo.map cOv) (hi.map cOv) (mx.map cOv) (cPt o.dst)).run cf r0 q v a H k' = (cOv x).get v a fun c => bB (Nat.beq (tag c) 13)
    (bB (Nat.ble openCap (sCap c))
        (match mx.map cOv with
         | none => bnd (hi.map cOv) (sLen c) v a fun h => bnd (lo.map cOv) 0 v a fun l => bB (Nat.ble h (sLen c)) (bB (Nat.ble l h) (bB (Nat.beq (sCap c - openCap) (E (E t).el).sz)
             (bB (Nat.ble (l + 1) (sLen c)) (toSl (pAdd (sAddr c) (l * (E (E t).el).sz)) (h - l) (sCap c) fun r => (cPt o.dst).ps r q v a H k')
               (z0 l (toSl (sAddr c) (h - l) (sCap c) fun r => (cPt o.dst).ps r q v a H k') false)) false) false) false
         | some mx => mx.get v a fun cm => cntOf cm fun m => bnd (hi.map cOv) m v a fun h => bnd (lo.map cOv) 0 v a fun l =>
             bB (Nat.ble m (sLen c)) (bB (Nat.ble h m) (bB (Nat.ble l h) (mkSl (sAddr c) (E (E t).el).sz l h m fun r => (cPt o.dst).ps r q v a H k') false) false) false)
        (bnd (mx.map cOv) (sCap c) v a fun m => bnd (hi.map cOv) (match mx.map cOv with | none => sLen c | some _ => m) v a fun h => bnd (lo.map cOv) 0 v a fun l =>
          bB (Nat.ble m (sCap c)) (bB (Nat.ble h m) (bB (Nat.ble l h) (mkSl (sAddr c) (E (E t).el).sz l h m fun r => (cPt o.dst).ps r q v a H k') false) false) false))
    (bB (Nat.beq c 12) (bnd (mx.map cOv) 0 v a fun m => bnd (hi.map cOv) 0 v a fun h => bnd (lo.map cOv) 0 v a fun l => z0 m (z0 h (z0 l ((cPt o.dst).ps 12 q v a H k') false) false) false) false) := fun k' => by
      unfold slSl; simp only [fN_eq]; rfl
  rw [e] at hr
  obtain ⟨cc, xc, ec, hr, sc, _⟩ := get_inv hr
  -- the bounds as the model wants them
  have B : ∀ (g : Gh) (act : Act), RelO g v a act.tmps (tmpsOf ([x] ++ lo.toList ++ hi.toList ++ mx.toList)) → ∀ (n cap l h m : Nat),
      ((mx = none → m = cap) ∧ ∀ y, mx = some y → ∀ g (act : Act), RelO g v a act.tmps (tmpsOf [y]) → ∃ kk, act.eval y = .int kk (m : Int)) →
      ((hi = none → h = n) ∧ ∀ y, hi = some y → ∀ g (act : Act), RelO g v a act.tmps (tmpsOf [y]) → ∃ kk, act.eval y = .int kk (h : Int)) →
      ((lo = none → l = 0) ∧ ∀ y, lo = some y → ∀ g (act : Act), RelO g v a act.tmps (tmpsOf [y]) → ∃ kk, act.eval y = .int kk (l : Int)) → m ≤ cap → h ≤ m → l ≤ h → ∀ w,
      (Instr.sliceBounds true n cap (lo.map act.eval) (hi.map act.eval) (mx.map act.eval)).run P w = .ok (l, h, m) w := fun g act hO n cap l h m hm hh hl g1 g2 g3 w => by
    refine run_bounds true n cap l h m _ _ _ ⟨fun hn => hm.1 (by cases mx <;> simp_all), fun y hy => ?_⟩ ⟨fun hn => ?_, fun y hy => ?_⟩ ⟨fun hn => hl.1 (by cases lo <;> simp_all), fun y hy => ?_⟩ g1 g2 g3 w
    · cases hmx : mx with
      | none => rw [hmx] at hy; cases hy
      | some z => rw [hmx] at hy; cases hy; exact hm.2 z hmx g act (hO.sub (by rw [hmx]; simp))
    · have hin : hi = none := by cases hi <;> simp_all
      have hmn : mx = none := by cases hmx : mx with
        | none => rfl
        | some z => exact absurd hin (hwf (by rw [hmx]; simp))
      exact ⟨by rw [hmn]; rfl, hh.1 hin⟩
    · cases hhi : hi with
      | none => rw [hhi] at hy; cases hy
      | some z => rw [hhi] at hy; cases hy; exact hh.2 z hhi g act (hO.sub (by rw [hhi]; simp))
    · cases hlo : lo with
      | none => rw [hlo] at hy; cases hy
      | some z => rw [hlo] at hy; cases hy; exact hl.2 z hlo g act (hO.sub (by rw [hlo]; simp))
  rcases bB_or.1 hr with ⟨h1, hr⟩ | ⟨h1, hr⟩
  · rcases bB_or.1 hr with ⟨h2, hr⟩ | ⟨h2, hr⟩
    · -- open
      have g2 := ble_t h2
      cases hmx : mx with
      | none =>
        rw [hmx] at hr
        obtain ⟨h, eh, hr, dh, sh⟩ := bnd_inv hr
        obtain ⟨l, el, hr, dl, sl⟩ := bnd_inv hr
        obtain ⟨h3, hr⟩ := bB_and.1 hr
        obtain ⟨h4, hr⟩ := bB_and.1 hr
        obtain ⟨h5, hr⟩ := bB_and.1 hr
        have g3 := ble_t h3
        have g4 := ble_t h4
        have g5 := beq_t h5
        -- one code for both ways
        have key : ∃ p, (p = pAdd (sAddr cc) (l * (E (E t).el).sz) ∧ l < sLen cc ∨ p = sAddr cc ∧ l = 0) ∧ p < 18446744073709551616 ∧ h - l < 16777216 ∧ sCap cc < 16777216 ∧
            (∀ k', (slSl (E (E t).el).sz (cOv x) (lo.map cOv) (hi.map cOv) (mx.map cOv) (cPt o.dst)).run cf r0 q v a H k' = (cPt o.dst).ps (cSl p (h - l) (sCap cc)) q v a H k') := by
          rcases bB_or.1 hr with ⟨h6, hr⟩ | ⟨h6, hr⟩
          · obtain ⟨h7, h8, h9, h10, h11⟩ := toSl_inv hr
            exact ⟨_, .inl ⟨rfl, by have := ble_t h6; omega⟩, h9, h10, h11, fun k' => by rw [e, ec, h1, bB_t, h2, bB_t, hmx]; show bnd _ _ _ _ _ = _; rw [eh, el, h3, bB_t, h4, bB_t, h5, bB_t, h6, bB_t, h7]⟩
          · obtain ⟨h6', hr⟩ := z0_and.1 hr
            obtain ⟨h7, h8, h9, h10, h11⟩ := toSl_inv hr
            exact ⟨_, .inr ⟨rfl, h6'⟩, h9, h10, h11, fun k' => by rw [e, ec, h1, bB_t, h2, bB_t, hmx]; show bnd _ _ _ _ _ = _; rw [eh, el, h3, bB_t, h4, bB_t, h5, bB_t, h6, bB_f, h6', z0_0, ← h6', h7]⟩
        obtain ⟨p, hp, p1, p2, p3, hrun⟩ := key
        rw [← hmx]
        refine pureS hrun (fun g w act hO hH => ?_) (cSl_ne _ _ _) (cSl_lt p1 p2 p3)
        rw [ops_slice ho] at hO
        obtain ⟨b, n, cp, hb, hc⟩ := relA_sl (sc g act (hO.sub (by simp))) (beq_t h1)
        obtain ⟨ha, i1, i2, i3, i4, i5, i6, i7, i8⟩ := slInv hc
        obtain ⟨j0, u, ll, s, j1, j2, j3, j4, j5⟩ := i7 g2
        have hbs := B g act hO n cp l h cp ⟨fun _ => rfl, fun y hy => by rw [hmx] at hy; cases hy⟩ ⟨fun hn => by rw [dh hn, i1], sh⟩ ⟨dl, sl⟩ (Nat.le_refl _) (by omega) g4 w
        refine ⟨_, exec_slSl hE hk hk' ho hb hbs, ?_⟩
        have hbase : (if cp = l then some b else (some b).map (·.add (l * (E (E t).el).sz))) = some (b.add (l * (E (E t).el).sz)) := by
          split
          · rename_i hcl
            rcases hp with ⟨_, hp⟩ | ⟨_, hp⟩
            · omega
            · subst hp; rw [Nat.zero_mul]; rfl
          · rfl
        rw [hbase]
        have hcap : sCap cc = openCap + (E (E t).el).sz := cap_open g2 g5
        have hpe : p = pAdd (sAddr cc) (l * (E (E t).el).sz) := by
          rcases hp with ⟨hp, _⟩ | ⟨hp, hl0⟩
          · exact hp
          · rw [hp, hl0, Nat.zero_mul, j3, pAdd_pAddr j1 (by omega), Nat.add_zero]
        have hadd : (b.add (l * (E (E t).el).sz)) = ⟨b.block, b.off + l * (E (E t).el).sz, none⟩ := addr_add b ha.1 _
        rw [hcap]
        rw [g5] at j5
        refine AddrOK.openSl (s := s) (hpe ▸ ha.add _) ⟨u, ll, j1, j2, ?_, ?_⟩ p1 p2 hes (by omega) (by omega) ?_
        · rw [hpe, j3, pAdd_pAddr j1 (by omega), hadd]
        · rw [hadd]; exact j4
        · rw [hadd]
          show b.off + l * (E (E t).el).sz + (cp - l) * (E (E t).el).sz = s
          rw [Nat.add_assoc, ← Nat.add_mul, show l + (cp - l) = cp by omega]
          exact j5
      | some z =>
        rw [hmx] at hr
        have hr : ((cOv z).get v a fun cm => cntOf cm fun m => bnd (hi.map cOv) m v a fun h => bnd (lo.map cOv) 0 v a fun l =>
             bB (Nat.ble m (sLen cc)) (bB (Nat.ble h m) (bB (Nat.ble l h) (mkSl (sAddr cc) (E (E t).el).sz l h m fun r => (cPt o.dst).ps r q v a H kk) false) false) false) = true := hr
        obtain ⟨cm, xm, ecm, hr, scm, _⟩ := get_inv hr
        obtain ⟨m, em, hr, _, _, _, sm⟩ := cnt_inv hr
        obtain ⟨h, eh, hr, dh, sh⟩ := bnd_inv hr
        obtain ⟨l, el, hr, dl, sl⟩ := bnd_inv hr
        obtain ⟨h3, hr⟩ := bB_and.1 hr
        obtain ⟨h4, hr⟩ := bB_and.1 hr
        obtain ⟨h5, hr⟩ := bB_and.1 hr
        obtain ⟨m1, m2, m3, m4, m5⟩ := mkSl_inv hr
        have g3 := ble_t h3
        have g4 := ble_t h4
        have g5 := ble_t h5
        rw [← hmx]
        refine pureS (fun k' => by rw [e, ec, h1, bB_t, h2, bB_t, hmx]; show (cOv z).get _ _ _ = _; rw [ecm, em, eh, el, h3, bB_t, h4, bB_t, h5, bB_t, m2]) (fun g w act hO hH => ?_) (cSl_ne _ _ _) (cSl_lt m4 m5 (by omega))
        rw [ops_slice ho] at hO
        obtain ⟨b, n, cp, hb, hc⟩ := relA_sl (sc g act (hO.sub (by simp))) (beq_t h1)
        obtain ⟨ha, i1, i2, i3, i4, i5, i6, i7, i8⟩ := slInv hc
        have hbs := B g act hO n cp l h m ⟨fun hn => (by rw [hmx] at hn; cases hn), fun y hy g act hO => by
          rw [hmx] at hy; cases hy
          obtain ⟨kk, e1, _⟩ := sm g xm _ (scm g act hO)
          exact ⟨kk, e1⟩⟩ ⟨fun hn => absurd hn (hwf (by rw [hmx]; simp)), sh⟩ ⟨dl, sl⟩ (by omega) g4 g5 w
        refine ⟨_, exec_slSl hE hk hk' ho hb hbs, ?_⟩
        have hbase : (if m = l then some b else (some b).map (·.add (l * (E (E t).el).sz))) = some (if m = l then b else b.add (l * (E (E t).el).sz)) := by split <;> rfl
        rw [hbase]
        exact ha.mk.slice m4 m5 (by omega) (by omega)
    · -- known
      have g2 := ble_f h2
      obtain ⟨m, em, hr, dm, sm⟩ := bnd_inv hr
      obtain ⟨h, eh, hr, dh, sh⟩ := bnd_inv hr
      obtain ⟨l, el, hr, dl, sl⟩ := bnd_inv hr
      obtain ⟨h3, hr⟩ := bB_and.1 hr
      obtain ⟨h4, hr⟩ := bB_and.1 hr
      obtain ⟨h5, hr⟩ := bB_and.1 hr
      obtain ⟨m1, m2, m3, m4, m5⟩ := mkSl_inv hr
      have g3 := ble_t h3
      have g4 := ble_t h4
      have g5 := ble_t h5
      refine pureS (fun k' => by rw [e, ec, h1, bB_t, h2, bB_f, em, eh, el, h3, bB_t, h4, bB_t, h5, bB_t, m2]) (fun g w act hO hH => ?_) (cSl_ne _ _ _) (cSl_lt m4 m5 (by omega))
      rw [ops_slice ho] at hO
      obtain ⟨b, n, cp, hb, hc⟩ := relA_sl (sc g act (hO.sub (by simp))) (beq_t h1)
      obtain ⟨ha, i1, i2, i3, i4, i5, i6, i7, i8⟩ := slInv hc
      have hcp := i6 g2
      have hbs := B g act hO n cp l h m ⟨fun hn => by rw [dm hn, hcp], sm⟩ ⟨fun hn => by
        have hmn : mx = none := by cases hmx : mx with
          | none => rfl
          | some z => exact absurd hn (hwf (by rw [hmx]; simp))
        have := dh hn; rw [hmn] at this; rw [← i1]; exact this, sh⟩ ⟨dl, sl⟩ (by omega) g4 g5 w
      refine ⟨_, exec_slSl hE hk hk' ho hb hbs, ?_⟩
      have hbase : (if m = l then some b else (some b).map (·.add (l * (E (E t).el).sz))) = some (if m = l then b else b.add (l * (E (E t).el).sz)) := by split <;> rfl
      rw [hbase]
      exact ha.mk.slice m4 m5 (by omega) (by omega)
  · obtain ⟨h2, hr⟩ := bB_and.1 hr
    obtain ⟨m, em, hr, dm, sm⟩ := bnd_inv hr
    obtain ⟨h, eh, hr, dh, sh⟩ := bnd_inv hr
    obtain ⟨l, el, hr, dl, sl⟩ := bnd_inv hr
    obtain ⟨z1, hr⟩ := z0_and.1 hr
    obtain ⟨z2, hr⟩ := z0_and.1 hr
    obtain ⟨z3, hr⟩ := z0_and.1 hr
    refine pureS (fun k' => by rw [e, ec, h1, bB_f, h2, bB_t, em, eh, el, z1, z0_0, z2, z0_0, z3, z0_0]) (fun g w act hO hH => ?_) (by decide) (by decide)
    rw [ops_slice ho] at hO
    have hb := relA_nils (sc g act (hO.sub (by simp))) (beq_t h2)
    have hbs := B g act hO 0 0 l h m ⟨dm, sm⟩ ⟨dh, sh⟩ ⟨dl, sl⟩ (by omega) (by omega) (by omega) w
    refine ⟨_, exec_slSl hE hk hk' ho hb hbs, ?_⟩
    have hbase : (if m = l then (none : Option Addr) else (none : Option Addr).map (·.add (l * (E (E t).el).sz))) = none := by split <;> rfl
    rw [hbase]
    exact ⟨rfl, by omega, by omega⟩
end
end Go.Proofs.YgvajwGreat.Ev
