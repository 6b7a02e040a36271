import Derived.Test.YgvajwGreatOps7
namespace Go.Proofs.YgvajwGreat.Ev
variable {P : Program}
theorem toSl_inv {p n m : Nat} {k : Nat → Bool} (h : toSl p n m k = true) : (∀ k', toSl p n m k' = k' (cSl p n m)) ∧ k (cSl p n m) = true ∧ p < 18446744073709551616 ∧ n < 16777216 ∧ m < 16777216 := by
  have e : ∀ k', toSl p n m k' = bB (Nat.ble p 18446744073709551615) (bB (Nat.ble n 16777215) (bB (Nat.ble m 16777215) (k' (cSl p n m)) false) false) false := fun k' => by unfold toSl; rw [fN_eq]
  rw [e] at h
  obtain ⟨h1, h2⟩ := bB_and.1 h
  obtain ⟨h3, h4⟩ := bB_and.1 h2
  obtain ⟨h5, h6⟩ := bB_and.1 h4
  exact ⟨fun k' => by rw [e, h1, bB_t, h3, bB_t, h5, bB_t], h6, by have := ble_t h1; omega, by have := ble_t h3; omega, by have := ble_t h5; omega⟩
theorem cSl_ne (p n m : Nat) : cSl p n m ≠ 0 := by rw [cSl_eq]; omega
/-- a slice of known capacity -/
theorem AddrOK.slice {g : Gh} {p n m : Nat} {a : Addr} (h : AddrOK g p a) (hp : p < 18446744073709551616) (hn : n < 16777216) (hm : m < openCap) (hnm : n ≤ m) : RelC g (cSl p n m) (.slice (some a) n m) := by
  obtain ⟨h0, u, l, s, h1, h2, h3, h4⟩ := h
  have : openCap = 8388608 := rfl
  exact ⟨h0, hnm, u, l, s, m, h1, h2, h3 ▸ hp, hn, by omega, by rw [h3], h4, fun _ => rfl, fun h => by omega⟩
/-- an open one -/
theorem AddrOK.openSl {g : Gh} {p n m s es : Nat} {a : Addr} (h : AddrOK g p a) (hs : ∃ u l, u < 16777216 ∧ l < 4096 ∧ p = pAddr u l a.off ∧ g u = some (a.block, s)) (hp : p < 18446744073709551616) (hn : n < 16777216) (hes : es ≠ 0) (he : openCap + es < 16777216) (hnm : n ≤ m)
    (hm : a.off + m * es = s) : RelC g (cSl p n (openCap + es)) (.slice (some a) n m) := by
  obtain ⟨u, l, h1, h2, h3, h4⟩ := hs
  exact ⟨h.1, hnm, u, l, s, openCap + es, h1, h2, h3 ▸ hp, hn, he, by rw [h3], h4, fun h => by omega, fun _ => ⟨by omega, by rw [Nat.add_sub_cancel_left]; exact hm⟩⟩
/-- a bound -/
theorem bnd_inv {x : Option Operand} {d v : Nat} {a : List Bnd} {k : Nat → Bool} (h : bnd (x.map cOv) d v a k = true) :
    ∃ n, (∀ k', bnd (x.map cOv) d v a k' = k' n) ∧ k n = true ∧ (x = none → n = d) ∧ ∀ y, x = some y → ∀ g (act : Act), RelO g v a act.tmps (tmpsOf [y]) → ∃ kk, act.eval y = .int kk (n : Int) := by
  cases x with
  | none => exact ⟨d, fun _ => rfl, h, fun _ => rfl, fun y hy => by cases hy⟩
  | some y =>
    have e : ∀ k', bnd ((some y).map cOv) d v a k' = (cOv y).get v a fun c => cntOf c k' := fun _ => rfl
    rw [e] at h
    obtain ⟨c, xs, ec, h, sc, _⟩ := get_inv h
    obtain ⟨n, en, h, _, _, _, sn⟩ := cnt_inv h
    refine ⟨n, fun k' => by rw [e, ec, en], h, fun hy => (by cases hy), fun z hz g act ho => ?_⟩
    cases hz
    obtain ⟨kk, h1, _⟩ := sn g xs _ (sc g act ho)
    exact ⟨kk, h1⟩
theorem run_bound {x : Value} {kk : IntKind} {n y : Nat} (hx : x = .int kk (n : Int)) (h : n ≤ y) (code : BoundsCode) (w : World) : (Instr.sliceBound x y code).run P w = .ok n w := by
  subst hx
  have : (0 : Int) ≤ (n : Int) ∧ (n : Int) ≤ (y : Int) := by omega
  simp [Instr.sliceBound, asIntOf, this]
/-- the three bounds, as the model reckons them -/
theorem run_bounds (b : Bool) (len cap l h m : Nat) (lo hi mx : Option Value)
    (hm : (mx = none → m = cap) ∧ ∀ x, mx = some x → ∃ kk, x = .int kk (m : Int)) (hh : (hi = none → mx = none ∧ h = len) ∧ ∀ x, hi = some x → ∃ kk, x = .int kk (h : Int))
    (hl : (lo = none → l = 0) ∧ ∀ x, lo = some x → ∃ kk, x = .int kk (l : Int)) (h1 : m ≤ cap) (h2 : h ≤ m) (h3 : l ≤ h) (w : World) :
    (Instr.sliceBounds b len cap lo hi mx).run P w = .ok (l, h, m) w := by
  unfold Instr.sliceBounds
  cases mx with
  | none =>
    have e1 := hm.1 rfl
    subst e1
    cases hi with
    | none =>
      have e2 := (hh.1 rfl).2
      subst e2
      cases lo with
      | none => have e3 := hl.1 rfl; subst e3; simp
      | some x => obtain ⟨k3, e3⟩ := hl.2 x rfl; simp [run_bound e3 h3]
    | some y =>
      obtain ⟨k2, e2⟩ := hh.2 y rfl
      cases lo with
      | none => have e3 := hl.1 rfl; subst e3; simp [run_bound e2 h2]
      | some x => obtain ⟨k3, e3⟩ := hl.2 x rfl; simp [run_bound e2 h2, run_bound e3 h3]
  | some z =>
    obtain ⟨k1, e1⟩ := hm.2 z rfl
    cases hi with
    | none => exact absurd (hh.1 rfl).1 (by simp)
    | some y =>
      obtain ⟨k2, e2⟩ := hh.2 y rfl
      cases lo with
      | none => have e3 := hl.1 rfl; subst e3; simp [run_bound e1 h1, run_bound e2 h2]
      | some x => obtain ⟨k3, e3⟩ := hl.2 x rfl; simp [run_bound e1 h1, run_bound e2 h2, run_bound e3 h3]
theorem ops_slice {o : Oper} {t : TypeId} {x : Operand} {lo hi mx : Option Operand} (ho : o.op = .slice t x lo hi mx) : o.op.operands.toList = [x] ++ lo.toList ++ hi.toList ++ mx.toList := by
  rw [ho]; cases lo <;> cases hi <;> cases mx <;> rfl
theorem tmpsOf_append (xs ys : List Operand) : tmpsOf (xs ++ ys) = tmpsOf xs ++ tmpsOf ys := by simp [tmpsOf]
theorem RelO.sub {g : Gh} {v : Nat} {a : List Bnd} {tmps : Array Value} {xs ys : List Operand} (h : RelO g v a tmps (tmpsOf ys)) (hs : ∀ x, x ∈ xs → x ∈ ys) : RelO g v a tmps (tmpsOf xs) := fun t ht => h t (by
  obtain ⟨x, hx, hx'⟩ := List.mem_filterMap.1 ht
  exact List.mem_filterMap.2 ⟨x, hs x hx, hx'⟩)
theorem mkSl_inv {p es l h m : Nat} {k : Nat → Bool} (hh : mkSl p es l h m k = true) :
    m ≤ 8388607 ∧ (∀ k', mkSl p es l h m k' = k' (cSl (if m = l then p else pAdd p (l * es)) (h - l) (m - l))) ∧ k (cSl (if m = l then p else pAdd p (l * es)) (h - l) (m - l)) = true ∧
      (if m = l then p else pAdd p (l * es)) < 18446744073709551616 ∧ h - l < 16777216 := by
  have e : ∀ k', mkSl p es l h m k' = bB (Nat.ble m 8388607) (toSl (if m = l then p else pAdd p (l * es)) (h - l) (m - l) k') false := fun k' => by
    unfold mkSl
    have : bB (Nat.beq m l) p (pAdd p (Nat.mul l es)) = if m = l then p else pAdd p (l * es) := by
      rw [bB_eq, beq_dec]; simp only [decide_eq_true_eq, nmul]
    rw [this]; rfl
  rw [e] at hh
  obtain ⟨h1, h2⟩ := bB_and.1 hh
  obtain ⟨h3, h4, h5, h6, _⟩ := toSl_inv h2
  exact ⟨ble_t h1, fun k' => by rw [e, h1, bB_t, h3], h4, h5, h6⟩
theorem AddrOK.mk {g : Gh} {p es l m : Nat} {a : Addr} (h : AddrOK g p a) : AddrOK g (if m = l then p else pAdd p (l * es)) (if m = l then a else a.add (l * es)) := by
  split
  · exact h
  · exact h.add _
section
variable {o : Oper} {cf : CallF} {dr : Option Nat} {r0 q v : Nat} {a : List Bnd} {H : Hp} {kk : K}
theorem slArr_ok {E : Nat → TI} (hE : ∀ t, TIok P t (E t)) {t : TypeId} {x : Operand} {lo hi mx : Option Operand} (hk : (E t).k = 2) (hk' : (E (E t).el).k ≠ 0) (ho : o.op = .slice t x lo hi mx)
    (hwf : mx ≠ none → hi ≠ none)
    (hr : (slArr (E t).ln (E (E t).el).sz (cOv x) (lo.map cOv) (hi.map cOv) (mx.map cOv) (cPt o.dst)).run cf r0 q v a H kk = true) :
    OpOK P (slArr (E t).ln (E (E t).el).sz (cOv x) (lo.map cOv) (hi.map cOv) (mx.map cOv) (cPt o.dst)) cf dr r0 q v a H o := by
  have e : ∀ k', (slArr (E t).ln (E (E t).el).sz (cOv x) (lo.map cOv) (hi.map cOv) (mx.map cOv) (cPt o.dst)).run cf r0 q v a H k' = (cOv x).get v a fun c => bB (Nat.beq (tag c) 11)
    (bnd (mx.map cOv) (E t).ln v a fun m => bnd (hi.map cOv) (match mx.map cOv with | none => (E t).ln | some _ => m) v a fun h => bnd (lo.map cOv) 0 v a fun l =>
      bB (Nat.ble m (E t).ln) (bB (Nat.ble h m) (bB (Nat.ble l h) (mkSl (pay c) (E (E t).el).sz l h m fun r => (cPt o.dst).ps r q v a H k') false) false) false) false := fun _ => rfl
  rw [e] at hr
  obtain ⟨cc, xc, ec, hr, sc, _⟩ := get_inv hr
  obtain ⟨h1, hr⟩ := bB_and.1 hr
  obtain ⟨m, em, hr, dm, sm⟩ := bnd_inv hr
  obtain ⟨h, eh, hr, dh, sh⟩ := bnd_inv hr
  obtain ⟨l, el, hr, dl, sl⟩ := bnd_inv hr
  obtain ⟨h2, hr⟩ := bB_and.1 hr
  obtain ⟨h3, hr⟩ := bB_and.1 hr
  obtain ⟨h4, hr⟩ := bB_and.1 hr
  obtain ⟨m1, m2, m3, m4, m5⟩ := mkSl_inv hr
  have g2 := ble_t h2
  have g3 := ble_t h3
  have g4 := ble_t h4
  have hoc : openCap = 8388608 := rfl
  refine pureS (fun k' => by rw [e, ec, h1, bB_t, em, eh, el, h2, bB_t, h3, bB_t, h4, bB_t, m2]) (fun g w act hO hH => ?_) (cSl_ne _ _ _) (cSl_lt m4 m5 (by omega))
  rw [ops_slice ho] at hO
  obtain ⟨b, hb, hc⟩ := relA_ptr (sc g act (hO.sub (by simp))) (beq_t h1)
  have hu := (hE t).kind.2.1 hk
  obtain ⟨ie, j1, j2, _⟩ := (hE (E t).el).info hk'
  have hz : (sizeOf (E t).el).run P w = .ok (E (E t).el).sz w := by simp [sizeOf, typeInfo, j1, j2]
  have hbs := run_bounds (P := P) false (E t).ln (E t).ln l h m (lo.map act.eval) (hi.map act.eval) (mx.map act.eval)
    ⟨fun hn => dm (by cases mx <;> simp_all), fun y hy => by
      cases hmx : mx with
      | none => rw [hmx] at hy; cases hy
      | some z => rw [hmx] at hy; cases hy; exact sm z hmx g act (hO.sub (by rw [hmx]; simp))⟩
    ⟨fun hn => by
      have hin : hi = none := by cases hi <;> simp_all
      have hmn : mx = none := by cases hmx : mx with
        | none => rfl
        | some z => exact absurd hin (hwf (by rw [hmx]; simp))
      exact ⟨by rw [hmn]; rfl, by have := dh hin; rw [hmn] at this; exact this⟩, fun y hy => by
      cases hhi : hi with
      | none => rw [hhi] at hy; cases hy
      | some z => rw [hhi] at hy; cases hy; exact sh z hhi g act (hO.sub (by rw [hhi]; simp))⟩
    ⟨fun hn => dl (by cases lo <;> simp_all), fun y hy => by
      cases hlo : lo with
      | none => rw [hlo] at hy; cases hy
      | some z => rw [hlo] at hy; cases hy; exact sl z hlo g act (hO.sub (by rw [hlo]; simp))⟩ g2 g3 g4 w
  refine ⟨.slice (some (if m = l then b else b.add (l * (E (E t).el).sz))) (h - l) (m - l), ?_, (hc.addr.mk).slice m4 m5 (by omega) (by omega)⟩
  simp [execOp, ho, hb, Instr.sliceAt, run_underlying hu, Instr.sureAddr, hbs, hz]
theorem s2a_ok {E : Nat → TI} (hE : ∀ t, TIok P t (E t)) {t : TypeId} {x : Operand} (hk : (E t).k = 2) (ho : o.op = .sliceToArrayPointer t x)
    (hr : (cS2A (E t).ln (cOv x) (cPt o.dst)).run cf r0 q v a H kk = true) : OpOK P (cS2A (E t).ln (cOv x) (cPt o.dst)) cf dr r0 q v a H o := by
  have hops : o.op.operands.toList = [x] := by rw [ho]; rfl
  have e : ∀ k', (cS2A (E t).ln (cOv x) (cPt o.dst)).run cf r0 q v a H k' = (cOv x).get v a fun c => bB (Nat.beq (tag c) 13) (bB (Nat.ble (E t).ln (sLen c)) (toPtr (sAddr c) fun r => (cPt o.dst).ps r q v a H k') false) false := fun _ => rfl
  rw [e] at hr
  obtain ⟨cc, xc, ec, hr, sc, bc⟩ := get_inv hr
  obtain ⟨h1, h2⟩ := bB_and.1 hr
  obtain ⟨h3, h4⟩ := bB_and.1 h2
  obtain ⟨h5, h6, h7⟩ := toPtr_inv h4
  refine pureS (fun k' => by rw [e, ec, h1, bB_t, h3, bB_t, h5]) (fun g w act hO hH => ?_) (cPtr_ne _) h7
  rw [hops] at hO
  obtain ⟨b, ln, cp, hb, hc⟩ := relA_sl (sc g act hO) (beq_t h1)
  obtain ⟨ha, hl, _⟩ := hc.slAddr
  have hu := (hE t).kind.2.1 hk
  have hlt : ¬ ln < (E t).ln := by have := ble_t h3; omega
  exact ⟨.pointer (some b), by simp [execOp, ho, hb, Instr.arrayAt, run_underlying hu, hlt], ha.ptr h7⟩
theorem conv_ok {E : Nat → TI} (hE : ∀ t, TIok P t (E t)) {s t : TypeId} {x : Operand} (hs : (E s).k = 5) (ht : (E t).k = 5) (ho : o.op = .convert s t x)
    (hr : (cConv (E t).ik (cOv x) (cPt o.dst)).run cf r0 q v a H kk = true) : OpOK P (cConv (E t).ik (cOv x) (cPt o.dst)) cf dr r0 q v a H o := by
  have hops : o.op.operands.toList = [x] := by rw [ho]; rfl
  obtain ⟨ks, us, _⟩ := (hE s).kind.2.2.2.2.1 hs
  obtain ⟨kt, ut, it⟩ := (hE t).kind.2.2.2.2.1 ht
  rw [it] at hr ⊢
  have hk := kTag_pos kt
  have e : ∀ k', (cConv (kTag kt) (cOv x) (cPt o.dst)).run cf r0 q v a H k' = (cOv x).get v a fun c => bB (Nat.ble 1 (tag c)) (bB (Nat.ble (tag c) 8) ((cPt o.dst).ps (enc (kTag kt) (tfrom (kTag kt) (tmod (tag c) (pay c)))) q v a H k') false) false := fun _ => rfl
  rw [e] at hr
  obtain ⟨cc, xc, ec, hr, sc, bc⟩ := get_inv hr
  obtain ⟨h1, h2⟩ := bB_and.1 hr
  obtain ⟨h3, h4⟩ := bB_and.1 h2
  obtain ⟨d1, d2⟩ := enc_bd (t := kTag kt) (p := tfrom (kTag kt) (tmod (tag cc) (pay cc))) (by omega) (by omega) (Nat.lt_of_lt_of_le (tfrom_bd hk.1 hk.2 _) (by decide))
  refine pureS (fun k' => by rw [e, ec, h1, bB_t, h3, bB_t]) (fun g w act hO hH => ?_) d1 d2
  rw [hops] at hO
  obtain ⟨k1, hk1⟩ := kTag_of (ble_t h1) (ble_t h3)
  obtain ⟨n, hn, in1⟩ := relA_int (sc g act hO) hk1.symm
  refine ⟨.int kt (kt.wrap n), by simp [execOp, ho, hn, convert, run_underlying us, run_underlying ut, Conv.intToInt], ?_⟩
  rw [← hk1]
  exact conv_spec in1
theorem len_ok {E : Nat → TI} (hE : ∀ t, TIok P t (E t)) {xs : Array Operand} {ts : Array TypeId} {x : Operand} {t : TypeId} (hx : xs.toList = [x]) (ht : ts.toList = [t]) (ho : o.op = .call ⟨.builtin .len, xs, ts⟩)
    (hr : (cLen (E t) (cOv x) (cPt o.dst)).run cf r0 q v a H kk = true) : OpOK P (cLen (E t) (cOv x) (cPt o.dst)) cf dr r0 q v a H o := by
  have exs : xs = #[x] := by apply Array.ext'; simpa using hx
  have ets : ts = #[t] := by apply Array.ext'; simpa using ht
  subst exs ets
  have hops : o.op.operands.toList = [x] := by rw [ho]; rfl
  have hrun : ∀ (act : Act) (w : World) (r : Value), (Builtin.len_ #[t] o.type #[act.eval x]).run P w = .ok r w → (execOp act.eval o).run P w = .ok (.value r) w := fun act w r h => by
    simp [execOp, ho, resolve, invoke, builtin, h]
  have i64 : ∀ n : Nat, n < 9223372036854775808 → isI (enc 8 (b63 + n)) .i64 (n : Int) := fun n hn => by
    refine isI_mk (k := .i64) ((inK_iff .i64 n).2 ⟨by omega, by omega⟩) ?_
    rw [b63_eq]; show ((9223372036854775808 + n : Nat) : Int) = (n : Int) + 9223372036854775808
    omega
  unfold cLen at hr ⊢
  cases hk : Nat.beq (E t).k 3 with
  | true =>
    rw [hk, bB_t] at hr
    rw [bB_t]
    have hu := (hE t).kind.2.2.1 (beq_t hk)
    have e : ∀ k', (Cl.mk fun _ _ q v a H k => (cOv x).get v a fun c => bB (Nat.beq c 12) ((cPt o.dst).ps 147573952589676412936 q v a H k)
      (bB (Nat.beq (tag c) 13) (fN (enc 8 (Nat.add b63 (sLen c))) fun r => (cPt o.dst).ps r q v a H k) false)).run cf r0 q v a H k' = (cOv x).get v a fun c => bB (Nat.beq c 12) ((cPt o.dst).ps 147573952589676412936 q v a H k')
      (bB (Nat.beq (tag c) 13) ((cPt o.dst).ps (enc 8 (b63 + sLen c)) q v a H k') false) := fun _ => rfl
    rw [e] at hr
    obtain ⟨cc, xc, ec, hr, sc, bc⟩ := get_inv hr
    rcases bB_or.1 hr with ⟨h1, h2⟩ | ⟨h1, h2⟩
    · refine pureS (fun k' => by rw [e, ec, h1, bB_t]) (fun g w act hO hH => ?_) (by decide) (by decide)
      rw [hops] at hO
      have hb := relA_nils (sc g act hO) (beq_t h1)
      exact ⟨.int .i64 0, hrun act w _ (by simp [Builtin.len_, run_underlying hu, hb, goInt]), i64 0 (by decide)⟩
    · obtain ⟨h3, h4⟩ := bB_and.1 h2
      have hl24 : sLen cc < 16777216 := Nat.mod_lt _ (by decide)
      have hb63 := b63_eq
      obtain ⟨d1, d2⟩ := enc_bd (t := 8) (p := b63 + sLen cc) (by omega) (by omega) (by omega)
      refine pureS (fun k' => by rw [e, ec, h1, bB_f, h3, bB_t]) (fun g w act hO hH => ?_) d1 d2
      rw [hops] at hO
      obtain ⟨b, ln, cp, hb, hc⟩ := relA_sl (sc g act hO) (beq_t h3)
      obtain ⟨ha, hl, _⟩ := hc.slAddr
      refine ⟨.int .i64 (ln : Int), hrun act w _ (by simp [Builtin.len_, run_underlying hu, hb, goInt]), ?_⟩
      rw [hl]
      exact i64 ln (by omega)
  | false =>
    rw [hk, bB_f] at hr
    rw [bB_f]
    cases hk2 : Nat.beq (E t).k 2 with
    | false => rw [hk2, bB_f] at hr; cases hr
    | true =>
      rw [hk2, bB_t] at hr
      rw [bB_t]
      cases hk3 : Nat.ble (E t).ln 16777215 with
      | false => rw [hk3, bB_f] at hr; cases hr
      | true =>
        rw [bB_t, fN_eq]
        have hl := ble_t hk3
        have hb63 := b63_eq
        have hu := (hE t).kind.2.1 (beq_t hk2)
        obtain ⟨d1, d2⟩ := enc_bd (t := 8) (p := b63 + (E t).ln) (by omega) (by omega) (by omega)
        refine pureS (c := enc 8 (b63 + (E t).ln)) (fun k' => rfl) (fun g w act hO hH => ?_) d1 d2
        exact ⟨.int .i64 ((E t).ln : Int), hrun act w _ (by simp [Builtin.len_, run_underlying hu, goInt]), i64 _ (by omega)⟩
end
end Go.Proofs.YgvajwGreat.Ev
