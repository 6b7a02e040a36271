import Derived.Test.YgvajwGreatOps26
namespace Go.Proofs.YgvajwGreat.Ev
/-- hands the heap on -/
def NoW (cl : Cl) : Prop := ∀ cf r0 q v a H (k : K), cl.run cf r0 q v a H k = cl.run cf r0 q v a H (fun q v a _ => k q v a H)
/-- does not look at the heap -/
def NoH (cl : Cl) : Prop := ∀ cf r0 q v a H (k : K), cl.run cf r0 q v a H k = cl.run cf r0 q v a hp0 (fun q v a _ => k q v a H)
theorem NoH.noW {cl : Cl} (h : NoH cl) : NoW cl := fun cf r0 q v a H k => by rw [h cf r0 q v a H k, h cf r0 q v a H]
theorem NoH.no : NoH clNo := fun _ _ _ _ _ _ _ => rfl
theorem NoH.z {n : Nat} {c d : Cl} (hc : NoH c) (hd : NoH d) : NoH (z0 n c d) := by cases n <;> assumption
theorem NoH.b {b : Bool} {c d : Cl} (hc : NoH c) (hd : NoH d) : NoH (bB b c d) := by cases b <;> assumption
theorem NoH.f {n : Nat} {c : Nat → Cl} (hc : NoH (c n)) : NoH (fN n c) := by rw [fN_eq]; exact hc
theorem noH_move (x : Operand) (d : Option Nat) : NoH (cMove x (cPt d)) := by
  cases x with
  | tmp t =>
    refine NoH.f (NoH.f ?_)
    cases d <;> exact fun _ _ _ _ _ _ _ => rfl
  | const u =>
    refine NoH.f (NoH.z .no ?_)
    cases d <;> exact fun _ _ _ _ _ _ _ => rfl
  | global g => exact .no
  | func f => exact .no
theorem noH_pick {c : Ov} {x y : Cl} (hx : NoH x) (hy : NoH y) : NoH (cPick c x y) := fun cf r0 q v a H k => by
  show (c.get v a fun c => bB (Nat.beq c 25) (x.run cf r0 q v a H k) (bB (Nat.beq c 9) (y.run cf r0 q v a H k) false)) = (c.get v a fun c => bB (Nat.beq c 25) (x.run cf r0 q v a hp0 _) (bB (Nat.beq c 9) (y.run cf r0 q v a hp0 _) false))
  rw [hx cf r0 q v a H k, hy cf r0 q v a H k]
theorem noH_bin2 (t : Nat) (h : Nat → Nat → Nat) (x y : Ov) (d : Option Nat) : NoH (bin2 t h x y (cPt d)) := by cases d <;> exact fun _ _ _ _ _ _ _ => rfl
theorem noH_divR (t : Nat) (b : Bool) (x y : Ov) (d : Option Nat) : NoH (divR t b x y (cPt d)) := by cases d <;> exact fun _ _ _ _ _ _ _ => rfl
theorem noH_shft (t : Nat) (b : Bool) (x y : Ov) (d : Option Nat) : NoH (shft t b x y (cPt d)) := by cases d <;> exact fun _ _ _ _ _ _ _ => rfl
theorem noH_eqCl (b : Bool) (h : Nat → Nat → (Bool → Bool) → Bool) (x y : Ov) (d : Option Nat) : NoH (eqCl b h x y (cPt d)) := by cases d <;> exact fun _ _ _ _ _ _ _ => rfl
theorem noH_not (x : Ov) (d : Option Nat) : NoH (cNot x (cPt d)) := by cases d <;> exact fun _ _ _ _ _ _ _ => rfl
theorem noH_nil (x : Ov) (d : Option Nat) : NoH (cNil x (cPt d)) := by cases d <;> exact fun _ _ _ _ _ _ _ => rfl
theorem noH_field (o : Nat × Nat) (x : Ov) (d : Option Nat) : NoH (cField o x (cPt d)) := by
  refine NoH.f (NoH.z .no ?_)
  cases d <;> exact fun _ _ _ _ _ _ _ => rfl
theorem noH_idxCl (l s : Nat) (x i : Ov) (d : Option Nat) : NoH (idxCl l s x i (cPt d)) := by cases d <;> exact fun _ _ _ _ _ _ _ => rfl
theorem noH_idxSl (s : Nat) (x i : Ov) (d : Option Nat) : NoH (idxSl s x i (cPt d)) := by cases d <;> exact fun _ _ _ _ _ _ _ => rfl
theorem noH_build (T : TI) (e : Nat) (ps : List (Nat × Operand)) (d : Option Nat) : NoH (cBuild T e ps (cPt d)) := by
  refine NoH.z .no (NoH.f ?_)
  cases places T e ps with
  | none => exact .no
  | some ps => cases d <;> exact fun _ _ _ _ _ _ _ => rfl
theorem noH_slArr (l s : Nat) (x : Ov) (lo hi mx : Option Ov) (d : Option Nat) : NoH (slArr l s x lo hi mx (cPt d)) := by cases d <;> exact fun _ _ _ _ _ _ _ => rfl
theorem noH_slSl (s : Nat) (x : Ov) (lo hi mx : Option Ov) (d : Option Nat) : NoH (slSl s x lo hi mx (cPt d)) := by cases d <;> cases mx <;> exact fun _ _ _ _ _ _ _ => rfl
theorem noH_s2a (n : Nat) (x : Ov) (d : Option Nat) : NoH (cS2A n x (cPt d)) := by cases d <;> exact fun _ _ _ _ _ _ _ => rfl
theorem noH_conv (n : Nat) (x : Ov) (d : Option Nat) : NoH (cConv n x (cPt d)) := by cases d <;> exact fun _ _ _ _ _ _ _ => rfl
theorem noH_extract (t i : Nat) (d : Option Nat) : NoH (cExtract t i (cPt d)) := by
  refine NoH.f (NoH.f ?_)
  cases d <;> exact fun _ _ _ _ _ _ _ => rfl
theorem noH_len (T : TI) (x : Ov) (d : Option Nat) : NoH (cLen T x (cPt d)) := by
  refine NoH.b ?_ (NoH.b (NoH.b (NoH.f ?_) .no) .no) <;> cases d <;> exact fun _ _ _ _ _ _ _ => rfl
theorem noH_strGeq' (x y : Ov) (d : Option Nat) : NoH (strGeq x y (cPt d)) := by cases d <;> exact fun _ _ _ _ _ _ _ => rfl
theorem noH_cBin (T TE : TI) (op : BinOp) (x y : Ov) (d : Option Nat) : NoH (cBin T TE op x y (cPt d)) := by
  refine NoH.f ?_
  have he : ∀ (h : Nat → Nat → Nat) (neg : Bool), NoH (bB (Nat.beq T.k 7) (bin2 9 h x y (cPt d)) (bB (Nat.beq T.k 4) (eqCl neg (eqP (bB (Nat.ble 1 TE.k) (Nat.ble 1 TE.sz) false)) x y (cPt d))
      (bB (Nat.beq T.k 3) (eqCl neg eqSl x y (cPt d)) (bB (Nat.ble 1 T.pat) (eqCl neg (eqA T.sz T.pat) x y (cPt d)) clNo)))) := fun h neg =>
    .b (noH_bin2 _ _ _ _ _) (.b (noH_eqCl _ _ _ _ _) (.b (noH_eqCl _ _ _ _ _) (.b (noH_eqCl _ _ _ _ _) .no)))
  cases op with
  | add => exact .z .no (noH_bin2 _ _ _ _ _)
  | sub => exact .z .no (noH_bin2 _ _ _ _ _)
  | mul => exact .z .no (noH_bin2 _ _ _ _ _)
  | quo => exact .z .no (noH_divR _ _ _ _ _)
  | rem => exact .z .no (noH_divR _ _ _ _ _)
  | and => exact .b (.z .no (noH_bin2 _ _ _ _ _)) .no
  | or => exact .b (.z .no (noH_bin2 _ _ _ _ _)) .no
  | xor => exact .b (.z .no (noH_bin2 _ _ _ _ _)) .no
  | shl => exact .z .no (noH_shft _ _ _ _ _)
  | shr => exact .z .no (noH_shft _ _ _ _ _)
  | andNot => exact .no
  | lss => exact .z .no (noH_bin2 _ _ _ _ _)
  | leq => exact .z .no (noH_bin2 _ _ _ _ _)
  | gtr => exact .z .no (noH_bin2 _ _ _ _ _)
  | geq => exact .z (.b (noH_strGeq' _ _ _) .no) (noH_bin2 _ _ _ _ _)
  | eql => exact .z (he _ _) (noH_bin2 _ _ _ _ _)
  | neq => exact .z (he _ _) (noH_bin2 _ _ _ _ _)
theorem noH_min (b : Bool) (x y : Ov) (d : Option Nat) : NoH (cMin b x y (cPt d)) := by cases d <;> exact fun _ _ _ _ _ _ _ => rfl
theorem noH_addsub (b : Bool) (x y c : Ov) (d : Option Nat) : NoH (cAddSub b x y c (cPt d)) := by
  unfold cAddSub
  cases d <;> cases b <;> exact fun _ _ _ _ _ _ _ => rfl
theorem noH_cOp {E : Env} {fn : Nat} {o : Oper} (h : kl E o.op = 0) : NoH (cOp E fn none o) := by
  obtain ⟨dst, op, type, pos, after, guard⟩ := o
  cases op with
  | move x => exact noH_move x dst
  | assign x => exact noH_move x dst
  | pick c x y => exact noH_pick (noH_move x dst) (noH_move y dst)
  | build t ps => exact .b (.z .no (noH_build _ _ _ dst)) .no
  | nilCheck x => exact noH_nil _ dst
  | unOp op t x =>
    cases op with
    | not => exact noH_not _ dst
    | _ => exact .no
  | sliceToArrayPointer t x => exact .b (noH_s2a _ _ dst) .no
  | slice t x lo hi mx => exact .b (.z .no (.b (noH_slArr _ _ _ _ _ _ dst) (.b (.z .no (noH_slSl _ _ _ _ _ dst)) .no))) .no
  | fieldAddr t x i =>
    show NoH (match bB (Nat.beq (E.ti t).k 1) (E.ti t).offs[i]? none with | some o => cField o (cOv x) (cPt dst) | none => clNo)
    cases bB (Nat.beq (E.ti t).k 1) (E.ti t).offs[i]? none with
    | none => exact .no
    | some o => exact noH_field _ _ dst
  | indexAddr t x i => exact .z .no (.b (noH_idxCl _ _ _ _ dst) (.b (noH_idxSl _ _ _ dst) .no))
  | extract x i =>
    cases x with
    | tmp t => exact noH_extract _ _ dst
    | _ => exact .no
  | binOp op t x y yt => exact noH_cBin _ _ _ _ _ dst
  | convert s t x =>
    have h : bB (Nat.beq (E.ti t).k 5) 0 1 = 0 := h
    have hb : Nat.beq (E.ti t).k 5 = true := by
      cases hb : Nat.beq (E.ti t).k 5 with
      | true => rfl
      | false => rw [hb] at h; exact absurd h (by decide)
    show NoH (bB (Nat.beq (E.ti t).k 5) (bB (Nat.beq (E.ti s).k 5) (cConv (E.ti t).ik (cOv x) (cPt dst)) clNo) _)
    rw [hb, bB_t]
    exact .b (noH_conv _ _ dst) .no
  | call c =>
    obtain ⟨callee, xs, ts⟩ := c
    cases callee with
    | builtin b =>
      cases b with
      | len =>
        show NoH (match xs.toList, ts.toList with | [x], [t] => cLen (E.ti t) (cOv x) (cPt dst) | _, _ => clNo)
        split
        · exact noH_len _ _ dst
        · exact .no
      | min =>
        show NoH (match xs.toList with | [x, y] => cMin true (cOv x) (cOv y) (cPt dst) | _ => clNo)
        split
        · exact noH_min _ _ _ dst
        · exact .no
      | max =>
        show NoH (match xs.toList with | [x, y] => cMin false (cOv x) (cOv y) (cPt dst) | _ => clNo)
        split
        · exact noH_min _ _ _ dst
        · exact .no
      | _ => exact absurd h (by show ¬ (2 = 0); decide)
    | value f =>
      cases f with
      | func f =>
        have h : bB (Nat.beq f E.add64) 0 (bB (Nat.beq f E.sub64) 0 2) = 0 := h
        show NoH (bB (Nat.beq f E.add64) (match xs.toList with | [x, y, c] => cAddSub false (cOv x) (cOv y) (cOv c) (cPt dst) | _ => clNo)
              (bB (Nat.beq f E.sub64) (match xs.toList with | [x, y, c] => cAddSub true (cOv x) (cOv y) (cOv c) (cPt dst) | _ => clNo) (fN f fun f => cCall f (xs.toList.map cOv) (cPt dst))))
        have three : ∀ sub, NoH (match xs.toList with | [x, y, c] => cAddSub sub (cOv x) (cOv y) (cOv c) (cPt dst) | _ => clNo) := fun sub => by
          split
          · exact noH_addsub _ _ _ _ dst
          · exact .no
        cases h1 : Nat.beq f E.add64 with
        | true => rw [bB_t]; exact three false
        | false =>
          rw [h1, bB_f] at h
          rw [bB_f]
          cases h2 : Nat.beq f E.sub64 with
          | true => rw [bB_t]; exact three true
          | false => rw [h2] at h; exact absurd h (by decide)
      | _ => exact .no
    | invoke r m => exact absurd h (by show ¬ (2 = 0); decide)
  | load t x => exact absurd h (by show ¬ (1 = 0); decide)
  | alloc t => exact absurd h (by show ¬ (3 = 0); decide)
  | box t x => exact absurd h (by show ¬ (3 = 0); decide)
  | buildSlice t n ps => exact absurd h (by show ¬ (3 = 0); decide)
  | makeSlice t l c => exact absurd h (by show ¬ (3 = 0); decide)
  | _ => exact absurd h (by show ¬ (2 = 0); decide)
theorem noW_cOp {E : Env} {fn : Nat} {o : Oper} (h : kl E o.op < 2) : NoW (cOp E fn none o) := by
  by_cases h0 : kl E o.op = 0
  · exact (noH_cOp h0).noW
  · obtain ⟨dst, op, type, pos, after, guard⟩ := o
    cases op with
    | load t x =>
      show NoW (z0 (E.ti t).k clNo (cLoad (isAggK (E.ti t).k) (E.ti t).sz (cOv x) (cPt dst)))
      cases (E.ti t).k with
      | zero => exact fun _ _ _ _ _ _ _ => rfl
      | succ n =>
        rw [z0_s]
        unfold cLoad
        cases isAggK (n + 1) <;> cases dst <;> exact fun _ _ _ _ _ _ _ => rfl
    | convert s t x =>
      show NoW (bB (Nat.beq (E.ti t).k 5) (bB (Nat.beq (E.ti s).k 5) (cConv (E.ti t).ik (cOv x) (cPt dst)) clNo)
        (bB (Nat.beq (E.ti t).k 6) (bB (Nat.beq (E.ti s).k 3) (bB (Nat.beq (E.ti (E.ti s).el).ik 1) (cStr (cOv x) (cPt dst)) clNo) clNo) clNo))
      have hs : NoW (cStr (cOv x) (cPt dst)) := by cases dst <;> exact fun _ _ _ _ _ _ _ => rfl
      cases Nat.beq (E.ti t).k 5 with
      | true => exact (NoH.b (noH_conv _ _ dst) .no).noW
      | false =>
        rw [bB_f]
        cases Nat.beq (E.ti t).k 6 <;> cases Nat.beq (E.ti s).k 3 <;> cases Nat.beq (E.ti (E.ti s).el).ik 1 <;> first | exact hs | exact NoH.no.noW
    | call c =>
      obtain ⟨callee, xs, ts⟩ := c
      cases callee with
      | builtin b =>
        cases b with
        | len => exact absurd rfl h0
        | min => exact absurd rfl h0
        | max => exact absurd rfl h0
        | _ => exact absurd h (by show ¬ (2 < 2); decide)
      | value f =>
        cases f with
        | func f =>
          have h : bB (Nat.beq f E.add64) 0 (bB (Nat.beq f E.sub64) 0 2) < 2 := h
          have h0 : bB (Nat.beq f E.add64) 0 (bB (Nat.beq f E.sub64) 0 2) ≠ 0 := h0
          cases h1 : Nat.beq f E.add64 <;> cases h2 : Nat.beq f E.sub64 <;> rw [h1, h2] at h h0 <;> first | exact absurd rfl h0 | exact absurd h (by decide)
        | _ => exact absurd h (by show ¬ (2 < 2); decide)
      | invoke r m => exact absurd h (by show ¬ (2 < 2); decide)
    | alloc t => exact absurd h (by show ¬ (3 < 2); decide)
    | box t x => exact absurd h (by show ¬ (3 < 2); decide)
    | buildSlice t n ps => exact absurd h (by show ¬ (3 < 2); decide)
    | makeSlice t l c => exact absurd h (by show ¬ (3 < 2); decide)
    | _ => first | exact absurd rfl h0 | exact absurd h (by show ¬ (2 < 2); decide)
theorem cOp_dr {E : Env} {fn : Nat} {o : Oper} (h : kl E o.op ≠ 3) (i : Nat) : cOp E fn (some i) o = cOp E fn none o := by
  obtain ⟨dst, op, type, pos, after, guard⟩ := o
  cases op with
  | alloc t => exact absurd rfl h
  | box t x => exact absurd rfl h
  | buildSlice t n ps => exact absurd rfl h
  | makeSlice t l c => exact absurd rfl h
  | unOp op t x => cases op <;> rfl
  | extract x i => cases x <;> rfl
  | call c =>
    obtain ⟨callee, xs, ts⟩ := c
    cases callee with
    | builtin b => cases b <;> rfl
    | value f => cases f <;> rfl
    | invoke r m => rfl
  | _ => rfl
theorem cOper_dr {E : Env} {fn : Nat} {ops : Array Oper} {o : Oper} (h : kl E o.op ≠ 3) (i : Nat) : cOper E fn ops (some i) o = cOper E fn ops none o := by
  unfold cOper
  rw [cOp_dr h i]
theorem noH_cOper {E : Env} {fn : Nat} {ops : Array Oper} {o : Oper} (h : kl E o.op = 0) : NoH (cOper E fn ops none o) := by
  unfold cOper
  cases o.guard with
  | none => exact noH_cOp h
  | some jw =>
    obtain ⟨j, w⟩ := jw
    show NoH (match (ops[j]?).bind (·.dst) with | some g => cGuard (cPt o.dst) g (cB w) (cOp E fn none o) | none => clNo)
    cases (ops[j]?).bind (·.dst) with
    | none => exact .no
    | some g =>
      refine NoH.f (NoH.f fun cf r0 q v a H k => ?_)
      have e := noH_cOp (E := E) (fn := fn) h cf r0 q v a H k
      show (fN (gF (shOf g) v) fun x => bB (Nat.beq x (cB w)) ((cOp E fn none o).run cf r0 q v a H k) _) = (fN (gF (shOf g) v) fun x => bB (Nat.beq x (cB w)) ((cOp E fn none o).run cf r0 q v a hp0 (fun q v a _ => k q v a H)) _)
      rw [e]
      cases o.dst <;> rfl
theorem noW_cOper {E : Env} {fn : Nat} {ops : Array Oper} {o : Oper} (h : kl E o.op < 2) : NoW (cOper E fn ops none o) := by
  unfold cOper
  cases o.guard with
  | none => exact noW_cOp h
  | some jw =>
    obtain ⟨j, w⟩ := jw
    show NoW (match (ops[j]?).bind (·.dst) with | some g => cGuard (cPt o.dst) g (cB w) (cOp E fn none o) | none => clNo)
    cases (ops[j]?).bind (·.dst) with
    | none => exact fun _ _ _ _ _ _ _ => rfl
    | some g =>
      show NoW (cGuard (cPt o.dst) g (cB w) (cOp E fn none o))
      unfold cGuard
      rw [fN_eq, fN_eq]
      intro cf r0 q v a H k
      have e := noW_cOp (E := E) (fn := fn) h cf r0 q v a H k
      show (fN (gF (shOf g) v) fun x => bB (Nat.beq x (cB w)) ((cOp E fn none o).run cf r0 q v a H k) _) = (fN (gF (shOf g) v) fun x => bB (Nat.beq x (cB w)) ((cOp E fn none o).run cf r0 q v a H (fun q v a _ => k q v a H)) _)
      rw [← e]
      cases o.dst <;> rfl
end Go.Proofs.YgvajwGreat.Ev
