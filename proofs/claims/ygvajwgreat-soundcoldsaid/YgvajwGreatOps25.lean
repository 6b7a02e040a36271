import Derived.Test.YgvajwGreatOps24
namespace Go.Proofs.YgvajwGreat.Ev
section
variable {P : Program} {cf : CallF} {r0 q v : Nat} {a : List Bnd} {H : Hp} {kk : K}
theorem wfSl_t {hi mx : Option Operand} (h : wfSl hi mx = true) : mx ≠ none → hi ≠ none := by
  cases mx with
  | none => exact fun h => absurd rfl h
  | some m =>
    cases hi with
    | none => exact (Bool.false_ne_true h).elim
    | some x => intro _ h; cases h
theorem toList_two {α : Type} {xs : Array α} {x y : α} (h : xs.toList = [x, y]) : xs = #[x, y] := by cases xs; simp_all
theorem toList_one {α : Type} {xs : Array α} {x : α} (h : xs.toList = [x]) : xs = #[x] := by cases xs; simp_all
theorem cOp_ok {E : Env} {fn : Nat} {o : Oper} (hE : ∀ t, TIok P t (E.ti t)) (hX : ExtOK P E) (hcf : CallOK P cf) (hr : (cOp E fn none o).run cf r0 q v a H kk = true) : OpOK P (cOp E fn none o) cf none r0 q v a H o := by
  obtain ⟨dst, op, type, pos, after, guard⟩ := o
  cases op with
  | move x => exact move_ok (o := ⟨dst, .move x, type, pos, after, guard⟩) (.inl rfl) hr
  | assign x => exact move_ok (o := ⟨dst, .assign x, type, pos, after, guard⟩) (.inr rfl) hr
  | pick c x y => exact pick_ok (o := ⟨dst, .pick c x y, type, pos, after, guard⟩) rfl hr
  | alloc t => exact (alloc_ok (o := ⟨dst, .alloc t, type, pos, after, guard⟩) hE rfl hr).op
  | box t x => exact okZ hr fun _ hr => (box_ok (E := E.ti) (o := ⟨dst, .box t x, type, pos, after, guard⟩) rfl hr).op
  | build t ps => exact okB hr fun h1 hr => okZ hr fun h2 hr => build_ok (o := ⟨dst, .build t ps, type, pos, after, guard⟩) hE h1 (fun hk => by
      rw [nbeq hk, bB_f] at h2; exact h2) rfl hr
  | buildSlice t n ps => exact okZ hr fun _ hr => okB hr fun h hr => (buildSl_ok (o := ⟨dst, .buildSlice t n ps, type, pos, after, guard⟩) hE (beq_t h) rfl hr).op
  | load t x => exact okZ hr fun h hr => load_ok (o := ⟨dst, .load t x, type, pos, after, guard⟩) hE h rfl hr
  | store t x y => exact okZ hr fun h hr => store_ok (o := ⟨dst, .store t x y, type, pos, after, guard⟩) hE h rfl hr
  | nilCheck x => exact nil_ok (o := ⟨dst, .nilCheck x, type, pos, after, guard⟩) rfl hr
  | binOp op t x y yt => exact cBin_ok (o := ⟨dst, .binOp op t x y yt, type, pos, after, guard⟩) hE rfl hr
  | unOp op t x =>
    cases op with
    | not => exact not_ok (o := ⟨dst, .unOp .not t x, type, pos, after, guard⟩) rfl hr
    | _ => exact (Bool.false_ne_true hr).elim
  | convert s t x =>
    exact okB2 hr (fun h1 hr => okB hr fun h2 hr => conv_ok (o := ⟨dst, .convert s t x, type, pos, after, guard⟩) hE (beq_t h2) (beq_t h1) rfl hr)
      (fun _ hr => okB hr fun h1 hr => okB hr fun h2 hr => okB hr fun h3 hr => str_ok (o := ⟨dst, .convert s t x, type, pos, after, guard⟩) hE (beq_t h2) (beq_t h3) (beq_t h1) rfl hr)
  | sliceToArrayPointer t x => exact okB hr fun h hr => s2a_ok (o := ⟨dst, .sliceToArrayPointer t x, type, pos, after, guard⟩) hE (beq_t h) rfl hr
  | makeSlice t l c => exact okB hr fun h hr => (make_ok (o := ⟨dst, .makeSlice t l c, type, pos, after, guard⟩) hE (beq_t h) rfl hr).op
  | slice t x lo hi mx =>
    exact okB hr fun hw hr => okZ hr fun hk hr => okB2 hr
      (fun h hr => slArr_ok (o := ⟨dst, .slice t x lo hi mx, type, pos, after, guard⟩) hE (beq_t h) hk rfl (wfSl_t hw) hr)
      (fun _ hr => okB hr fun h hr => okZ hr fun hz hr => slSl_ok (o := ⟨dst, .slice t x lo hi mx, type, pos, after, guard⟩) hE (beq_t h) hk hz rfl (wfSl_t hw) hr)
  | fieldAddr t x i =>
    have e : cOp E fn none ⟨dst, .fieldAddr t x i, type, pos, after, guard⟩ = match bB (Nat.beq (E.ti t).k 1) (E.ti t).offs[i]? none with | some o => cField o (cOv x) (cPt dst) | none => clNo := rfl
    rw [e] at hr ⊢
    cases hb : Nat.beq (E.ti t).k 1 with
    | false => rw [hb] at hr; exact (Bool.false_ne_true hr).elim
    | true =>
      rw [hb, bB_t] at hr
      rw [bB_t]
      cases ho : (E.ti t).offs[i]? with
      | none => rw [ho] at hr; exact (Bool.false_ne_true hr).elim
      | some on =>
        rw [ho] at hr
        obtain ⟨off, sz⟩ := on
        exact field_ok (o := ⟨dst, .fieldAddr t x i, type, pos, after, guard⟩) hE (beq_t hb) ho rfl hr
  | indexAddr t x i =>
    exact okZ hr fun hk hr => okB2 hr
      (fun h hr => idxA_ok (o := ⟨dst, .indexAddr t x i, type, pos, after, guard⟩) hE (beq_t h) hk rfl hr)
      (fun _ hr => okB hr fun h hr => idxS_ok (o := ⟨dst, .indexAddr t x i, type, pos, after, guard⟩) hE (beq_t h) hk rfl hr)
  | extract x i =>
    cases x with
    | tmp t => exact extract_ok (o := ⟨dst, .extract (.tmp t) i, type, pos, after, guard⟩) rfl hr
    | _ => exact (Bool.false_ne_true hr).elim
  | call c =>
    obtain ⟨callee, xs, ts⟩ := c
    cases callee with
    | value f =>
      cases f with
      | func f =>
        have e : cOp E fn none ⟨dst, .call ⟨.value (.func f), xs, ts⟩, type, pos, after, guard⟩ =
            bB (Nat.beq f E.add64) (match xs.toList with | [x, y, c] => cAddSub false (cOv x) (cOv y) (cOv c) (cPt dst) | _ => clNo)
              (bB (Nat.beq f E.sub64) (match xs.toList with | [x, y, c] => cAddSub true (cOv x) (cOv y) (cOv c) (cPt dst) | _ => clNo) (fN f fun f => cCall f (xs.toList.map cOv) (cPt dst))) := rfl
        rw [e, fN_eq] at hr
        rw [e, fN_eq]
        have three : ∀ sub, f = (if sub then E.sub64 else E.add64) → (match xs.toList with | [x, y, c] => cAddSub sub (cOv x) (cOv y) (cOv c) (cPt dst) | _ => clNo).run cf r0 q v a H kk = true →
            OpOK P (match xs.toList with | [x, y, c] => cAddSub sub (cOv x) (cOv y) (cOv c) (cPt dst) | _ => clNo) cf none r0 q v a H ⟨dst, .call ⟨.value (.func f), xs, ts⟩, type, pos, after, guard⟩ := fun sub hf hr => by
          rcases hx : xs.toList with _ | ⟨x, _ | ⟨y, _ | ⟨z, _ | ⟨z', l⟩⟩⟩⟩ <;> rw [hx] at hr <;> first | exact (Bool.false_ne_true hr).elim | skip
          exact addsub_ok (o := ⟨dst, .call ⟨.value (.func f), xs, ts⟩, type, pos, after, guard⟩) hX hx hf rfl hr
        exact okB2 hr (fun h hr => three false (beq_t h) hr) (fun _ hr => okB2 hr (fun h hr => three true (beq_t h) hr)
          (fun _ hr => call_ok (o := ⟨dst, .call ⟨.value (.func f), xs, ts⟩, type, pos, after, guard⟩) hcf rfl hr))
      | _ => exact (Bool.false_ne_true hr).elim
    | invoke r m => exact (Bool.false_ne_true hr).elim
    | builtin b =>
      cases b with
      | len =>
        have e : cOp E fn none ⟨dst, .call ⟨.builtin .len, xs, ts⟩, type, pos, after, guard⟩ = match xs.toList, ts.toList with | [x], [t] => cLen (E.ti t) (cOv x) (cPt dst) | _, _ => clNo := rfl
        rw [e] at hr ⊢
        rcases hx : xs.toList with _ | ⟨x, _ | ⟨y, l⟩⟩ <;> rcases ht : ts.toList with _ | ⟨t, _ | ⟨u, m⟩⟩ <;> rw [hx, ht] at hr <;> first | exact (Bool.false_ne_true hr).elim | skip
        exact len_ok (o := ⟨dst, .call ⟨.builtin .len, xs, ts⟩, type, pos, after, guard⟩) hE hx ht rfl hr
      | append =>
        obtain ⟨loc, e⟩ : ∃ loc, cOp E fn none ⟨dst, .call ⟨.builtin .append, xs, ts⟩, type, pos, after, guard⟩ = match xs.toList, ts.toList with
          | [s, x], [t, u] => bB (Nat.beq (E.ti t).k 3) (z0 (E.ti u).k clNo (cApp loc (E.ti t).el (E.ti (E.ti t).el) (Nat.beq (E.ti u).k 5) (cOv s) (cOv x) (cPt dst))) clNo
          | _, _ => clNo := ⟨_, rfl⟩
        rw [e] at hr ⊢
        rcases hx : xs.toList with _ | ⟨x, _ | ⟨y, _ | ⟨z, l⟩⟩⟩ <;> rcases ht : ts.toList with _ | ⟨t, _ | ⟨u, _ | ⟨u', m⟩⟩⟩ <;> rw [hx, ht] at hr <;> first | exact (Bool.false_ne_true hr).elim | skip
        obtain rfl := toList_two hx
        obtain rfl := toList_two ht
        exact okB hr fun h hr => okZ hr fun hk hr => append_ok (o := ⟨dst, .call ⟨.builtin .append, #[x, y], #[t, u]⟩, type, pos, after, guard⟩) hE (beq_t h) hk rfl hr
      | min =>
        have e : cOp E fn none ⟨dst, .call ⟨.builtin .min, xs, ts⟩, type, pos, after, guard⟩ = match xs.toList with | [x, y] => cMin true (cOv x) (cOv y) (cPt dst) | _ => clNo := rfl
        rw [e] at hr ⊢
        rcases hx : xs.toList with _ | ⟨x, _ | ⟨y, _ | ⟨z, l⟩⟩⟩ <;> rw [hx] at hr <;> first | exact (Bool.false_ne_true hr).elim | skip
        exact min_ok (mn := true) (o := ⟨dst, .call ⟨.builtin .min, xs, ts⟩, type, pos, after, guard⟩) hx rfl hr
      | max =>
        have e : cOp E fn none ⟨dst, .call ⟨.builtin .max, xs, ts⟩, type, pos, after, guard⟩ = match xs.toList with | [x, y] => cMin false (cOv x) (cOv y) (cPt dst) | _ => clNo := rfl
        rw [e] at hr ⊢
        rcases hx : xs.toList with _ | ⟨x, _ | ⟨y, _ | ⟨z, l⟩⟩⟩ <;> rw [hx] at hr <;> first | exact (Bool.false_ne_true hr).elim | skip
        exact min_ok (mn := false) (o := ⟨dst, .call ⟨.builtin .max, xs, ts⟩, type, pos, after, guard⟩) hx rfl hr
      | copy =>
        have e : cOp E fn none ⟨dst, .call ⟨.builtin .copy, xs, ts⟩, type, pos, after, guard⟩ = match xs.toList, ts.toList with
          | [d, s], t :: _ => bB (Nat.beq (E.ti t).k 3) (z0 (E.ti (E.ti t).el).k clNo <| z0 (E.ti (E.ti t).el).sz clNo (cCopy (E.ti (E.ti t).el).sz (cOv d) (cOv s) (cPt dst))) clNo
          | _, _ => clNo := rfl
        rw [e] at hr ⊢
        rcases hx : xs.toList with _ | ⟨x, _ | ⟨y, _ | ⟨z, l⟩⟩⟩ <;> rcases ht : ts.toList with _ | ⟨t, m⟩ <;> rw [hx, ht] at hr <;> first | exact (Bool.false_ne_true hr).elim | skip
        obtain rfl := toList_two hx
        have ht0 : ts[0]? = some t := by rw [← Array.getElem?_toList, ht]; rfl
        exact okB hr fun h hr => okZ hr fun hk hr => okZ hr fun _ hr => copy_ok (o := ⟨dst, .call ⟨.builtin .copy, #[x, y], ts⟩, type, pos, after, guard⟩) hE ht0 (beq_t h) hk rfl hr
      | clear =>
        have e : cOp E fn none ⟨dst, .call ⟨.builtin .clear, xs, ts⟩, type, pos, after, guard⟩ = match xs.toList, ts.toList with
          | [s], [t] => bB (Nat.beq (E.ti t).k 3) (cClear (E.ti (E.ti t).el) (cOv s) (cPt dst)) clNo
          | _, _ => clNo := rfl
        rw [e] at hr ⊢
        rcases hx : xs.toList with _ | ⟨x, _ | ⟨y, l⟩⟩ <;> rcases ht : ts.toList with _ | ⟨t, _ | ⟨u, m⟩⟩ <;> rw [hx, ht] at hr <;> first | exact (Bool.false_ne_true hr).elim | skip
        obtain rfl := toList_one hx
        obtain rfl := toList_one ht
        exact okB hr fun h hr => clear_ok (o := ⟨dst, .call ⟨.builtin .clear, #[x], #[t]⟩, type, pos, after, guard⟩) hE (beq_t h) rfl hr
      | _ => exact (Bool.false_ne_true hr).elim
  | _ => exact (Bool.false_ne_true hr).elim
end
end Go.Proofs.YgvajwGreat.Ev
