import Derived.Test.YgvajwGreatOps23
namespace Go.Proofs.YgvajwGreat.Ev
section
variable {P : Program} {cf : CallF} {dr : Option Nat} {r0 q v : Nat} {a : List Bnd} {H : Hp} {o : Oper} {kk : K}
theorem okZ {n : Nat} {c : Cl} (hr : (z0 n clNo c).run cf r0 q v a H kk = true) (h : n ≠ 0 → c.run cf r0 q v a H kk = true → OpOK P c cf dr r0 q v a H o) : OpOK P (z0 n clNo c) cf dr r0 q v a H o := by
  cases n with
  | zero => exact (Bool.false_ne_true hr).elim
  | succ n => exact h (by omega) hr
theorem okZ2 {n : Nat} {c d : Cl} (hr : (z0 n d c).run cf r0 q v a H kk = true) (h' : n = 0 → d.run cf r0 q v a H kk = true → OpOK P d cf dr r0 q v a H o)
    (h : n ≠ 0 → c.run cf r0 q v a H kk = true → OpOK P c cf dr r0 q v a H o) : OpOK P (z0 n d c) cf dr r0 q v a H o := by
  cases n with
  | zero => exact h' rfl hr
  | succ n => exact h (by omega) hr
theorem okB {b : Bool} {c : Cl} (hr : (bB b c clNo).run cf r0 q v a H kk = true) (h : b = true → c.run cf r0 q v a H kk = true → OpOK P c cf dr r0 q v a H o) : OpOK P (bB b c clNo) cf dr r0 q v a H o := by
  cases b with
  | false => exact (Bool.false_ne_true hr).elim
  | true => exact h rfl hr
theorem okB2 {b : Bool} {c d : Cl} (hr : (bB b c d).run cf r0 q v a H kk = true) (h : b = true → c.run cf r0 q v a H kk = true → OpOK P c cf dr r0 q v a H o)
    (h' : b = false → d.run cf r0 q v a H kk = true → OpOK P d cf dr r0 q v a H o) : OpOK P (bB b c d) cf dr r0 q v a H o := by
  cases b with
  | false => exact h' rfl hr
  | true => exact h rfl hr
theorem intOf {t : Nat} {T : TI} (hT : TIok P t T) (h : T.ik ≠ 0) : ∃ k, T.ik = kTag k := by
  obtain ⟨k, _, hk⟩ := hT.kind.2.2.2.2.1 (hT.ik h)
  exact ⟨k, hk⟩
theorem kTag_u {k : IntKind} (h : kTag k ≤ 4) : k.signed = false := by cases k <;> first | rfl | (exact absurd h (by decide))
variable {E : Nat → TI}
theorem cBin_ok (hE : ∀ t, TIok P t (E t)) {op : BinOp} {t yt : TypeId} {x y : Operand} (ho : o.op = .binOp op t x y yt)
    (hr : (cBin (E t) (E (E t).el) op (cOv x) (cOv y) (cPt o.dst)).run cf r0 q v a H kk = true) : OpOK P (cBin (E t) (E (E t).el) op (cOv x) (cOv y) (cPt o.dst)) cf dr r0 q v a H o := by
  unfold cBin at hr ⊢
  rw [fN_eq] at hr ⊢
  have hI : (E t).ik ≠ 0 → ∃ k, (E t).ik = kTag k := intOf (hE t)
  have eqs : ∀ (neg : Bool), o.op = .binOp (if neg then .neq else .eql) t x y yt →
      (bB (Nat.beq (E t).k 7) (bin2 9 (if neg then hNeq else hEql) (cOv x) (cOv y) (cPt o.dst)) (bB (Nat.beq (E t).k 4) (eqCl neg (eqP (bB (Nat.ble 1 (E (E t).el).k) (Nat.ble 1 (E (E t).el).sz) false)) (cOv x) (cOv y) (cPt o.dst))
        (bB (Nat.beq (E t).k 3) (eqCl neg eqSl (cOv x) (cOv y) (cPt o.dst)) (bB (Nat.ble 1 (E t).pat) (eqCl neg (eqA (E t).sz (E t).pat) (cOv x) (cOv y) (cPt o.dst)) clNo)))).run cf r0 q v a H kk = true →
      OpOK P (bB (Nat.beq (E t).k 7) (bin2 9 (if neg then hNeq else hEql) (cOv x) (cOv y) (cPt o.dst)) (bB (Nat.beq (E t).k 4) (eqCl neg (eqP (bB (Nat.ble 1 (E (E t).el).k) (Nat.ble 1 (E (E t).el).sz) false)) (cOv x) (cOv y) (cPt o.dst))
        (bB (Nat.beq (E t).k 3) (eqCl neg eqSl (cOv x) (cOv y) (cPt o.dst)) (bB (Nat.ble 1 (E t).pat) (eqCl neg (eqA (E t).sz (E t).pat) (cOv x) (cOv y) (cPt o.dst)) clNo)))) cf dr r0 q v a H o := fun neg ho hr => by
    refine okB2 hr (fun h hr => ?_) (fun _ hr => okB2 hr (fun h hr => ?_) (fun _ hr => okB2 hr (fun h hr => ?_) (fun _ hr => okB hr (fun h hr => ?_))))
    · exact binB_ok ((hE t).kind.2.2.2.2.2.2.1 (beq_t h)) ho hr
    · exact eqCl_ok (fun cx cy k => eqP_inv ((hE t).kind.2.2.2.1 (beq_t h)) (hE _) cx cy k) ho hr
    · exact eqCl_ok (fun cx cy k => eqSl_inv ((hE t).kind.2.2.1 (beq_t h)) cx cy k) ho hr
    · exact eqCl_ok (fun cx cy k => eqA_inv (hE t) (by have := ble_t h; omega) cx cy k) ho hr
  cases op with
  | add => exact okZ hr fun h hr => by obtain ⟨k, hk⟩ := hI h; rw [hk] at hr ⊢; exact add_ok ho hr
  | sub => exact okZ hr fun h hr => by obtain ⟨k, hk⟩ := hI h; rw [hk] at hr ⊢; exact sub_ok ho hr
  | mul => exact okZ hr fun h hr => by obtain ⟨k, hk⟩ := hI h; rw [hk] at hr ⊢; exact mul_ok ho hr
  | quo => exact okZ hr fun h hr => by obtain ⟨k, hk⟩ := hI h; rw [hk] at hr ⊢; exact div_ok true ho hr
  | rem => exact okZ hr fun h hr => by obtain ⟨k, hk⟩ := hI h; rw [hk] at hr ⊢; exact div_ok false ho hr
  | and => exact okB hr fun hb hr => okZ hr fun h hr => by obtain ⟨k, hk⟩ := hI h; rw [hk] at hr hb ⊢; exact and_ok (kTag_u (ble_t hb)) ho hr
  | or => exact okB hr fun hb hr => okZ hr fun h hr => by obtain ⟨k, hk⟩ := hI h; rw [hk] at hr hb ⊢; exact or_ok (kTag_u (ble_t hb)) ho hr
  | xor => exact okB hr fun hb hr => okZ hr fun h hr => by obtain ⟨k, hk⟩ := hI h; rw [hk] at hr hb ⊢; exact xor_ok (kTag_u (ble_t hb)) ho hr
  | shl => exact okZ hr fun h hr => by obtain ⟨k, hk⟩ := hI h; rw [hk] at hr ⊢; exact shft_ok true ho hr
  | shr => exact okZ hr fun h hr => by obtain ⟨k, hk⟩ := hI h; rw [hk] at hr ⊢; exact shft_ok false ho hr
  | lss => exact okZ hr fun h hr => by obtain ⟨k, hk⟩ := hI h; rw [hk] at hr ⊢; exact lss_ok ho hr
  | leq => exact okZ hr fun h hr => by obtain ⟨k, hk⟩ := hI h; rw [hk] at hr ⊢; exact leq_ok ho hr
  | gtr => exact okZ hr fun h hr => by obtain ⟨k, hk⟩ := hI h; rw [hk] at hr ⊢; exact gtr_ok ho hr
  | geq => exact okZ2 hr (fun _ hr => okB hr fun _ hr => strGeq_ok ho hr) fun h hr => by obtain ⟨k, hk⟩ := hI h; rw [hk] at hr ⊢; exact geq_ok ho hr
  | eql => exact okZ2 hr (fun _ hr => eqs false ho hr) fun h hr => by obtain ⟨k, hk⟩ := hI h; rw [hk] at hr ⊢; exact eql_ok ho hr
  | neq => exact okZ2 hr (fun _ hr => eqs true ho hr) fun h hr => by obtain ⟨k, hk⟩ := hI h; rw [hk] at hr ⊢; exact neq_ok ho hr
  | andNot => exact (Bool.false_ne_true hr).elim
end
end Go.Proofs.YgvajwGreat.Ev
