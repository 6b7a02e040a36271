import Derived.Test.YgvajwGreatAp3
import Derived.Laws.BytesString
import Derived.Laws.Strings
namespace Go.Proofs.YgvajwGreat.Ev
variable {P : Program}
/-! strings -/
theorem beBytes_acc : ∀ (l : List UInt8) (acc : Nat), beBytes l acc = acc * 256 ^ l.length + beBytes l 0
  | [], acc => by show acc = acc * 256 ^ 0 + 0; omega
  | b :: l, acc => by
    show beBytes l (acc * 256 + b.toNat) = acc * 256 ^ (l.length + 1) + beBytes l (0 * 256 + b.toNat)
    rw [beBytes_acc l (acc * 256 + b.toNat), beBytes_acc l (0 * 256 + b.toNat), Nat.add_mul, Nat.pow_succ, Nat.zero_mul, Nat.zero_add, Nat.mul_assoc, Nat.mul_comm 256, Nat.add_assoc]
theorem beBytes_lt : ∀ l : List UInt8, beBytes l 0 < 256 ^ l.length
  | [] => by show 0 < 256 ^ 0; decide
  | b :: l => by
    show beBytes l (0 * 256 + b.toNat) < 256 ^ (l.length + 1)
    rw [beBytes_acc, Nat.zero_mul, Nat.zero_add, Nat.pow_succ]
    have h1 := beBytes_lt l
    have h2 : b.toNat + 1 ≤ 256 := b.toNat_lt
    have h3 : (b.toNat + 1) * 256 ^ l.length ≤ 256 * 256 ^ l.length := Nat.mul_le_mul_right _ h2
    rw [Nat.add_mul, Nat.one_mul] at h3
    rw [Nat.mul_comm (256 ^ l.length) 256]
    omega
theorem less_be : ∀ (xs ys : List UInt8), xs.length = ys.length → Op.bytesLess xs ys = decide (beBytes xs 0 < beBytes ys 0)
  | [], [], _ => rfl
  | [], _ :: _, h => by simp at h
  | _ :: _, [], h => by simp at h
  | a :: x, b :: y, h => by
    have hl : x.length = y.length := by simpa using h
    show (decide (a < b) || (a == b && Op.bytesLess x y)) = decide (beBytes x (0 * 256 + a.toNat) < beBytes y (0 * 256 + b.toNat))
    rw [beBytes_acc x, beBytes_acc y, less_be x y hl, Nat.zero_mul, Nat.zero_add, Nat.zero_add, hl]
    have hx := beBytes_lt x
    have hy := beBytes_lt y
    rw [hl] at hx
    generalize 256 ^ y.length = M at *
    rcases Nat.lt_trichotomy a.toNat b.toNat with h1 | h1 | h1
    · have e1 : decide (a < b) = true := decide_eq_true (UInt8.lt_iff_toNat_lt.2 h1)
      have h3 : (a.toNat + 1) * M ≤ b.toNat * M := Nat.mul_le_mul_right _ h1
      rw [Nat.add_mul, Nat.one_mul] at h3
      rw [e1, Bool.true_or]
      exact (decide_eq_true (by omega)).symm
    · have hab : a = b := UInt8.toNat_inj.1 h1
      subst hab
      have e1 : decide (a < a) = false := decide_eq_false (by simp)
      rw [e1, Bool.false_or, show (a == a) = true by simp, Bool.true_and]
      by_cases h2 : beBytes x 0 < beBytes y 0
      · rw [decide_eq_true h2, decide_eq_true (by omega)]
      · rw [decide_eq_false h2, decide_eq_false (by omega)]
    · have e1 : decide (a < b) = false := decide_eq_false (by rw [UInt8.lt_iff_toNat_lt]; omega)
      have e2 : (a == b) = false := by
        rw [beq_eq_false_iff_ne]
        intro e; subst e; omega
      have h3 : (b.toNat + 1) * M ≤ a.toNat * M := Nat.mul_le_mul_right _ h1
      rw [Nat.add_mul, Nat.one_mul] at h3
      rw [e1, e2, Bool.false_or, Bool.false_and]
      exact (decide_eq_false (by omega)).symm
theorem RelC.strOf {g : Gh} {c : Nat} {v : Value} (hc : RelC g c v) (h : tag c = 14) : ∃ b, v = .string b := by
  rcases hc.tag_cases with ⟨k, n, _, h', _⟩ | ⟨b, _, _, h'⟩ | ⟨_, h'⟩ | ⟨a, _, h'⟩ | ⟨_, h'⟩ | ⟨a, n, m, _, h'⟩ | ⟨b, h', _⟩
  · have := kTag_pos k; omega
  · omega
  · subst h'; exact absurd h (by decide)
  · omega
  · subst h'; exact absurd h (by decide)
  · omega
  · exact ⟨b, h'⟩
section
variable {o : Oper} {cf : CallF} {dr : Option Nat} {r0 q v : Nat} {a : List Bnd} {H : Hp} {kk : K}
theorem strGeq_ok {t yt : TypeId} {x y : Operand} (ho : o.op = .binOp .geq t x y yt) (hr : (strGeq (cOv x) (cOv y) (cPt o.dst)).run cf r0 q v a H kk = true) :
    OpOK P (strGeq (cOv x) (cOv y) (cPt o.dst)) cf dr r0 q v a H o := by
  have e : ∀ k', (strGeq (cOv x) (cOv y) (cPt o.dst)).run cf r0 q v a H k' = (cOv x).get v a fun cx => (cOv y).get v a fun cy => z0 (okTags 14 cx cy)
      (bB (Nat.beq (Nat.mod (pay cx) 4294967296) (Nat.mod (pay cy) 4294967296)) ((cPt o.dst).ps (hGeq cx cy) q v a H k') false) false := fun k' => by
    show ((cOv x).get v a fun cx => (cOv y).get v a fun cy => z0 (okTags 14 cx cy) (bB (Nat.beq (Nat.mod (pay cx) 4294967296) (Nat.mod (pay cy) 4294967296)) (fN (hGeq cx cy) fun r => (cPt o.dst).ps r q v a H k') false) false) = _
    simp only [fN_eq]
  rw [e] at hr
  obtain ⟨cx, xx, ex, hr, sx, _⟩ := get_inv hr
  obtain ⟨cy, xy, ey, hr, sy, _⟩ := get_inv hr
  obtain ⟨h0, hr⟩ := z0_and.1 hr
  obtain ⟨h1, hr⟩ := bB_and.1 hr
  obtain ⟨t1, t2⟩ := okTags_inv (by omega) h0
  refine pureS (c := hGeq cx cy) (fun k' => by rw [e, ex, ey, h0, z0_0, h1, bB_t]) (fun g w act hO hH => ?_) ?_ ?_
  · rw [ops_bin ho] at hO
    have rx := relA_sc (sx g act hO.left) (by omega) (by omega)
    have ry := relA_sc (sy g act hO.right) (by omega) (by omega)
    obtain ⟨bx, hbx⟩ := rx.strOf t1
    obtain ⟨bY, hby⟩ := ry.strOf t2
    rw [hbx] at rx
    rw [hby] at ry
    obtain ⟨ecx, lx⟩ := rx
    obtain ⟨ecy, ly⟩ := ry
    have hm : pay cx % 4294967296 = pay cy % 4294967296 := beq_t h1
    have px : pay cx = bx.size + 4294967296 * beBytes bx.data.toList 0 := by rw [ecx, pay_eq, enc_eq]; omega
    have py : pay cy = bY.size + 4294967296 * beBytes bY.data.toList 0 := by rw [ecy, pay_eq, enc_eq]; omega
    have hsz : bx.size = bY.size := by rw [px, py] at hm; omega
    have hl : bx.data.toList.length = bY.data.toList.length := by rw [Array.length_toList, Array.length_toList]; exact hsz
    have hless := less_be bx.data.toList bY.data.toList hl
    refine ⟨.bool (!(Op.bytesLess bx.toList bY.toList)), ?_, ?_⟩
    · have hg : (eqGuard .geq t x y (.string bx) (.string bY)).run P w = .ok () w := by simp [eqGuard]
      simp [execOp, ho, hbx, hby, hg, binOp, Op.stringOp]
    · show hGeq cx cy = cB _
      rw [ByteArray.toList_eq, ByteArray.toList_eq, hless]
      show cB (Nat.ble cy cx) = _
      rw [ble_dec, ecx, ecy, enc_eq, enc_eq, hsz]
      congr 1
      by_cases h : beBytes bx.data.toList 0 < beBytes bY.data.toList 0
      · rw [decide_eq_true h, decide_eq_false (by omega)]; rfl
      · rw [decide_eq_false h, decide_eq_true (by omega)]; rfl
  · show cB _ ≠ 0
    cases Nat.ble cy cx <;> decide
  · show cB _ < 2 ^ 128
    cases Nat.ble cy cx <;> decide
end
end Go.Proofs.YgvajwGreat.Ev
