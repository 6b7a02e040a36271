import Derived.Test.YgvajwGreatEv
namespace Go.Proofs.YgvajwGreat.Ev

theorem fN_eq {β : Type} (n : Nat) (k : Nat → β) : fN n k = k n := by
  cases n with
  | zero => rfl
  | succ n => rfl
theorem bB_eq {β : Type} (b : Bool) (x y : β) : bB b x y = if b then x else y := by cases b <;> rfl
theorem z0_0 {β : Type} (x y : β) : z0 0 x y = x := rfl
theorem z0_s {β : Type} (n : Nat) (x y : β) : z0 (n + 1) x y = y := rfl
theorem z0_eq {β : Type} (n : Nat) (x y : β) : z0 n x y = if n = 0 then x else y := by cases n <;> simp [z0_0, z0_s]
theorem bB_and {b x : Bool} : bB b x false = true ↔ b = true ∧ x = true := by cases b <;> simp [bB]
theorem z0_and {n : Nat} {x : Bool} : z0 n x false = true ↔ n = 0 ∧ x = true := by cases n <;> simp [z0_0, z0_s]
theorem z0_nand {n : Nat} {x : Bool} : z0 n false x = true ↔ n ≠ 0 ∧ x = true := by cases n <;> simp [z0_0, z0_s]
theorem bB_or {b x y : Bool} : bB b x y = true ↔ (b = true ∧ x = true) ∨ (b = false ∧ y = true) := by cases b <;> simp [bB]
theorem z0_or {n : Nat} {x y : Bool} : z0 n x y = true ↔ (n = 0 ∧ x = true) ∨ (n ≠ 0 ∧ y = true) := by cases n <;> simp [z0_0, z0_s]

/-! trees -/
theorem pk4_0 {β : Type} (a b c d : β) : pk4 0 a b c d = a := rfl
theorem pk4_1 {β : Type} (a b c d : β) : pk4 1 a b c d = b := rfl
theorem pk4_2 {β : Type} (a b c d : β) : pk4 2 a b c d = c := rfl
theorem pk4_3 {β : Type} (a b c d : β) : pk4 3 a b c d = d := rfl
theorem land3 (i : Nat) : Nat.land i 3 = i % 4 := Nat.and_two_pow_sub_one_eq_mod i 2
theorem shr2 (i : Nat) : Nat.shiftRight i 2 = i / 4 := Nat.shiftRight_eq_div_pow i 2

theorem qt_cases {α : Type} {n : Nat} (t : QT α (n + 1)) : ∃ a b c d : QT α n, t = mk4 n a b c d :=
  ⟨Q4.a (β := QT α n) t, Q4.b (β := QT α n) t, Q4.c (β := QT α n) t, Q4.d (β := QT α n) t, rfl⟩
theorem qget_mk {α : Type} (n : Nat) (a b c d : QT α n) (i : Nat) : qget (n + 1) (mk4 n a b c d) i = qget n (pk4 (i % 4) a b c d) (i / 4) := by
  rw [← land3, ← shr2]; rfl
def upd4 {α : Type} (n : Nat) (i : Nat) (a b c d x : QT α n) : QT α (n + 1) := up4 i a b c d x
theorem upd4_0 {α : Type} (n : Nat) (a b c d x : QT α n) : upd4 n 0 a b c d x = mk4 n x b c d := rfl
theorem upd4_1 {α : Type} (n : Nat) (a b c d x : QT α n) : upd4 n 1 a b c d x = mk4 n a x c d := rfl
theorem upd4_2 {α : Type} (n : Nat) (a b c d x : QT α n) : upd4 n 2 a b c d x = mk4 n a b x d := rfl
theorem upd4_3 {α : Type} (n : Nat) (a b c d x : QT α n) : upd4 n 3 a b c d x = mk4 n a b c x := rfl
theorem qset_mk {α : Type} (n : Nat) (a b c d : QT α n) (i : Nat) (x : α) :
    qset (n + 1) (mk4 n a b c d) i x = upd4 n (i % 4) a b c d (qset n (pk4 (i % 4) a b c d) (i / 4) x) := by
  rw [← land3, ← shr2]; rfl
theorem mod4 (i : Nat) : i % 4 = 0 ∨ i % 4 = 1 ∨ i % 4 = 2 ∨ i % 4 = 3 := by omega

theorem qget_qset_same {α : Type} : ∀ (n : Nat) (t : QT α n) (i : Nat) (x : α), qget n (qset n t i x) i = x
  | 0, _, _, _ => rfl
  | n + 1, t, i, x => by
    obtain ⟨a, b, c, d, rfl⟩ := qt_cases t
    rw [qset_mk]
    rcases mod4 i with h | h | h | h <;> rw [h] <;> simp only [upd4_0, upd4_1, upd4_2, upd4_3] <;>
      rw [qget_mk, h] <;> exact qget_qset_same n _ _ _

theorem qget_qset_ne {α : Type} : ∀ (n : Nat) (t : QT α n) (i j : Nat) (x : α), i < 4 ^ n → j < 4 ^ n → i ≠ j → qget n (qset n t i x) j = qget n t j
  | 0, _, i, j, _, hi, hj, h => by simp at hi hj; omega
  | n + 1, t, i, j, x, hi, hj, h => by
    obtain ⟨a, b, c, d, rfl⟩ := qt_cases t
    rw [qset_mk]
    have hi' : i / 4 < 4 ^ n := by rw [Nat.pow_succ] at hi; omega
    have hj' : j / 4 < 4 ^ n := by rw [Nat.pow_succ] at hj; omega
    have ih := fun (t : QT α n) (x : α) (h : i / 4 ≠ j / 4) => qget_qset_ne n t (i / 4) (j / 4) x hi' hj' h
    rcases mod4 i with hm | hm | hm | hm <;> rw [hm] <;> simp only [upd4_0, upd4_1, upd4_2, upd4_3] <;> rw [qget_mk, qget_mk] <;>
      rcases mod4 j with hn | hn | hn | hn <;> rw [hn] <;> first | rfl | exact ih _ _ (by omega)

theorem qget_qset {α : Type} {n : Nat} {t : QT α n} {i j : Nat} {x : α} (hi : i < 4 ^ n) (hj : j < 4 ^ n) :
    qget n (qset n t i x) j = if j = i then x else qget n t j := by
  by_cases h : j = i
  · subst h; rw [if_pos rfl, qget_qset_same]
  · rw [if_neg h, qget_qset_ne n t i j x hi hj (Ne.symm h)]

theorem qget_qall {α : Type} (z : α) : ∀ (n i : Nat), qget n (qall z n) i = z
  | 0, _ => rfl
  | n + 1, i => by
    have := qget_qall z n (i / 4)
    refine (qget_mk n (qall z n) (qall z n) (qall z n) (qall z n) i).trans ?_
    rcases mod4 i with h | h | h | h <;> rw [h] <;> exact this

/-! packed cells -/
/-- cell i -/
def cell (x i : Nat) : Nat := x >>> (128 * i) % 2 ^ 128

theorem cell_lt (x i : Nat) : cell x i < 2 ^ 128 := Nat.mod_lt _ (Nat.two_pow_pos _)
theorem testBit_cell (x i k : Nat) : (cell x i).testBit k = (decide (k < 128) && x.testBit (128 * i + k)) := by
  unfold cell; rw [Nat.testBit_mod_two_pow, Nat.testBit_shiftRight]
theorem cell_ext {x y : Nat} (h : ∀ i, cell x i = cell y i) : x = y := by
  apply Nat.eq_of_testBit_eq
  intro k
  have := congrArg (fun z => z.testBit (k % 128)) (h (k / 128))
  simp only [testBit_cell] at this
  have e : 128 * (k / 128) + k % 128 = k := by omega
  have l : k % 128 < 128 := Nat.mod_lt _ (by omega)
  simpa [e, l] using this
theorem cell_zero (i : Nat) : cell 0 i = 0 := by simp [cell]
theorem cell_of_lt {x m i : Nat} (h : x < 2 ^ (128 * m)) (hi : m ≤ i) : cell x i = 0 := by
  unfold cell
  have : x >>> (128 * i) = 0 := by
    rw [Nat.shiftRight_eq_div_pow]
    exact Nat.div_eq_of_lt (Nat.lt_of_lt_of_le h (Nat.pow_le_pow_right (by omega) (by omega)))
  rw [this]
theorem testBit_of_lt {x m k : Nat} (h : x < 2 ^ (128 * m)) (hk : 128 * m ≤ k) : x.testBit k = false :=
  Nat.testBit_lt_two_pow (Nat.lt_of_lt_of_le h (Nat.pow_le_pow_right (by omega) hk))
theorem cell0_of_lt {x : Nat} (h : x < 2 ^ 128) : cell x 0 = x := by
  unfold cell; rw [Nat.mul_zero, Nat.shiftRight_zero]; exact Nat.mod_eq_of_lt h

theorem slc_eq (s o m : Nat) : slc s o m = s >>> (128 * o) % 2 ^ (128 * m) := rfl
theorem slc_lt (s o m : Nat) : slc s o m < 2 ^ (128 * m) := Nat.mod_lt _ (Nat.two_pow_pos _)
theorem testBit_slc (s o m k : Nat) : (slc s o m).testBit k = (decide (k < 128 * m) && s.testBit (128 * o + k)) := by
  rw [slc_eq, Nat.testBit_mod_two_pow, Nat.testBit_shiftRight]
theorem cell_slc (s o m i : Nat) : cell (slc s o m) i = if i < m then cell s (o + i) else 0 := by
  apply Nat.eq_of_testBit_eq
  intro k
  rw [testBit_cell, testBit_slc]
  by_cases hk : k < 128
  · by_cases hi : i < m
    · have h1 : 128 * i + k < 128 * m := by omega
      have e : 128 * o + (128 * i + k) = 128 * (o + i) + k := by omega
      simp [hk, hi, h1, testBit_cell, e]
    · have h1 : ¬ 128 * i + k < 128 * m := by omega
      simp [hi, h1]
  · by_cases hi : i < m
    · simp [hk, hi, testBit_cell]
    · simp [hk, hi]
theorem spl_eq (s o m x : Nat) : spl s o m x = s ^^^ ((slc s o m ^^^ x) <<< (128 * o)) := rfl
theorem testBit_spl {s o m x : Nat} (hx : x < 2 ^ (128 * m)) (k : Nat) :
    (spl s o m x).testBit k = if 128 * o ≤ k ∧ k < 128 * (o + m) then x.testBit (k - 128 * o) else s.testBit k := by
  rw [spl_eq, Nat.testBit_xor, Nat.testBit_shiftLeft, Nat.testBit_xor, testBit_slc]
  by_cases h1 : 128 * o ≤ k
  · have e : 128 * o + (k - 128 * o) = k := by omega
    by_cases h2 : k < 128 * (o + m)
    · have h3 : k - 128 * o < 128 * m := by omega
      simp [h1, h2, h3, e]
    · have h3 : ¬ k - 128 * o < 128 * m := by omega
      simp [h1, h2, h3, testBit_of_lt hx (by omega : 128 * m ≤ k - 128 * o)]
  · simp [h1]
theorem cell_spl {s o m x : Nat} (hx : x < 2 ^ (128 * m)) (i : Nat) :
    cell (spl s o m x) i = if o ≤ i ∧ i < o + m then cell x (i - o) else cell s i := by
  apply Nat.eq_of_testBit_eq
  intro k
  rw [testBit_cell, testBit_spl hx]
  by_cases hk : k < 128
  · by_cases h : o ≤ i ∧ i < o + m
    · have h1 : 128 * o ≤ 128 * i + k ∧ 128 * i + k < 128 * (o + m) := by omega
      have e : 128 * i + k - 128 * o = 128 * (i - o) + k := by omega
      simp only [hk, h, h1, testBit_cell, e, if_true, and_self]
    · have h1 : ¬ (128 * o ≤ 128 * i + k ∧ 128 * i + k < 128 * (o + m)) := by omega
      simp only [hk, h, h1, testBit_cell, if_false]
  · simp only [hk, decide_false, Bool.false_and]
    split <;> rw [testBit_cell] <;> simp [hk]
theorem spl_lt {s o m x n : Nat} (hx : x < 2 ^ (128 * m)) (hs : s < 2 ^ (128 * n)) (h : o + m ≤ n) : spl s o m x < 2 ^ (128 * n) := by
  apply Nat.lt_pow_two_of_testBit
  intro k hk
  rw [testBit_spl hx, if_neg (by omega)]
  exact testBit_of_lt hs hk

theorem sslc_eq (s o m : Nat) : sslc s o m = slc (s >>> 64) o m := by
  show (s >>> (64 + 128 * o)) % 2 ^ (128 * m) = (s >>> 64 >>> (128 * o)) % 2 ^ (128 * m)
  rw [Nat.shiftRight_add]
theorem low_shr (x : Nat) : (x &&& 18446744073709551615) >>> 64 = 0 := by
  rw [show (18446744073709551615 : Nat) = 2 ^ 64 - 1 from rfl, Nat.and_two_pow_sub_one_eq_mod, Nat.shiftRight_eq_div_pow]
  exact Nat.div_eq_of_lt (Nat.mod_lt _ (by decide))
theorem sspl_shr (q s o m x : Nat) : (sspl q s o m x) >>> 64 = spl (s >>> 64) o m x := by
  show (s ^^^ (((sslc s o m ^^^ x) <<< (64 + 128 * o)) ^^^ ((s &&& 18446744073709551615) ^^^ (q &&& 18446744073709551615)))) >>> 64 = _
  rw [Nat.shiftRight_xor_distrib, Nat.shiftRight_xor_distrib, Nat.shiftRight_xor_distrib, low_shr, low_shr, sslc_eq, spl_eq,
    Nat.add_comm 64, Nat.shiftLeft_add, Nat.shiftLeft_shiftRight]
  simp

theorem gF_eq (t v : Nat) : gF (shOf t) v = cell (v >>> 64) t := by
  show (v >>> (64 + 128 * t)) &&& 340282366920938463463374607431768211455 = _
  rw [show (340282366920938463463374607431768211455 : Nat) = 2 ^ 128 - 1 from rfl, Nat.and_two_pow_sub_one_eq_mod, Nat.shiftRight_add]; rfl
theorem setF_shr (q t v x : Nat) : (setF q (shOf t) v x) >>> 64 = spl (v >>> 64) t 1 x := by
  show (v ^^^ (((gF (shOf t) v ^^^ x) <<< (64 + 128 * t)) ^^^ ((v &&& 18446744073709551615) ^^^ (q &&& 18446744073709551615)))) >>> 64 = _
  rw [Nat.shiftRight_xor_distrib, Nat.shiftRight_xor_distrib, Nat.shiftRight_xor_distrib, low_shr, low_shr, gF_eq, spl_eq,
    Nat.add_comm 64, Nat.shiftLeft_add, Nat.shiftLeft_shiftRight]
  simp [slc_eq, cell]
theorem gF_setF {q t v x : Nat} (hx : x < 2 ^ 128) (t' : Nat) : gF (shOf t') (setF q (shOf t) v x) = if t' = t then x else gF (shOf t') v := by
  rw [gF_eq, setF_shr, cell_spl (by simpa using hx), gF_eq]
  by_cases h : t' = t
  · subst h; simp [cell0_of_lt hx]
  · rw [if_neg h, if_neg (by omega)]

/-! repeated cells -/
theorem rep_zero (m x : Nat) : rep m 0 x = 0 := by
  show x * ((2 ^ (128 * m * 0) - 1) / (2 ^ (128 * m) - 1)) = 0
  simp
theorem geom (b : Nat) (hb : 2 ≤ b) (n : Nat) : (b ^ (n + 1) - 1) / (b - 1) = 1 + b * ((b ^ n - 1) / (b - 1)) := by
  have key : ∀ n, ∃ k, b ^ n - 1 = (b - 1) * k := by
    intro n
    induction n with
    | zero => exact ⟨0, by simp⟩
    | succ n ih =>
      obtain ⟨k, hk⟩ := ih
      refine ⟨1 + b * k, ?_⟩
      have h1 : 1 ≤ b ^ n := Nat.one_le_pow _ _ (by omega)
      have h2 : b ^ n = (b - 1) * k + 1 := by omega
      rw [Nat.pow_succ, h2, Nat.mul_add, Nat.mul_one]
      have : ((b - 1) * k + 1) * b = (b - 1) * (b * k) + b := by
        rw [Nat.add_mul, Nat.one_mul, Nat.mul_assoc, Nat.mul_comm k b]
      omega
  obtain ⟨k, hk⟩ := key n
  obtain ⟨k', hk'⟩ := key (n + 1)
  have hb1 : 0 < b - 1 := by omega
  rw [hk, hk', Nat.mul_div_cancel_left _ hb1, Nat.mul_div_cancel_left _ hb1]
  have h1 : 1 ≤ b ^ n := Nat.one_le_pow _ _ (by omega)
  have h2 : b ^ n = (b - 1) * k + 1 := by omega
  have h3 : b ^ (n + 1) = (b - 1) * k' + 1 := by have : 1 ≤ b ^ (n + 1) := Nat.one_le_pow _ _ (by omega); omega
  rw [Nat.pow_succ, h2] at h3
  have h4 : ((b - 1) * k + 1) * b = (b - 1) * (b * k) + b := by
    rw [Nat.add_mul, Nat.one_mul, Nat.mul_assoc, Nat.mul_comm k b]
  have h5 : (b - 1) * k' = (b - 1) * (1 + b * k) := by rw [Nat.mul_add, Nat.mul_one]; omega
  exact Nat.eq_of_mul_eq_mul_left hb1 h5
theorem rep_succ {m : Nat} (hm : 0 < m) (n x : Nat) : rep m (n + 1) x = x + rep m n x <<< (128 * m) := by
  rw [Nat.shiftLeft_eq]
  show x * ((2 ^ (128 * m * (n + 1)) - 1) / (2 ^ (128 * m) - 1)) = x + (x * ((2 ^ (128 * m * n) - 1) / (2 ^ (128 * m) - 1))) * 2 ^ (128 * m)
  have hb : 2 ≤ 2 ^ (128 * m) := by
    have : 2 ^ 1 ≤ 2 ^ (128 * m) := Nat.pow_le_pow_right (by omega) (by omega)
    omega
  rw [Nat.pow_mul 2 (128 * m) (n + 1), Nat.pow_mul 2 (128 * m) n]
  generalize 2 ^ (128 * m) = b at *
  rw [geom b hb, Nat.mul_add, Nat.mul_one, Nat.mul_comm b, Nat.mul_assoc]
theorem add_shl_eq {x y m : Nat} (hx : x < 2 ^ (128 * m)) : x + y <<< (128 * m) = x ||| y <<< (128 * m) := by
  rw [Nat.add_comm, Nat.or_comm, Nat.shiftLeft_eq, Nat.mul_comm, Nat.two_pow_add_eq_or_of_lt hx]
theorem cell_add_shl {x y m : Nat} (hx : x < 2 ^ (128 * m)) (i : Nat) : cell (x + y <<< (128 * m)) i = if i < m then cell x i else cell y (i - m) := by
  rw [add_shl_eq hx]
  apply Nat.eq_of_testBit_eq
  intro k
  rw [testBit_cell, Nat.testBit_or, Nat.testBit_shiftLeft]
  by_cases hk : k < 128
  · by_cases hi : i < m
    · have : ¬ 128 * m ≤ 128 * i + k := by omega
      simp [hk, hi, this, testBit_cell]
    · have h1 : 128 * m ≤ 128 * i + k := by omega
      have e : 128 * i + k - 128 * m = 128 * (i - m) + k := by omega
      simp [hk, hi, h1, testBit_cell, e, testBit_of_lt hx h1]
  · split <;> simp [hk, testBit_cell]
theorem add_shl_lt {x y m n : Nat} (hx : x < 2 ^ (128 * m)) (hy : y < 2 ^ (128 * n)) : x + y <<< (128 * m) < 2 ^ (128 * (m + n)) := by
  rw [Nat.shiftLeft_eq, Nat.mul_add, Nat.pow_add]
  have : (y + 1) * 2 ^ (128 * m) ≤ 2 ^ (128 * n) * 2 ^ (128 * m) := Nat.mul_le_mul_right _ hy
  rw [Nat.add_mul, Nat.one_mul, Nat.mul_comm (2 ^ (128 * n))] at this
  omega
theorem rep_lt {m x : Nat} (hm : 0 < m) (hx : x < 2 ^ (128 * m)) : ∀ n, rep m n x < 2 ^ (128 * (n * m))
  | 0 => by rw [rep_zero]; simp
  | n + 1 => by
    rw [rep_succ hm, show (n + 1) * m = m + n * m by rw [Nat.add_mul, Nat.one_mul, Nat.add_comm]]
    exact add_shl_lt hx (rep_lt hm hx n)
theorem cell_rep {m x : Nat} (hm : 0 < m) (hx : x < 2 ^ (128 * m)) : ∀ (n i : Nat), cell (rep m n x) i = if i < n * m then cell x (i % m) else 0
  | 0, i => by rw [rep_zero, cell_zero]; simp
  | n + 1, i => by
    rw [rep_succ hm, cell_add_shl hx]
    have e : (n + 1) * m = m + n * m := by rw [Nat.add_mul, Nat.one_mul, Nat.add_comm]
    by_cases hi : i < m
    · rw [if_pos hi, if_pos (by rw [e]; omega), Nat.mod_eq_of_lt hi]
    · rw [if_neg hi, cell_rep hm hx n (i - m)]
      have h1 : (i - m) % m = i % m := by
        rw [Nat.mod_eq_sub_mod (by omega : m ≤ i)]
      by_cases h2 : i - m < n * m
      · rw [if_pos h2, if_pos (by rw [e]; omega), h1]
      · rw [if_neg h2, if_neg (by rw [e]; omega)]
end Go.Proofs.YgvajwGreat.Ev
