import Derived.Test.YgvajwGreatBits
namespace Go.Proofs.YgvajwGreat.Ev
/-- cell i of a block -/
def cellB (s0 : Nat) (more : QT Nat 5) (i : Nat) : Nat := cell (segOf s0 more (i / 64) >>> 64) (i % 64)
theorem cellB_lt (s0 : Nat) (more : QT Nat 5) (i : Nat) : cellB s0 more i < 2 ^ 128 := cell_lt _ _

theorem segOf_0 (s0 : Nat) (more : QT Nat 5) : segOf s0 more 0 = s0 := rfl
theorem segOf_s (s0 : Nat) (more : QT Nat 5) (j : Nat) : segOf s0 more (j + 1) = qget 5 more j := rfl

theorem gath_0 (s0 : Nat) (more : QT Nat 5) (off n : Nat) : gath 0 s0 more off n = 0 := rfl
theorem gath_s (f s0 : Nat) (more : QT Nat 5) (off n : Nat) : gath (f + 1) s0 more off n =
    if off % 64 + n ≤ 64 then slc (segOf s0 more (off / 64) >>> 64) (off % 64) n
    else slc (segOf s0 more (off / 64) >>> 64) (off % 64) (64 - off % 64) + (gath f s0 more (off + (64 - off % 64)) (n - (64 - off % 64))) <<< (128 * (64 - off % 64)) := by
  have h : gath (f + 1) s0 more off n = bB (Nat.ble (off % 64 + n) 64)
        (sslc (segOf s0 more (off / 64)) (off % 64) n)
        (sslc (segOf s0 more (off / 64)) (off % 64) (64 - off % 64) + (gath f s0 more (off + (64 - off % 64)) (n - (64 - off % 64))) <<< (128 * (64 - off % 64))) := rfl
  rw [h, bB_eq, sslc_eq, sslc_eq]
  simp only [Nat.ble_eq]

theorem gath_spec : ∀ (f s0 : Nat) (more : QT Nat 5) (off n : Nat), off % 64 + n ≤ 64 * f →
    gath f s0 more off n < 2 ^ (128 * n) ∧ ∀ i, cell (gath f s0 more off n) i = if i < n then cellB s0 more (off + i) else 0
  | 0, s0, more, off, n, h => by
    have : n = 0 := by omega
    subst this
    rw [gath_0]
    exact ⟨by simp, fun i => by rw [cell_zero]; simp⟩
  | f + 1, s0, more, off, n, h => by
    rw [gath_s]
    by_cases h1 : off % 64 + n ≤ 64
    · rw [if_pos h1]
      refine ⟨slc_lt _ _ _, fun i => ?_⟩
      rw [cell_slc]
      by_cases hi : i < n
      · rw [if_pos hi, if_pos hi]
        unfold cellB
        rw [show (off + i) / 64 = off / 64 by omega, show (off + i) % 64 = off % 64 + i by omega]
      · rw [if_neg hi, if_neg hi]
    · rw [if_neg h1]
      have ho : off % 64 < 64 := Nat.mod_lt _ (by omega)
      obtain ⟨ih1, ih2⟩ := gath_spec f s0 more (off + (64 - off % 64)) (n - (64 - off % 64)) (by omega)
      refine ⟨?_, fun i => ?_⟩
      · have := add_shl_lt (m := 64 - off % 64) (slc_lt (segOf s0 more (off / 64) >>> 64) (off % 64) (64 - off % 64)) ih1
        rwa [show 64 - off % 64 + (n - (64 - off % 64)) = n by omega] at this
      · rw [cell_add_shl (slc_lt _ _ _)]
        by_cases hm : i < 64 - off % 64
        · rw [if_pos hm, cell_slc, if_pos hm, if_pos (by omega)]
          unfold cellB
          rw [show (off + i) / 64 = off / 64 by omega, show (off + i) % 64 = off % 64 + i by omega]
        · rw [if_neg hm, ih2]
          by_cases hi : i < n
          · rw [if_pos (by omega), if_pos hi, show off + (64 - off % 64) + (i - (64 - off % 64)) = off + i by omega]
          · rw [if_neg (by omega), if_neg hi]

/-- one segment laid anew -/
def setSeg (s0 : Nat) (more : QT Nat 5) (i s : Nat) : Nat × QT Nat 5 :=
  @Nat.rec (fun _ => Nat × QT Nat 5) (s, more) (fun j _ => (s0, qset 5 more j s)) i
theorem segOf_setSeg {s0 : Nat} {more : QT Nat 5} {i s j : Nat} (hi : i < 1025) (hj : j < 1025) :
    segOf (setSeg s0 more i s).1 (setSeg s0 more i s).2 j = if j = i then s else segOf s0 more j := by
  cases i with
  | zero =>
    cases j with
    | zero => rfl
    | succ j => rw [if_neg (by omega)]; rfl
  | succ i =>
    cases j with
    | zero => rw [if_neg (by omega)]; rfl
    | succ j =>
      show qget 5 (qset 5 more i s) j = _
      rw [qget_qset (by omega) (by omega), segOf_s]
      by_cases h : j = i
      · rw [if_pos h, if_pos (by omega)]
      · rw [if_neg h, if_neg (by omega)]

theorem scat_0 (q s0 : Nat) (more : QT Nat 5) (off n x : Nat) : scat q 0 s0 more off n x = (s0, more) := rfl
theorem scat_s (q f s0 : Nat) (more : QT Nat 5) (off n x : Nat) : scat q (f + 1) s0 more off n x =
    if off % 64 + n ≤ 64 then setSeg s0 more (off / 64) (sspl q (segOf s0 more (off / 64)) (off % 64) n x)
    else scat q f (setSeg s0 more (off / 64) (sspl q (segOf s0 more (off / 64)) (off % 64) (64 - off % 64) (slc x 0 (64 - off % 64)))).1
      (setSeg s0 more (off / 64) (sspl q (segOf s0 more (off / 64)) (off % 64) (64 - off % 64) (slc x 0 (64 - off % 64)))).2
      (off + (64 - off % 64)) (n - (64 - off % 64)) (x >>> (128 * (64 - off % 64))) := by
  have h : scat q (f + 1) s0 more off n x = bB (Nat.ble (off % 64 + n) 64)
      (setSeg s0 more (off / 64) (sspl q (segOf s0 more (off / 64)) (off % 64) n x))
      (@Nat.rec (fun _ => Nat × QT Nat 5) (scat q f (sspl q (segOf s0 more (off / 64)) (off % 64) (64 - off % 64) (slc x 0 (64 - off % 64))) more (off + (64 - off % 64)) (n - (64 - off % 64)) (x >>> (128 * (64 - off % 64))))
        (fun j _ => scat q f s0 (qset 5 more j (sspl q (segOf s0 more (off / 64)) (off % 64) (64 - off % 64) (slc x 0 (64 - off % 64)))) (off + (64 - off % 64)) (n - (64 - off % 64)) (x >>> (128 * (64 - off % 64)))) (off / 64)) := rfl
  rw [h, bB_eq]
  simp only [Nat.ble_eq]
  congr 1
  generalize sspl q (segOf s0 more (off / 64)) (off % 64) (64 - off % 64) (slc x 0 (64 - off % 64)) = s
  cases off / 64 <;> rfl

theorem cell_shr (x m i : Nat) : cell (x >>> (128 * m)) i = cell x (m + i) := by
  unfold cell
  rw [← Nat.shiftRight_add, Nat.mul_add]
theorem shr_lt {x m n : Nat} (h : x < 2 ^ (128 * n)) : x >>> (128 * m) < 2 ^ (128 * (n - m)) := by
  apply Nat.lt_pow_two_of_testBit
  intro k hk
  rw [Nat.testBit_shiftRight]
  exact testBit_of_lt h (by omega)

theorem cellB_setSeg {q s0 : Nat} {more : QT Nat 5} {off n x : Nat} (hx : x < 2 ^ (128 * n)) (h1 : off % 64 + n ≤ 64) (ho : off < 65600) (i : Nat) (hi : i < 65600) :
    cellB (setSeg s0 more (off / 64) (sspl q (segOf s0 more (off / 64)) (off % 64) n x)).1
      (setSeg s0 more (off / 64) (sspl q (segOf s0 more (off / 64)) (off % 64) n x)).2 i
      = if off ≤ i ∧ i < off + n then cell x (i - off) else cellB s0 more i := by
  unfold cellB
  rw [segOf_setSeg (by omega) (by omega)]
  by_cases h : i / 64 = off / 64
  · rw [if_pos h, sspl_shr, cell_spl hx]
    by_cases h2 : off ≤ i ∧ i < off + n
    · rw [if_pos (by omega), if_pos h2, show i % 64 - off % 64 = i - off by omega]
    · rw [if_neg (by omega), if_neg h2, h]
  · rw [if_neg h, if_neg (by omega)]

theorem scat_spec : ∀ (f q s0 : Nat) (more : QT Nat 5) (off n x : Nat), off % 64 + n ≤ 64 * f → off + n < 65600 → x < 2 ^ (128 * n) →
    ∀ i, i < 65600 → cellB (scat q f s0 more off n x).1 (scat q f s0 more off n x).2 i = if off ≤ i ∧ i < off + n then cell x (i - off) else cellB s0 more i
  | 0, q, s0, more, off, n, x, h, _, _, i, _ => by
    have : n = 0 := by omega
    subst this
    rw [scat_0, if_neg (by omega)]
  | f + 1, q, s0, more, off, n, x, h, hb, hx, i, hi => by
    rw [scat_s]
    by_cases h1 : off % 64 + n ≤ 64
    · rw [if_pos h1]
      exact cellB_setSeg hx h1 (by omega) i hi
    · rw [if_neg h1]
      have ho : off % 64 < 64 := Nat.mod_lt _ (by omega)
      have hs := fun i hi => cellB_setSeg (q := q) (s0 := s0) (more := more) (off := off) (n := 64 - off % 64) (x := slc x 0 (64 - off % 64)) (slc_lt _ _ _) (by omega) (by omega) i hi
      rw [scat_spec f q _ _ _ _ _ (by omega) (by omega) (shr_lt hx) i hi, hs i hi, cell_shr, cell_slc]
      by_cases h2 : off ≤ i ∧ i < off + n
      · rw [if_pos h2]
        by_cases h3 : off + (64 - off % 64) ≤ i
        · rw [if_pos (by omega), show 64 - off % 64 + (i - (off + (64 - off % 64))) = i - off by omega]
        · rw [if_neg (by omega), if_pos (by omega), if_pos (by omega), Nat.zero_add]
      · rw [if_neg h2, if_neg (by omega), if_neg (by omega)]
end Go.Proofs.YgvajwGreat.Ev
