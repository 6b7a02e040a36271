import Derived.Test.YgvajwGreatProg
import Derived.WalkKit
import Derived.Tactics2
import Derived.KernelRfl
import Derived.LoopN
import Derived.Test.YgvajwGreatLt
namespace Go.Proofs.YgvajwGreat.Ev
open Go.Proofs
set_option maxRecDepth 100000 in
theorem round (w : World) (a : Addr) (j : Nat) (hj : j < 4096) (hc : w.cell? (a.add j) = some (.int .i32 (-1))) (x0 x1 x2 x3 x4 x5 x6 x7 x8 x11 x12 x13 x14 x15 x16 x17 x18 x19 x20 x21 x22 x23 x24 x25 x26 x27 x28 x29 x30 x31 x32 x33 x34 x35 x36 x37 x38 x39 x40 x41 x42 : Value) (Q : Exit → Act → World → Prop)
    (hq : Q .normal { tmps := #[x0, x1, x2, x3, x4, x5, x6, x7, .int .i32 (-1), .pointer (some a), .int .i64 ((j : Int) + 1), .bool true, .pointer (some a), .pointer (some (a.add j)), .int .i32 (-1), .int .i32 (-1), .bool true, x17, x18, x19, x20, x21, x22, x23, x24, x25, x26, x27, x28, x29, x30, x31, x32, x33, x34, x35, x36, x37, x38, .int .i64 ((j : Int) + 1), x40, x41, x42], defers := [] } w) :
    ((loopsOf (Hvaj.f342.body.getD .skip)).headD .skip).wp Hvaj.prog Q { tmps := #[x0, x1, x2, x3, x4, x5, x6, x7, x8, .pointer (some a), .int .i64 (j : Int), x11, x12, x13, x14, x15, x16, x17, x18, x19, x20, x21, x22, x23, x24, x25, x26, x27, x28, x29, x30, x31, x32, x33, x34, x35, x36, x37, x38, x39, x40, x41, x42], defers := [] } w := by
  simp only [Hvaj.f342, Option.getD, loopsOf, List.nil_append, List.append_nil, List.headD]
  go_wp2
  exact hq
theorem skipK (w : World) (a : Addr) (Q : Exit → Act → World → Prop) (m : Nat) : ∀ (k j : Nat) (x0 x1 x2 x3 x4 x5 x6 x7 x8 x11 x12 x13 x14 x15 x16 x17 x18 x19 x20 x21 x22 x23 x24 x25 x26 x27 x28 x29 x30 x31 x32 x33 x34 x35 x36 x37 x38 x39 x40 x41 x42 : Value), j + k ≤ 4096 → (∀ i, i < k → w.cell? (a.add (j + i)) = some (.int .i32 (-1))) →
    (∀ y8 y11 y12 y13 y14 y15 y16 y39 : Value, Code.rounds Hvaj.prog ((loopsOf (Hvaj.f342.body.getD .skip)).headD .skip) Q m { tmps := #[x0, x1, x2, x3, x4, x5, x6, x7, y8, .pointer (some a), .int .i64 ((j + k : Nat) : Int), y11, y12, y13, y14, y15, y16, x17, x18, x19, x20, x21, x22, x23, x24, x25, x26, x27, x28, x29, x30, x31, x32, x33, x34, x35, x36, x37, x38, y39, x40, x41, x42], defers := [] } w) →
    Code.rounds Hvaj.prog ((loopsOf (Hvaj.f342.body.getD .skip)).headD .skip) Q (k + m) { tmps := #[x0, x1, x2, x3, x4, x5, x6, x7, x8, .pointer (some a), .int .i64 (j : Int), x11, x12, x13, x14, x15, x16, x17, x18, x19, x20, x21, x22, x23, x24, x25, x26, x27, x28, x29, x30, x31, x32, x33, x34, x35, x36, x37, x38, x39, x40, x41, x42], defers := [] } w
  | 0, j, x0, x1, x2, x3, x4, x5, x6, x7, x8, x11, x12, x13, x14, x15, x16, x17, x18, x19, x20, x21, x22, x23, x24, x25, x26, x27, x28, x29, x30, x31, x32, x33, x34, x35, x36, x37, x38, x39, x40, x41, x42, _, _, h => by
    have := h x8 x11 x12 x13 x14 x15 x16 x39
    rw [Nat.add_zero] at this
    rw [Nat.zero_add]
    exact this
  | k + 1, j, x0, x1, x2, x3, x4, x5, x6, x7, x8, x11, x12, x13, x14, x15, x16, x17, x18, x19, x20, x21, x22, x23, x24, x25, x26, x27, x28, x29, x30, x31, x32, x33, x34, x35, x36, x37, x38, x39, x40, x41, x42, hj, hc, h => by
    rw [show k + 1 + m = (k + m) + 1 by omega, rounds_succ]
    refine round w a j (by omega) (by have := hc 0 (by omega); rwa [Nat.add_zero] at this) x0 x1 x2 x3 x4 x5 x6 x7 x8 x11 x12 x13 x14 x15 x16 x17 x18 x19 x20 x21 x22 x23 x24 x25 x26 x27 x28 x29 x30 x31 x32 x33 x34 x35 x36 x37 x38 x39 x40 x41 x42 _ ?_
    have hcast : ((j : Int) + 1) = ((j + 1 : Nat) : Int) := rfl
    rw [hcast]
    refine skipK w a Q m k (j + 1) x0 x1 x2 x3 x4 x5 x6 x7 (.int .i32 (-1)) (.bool true) (.pointer (some a)) (.pointer (some (a.add j))) (.int .i32 (-1)) (.int .i32 (-1)) (.bool true) x17 x18 x19 x20 x21 x22 x23 x24 x25 x26 x27 x28 x29 x30 x31 x32 x33 x34 x35 x36 x37 x38 (.int .i64 ((j : Int) + 1)) x40 x41 x42 (by omega) (fun i hi => by rw [show j + 1 + i = j + (i + 1) by omega]; exact hc (i + 1) (by omega)) fun y8 y11 y12 y13 y14 y15 y16 y39 => ?_
    have := h y8 y11 y12 y13 y14 y15 y16 y39
    rwa [show j + (k + 1) = j + 1 + k by omega] at this
theorem skip_ok : SkipOK Hvaj.prog ((loopsOf (Hvaj.f342.body.getD .skip)).headD .skip) := fun s w tmps a j hs h9 h10 hj hc Q m h => by
  obtain ⟨l⟩ := tmps
  have hl : l.length = 43 := by simpa using hs
  match l, hl with
  | x0 :: x1 :: x2 :: x3 :: x4 :: x5 :: x6 :: x7 :: x8 :: x9 :: x10 :: x11 :: x12 :: x13 :: x14 :: x15 :: x16 :: x17 :: x18 :: x19 :: x20 :: x21 :: x22 :: x23 :: x24 :: x25 :: x26 :: x27 :: x28 :: x29 :: x30 :: x31 :: x32 :: x33 :: x34 :: x35 :: x36 :: x37 :: x38 :: x39 :: x40 :: x41 :: x42 :: [], _ =>
    simp at h9 h10
    subst h9; subst h10
    refine skipK w a Q m s j x0 x1 x2 x3 x4 x5 x6 x7 x8 x11 x12 x13 x14 x15 x16 x17 x18 x19 x20 x21 x22 x23 x24 x25 x26 x27 x28 x29 x30 x31 x32 x33 x34 x35 x36 x37 x38 x39 x40 x41 x42 hj hc fun y8 y11 y12 y13 y14 y15 y16 y39 => ?_
    refine h _ rfl (by simp) (fun t h1 h2 => ?_)
    have h8 : t ≠ 8 ∧ t ≠ 11 ∧ t ≠ 12 ∧ t ≠ 13 ∧ t ≠ 14 ∧ t ≠ 15 ∧ t ≠ 16 ∧ t ≠ 39 := by
      simp [deadT] at h2
      exact h2
    obtain ⟨a1, a2, a3, a4, a5, a6, a7, a8⟩ := h8
    match t with
    | 0 => rfl
    | 1 => rfl
    | 2 => rfl
    | 3 => rfl
    | 4 => rfl
    | 5 => rfl
    | 6 => rfl
    | 7 => rfl
    | 8 => exact absurd rfl a1
    | 9 => rfl
    | 10 => exact absurd rfl h1
    | 11 => exact absurd rfl a2
    | 12 => exact absurd rfl a3
    | 13 => exact absurd rfl a4
    | 14 => exact absurd rfl a5
    | 15 => exact absurd rfl a6
    | 16 => exact absurd rfl a7
    | 17 => rfl
    | 18 => rfl
    | 19 => rfl
    | 20 => rfl
    | 21 => rfl
    | 22 => rfl
    | 23 => rfl
    | 24 => rfl
    | 25 => rfl
    | 26 => rfl
    | 27 => rfl
    | 28 => rfl
    | 29 => rfl
    | 30 => rfl
    | 31 => rfl
    | 32 => rfl
    | 33 => rfl
    | 34 => rfl
    | 35 => rfl
    | 36 => rfl
    | 37 => rfl
    | 38 => rfl
    | 39 => exact absurd rfl a8
    | 40 => rfl
    | 41 => rfl
    | 42 => rfl
    | n + 43 => rfl
end Go.Proofs.YgvajwGreat.Ev
