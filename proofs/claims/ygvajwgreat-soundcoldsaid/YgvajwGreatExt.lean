import Derived.Test.YgvajwGreatOr1
import Derived.Test.YgvajwGreatTab
import Derived.KernelRfl
import Derived.Laws.Externs
namespace Go.Proofs.YgvajwGreat.Ev
open Go.Proofs
/-- the model's entry for math/bits.Sub64 -/
def subE : Array Value → Sem Value := (Extern.MathBitsCarry.rows[1]'(by decide)).2
theorem run_subE {P : Program} (x y b : Nat) (hb : b ≤ 1) (w : World) :
    (subE #[.int .u64 x, .int .u64 y, .int .u64 b]).run P w = .ok (.tuple #[.int .u64 (difC x y b : Nat), .int .u64 (borC x y b : Nat)]) w := by
  have : b = 0 ∨ b = 1 := by omega
  rcases this with rfl | rfl <;> rfl
theorem ext_ok : ExtOK Hvaj.prog env := by
  refine ⟨fun x y c hc w => ?_, fun x y b hb w => ?_⟩
  · have e : env.add64 = 162 := rfl
    rw [e, run_callFunc_extern Hvaj.func162 (by kernel_rfl) (by kernel_rfl) (by kernel_rfl) (e := add64Entry) (by kernel_rfl), run_add64 x y c (by omega) (by omega) (by omega) (by omega)]
    have e1 : ((x : Int) + y + c) % 18446744073709551616 = (sumC x y c : Nat) := by unfold sumC; omega
    have e2 : ((x : Int) + y + c) / 18446744073709551616 = (carC x y c : Nat) := by unfold carC; omega
    rw [e1, e2]
    rfl
  · have e : env.sub64 = 263 := rfl
    rw [e, run_callFunc_extern Hvaj.func263 (by kernel_rfl) (by kernel_rfl) (by kernel_rfl) (e := subE) (by kernel_rfl), run_subE x y b hb]
    rfl
theorem tis : tisB Hvaj.prog env.ti 1024 = true := by kernel_rfl
theorem mixed : Hvaj.prog.follows .mixedOrders = true := by kernel_rfl
end Go.Proofs.YgvajwGreat.Ev
