import Derived.Test.YgvaiwGreatOps32
import Derived.Test.YgvaiwGreatTab
import Derived.Test.YgvaiwGreatRows
import Derived.KernelRfl
import Derived.RowKit3
namespace Go.Proofs.YgvaiwGreat.Ev
open Go.RowKit
/-- the table of the types is the program's -/
theorem tis : tisB Hvai.prog env.ti 1024 = true := by kernel_rfl
/-- the evaluator runs the law to its end: true -/
theorem ran : callN (fnt Hvai.prog) 60 0 3 [] hp0 (fun _ rs _ => match rs with | [c] => Nat.beq c 25 | _ => false) = true := by kernel_rfl
theorem mixed : Hvai.prog.follows .mixedOrders = true := by kernel_rfl
theorem env_ok (t : Nat) : TIok Hvai.prog t (env.ti t) := by
  by_cases h : t < 1024
  · exact tisB_spec 1024 tis t h
  · have e : env.ti t = bB (Nat.ble t 1023) (qget 5 TIN97 t) noTI := rfl
    have hb : Nat.ble t 1023 = false := by
      cases hb : Nat.ble t 1023 with
      | false => rfl
      | true => exact absurd (ble_t hb) (by omega)
    rw [e, hb, bB_f]
    exact noTI_ok t
theorem fnt_ok (f : Nat) : FCok Hvai.prog f (fnt Hvai.prog f) := by
  have e : fnt Hvai.prog f = bB (Nat.beq (Nat.land (Nat.shiftRight execM f) 1) 1) (fcOf env f (nthF f Hvai.prog.funcs.toList)) fcNo := rfl
  rw [e]
  cases Nat.beq (Nat.land (Nat.shiftRight execM f) 1) 1 with
  | false => exact .no
  | true =>
    rw [bB_t, nthF_eq, Array.getElem?_toList]
    exact fcOf_ok env_ok mixed
theorem walk (w : World) : Calls Hvai.prog 3 #[] w fun e w' => e = .returned (.bool true) ∧ Grown w w' :=
  (run_true fnt_ok ran w).mono fun e w' ⟨he, h1, h2, h3, h4, h5⟩ => by
    refine ⟨he, ⟨h1, h2, fun i hi => ?_⟩, h3, h4⟩
    rw [h5 i hi]
    cases hw : w.heap[i]? with
    | none => exact rfl
    | some o =>
      cases o with
      | cells c t fr => exact ⟨rfl, rfl, rfl, fun _ _ => rfl⟩
      | map es clock => exact .inr ⟨rfl, rfl⟩
      | _ => exact rfl
end Go.Proofs.YgvaiwGreat.Ev
