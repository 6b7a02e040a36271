/-
  No cell of these rows narrows 'for every input' (looked for: loops, veiled, ifaces, maps, wideKeys, modest, calm, conditions, laid).
  DERIVED. THE GIVEN ROWS OF THIS SEAT. 1 by the template 'for every input the law returns true; each argument reads behind the call as it read before'; 0 by the template 'total and deterministic' (their statements: YgvaiwGreatTotals.lean).
  GIVEN WITH THE SEED: the statements are not yours to turn. If you find one false, say at which input.
  Laid BY PROGRAM, IN A SANDBOX (cutbox-rows.mjs): the forced cells as the released guide's own fill.sh prints them over the translation fd5a131824e675c4… (all of the seat's roots in one cut). By AI agents, Wed Nov 11 2026. No macro, syntax, notation, axiom, sorry.
-/
import Derived.Test.YgvaiwGreatChecked
import GoSem.Claim
import GoSem.ClaimJoined
import GoSem.ClaimMapViews
import Derived.JoinedTies
import Derived.KernelRfl
namespace Go.Proofs.YgvaiwGreat
/- THE CELL 'sum', in the pinned program and in every row, IS THE sha256 OF THE DUMP (.gsa) THAT YgvaiwGreatProg.lean LOADS. Nothing in Lean hashes anything: it is a label: what it is worth is what the hold of that sum in a sandbox is worth. -/
noncomputable def Hvai.pinned : Pinned := { name := "ygvaiwgreat", sum := "fd5a131824e675c43545418570128667a50c3a3aac6a40146a41d91518db888a", checked := Hvai.checked }
namespace Rows
def none {H : Type} : Left H := { results := [], args := [] }

/-- 'law.TowerEmpty': WHATEVER THE INPUT: true; the input reads as it did. -/
def towerEmptySpec : ChangeSpec := { name := "towerEmpty", fn := fun _ => fun
  | [] => { results := [.lit (.bool true)], args := [] }
  | _ => none }
def towerEmptyRow : OpenClaim := { program := "ygvaiwgreat", sum := "fd5a131824e675c43545418570128667a50c3a3aac6a40146a41d91518db888a", func := "yellow/law.TowerEmpty", spec := "towerEmpty", inPlace := ["math/bits.Add64", "math/bits.Sub64"], named := ["math/bits.divideError", "math/bits.overflowError"], apart := false }
def TowerEmptySaid : Prop := towerEmptyRow.holds Hvai.pinned (OpenSpec.ofChange towerEmptySpec)

/-- ITS FALSE NEIGHBOUR: 'it returns false'. Refute it at one input. -/
def towerEmptyWrong : ChangeSpec := { name := "towerEmpty", fn := fun _ => fun
  | [] => { results := [.lit (.bool false)], args := [] }
  | _ => none }
def TowerEmptyWrongFalsely : Prop := towerEmptyRow.holds Hvai.pinned (OpenSpec.ofChange towerEmptyWrong)

end Rows
end Go.Proofs.YgvaiwGreat
