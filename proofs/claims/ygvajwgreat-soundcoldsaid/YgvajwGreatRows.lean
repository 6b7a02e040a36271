/-
  No cell of these rows narrows 'for every input' (looked for: loops, veiled, ifaces, maps, wideKeys, modest, calm, conditions, laid).
  DERIVED. THE GIVEN ROWS OF THIS SEAT. 1 by the template 'for every input the law returns true; each argument reads behind the call as it read before'; 0 by the template 'total and deterministic' (their statements: YgvajwGreatTotals.lean).
  GIVEN WITH THE SEED: the statements are not yours to turn. If you find one false, say at which input.
  Laid BY PROGRAM, IN A SANDBOX (cutbox-rows.mjs): the forced cells as the released guide's own fill.sh prints them over the translation b73bae80ae70d1d6… (all of the seat's roots in one cut). By AI agents, Wed Nov 11 2026. No macro, syntax, notation, axiom, sorry.
-/
import Derived.Test.YgvajwGreatChecked
import GoSem.Claim
import GoSem.ClaimJoined
import GoSem.ClaimMapViews
import Derived.JoinedTies
import Derived.KernelRfl
namespace Go.Proofs.YgvajwGreat
/- THE CELL 'sum', in the pinned program and in every row, IS THE sha256 OF THE DUMP (.gsa) THAT YgvajwGreatProg.lean LOADS. Nothing in Lean hashes anything: it is a label: what it is worth is what the hold of that sum in a sandbox is worth. -/
noncomputable def Hvaj.pinned : Pinned := { name := "ygvajwgreat", sum := "b73bae80ae70d1d6b04ba04e6bf4e1d0961ec0816334118c2b22eacf608cb360", checked := Hvaj.checked }
namespace Rows
def none {H : Type} : Left H := { results := [], args := [] }

/-- 'law.SoundCold': WHATEVER THE INPUT: true; the input reads as it did. -/
def soundColdSpec : ChangeSpec := { name := "soundCold", fn := fun _ => fun
  | [] => { results := [.lit (.bool true)], args := [] }
  | _ => none }
def soundColdRow : OpenClaim := { program := "ygvajwgreat", sum := "b73bae80ae70d1d6b04ba04e6bf4e1d0961ec0816334118c2b22eacf608cb360", func := "yellow/law.SoundCold", spec := "soundCold", inPlace := ["math/bits.Add64", "math/bits.Sub64"], named := ["math/bits.divideError", "math/bits.overflowError"], apart := false }
def SoundColdSaid : Prop := soundColdRow.holds Hvaj.pinned (OpenSpec.ofChange soundColdSpec)

/-- ITS FALSE NEIGHBOUR: 'it returns false'. Refute it at one input. -/
def soundColdWrong : ChangeSpec := { name := "soundCold", fn := fun _ => fun
  | [] => { results := [.lit (.bool false)], args := [] }
  | _ => none }
def SoundColdWrongFalsely : Prop := soundColdRow.holds Hvaj.pinned (OpenSpec.ofChange soundColdWrong)

end Rows
end Go.Proofs.YgvajwGreat
