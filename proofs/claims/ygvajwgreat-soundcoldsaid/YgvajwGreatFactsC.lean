import Derived.Test.YgvajwGreatRows
import Derived.JoinedOf
import Derived.OpenShut
namespace Go.Proofs.YgvajwGreat.soundCold
theorem c22 : ((Rows.soundColdRow.plainKeys == Hvaj.prog.plainKeys)) = true := by kernel_rfl
theorem c24 : (Hvaj.prog.stopsHeard) = true := by kernel_rfl
theorem c25 : (Hvaj.prog.mayEnter) = true := by kernel_rfl
end Go.Proofs.YgvajwGreat.soundCold
