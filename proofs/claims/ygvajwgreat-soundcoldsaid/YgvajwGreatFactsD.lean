import Derived.Test.YgvajwGreatRows
import Derived.JoinedOf
import Derived.OpenShut
namespace Go.Proofs.YgvajwGreat.soundCold
theorem c9 : ((Rows.soundColdRow.inPlace == Hvaj.prog.inPlace 3)) = true := by kernel_rfl
end Go.Proofs.YgvajwGreat.soundCold
