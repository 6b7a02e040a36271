import Derived.Test.YgvajwGreatRows
import Derived.JoinedOf
import Derived.OpenShut
namespace Go.Proofs.YgvajwGreat.soundCold
theorem c12 : ((Rows.soundColdRow.named == Hvaj.prog.varsNamed 3)) = true := by kernel_rfl
end Go.Proofs.YgvajwGreat.soundCold
