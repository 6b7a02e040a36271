import Derived.Test.YgvajwGreatRows
import Derived.JoinedOf
import Derived.OpenShut
namespace Go.Proofs.YgvajwGreat.soundCold
theorem c1 : (laidOutB Hvaj.prog) = true := by kernel_rfl
theorem c2 : (mapsRowed Hvaj.prog) = true := by kernel_rfl
end Go.Proofs.YgvajwGreat.soundCold
