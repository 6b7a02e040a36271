import Derived.Test.YgvaiwGreatRows
import Derived.JoinedOf
import Derived.OpenShut
namespace Go.Proofs.YgvaiwGreat.towerEmpty
theorem c1 : (laidOutB Hvai.prog) = true := by kernel_rfl
theorem c2 : (mapsRowed Hvai.prog) = true := by kernel_rfl
end Go.Proofs.YgvaiwGreat.towerEmpty
