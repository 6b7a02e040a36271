import Derived.Test.YgvaiwGreatRows
import Derived.JoinedOf
import Derived.OpenShut
namespace Go.Proofs.YgvaiwGreat.towerEmpty
theorem c9 : ((Rows.towerEmptyRow.inPlace == Hvai.prog.inPlace 3)) = true := by kernel_rfl
end Go.Proofs.YgvaiwGreat.towerEmpty
