import Derived.Test.YgvaiwGreatRows
import Derived.JoinedOf
import Derived.OpenShut
namespace Go.Proofs.YgvaiwGreat.towerEmpty
theorem c12 : ((Rows.towerEmptyRow.named == Hvai.prog.varsNamed 3)) = true := by kernel_rfl
end Go.Proofs.YgvaiwGreat.towerEmpty
