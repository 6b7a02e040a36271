import Derived.Test.YgvaiwGreatRows
import Derived.JoinedOf
import Derived.OpenShut
namespace Go.Proofs.YgvaiwGreat.towerEmpty
theorem c10 : ((Rows.towerEmptyRow.unfollowed == Hvai.prog.unfollowed 3)) = true := by kernel_rfl
end Go.Proofs.YgvaiwGreat.towerEmpty
