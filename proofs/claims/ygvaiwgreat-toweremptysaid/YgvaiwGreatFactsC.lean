import Derived.Test.YgvaiwGreatRows
import Derived.JoinedOf
import Derived.OpenShut
namespace Go.Proofs.YgvaiwGreat.towerEmpty
theorem c22 : ((Rows.towerEmptyRow.plainKeys == Hvai.prog.plainKeys)) = true := by kernel_rfl
theorem c24 : (Hvai.prog.stopsHeard) = true := by kernel_rfl
theorem c25 : (Hvai.prog.mayEnter) = true := by kernel_rfl
end Go.Proofs.YgvaiwGreat.towerEmpty
