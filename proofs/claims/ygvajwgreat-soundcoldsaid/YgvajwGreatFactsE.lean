import Derived.Test.YgvajwGreatRows
import Derived.JoinedOf
import Derived.OpenShut
namespace Go.Proofs.YgvajwGreat.soundCold
theorem c10 : ((Rows.soundColdRow.unfollowed == Hvaj.prog.unfollowed 3)) = true := by kernel_rfl
end Go.Proofs.YgvajwGreat.soundCold
