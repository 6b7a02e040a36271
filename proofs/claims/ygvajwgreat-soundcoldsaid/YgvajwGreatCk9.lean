import Derived.Test.YgvajwGreatLit
import Derived.Test.YgvajwGreatTab
import Derived.KernelRfl
namespace Go.Proofs.YgvajwGreat.Ev
open Go.Proofs
theorem gCk9 : (and (callN (fnt Hvaj.prog) 58 en125.q 9 en125.cs en125.hin en125.ends) (callN (fnt Hvaj.prog) 58 en126.q 9 en126.cs en126.hin en126.ends)) = true := by kernel_rfl
theorem ok125 : callN (fnt Hvaj.prog) 58 en125.q 9 en125.cs en125.hin en125.ends = true := and_l (gCk9)
theorem ok126 : callN (fnt Hvaj.prog) 58 en126.q 9 en126.cs en126.hin en126.ends = true := and_r (gCk9)
end Go.Proofs.YgvajwGreat.Ev
