import Derived.Test.YgvajwGreatLit
import Derived.Test.YgvajwGreatTab
import Derived.KernelRfl
namespace Go.Proofs.YgvajwGreat.Ev
open Go.Proofs
theorem gCk7 : (and (callN (fnt Hvaj.prog) 58 en97.q 9 en97.cs en97.hin en97.ends) (and (callN (fnt Hvaj.prog) 58 en99.q 9 en99.cs en99.hin en99.ends) (and (callN (fnt Hvaj.prog) 58 en101.q 9 en101.cs en101.hin en101.ends) (and (callN (fnt Hvaj.prog) 58 en103.q 9 en103.cs en103.hin en103.ends) (and (callN (fnt Hvaj.prog) 58 en105.q 9 en105.cs en105.hin en105.ends) (and (callN (fnt Hvaj.prog) 58 en107.q 9 en107.cs en107.hin en107.ends) (callN (fnt Hvaj.prog) 58 en109.q 9 en109.cs en109.hin en109.ends))))))) = true := by kernel_rfl
theorem ok97 : callN (fnt Hvaj.prog) 58 en97.q 9 en97.cs en97.hin en97.ends = true := and_l (gCk7)
theorem ok99 : callN (fnt Hvaj.prog) 58 en99.q 9 en99.cs en99.hin en99.ends = true := and_l (and_r (gCk7))
theorem ok101 : callN (fnt Hvaj.prog) 58 en101.q 9 en101.cs en101.hin en101.ends = true := and_l (and_r (and_r (gCk7)))
theorem ok103 : callN (fnt Hvaj.prog) 58 en103.q 9 en103.cs en103.hin en103.ends = true := and_l (and_r (and_r (and_r (gCk7))))
theorem ok105 : callN (fnt Hvaj.prog) 58 en105.q 9 en105.cs en105.hin en105.ends = true := and_l (and_r (and_r (and_r (and_r (gCk7)))))
theorem ok107 : callN (fnt Hvaj.prog) 58 en107.q 9 en107.cs en107.hin en107.ends = true := and_l (and_r (and_r (and_r (and_r (and_r (gCk7))))))
theorem ok109 : callN (fnt Hvaj.prog) 58 en109.q 9 en109.cs en109.hin en109.ends = true := and_r (and_r (and_r (and_r (and_r (and_r (gCk7))))))
end Go.Proofs.YgvajwGreat.Ev
