import Derived.Test.YgvajwGreatLit
import Derived.Test.YgvajwGreatTab
import Derived.KernelRfl
namespace Go.Proofs.YgvajwGreat.Ev
open Go.Proofs
theorem gCk2 : (and (callN (fnt Hvaj.prog) 58 en27.q 9 en27.cs en27.hin en27.ends) (and (callN (fnt Hvaj.prog) 58 en29.q 9 en29.cs en29.hin en29.ends) (and (callN (fnt Hvaj.prog) 58 en31.q 9 en31.cs en31.hin en31.ends) (and (callN (fnt Hvaj.prog) 58 en33.q 9 en33.cs en33.hin en33.ends) (and (callN (fnt Hvaj.prog) 58 en35.q 9 en35.cs en35.hin en35.ends) (and (callN (fnt Hvaj.prog) 58 en37.q 9 en37.cs en37.hin en37.ends) (callN (fnt Hvaj.prog) 58 en39.q 9 en39.cs en39.hin en39.ends))))))) = true := by kernel_rfl
theorem ok27 : callN (fnt Hvaj.prog) 58 en27.q 9 en27.cs en27.hin en27.ends = true := and_l (gCk2)
theorem ok29 : callN (fnt Hvaj.prog) 58 en29.q 9 en29.cs en29.hin en29.ends = true := and_l (and_r (gCk2))
theorem ok31 : callN (fnt Hvaj.prog) 58 en31.q 9 en31.cs en31.hin en31.ends = true := and_l (and_r (and_r (gCk2)))
theorem ok33 : callN (fnt Hvaj.prog) 58 en33.q 9 en33.cs en33.hin en33.ends = true := and_l (and_r (and_r (and_r (gCk2))))
theorem ok35 : callN (fnt Hvaj.prog) 58 en35.q 9 en35.cs en35.hin en35.ends = true := and_l (and_r (and_r (and_r (and_r (gCk2)))))
theorem ok37 : callN (fnt Hvaj.prog) 58 en37.q 9 en37.cs en37.hin en37.ends = true := and_l (and_r (and_r (and_r (and_r (and_r (gCk2))))))
theorem ok39 : callN (fnt Hvaj.prog) 58 en39.q 9 en39.cs en39.hin en39.ends = true := and_r (and_r (and_r (and_r (and_r (and_r (gCk2))))))
end Go.Proofs.YgvajwGreat.Ev
