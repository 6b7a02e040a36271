import Derived.Test.YgvajwGreatLit
import Derived.Test.YgvajwGreatTab
import Derived.KernelRfl
namespace Go.Proofs.YgvajwGreat.Ev
open Go.Proofs
theorem gCk5 : (and (callN (fnt Hvaj.prog) 58 en69.q 9 en69.cs en69.hin en69.ends) (and (callN (fnt Hvaj.prog) 58 en71.q 9 en71.cs en71.hin en71.ends) (and (callN (fnt Hvaj.prog) 58 en73.q 9 en73.cs en73.hin en73.ends) (and (callN (fnt Hvaj.prog) 58 en75.q 9 en75.cs en75.hin en75.ends) (and (callN (fnt Hvaj.prog) 58 en77.q 9 en77.cs en77.hin en77.ends) (and (callN (fnt Hvaj.prog) 58 en79.q 9 en79.cs en79.hin en79.ends) (callN (fnt Hvaj.prog) 58 en81.q 9 en81.cs en81.hin en81.ends))))))) = true := by kernel_rfl
theorem ok69 : callN (fnt Hvaj.prog) 58 en69.q 9 en69.cs en69.hin en69.ends = true := and_l (gCk5)
theorem ok71 : callN (fnt Hvaj.prog) 58 en71.q 9 en71.cs en71.hin en71.ends = true := and_l (and_r (gCk5))
theorem ok73 : callN (fnt Hvaj.prog) 58 en73.q 9 en73.cs en73.hin en73.ends = true := and_l (and_r (and_r (gCk5)))
theorem ok75 : callN (fnt Hvaj.prog) 58 en75.q 9 en75.cs en75.hin en75.ends = true := and_l (and_r (and_r (and_r (gCk5))))
theorem ok77 : callN (fnt Hvaj.prog) 58 en77.q 9 en77.cs en77.hin en77.ends = true := and_l (and_r (and_r (and_r (and_r (gCk5)))))
theorem ok79 : callN (fnt Hvaj.prog) 58 en79.q 9 en79.cs en79.hin en79.ends = true := and_l (and_r (and_r (and_r (and_r (and_r (gCk5))))))
theorem ok81 : callN (fnt Hvaj.prog) 58 en81.q 9 en81.cs en81.hin en81.ends = true := and_r (and_r (and_r (and_r (and_r (and_r (gCk5))))))
end Go.Proofs.YgvajwGreat.Ev
