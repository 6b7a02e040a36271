import Derived.Test.YgvajwGreatLit
import Derived.Test.YgvajwGreatTab
import Derived.KernelRfl
namespace Go.Proofs.YgvajwGreat.Ev
open Go.Proofs
theorem gSt1 : (and (callN (fnt Hvaj.prog) 58 en44.q 12 en44.cs en44.hin en44.ends) (and (callN (fnt Hvaj.prog) 58 en46.q 12 en46.cs en46.hin en46.ends) (and (callN (fnt Hvaj.prog) 58 en48.q 12 en48.cs en48.hin en48.ends) (and (callN (fnt Hvaj.prog) 58 en50.q 12 en50.cs en50.hin en50.ends) (and (callN (fnt Hvaj.prog) 58 en52.q 12 en52.cs en52.hin en52.ends) (and (callN (fnt Hvaj.prog) 58 en54.q 12 en54.cs en54.hin en54.ends) (and (callN (fnt Hvaj.prog) 58 en56.q 12 en56.cs en56.hin en56.ends) (and (callN (fnt Hvaj.prog) 58 en58.q 12 en58.cs en58.hin en58.ends) (and (callN (fnt Hvaj.prog) 58 en60.q 12 en60.cs en60.hin en60.ends) (and (callN (fnt Hvaj.prog) 58 en62.q 12 en62.cs en62.hin en62.ends) (and (callN (fnt Hvaj.prog) 58 en64.q 12 en64.cs en64.hin en64.ends) (and (callN (fnt Hvaj.prog) 58 en66.q 12 en66.cs en66.hin en66.ends) (and (callN (fnt Hvaj.prog) 58 en68.q 12 en68.cs en68.hin en68.ends) (and (callN (fnt Hvaj.prog) 58 en70.q 12 en70.cs en70.hin en70.ends) (and (callN (fnt Hvaj.prog) 58 en72.q 12 en72.cs en72.hin en72.ends) (and (callN (fnt Hvaj.prog) 58 en74.q 12 en74.cs en74.hin en74.ends) (and (callN (fnt Hvaj.prog) 58 en76.q 12 en76.cs en76.hin en76.ends) (and (callN (fnt Hvaj.prog) 58 en78.q 12 en78.cs en78.hin en78.ends) (and (callN (fnt Hvaj.prog) 58 en80.q 12 en80.cs en80.hin en80.ends) (and (callN (fnt Hvaj.prog) 58 en82.q 12 en82.cs en82.hin en82.ends) (callN (fnt Hvaj.prog) 58 en84.q 12 en84.cs en84.hin en84.ends))))))))))))))))))))) = true := by kernel_rfl
theorem ok44 : callN (fnt Hvaj.prog) 58 en44.q 12 en44.cs en44.hin en44.ends = true := and_l (gSt1)
theorem ok46 : callN (fnt Hvaj.prog) 58 en46.q 12 en46.cs en46.hin en46.ends = true := and_l (and_r (gSt1))
theorem ok48 : callN (fnt Hvaj.prog) 58 en48.q 12 en48.cs en48.hin en48.ends = true := and_l (and_r (and_r (gSt1)))
theorem ok50 : callN (fnt Hvaj.prog) 58 en50.q 12 en50.cs en50.hin en50.ends = true := and_l (and_r (and_r (and_r (gSt1))))
theorem ok52 : callN (fnt Hvaj.prog) 58 en52.q 12 en52.cs en52.hin en52.ends = true := and_l (and_r (and_r (and_r (and_r (gSt1)))))
theorem ok54 : callN (fnt Hvaj.prog) 58 en54.q 12 en54.cs en54.hin en54.ends = true := and_l (and_r (and_r (and_r (and_r (and_r (gSt1))))))
theorem ok56 : callN (fnt Hvaj.prog) 58 en56.q 12 en56.cs en56.hin en56.ends = true := and_l (and_r (and_r (and_r (and_r (and_r (and_r (gSt1)))))))
theorem ok58 : callN (fnt Hvaj.prog) 58 en58.q 12 en58.cs en58.hin en58.ends = true := and_l (and_r (and_r (and_r (and_r (and_r (and_r (and_r (gSt1))))))))
theorem ok60 : callN (fnt Hvaj.prog) 58 en60.q 12 en60.cs en60.hin en60.ends = true := and_l (and_r (and_r (and_r (and_r (and_r (and_r (and_r (and_r (gSt1)))))))))
theorem ok62 : callN (fnt Hvaj.prog) 58 en62.q 12 en62.cs en62.hin en62.ends = true := and_l (and_r (and_r (and_r (and_r (and_r (and_r (and_r (and_r (and_r (gSt1))))))))))
theorem ok64 : callN (fnt Hvaj.prog) 58 en64.q 12 en64.cs en64.hin en64.ends = true := and_l (and_r (and_r (and_r (and_r (and_r (and_r (and_r (and_r (and_r (and_r (gSt1)))))))))))
theorem ok66 : callN (fnt Hvaj.prog) 58 en66.q 12 en66.cs en66.hin en66.ends = true := and_l (and_r (and_r (and_r (and_r (and_r (and_r (and_r (and_r (and_r (and_r (and_r (gSt1))))))))))))
theorem ok68 : callN (fnt Hvaj.prog) 58 en68.q 12 en68.cs en68.hin en68.ends = true := and_l (and_r (and_r (and_r (and_r (and_r (and_r (and_r (and_r (and_r (and_r (and_r (and_r (gSt1)))))))))))))
theorem ok70 : callN (fnt Hvaj.prog) 58 en70.q 12 en70.cs en70.hin en70.ends = true := and_l (and_r (and_r (and_r (and_r (and_r (and_r (and_r (and_r (and_r (and_r (and_r (and_r (and_r (gSt1))))))))))))))
theorem ok72 : callN (fnt Hvaj.prog) 58 en72.q 12 en72.cs en72.hin en72.ends = true := and_l (and_r (and_r (and_r (and_r (and_r (and_r (and_r (and_r (and_r (and_r (and_r (and_r (and_r (and_r (gSt1)))))))))))))))
theorem ok74 : callN (fnt Hvaj.prog) 58 en74.q 12 en74.cs en74.hin en74.ends = true := and_l (and_r (and_r (and_r (and_r (and_r (and_r (and_r (and_r (and_r (and_r (and_r (and_r (and_r (and_r (and_r (gSt1))))))))))))))))
theorem ok76 : callN (fnt Hvaj.prog) 58 en76.q 12 en76.cs en76.hin en76.ends = true := and_l (and_r (and_r (and_r (and_r (and_r (and_r (and_r (and_r (and_r (and_r (and_r (and_r (and_r (and_r (and_r (and_r (gSt1)))))))))))))))))
theorem ok78 : callN (fnt Hvaj.prog) 58 en78.q 12 en78.cs en78.hin en78.ends = true := and_l (and_r (and_r (and_r (and_r (and_r (and_r (and_r (and_r (and_r (and_r (and_r (and_r (and_r (and_r (and_r (and_r (and_r (gSt1))))))))))))))))))
theorem ok80 : callN (fnt Hvaj.prog) 58 en80.q 12 en80.cs en80.hin en80.ends = true := and_l (and_r (and_r (and_r (and_r (and_r (and_r (and_r (and_r (and_r (and_r (and_r (and_r (and_r (and_r (and_r (and_r (and_r (and_r (gSt1)))))))))))))))))))
theorem ok82 : callN (fnt Hvaj.prog) 58 en82.q 12 en82.cs en82.hin en82.ends = true := and_l (and_r (and_r (and_r (and_r (and_r (and_r (and_r (and_r (and_r (and_r (and_r (and_r (and_r (and_r (and_r (and_r (and_r (and_r (and_r (gSt1))))))))))))))))))))
theorem ok84 : callN (fnt Hvaj.prog) 58 en84.q 12 en84.cs en84.hin en84.ends = true := and_r (and_r (and_r (and_r (and_r (and_r (and_r (and_r (and_r (and_r (and_r (and_r (and_r (and_r (and_r (and_r (and_r (and_r (and_r (and_r (gSt1))))))))))))))))))))
end Go.Proofs.YgvajwGreat.Ev
