import Derived.Test.YgvajwGreatLit
import Derived.Test.YgvajwGreatTab
import Derived.KernelRfl
namespace Go.Proofs.YgvajwGreat.Ev
open Go.Proofs
theorem gCk3 : (and (callN (fnt Hvaj.prog) 58 en41.q 9 en41.cs en41.hin en41.ends) (and (callN (fnt Hvaj.prog) 58 en43.q 9 en43.cs en43.hin en43.ends) (and (callN (fnt Hvaj.prog) 58 en45.q 9 en45.cs en45.hin en45.ends) (and (callN (fnt Hvaj.prog) 58 en47.q 9 en47.cs en47.hin en47.ends) (and (callN (fnt Hvaj.prog) 58 en49.q 9 en49.cs en49.hin en49.ends) (and (callN (fnt Hvaj.prog) 58 en51.q 9 en51.cs en51.hin en51.ends) (callN (fnt Hvaj.prog) 58 en53.q 9 en53.cs en53.hin en53.ends))))))) = true := by kernel_rfl
theorem ok41 : callN (fnt Hvaj.prog) 58 en41.q 9 en41.cs en41.hin en41.ends = true := and_l (gCk3)
theorem ok43 : callN (fnt Hvaj.prog) 58 en43.q 9 en43.cs en43.hin en43.ends = true := and_l (and_r (gCk3))
theorem ok45 : callN (fnt Hvaj.prog) 58 en45.q 9 en45.cs en45.hin en45.ends = true := and_l (and_r (and_r (gCk3)))
theorem ok47 : callN (fnt Hvaj.prog) 58 en47.q 9 en47.cs en47.hin en47.ends = true := and_l (and_r (and_r (and_r (gCk3))))
theorem ok49 : callN (fnt Hvaj.prog) 58 en49.q 9 en49.cs en49.hin en49.ends = true := and_l (and_r (and_r (and_r (and_r (gCk3)))))
theorem ok51 : callN (fnt Hvaj.prog) 58 en51.q 9 en51.cs en51.hin en51.ends = true := and_l (and_r (and_r (and_r (and_r (and_r (gCk3))))))
theorem ok53 : callN (fnt Hvaj.prog) 58 en53.q 9 en53.cs en53.hin en53.ends = true := and_r (and_r (and_r (and_r (and_r (and_r (gCk3))))))
end Go.Proofs.YgvajwGreat.Ev
