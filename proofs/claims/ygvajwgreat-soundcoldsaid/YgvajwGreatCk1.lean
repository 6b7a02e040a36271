import Derived.Test.YgvajwGreatLit
import Derived.Test.YgvajwGreatTab
import Derived.KernelRfl
namespace Go.Proofs.YgvajwGreat.Ev
open Go.Proofs
theorem gCk1 : (and (callN (fnt Hvaj.prog) 58 en13.q 9 en13.cs en13.hin en13.ends) (and (callN (fnt Hvaj.prog) 58 en15.q 9 en15.cs en15.hin en15.ends) (and (callN (fnt Hvaj.prog) 58 en17.q 9 en17.cs en17.hin en17.ends) (and (callN (fnt Hvaj.prog) 58 en19.q 9 en19.cs en19.hin en19.ends) (and (callN (fnt Hvaj.prog) 58 en21.q 9 en21.cs en21.hin en21.ends) (and (callN (fnt Hvaj.prog) 58 en23.q 9 en23.cs en23.hin en23.ends) (callN (fnt Hvaj.prog) 58 en25.q 9 en25.cs en25.hin en25.ends))))))) = true := by kernel_rfl
theorem ok13 : callN (fnt Hvaj.prog) 58 en13.q 9 en13.cs en13.hin en13.ends = true := and_l (gCk1)
theorem ok15 : callN (fnt Hvaj.prog) 58 en15.q 9 en15.cs en15.hin en15.ends = true := and_l (and_r (gCk1))
theorem ok17 : callN (fnt Hvaj.prog) 58 en17.q 9 en17.cs en17.hin en17.ends = true := and_l (and_r (and_r (gCk1)))
theorem ok19 : callN (fnt Hvaj.prog) 58 en19.q 9 en19.cs en19.hin en19.ends = true := and_l (and_r (and_r (and_r (gCk1))))
theorem ok21 : callN (fnt Hvaj.prog) 58 en21.q 9 en21.cs en21.hin en21.ends = true := and_l (and_r (and_r (and_r (and_r (gCk1)))))
theorem ok23 : callN (fnt Hvaj.prog) 58 en23.q 9 en23.cs en23.hin en23.ends = true := and_l (and_r (and_r (and_r (and_r (and_r (gCk1))))))
theorem ok25 : callN (fnt Hvaj.prog) 58 en25.q 9 en25.cs en25.hin en25.ends = true := and_r (and_r (and_r (and_r (and_r (and_r (gCk1))))))
end Go.Proofs.YgvajwGreat.Ev
