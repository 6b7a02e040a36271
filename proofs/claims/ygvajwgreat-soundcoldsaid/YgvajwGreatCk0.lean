import Derived.Test.YgvajwGreatLit
import Derived.Test.YgvajwGreatTab
import Derived.KernelRfl
namespace Go.Proofs.YgvajwGreat.Ev
open Go.Proofs
theorem gCk0 : (and (callN (fnt Hvaj.prog) 58 en0.q 9 en0.cs en0.hin en0.ends) (and (callN (fnt Hvaj.prog) 58 en1.q 9 en1.cs en1.hin en1.ends) (and (callN (fnt Hvaj.prog) 58 en3.q 9 en3.cs en3.hin en3.ends) (and (callN (fnt Hvaj.prog) 58 en5.q 9 en5.cs en5.hin en5.ends) (and (callN (fnt Hvaj.prog) 58 en7.q 9 en7.cs en7.hin en7.ends) (and (callN (fnt Hvaj.prog) 58 en9.q 9 en9.cs en9.hin en9.ends) (callN (fnt Hvaj.prog) 58 en11.q 9 en11.cs en11.hin en11.ends))))))) = true := by kernel_rfl
theorem ok0 : callN (fnt Hvaj.prog) 58 en0.q 9 en0.cs en0.hin en0.ends = true := and_l (gCk0)
theorem ok1 : callN (fnt Hvaj.prog) 58 en1.q 9 en1.cs en1.hin en1.ends = true := and_l (and_r (gCk0))
theorem ok3 : callN (fnt Hvaj.prog) 58 en3.q 9 en3.cs en3.hin en3.ends = true := and_l (and_r (and_r (gCk0)))
theorem ok5 : callN (fnt Hvaj.prog) 58 en5.q 9 en5.cs en5.hin en5.ends = true := and_l (and_r (and_r (and_r (gCk0))))
theorem ok7 : callN (fnt Hvaj.prog) 58 en7.q 9 en7.cs en7.hin en7.ends = true := and_l (and_r (and_r (and_r (and_r (gCk0)))))
theorem ok9 : callN (fnt Hvaj.prog) 58 en9.q 9 en9.cs en9.hin en9.ends = true := and_l (and_r (and_r (and_r (and_r (and_r (gCk0))))))
theorem ok11 : callN (fnt Hvaj.prog) 58 en11.q 9 en11.cs en11.hin en11.ends = true := and_r (and_r (and_r (and_r (and_r (and_r (gCk0))))))
end Go.Proofs.YgvajwGreat.Ev
