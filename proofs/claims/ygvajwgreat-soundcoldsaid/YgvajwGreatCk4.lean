import Derived.Test.YgvajwGreatLit
import Derived.Test.YgvajwGreatTab
import Derived.KernelRfl
namespace Go.Proofs.YgvajwGreat.Ev
open Go.Proofs
theorem gCk4 : (and (callN (fnt Hvaj.prog) 58 en55.q 9 en55.cs en55.hin en55.ends) (and (callN (fnt Hvaj.prog) 58 en57.q 9 en57.cs en57.hin en57.ends) (and (callN (fnt Hvaj.prog) 58 en59.q 9 en59.cs en59.hin en59.ends) (and (callN (fnt Hvaj.prog) 58 en61.q 9 en61.cs en61.hin en61.ends) (and (callN (fnt Hvaj.prog) 58 en63.q 9 en63.cs en63.hin en63.ends) (and (callN (fnt Hvaj.prog) 58 en65.q 9 en65.cs en65.hin en65.ends) (callN (fnt Hvaj.prog) 58 en67.q 9 en67.cs en67.hin en67.ends))))))) = true := by kernel_rfl
theorem ok55 : callN (fnt Hvaj.prog) 58 en55.q 9 en55.cs en55.hin en55.ends = true := and_l (gCk4)
theorem ok57 : callN (fnt Hvaj.prog) 58 en57.q 9 en57.cs en57.hin en57.ends = true := and_l (and_r (gCk4))
theorem ok59 : callN (fnt Hvaj.prog) 58 en59.q 9 en59.cs en59.hin en59.ends = true := and_l (and_r (and_r (gCk4)))
theorem ok61 : callN (fnt Hvaj.prog) 58 en61.q 9 en61.cs en61.hin en61.ends = true := and_l (and_r (and_r (and_r (gCk4))))
theorem ok63 : callN (fnt Hvaj.prog) 58 en63.q 9 en63.cs en63.hin en63.ends = true := and_l (and_r (and_r (and_r (and_r (gCk4)))))
theorem ok65 : callN (fnt Hvaj.prog) 58 en65.q 9 en65.cs en65.hin en65.ends = true := and_l (and_r (and_r (and_r (and_r (and_r (gCk4))))))
theorem ok67 : callN (fnt Hvaj.prog) 58 en67.q 9 en67.cs en67.hin en67.ends = true := and_r (and_r (and_r (and_r (and_r (and_r (gCk4))))))
end Go.Proofs.YgvajwGreat.Ev
