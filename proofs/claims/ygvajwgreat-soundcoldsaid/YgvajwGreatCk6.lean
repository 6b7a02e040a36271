import Derived.Test.YgvajwGreatLit
import Derived.Test.YgvajwGreatTab
import Derived.KernelRfl
namespace Go.Proofs.YgvajwGreat.Ev
open Go.Proofs
theorem gCk6 : (and (callN (fnt Hvaj.prog) 58 en83.q 9 en83.cs en83.hin en83.ends) (and (callN (fnt Hvaj.prog) 58 en85.q 9 en85.cs en85.hin en85.ends) (and (callN (fnt Hvaj.prog) 58 en87.q 9 en87.cs en87.hin en87.ends) (and (callN (fnt Hvaj.prog) 58 en89.q 9 en89.cs en89.hin en89.ends) (and (callN (fnt Hvaj.prog) 58 en91.q 9 en91.cs en91.hin en91.ends) (and (callN (fnt Hvaj.prog) 58 en93.q 9 en93.cs en93.hin en93.ends) (callN (fnt Hvaj.prog) 58 en95.q 9 en95.cs en95.hin en95.ends))))))) = true := by kernel_rfl
theorem ok83 : callN (fnt Hvaj.prog) 58 en83.q 9 en83.cs en83.hin en83.ends = true := and_l (gCk6)
theorem ok85 : callN (fnt Hvaj.prog) 58 en85.q 9 en85.cs en85.hin en85.ends = true := and_l (and_r (gCk6))
theorem ok87 : callN (fnt Hvaj.prog) 58 en87.q 9 en87.cs en87.hin en87.ends = true := and_l (and_r (and_r (gCk6)))
theorem ok89 : callN (fnt Hvaj.prog) 58 en89.q 9 en89.cs en89.hin en89.ends = true := and_l (and_r (and_r (and_r (gCk6))))
theorem ok91 : callN (fnt Hvaj.prog) 58 en91.q 9 en91.cs en91.hin en91.ends = true := and_l (and_r (and_r (and_r (and_r (gCk6)))))
theorem ok93 : callN (fnt Hvaj.prog) 58 en93.q 9 en93.cs en93.hin en93.ends = true := and_l (and_r (and_r (and_r (and_r (and_r (gCk6))))))
theorem ok95 : callN (fnt Hvaj.prog) 58 en95.q 9 en95.cs en95.hin en95.ends = true := and_r (and_r (and_r (and_r (and_r (and_r (gCk6))))))
end Go.Proofs.YgvajwGreat.Ev
