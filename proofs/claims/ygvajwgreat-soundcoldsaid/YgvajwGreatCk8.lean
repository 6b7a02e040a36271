import Derived.Test.YgvajwGreatLit
import Derived.Test.YgvajwGreatTab
import Derived.KernelRfl
namespace Go.Proofs.YgvajwGreat.Ev
open Go.Proofs
theorem gCk8 : (and (callN (fnt Hvaj.prog) 58 en111.q 9 en111.cs en111.hin en111.ends) (and (callN (fnt Hvaj.prog) 58 en113.q 9 en113.cs en113.hin en113.ends) (and (callN (fnt Hvaj.prog) 58 en115.q 9 en115.cs en115.hin en115.ends) (and (callN (fnt Hvaj.prog) 58 en117.q 9 en117.cs en117.hin en117.ends) (and (callN (fnt Hvaj.prog) 58 en119.q 9 en119.cs en119.hin en119.ends) (and (callN (fnt Hvaj.prog) 58 en121.q 9 en121.cs en121.hin en121.ends) (callN (fnt Hvaj.prog) 58 en123.q 9 en123.cs en123.hin en123.ends))))))) = true := by kernel_rfl
theorem ok111 : callN (fnt Hvaj.prog) 58 en111.q 9 en111.cs en111.hin en111.ends = true := and_l (gCk8)
theorem ok113 : callN (fnt Hvaj.prog) 58 en113.q 9 en113.cs en113.hin en113.ends = true := and_l (and_r (gCk8))
theorem ok115 : callN (fnt Hvaj.prog) 58 en115.q 9 en115.cs en115.hin en115.ends = true := and_l (and_r (and_r (gCk8)))
theorem ok117 : callN (fnt Hvaj.prog) 58 en117.q 9 en117.cs en117.hin en117.ends = true := and_l (and_r (and_r (and_r (gCk8))))
theorem ok119 : callN (fnt Hvaj.prog) 58 en119.q 9 en119.cs en119.hin en119.ends = true := and_l (and_r (and_r (and_r (and_r (gCk8)))))
theorem ok121 : callN (fnt Hvaj.prog) 58 en121.q 9 en121.cs en121.hin en121.ends = true := and_l (and_r (and_r (and_r (and_r (and_r (gCk8))))))
theorem ok123 : callN (fnt Hvaj.prog) 58 en123.q 9 en123.cs en123.hin en123.ends = true := and_r (and_r (and_r (and_r (and_r (and_r (gCk8))))))
end Go.Proofs.YgvajwGreat.Ev
