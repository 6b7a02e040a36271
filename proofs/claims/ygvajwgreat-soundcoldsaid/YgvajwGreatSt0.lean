import Derived.Test.YgvajwGreatLit
import Derived.Test.YgvajwGreatTab
import Derived.KernelRfl
namespace Go.Proofs.YgvajwGreat.Ev
open Go.Proofs
theorem gSt0 : (and (callN (fnt Hvaj.prog) 58 en2.q 12 en2.cs en2.hin en2.ends) (and (callN (fnt Hvaj.prog) 58 en4.q 12 en4.cs en4.hin en4.ends) (and (callN (fnt Hvaj.prog) 58 en6.q 12 en6.cs en6.hin en6.ends) (and (callN (fnt Hvaj.prog) 58 en8.q 12 en8.cs en8.hin en8.ends) (and (callN (fnt Hvaj.prog) 58 en10.q 12 en10.cs en10.hin en10.ends) (and (callN (fnt Hvaj.prog) 58 en12.q 12 en12.cs en12.hin en12.ends) (and (callN (fnt Hvaj.prog) 58 en14.q 12 en14.cs en14.hin en14.ends) (and (callN (fnt Hvaj.prog) 58 en16.q 12 en16.cs en16.hin en16.ends) (and (callN (fnt Hvaj.prog) 58 en18.q 12 en18.cs en18.hin en18.ends) (and (callN (fnt Hvaj.prog) 58 en20.q 12 en20.cs en20.hin en20.ends) (and (callN (fnt Hvaj.prog) 58 en22.q 12 en22.cs en22.hin en22.ends) (and (callN (fnt Hvaj.prog) 58 en24.q 12 en24.cs en24.hin en24.ends) (and (callN (fnt Hvaj.prog) 58 en26.q 12 en26.cs en26.hin en26.ends) (and (callN (fnt Hvaj.prog) 58 en28.q 12 en28.cs en28.hin en28.ends) (and (callN (fnt Hvaj.prog) 58 en30.q 12 en30.cs en30.hin en30.ends) (and (callN (fnt Hvaj.prog) 58 en32.q 12 en32.cs en32.hin en32.ends) (and (callN (fnt Hvaj.prog) 58 en34.q 12 en34.cs en34.hin en34.ends) (and (callN (fnt Hvaj.prog) 58 en36.q 12 en36.cs en36.hin en36.ends) (and (callN (fnt Hvaj.prog) 58 en38.q 12 en38.cs en38.hin en38.ends) (and (callN (fnt Hvaj.prog) 58 en40.q 12 en40.cs en40.hin en40.ends) (callN (fnt Hvaj.prog) 58 en42.q 12 en42.cs en42.hin en42.ends))))))))))))))))))))) = true := by kernel_rfl
theorem ok2 : callN (fnt Hvaj.prog) 58 en2.q 12 en2.cs en2.hin en2.ends = true := and_l (gSt0)
theorem ok4 : callN (fnt Hvaj.prog) 58 en4.q 12 en4.cs en4.hin en4.ends = true := and_l (and_r (gSt0))
theorem ok6 : callN (fnt Hvaj.prog) 58 en6.q 12 en6.cs en6.hin en6.ends = true := and_l (and_r (and_r (gSt0)))
theorem ok8 : callN (fnt Hvaj.prog) 58 en8.q 12 en8.cs en8.hin en8.ends = true := and_l (and_r (and_r (and_r (gSt0))))
theorem ok10 : callN (fnt Hvaj.prog) 58 en10.q 12 en10.cs en10.hin en10.ends = true := and_l (and_r (and_r (and_r (and_r (gSt0)))))
theorem ok12 : callN (fnt Hvaj.prog) 58 en12.q 12 en12.cs en12.hin en12.ends = true := and_l (and_r (and_r (and_r (and_r (and_r (gSt0))))))
theorem ok14 : callN (fnt Hvaj.prog) 58 en14.q 12 en14.cs en14.hin en14.ends = true := and_l (and_r (and_r (and_r (and_r (and_r (and_r (gSt0)))))))
theorem ok16 : callN (fnt Hvaj.prog) 58 en16.q 12 en16.cs en16.hin en16.ends = true := and_l (and_r (and_r (and_r (and_r (and_r (and_r (and_r (gSt0))))))))
theorem ok18 : callN (fnt Hvaj.prog) 58 en18.q 12 en18.cs en18.hin en18.ends = true := and_l (and_r (and_r (and_r (and_r (and_r (and_r (and_r (and_r (gSt0)))))))))
theorem ok20 : callN (fnt Hvaj.prog) 58 en20.q 12 en20.cs en20.hin en20.ends = true := and_l (and_r (and_r (and_r (and_r (and_r (and_r (and_r (and_r (and_r (gSt0))))))))))
theorem ok22 : callN (fnt Hvaj.prog) 58 en22.q 12 en22.cs en22.hin en22.ends = true := and_l (and_r (and_r (and_r (and_r (and_r (and_r (and_r (and_r (and_r (and_r (gSt0)))))))))))
theorem ok24 : callN (fnt Hvaj.prog) 58 en24.q 12 en24.cs en24.hin en24.ends = true := and_l (and_r (and_r (and_r (and_r (and_r (and_r (and_r (and_r (and_r (and_r (and_r (gSt0))))))))))))
theorem ok26 : callN (fnt Hvaj.prog) 58 en26.q 12 en26.cs en26.hin en26.ends = true := and_l (and_r (and_r (and_r (and_r (and_r (and_r (and_r (and_r (and_r (and_r (and_r (and_r (gSt0)))))))))))))
theorem ok28 : callN (fnt Hvaj.prog) 58 en28.q 12 en28.cs en28.hin en28.ends = true := and_l (and_r (and_r (and_r (and_r (and_r (and_r (and_r (and_r (and_r (and_r (and_r (and_r (and_r (gSt0))))))))))))))
theorem ok30 : callN (fnt Hvaj.prog) 58 en30.q 12 en30.cs en30.hin en30.ends = true := and_l (and_r (and_r (and_r (and_r (and_r (and_r (and_r (and_r (and_r (and_r (and_r (and_r (and_r (and_r (gSt0)))))))))))))))
theorem ok32 : callN (fnt Hvaj.prog) 58 en32.q 12 en32.cs en32.hin en32.ends = true := and_l (and_r (and_r (and_r (and_r (and_r (and_r (and_r (and_r (and_r (and_r (and_r (and_r (and_r (and_r (and_r (gSt0))))))))))))))))
theorem ok34 : callN (fnt Hvaj.prog) 58 en34.q 12 en34.cs en34.hin en34.ends = true := and_l (and_r (and_r (and_r (and_r (and_r (and_r (and_r (and_r (and_r (and_r (and_r (and_r (and_r (and_r (and_r (and_r (gSt0)))))))))))))))))
theorem ok36 : callN (fnt Hvaj.prog) 58 en36.q 12 en36.cs en36.hin en36.ends = true := and_l (and_r (and_r (and_r (and_r (and_r (and_r (and_r (and_r (and_r (and_r (and_r (and_r (and_r (and_r (and_r (and_r (and_r (gSt0))))))))))))))))))
theorem ok38 : callN (fnt Hvaj.prog) 58 en38.q 12 en38.cs en38.hin en38.ends = true := and_l (and_r (and_r (and_r (and_r (and_r (and_r (and_r (and_r (and_r (and_r (and_r (and_r (and_r (and_r (and_r (and_r (and_r (and_r (gSt0)))))))))))))))))))
theorem ok40 : callN (fnt Hvaj.prog) 58 en40.q 12 en40.cs en40.hin en40.ends = true := and_l (and_r (and_r (and_r (and_r (and_r (and_r (and_r (and_r (and_r (and_r (and_r (and_r (and_r (and_r (and_r (and_r (and_r (and_r (and_r (gSt0))))))))))))))))))))
theorem ok42 : callN (fnt Hvaj.prog) 58 en42.q 12 en42.cs en42.hin en42.ends = true := and_r (and_r (and_r (and_r (and_r (and_r (and_r (and_r (and_r (and_r (and_r (and_r (and_r (and_r (and_r (and_r (and_r (and_r (and_r (and_r (gSt0))))))))))))))))))))
end Go.Proofs.YgvajwGreat.Ev
