import Derived.Test.YgvajwGreatLit
import Derived.Test.YgvajwGreatTab
import Derived.KernelRfl
namespace Go.Proofs.YgvajwGreat.Ev
open Go.Proofs
theorem gSt2 : (and (callN (fnt Hvaj.prog) 58 en86.q 12 en86.cs en86.hin en86.ends) (and (callN (fnt Hvaj.prog) 58 en88.q 12 en88.cs en88.hin en88.ends) (and (callN (fnt Hvaj.prog) 58 en90.q 12 en90.cs en90.hin en90.ends) (and (callN (fnt Hvaj.prog) 58 en92.q 12 en92.cs en92.hin en92.ends) (and (callN (fnt Hvaj.prog) 58 en94.q 12 en94.cs en94.hin en94.ends) (and (callN (fnt Hvaj.prog) 58 en96.q 12 en96.cs en96.hin en96.ends) (and (callN (fnt Hvaj.prog) 58 en98.q 12 en98.cs en98.hin en98.ends) (and (callN (fnt Hvaj.prog) 58 en100.q 12 en100.cs en100.hin en100.ends) (and (callN (fnt Hvaj.prog) 58 en102.q 12 en102.cs en102.hin en102.ends) (and (callN (fnt Hvaj.prog) 58 en104.q 12 en104.cs en104.hin en104.ends) (and (callN (fnt Hvaj.prog) 58 en106.q 12 en106.cs en106.hin en106.ends) (and (callN (fnt Hvaj.prog) 58 en108.q 12 en108.cs en108.hin en108.ends) (and (callN (fnt Hvaj.prog) 58 en110.q 12 en110.cs en110.hin en110.ends) (and (callN (fnt Hvaj.prog) 58 en112.q 12 en112.cs en112.hin en112.ends) (and (callN (fnt Hvaj.prog) 58 en114.q 12 en114.cs en114.hin en114.ends) (and (callN (fnt Hvaj.prog) 58 en116.q 12 en116.cs en116.hin en116.ends) (and (callN (fnt Hvaj.prog) 58 en118.q 12 en118.cs en118.hin en118.ends) (and (callN (fnt Hvaj.prog) 58 en120.q 12 en120.cs en120.hin en120.ends) (and (callN (fnt Hvaj.prog) 58 en122.q 12 en122.cs en122.hin en122.ends) (callN (fnt Hvaj.prog) 58 en124.q 12 en124.cs en124.hin en124.ends)))))))))))))))))))) = true := by kernel_rfl
theorem ok86 : callN (fnt Hvaj.prog) 58 en86.q 12 en86.cs en86.hin en86.ends = true := and_l (gSt2)
theorem ok88 : callN (fnt Hvaj.prog) 58 en88.q 12 en88.cs en88.hin en88.ends = true := and_l (and_r (gSt2))
theorem ok90 : callN (fnt Hvaj.prog) 58 en90.q 12 en90.cs en90.hin en90.ends = true := and_l (and_r (and_r (gSt2)))
theorem ok92 : callN (fnt Hvaj.prog) 58 en92.q 12 en92.cs en92.hin en92.ends = true := and_l (and_r (and_r (and_r (gSt2))))
theorem ok94 : callN (fnt Hvaj.prog) 58 en94.q 12 en94.cs en94.hin en94.ends = true := and_l (and_r (and_r (and_r (and_r (gSt2)))))
theorem ok96 : callN (fnt Hvaj.prog) 58 en96.q 12 en96.cs en96.hin en96.ends = true := and_l (and_r (and_r (and_r (and_r (and_r (gSt2))))))
theorem ok98 : callN (fnt Hvaj.prog) 58 en98.q 12 en98.cs en98.hin en98.ends = true := and_l (and_r (and_r (and_r (and_r (and_r (and_r (gSt2)))))))
theorem ok100 : callN (fnt Hvaj.prog) 58 en100.q 12 en100.cs en100.hin en100.ends = true := and_l (and_r (and_r (and_r (and_r (and_r (and_r (and_r (gSt2))))))))
theorem ok102 : callN (fnt Hvaj.prog) 58 en102.q 12 en102.cs en102.hin en102.ends = true := and_l (and_r (and_r (and_r (and_r (and_r (and_r (and_r (and_r (gSt2)))))))))
theorem ok104 : callN (fnt Hvaj.prog) 58 en104.q 12 en104.cs en104.hin en104.ends = true := and_l (and_r (and_r (and_r (and_r (and_r (and_r (and_r (and_r (and_r (gSt2))))))))))
theorem ok106 : callN (fnt Hvaj.prog) 58 en106.q 12 en106.cs en106.hin en106.ends = true := and_l (and_r (and_r (and_r (and_r (and_r (and_r (and_r (and_r (and_r (and_r (gSt2)))))))))))
theorem ok108 : callN (fnt Hvaj.prog) 58 en108.q 12 en108.cs en108.hin en108.ends = true := and_l (and_r (and_r (and_r (and_r (and_r (and_r (and_r (and_r (and_r (and_r (and_r (gSt2))))))))))))
theorem ok110 : callN (fnt Hvaj.prog) 58 en110.q 12 en110.cs en110.hin en110.ends = true := and_l (and_r (and_r (and_r (and_r (and_r (and_r (and_r (and_r (and_r (and_r (and_r (and_r (gSt2)))))))))))))
theorem ok112 : callN (fnt Hvaj.prog) 58 en112.q 12 en112.cs en112.hin en112.ends = true := and_l (and_r (and_r (and_r (and_r (and_r (and_r (and_r (and_r (and_r (and_r (and_r (and_r (and_r (gSt2))))))))))))))
theorem ok114 : callN (fnt Hvaj.prog) 58 en114.q 12 en114.cs en114.hin en114.ends = true := and_l (and_r (and_r (and_r (and_r (and_r (and_r (and_r (and_r (and_r (and_r (and_r (and_r (and_r (and_r (gSt2)))))))))))))))
theorem ok116 : callN (fnt Hvaj.prog) 58 en116.q 12 en116.cs en116.hin en116.ends = true := and_l (and_r (and_r (and_r (and_r (and_r (and_r (and_r (and_r (and_r (and_r (and_r (and_r (and_r (and_r (and_r (gSt2))))))))))))))))
theorem ok118 : callN (fnt Hvaj.prog) 58 en118.q 12 en118.cs en118.hin en118.ends = true := and_l (and_r (and_r (and_r (and_r (and_r (and_r (and_r (and_r (and_r (and_r (and_r (and_r (and_r (and_r (and_r (and_r (gSt2)))))))))))))))))
theorem ok120 : callN (fnt Hvaj.prog) 58 en120.q 12 en120.cs en120.hin en120.ends = true := and_l (and_r (and_r (and_r (and_r (and_r (and_r (and_r (and_r (and_r (and_r (and_r (and_r (and_r (and_r (and_r (and_r (and_r (gSt2))))))))))))))))))
theorem ok122 : callN (fnt Hvaj.prog) 58 en122.q 12 en122.cs en122.hin en122.ends = true := and_l (and_r (and_r (and_r (and_r (and_r (and_r (and_r (and_r (and_r (and_r (and_r (and_r (and_r (and_r (and_r (and_r (and_r (and_r (gSt2)))))))))))))))))))
theorem ok124 : callN (fnt Hvaj.prog) 58 en124.q 12 en124.cs en124.hin en124.ends = true := and_r (and_r (and_r (and_r (and_r (and_r (and_r (and_r (and_r (and_r (and_r (and_r (and_r (and_r (and_r (and_r (and_r (and_r (and_r (gSt2)))))))))))))))))))
end Go.Proofs.YgvajwGreat.Ev
