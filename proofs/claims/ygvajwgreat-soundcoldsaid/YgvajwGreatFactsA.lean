import Derived.Test.YgvajwGreatRows
import Derived.JoinedOf
import Derived.OpenShut
namespace Go.Proofs.YgvajwGreat.soundCold
theorem c0 : (Rows.soundColdRow.wf (OpenSpec.ofChange Rows.soundColdSpec)) = true := by kernel_rfl
theorem c3 : (Hvaj.f3.params.all (Hvaj.prog.readableRec ·)) = true := by kernel_rfl
theorem c4 : (namedTie Hvaj.prog Rows.soundColdRow.named Rows.soundColdSpec.vars) = true := by kernel_rfl
theorem c5 : ((Rows.soundColdRow.stops == [])) = true := by kernel_rfl
theorem c6 : ((Hvaj.prog.stops == [])) = true := by kernel_rfl
theorem c7 : ((Rows.soundColdRow.knobs == [])) = true := by kernel_rfl
theorem c8 : ((Hvaj.prog.stopKnobs == [])) = true := by kernel_rfl
theorem c13 : ((Rows.soundColdRow.maps == (Hvaj.f3.params.toList ++ Rows.soundColdSpec.plain.varTypes Hvaj.prog).any (Hvaj.prog.mapsRec ·))) = true := by kernel_rfl
theorem c14 : ((Rows.soundColdRow.ifaces == (Hvaj.f3.params.toList ++ Rows.soundColdSpec.plain.varTypes Hvaj.prog).any (Hvaj.prog.ifacesRec ·))) = true := by kernel_rfl
theorem c15 : ((Rows.soundColdRow.mapsOut == Hvaj.prog.mapsAmong Hvaj.f3.resultTypes.toList)) = true := by kernel_rfl
theorem c16 : ((Rows.soundColdRow.loops == (Hvaj.f3.params.toList ++ Rows.soundColdSpec.plain.varTypes Hvaj.prog).any (Hvaj.prog.loopsFrom ·))) = true := by kernel_rfl
theorem c17 : ((Rows.soundColdRow.wideKeys == (Hvaj.f3.params.toList ++ Rows.soundColdSpec.plain.varTypes Hvaj.prog ++ Hvaj.f3.resultTypes.toList).any (Hvaj.prog.wideKeysFrom ·))) = true := by kernel_rfl
theorem c18 : (Rows.soundColdSpec.vars.all (Hvaj.prog.varReadable ·)) = true := by kernel_rfl
theorem c19 : (Hvaj.f3.resultTypes.all (fun t => Hvaj.prog.readableRec t && decide (t < Hvaj.prog.types.size))) = true := by kernel_rfl
theorem c20 : ((Rows.soundColdRow.ifacesOut == Hvaj.f3.resultTypes.toList.any (Hvaj.prog.ifacesRec ·))) = true := by kernel_rfl
theorem c21 : ((Rows.soundColdRow.loopsOut == Hvaj.f3.resultTypes.toList.any (Hvaj.prog.loopsFrom ·))) = true := by kernel_rfl
theorem c23 : (Rows.soundColdRow.shortTexts.isNone) = true := by kernel_rfl
theorem c26 : ((Rows.soundColdRow.lifted == Hvaj.prog.liftsFinal)) = true := by kernel_rfl
theorem c27 : ((Hvaj.prog.make == some Rows.soundColdRow.make)) = true := by kernel_rfl
theorem c28 : ((Rows.soundColdRow.kinds == (if Rows.soundColdRow.domain.isEmpty then [] else Hvaj.f3.params.toList.map fun t => match Hvaj.prog.underlying t with | some (.int k) => some k | _ => none))) = true := by kernel_rfl
theorem c29 : ((Rows.soundColdRow.pinned == Rows.soundColdRow.pinnedBy)) = true := by kernel_rfl
theorem c30 : ((Rows.soundColdRow.veiled == (Hvaj.f3.params.toList ++ Rows.soundColdSpec.plain.varTypes Hvaj.prog ++ Hvaj.f3.resultTypes.toList).any (Hvaj.prog.veiledRec ·))) = true := by kernel_rfl
theorem c31 : (Rows.soundColdRow.veiledFits Hvaj.prog Hvaj.f3.params.toList (Hvaj.f3.params.toList ++ Rows.soundColdSpec.plain.varTypes Hvaj.prog ++ Hvaj.f3.resultTypes.toList)) = true := by kernel_rfl
end Go.Proofs.YgvajwGreat.soundCold
