import Derived.Test.YgvaiwGreatRows
import Derived.JoinedOf
import Derived.OpenShut
namespace Go.Proofs.YgvaiwGreat.towerEmpty
theorem c0 : (Rows.towerEmptyRow.wf (OpenSpec.ofChange Rows.towerEmptySpec)) = true := by kernel_rfl
theorem c3 : (Hvai.f3.params.all (Hvai.prog.readableRec ·)) = true := by kernel_rfl
theorem c4 : (namedTie Hvai.prog Rows.towerEmptyRow.named Rows.towerEmptySpec.vars) = true := by kernel_rfl
theorem c5 : ((Rows.towerEmptyRow.stops == [])) = true := by kernel_rfl
theorem c6 : ((Hvai.prog.stops == [])) = true := by kernel_rfl
theorem c7 : ((Rows.towerEmptyRow.knobs == [])) = true := by kernel_rfl
theorem c8 : ((Hvai.prog.stopKnobs == [])) = true := by kernel_rfl
theorem c13 : ((Rows.towerEmptyRow.maps == (Hvai.f3.params.toList ++ Rows.towerEmptySpec.plain.varTypes Hvai.prog).any (Hvai.prog.mapsRec ·))) = true := by kernel_rfl
theorem c14 : ((Rows.towerEmptyRow.ifaces == (Hvai.f3.params.toList ++ Rows.towerEmptySpec.plain.varTypes Hvai.prog).any (Hvai.prog.ifacesRec ·))) = true := by kernel_rfl
theorem c15 : ((Rows.towerEmptyRow.mapsOut == Hvai.prog.mapsAmong Hvai.f3.resultTypes.toList)) = true := by kernel_rfl
theorem c16 : ((Rows.towerEmptyRow.loops == (Hvai.f3.params.toList ++ Rows.towerEmptySpec.plain.varTypes Hvai.prog).any (Hvai.prog.loopsFrom ·))) = true := by kernel_rfl
theorem c17 : ((Rows.towerEmptyRow.wideKeys == (Hvai.f3.params.toList ++ Rows.towerEmptySpec.plain.varTypes Hvai.prog ++ Hvai.f3.resultTypes.toList).any (Hvai.prog.wideKeysFrom ·))) = true := by kernel_rfl
theorem c18 : (Rows.towerEmptySpec.vars.all (Hvai.prog.varReadable ·)) = true := by kernel_rfl
theorem c19 : (Hvai.f3.resultTypes.all (fun t => Hvai.prog.readableRec t && decide (t < Hvai.prog.types.size))) = true := by kernel_rfl
theorem c20 : ((Rows.towerEmptyRow.ifacesOut == Hvai.f3.resultTypes.toList.any (Hvai.prog.ifacesRec ·))) = true := by kernel_rfl
theorem c21 : ((Rows.towerEmptyRow.loopsOut == Hvai.f3.resultTypes.toList.any (Hvai.prog.loopsFrom ·))) = true := by kernel_rfl
theorem c23 : (Rows.towerEmptyRow.shortTexts.isNone) = true := by kernel_rfl
theorem c26 : ((Rows.towerEmptyRow.lifted == Hvai.prog.liftsFinal)) = true := by kernel_rfl
theorem c27 : ((Hvai.prog.make == some Rows.towerEmptyRow.make)) = true := by kernel_rfl
theorem c28 : ((Rows.towerEmptyRow.kinds == (if Rows.towerEmptyRow.domain.isEmpty then [] else Hvai.f3.params.toList.map fun t => match Hvai.prog.underlying t with | some (.int k) => some k | _ => none))) = true := by kernel_rfl
theorem c29 : ((Rows.towerEmptyRow.pinned == Rows.towerEmptyRow.pinnedBy)) = true := by kernel_rfl
theorem c30 : ((Rows.towerEmptyRow.veiled == (Hvai.f3.params.toList ++ Rows.towerEmptySpec.plain.varTypes Hvai.prog ++ Hvai.f3.resultTypes.toList).any (Hvai.prog.veiledRec ·))) = true := by kernel_rfl
theorem c31 : (Rows.towerEmptyRow.veiledFits Hvai.prog Hvai.f3.params.toList (Hvai.f3.params.toList ++ Rows.towerEmptySpec.plain.varTypes Hvai.prog ++ Hvai.f3.resultTypes.toList)) = true := by kernel_rfl
end Go.Proofs.YgvaiwGreat.towerEmpty
