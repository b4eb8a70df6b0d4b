/- The thirty-two closed facts that the row's builder asks for, joined. -/
import Derived.Test.YtbkigpopplepdaaGreatDoorFactB
import Derived.Test.YtbkigpopplepdaaGreatDoorFactD
import Derived.Test.YtbkigpopplepdaaGreatDoorFactE
open Go Go.Ab
namespace Go.Proofs.YtbkigpopplepdaaGreatDoor
theorem k1 : (Rows.consoleExamplesRow.wf (OpenSpec.ofChange Rows.consoleExamplesSpec)) = true := by kernel_rfl
theorem k4 : (Tryz.f3.params.all (Tryz.prog.readableRec ·)) = true := by kernel_rfl
theorem k5 : (namedTie Tryz.prog Rows.consoleExamplesRow.named Rows.consoleExamplesSpec.vars) = true := by kernel_rfl
theorem k6 : ((Rows.consoleExamplesRow.stops == [])) = true := by kernel_rfl
theorem k7 : ((Tryz.prog.stops == [])) = true := by kernel_rfl
theorem k8 : ((Rows.consoleExamplesRow.knobs == [])) = true := by kernel_rfl
theorem k9 : ((Tryz.prog.stopKnobs == [])) = true := by kernel_rfl
theorem k14 : ((Rows.consoleExamplesRow.maps == (Tryz.f3.params.toList ++ Rows.consoleExamplesSpec.plain.varTypes Tryz.prog).any (Tryz.prog.mapsRec ·))) = true := by kernel_rfl
theorem k15 : ((Rows.consoleExamplesRow.ifaces == (Tryz.f3.params.toList ++ Rows.consoleExamplesSpec.plain.varTypes Tryz.prog).any (Tryz.prog.ifacesRec ·))) = true := by kernel_rfl
theorem k16 : ((Rows.consoleExamplesRow.mapsOut == Tryz.prog.mapsAmong Tryz.f3.resultTypes.toList)) = true := by kernel_rfl
theorem k17 : ((Rows.consoleExamplesRow.loops == (Tryz.f3.params.toList ++ Rows.consoleExamplesSpec.plain.varTypes Tryz.prog).any (Tryz.prog.loopsFrom ·))) = true := by kernel_rfl
theorem k18 : ((Rows.consoleExamplesRow.wideKeys == (Tryz.f3.params.toList ++ Rows.consoleExamplesSpec.plain.varTypes Tryz.prog ++ Tryz.f3.resultTypes.toList).any (Tryz.prog.wideKeysFrom ·))) = true := by kernel_rfl
theorem k19 : (Rows.consoleExamplesSpec.vars.all (Tryz.prog.varReadable ·)) = true := by kernel_rfl
theorem k20 : (Tryz.f3.resultTypes.all (fun t => Tryz.prog.readableRec t && decide (t < Tryz.prog.types.size))) = true := by kernel_rfl
theorem k21 : ((Rows.consoleExamplesRow.ifacesOut == Tryz.f3.resultTypes.toList.any (Tryz.prog.ifacesRec ·))) = true := by kernel_rfl
theorem k22 : ((Rows.consoleExamplesRow.loopsOut == Tryz.f3.resultTypes.toList.any (Tryz.prog.loopsFrom ·))) = true := by kernel_rfl
theorem k23 : ((Rows.consoleExamplesRow.plainKeys == Tryz.prog.plainKeys)) = true := by kernel_rfl
theorem k24 : (Rows.consoleExamplesRow.shortTexts.isNone) = true := by kernel_rfl
theorem k27 : ((Rows.consoleExamplesRow.lifted == Tryz.prog.liftsFinal)) = true := by kernel_rfl
theorem k28 : ((Tryz.prog.make == some Rows.consoleExamplesRow.make)) = true := by kernel_rfl
theorem k30 : ((Rows.consoleExamplesRow.pinned == Rows.consoleExamplesRow.pinnedBy)) = true := by kernel_rfl
theorem k31 : ((Rows.consoleExamplesRow.veiled == (Tryz.f3.params.toList ++ Rows.consoleExamplesSpec.plain.varTypes Tryz.prog ++ Tryz.f3.resultTypes.toList).any (Tryz.prog.veiledRec ·))) = true := by kernel_rfl
theorem k32 : (Rows.consoleExamplesRow.veiledFits Tryz.prog Tryz.f3.params.toList (Tryz.f3.params.toList ++ Rows.consoleExamplesSpec.plain.varTypes Tryz.prog ++ Tryz.f3.resultTypes.toList)) = true := by kernel_rfl
theorem joined : joinedFacts Tryz.prog 3 Tryz.f3 Rows.consoleExamplesSpec Rows.consoleExamplesRow = true := by
  unfold joinedFacts
  exact and_t (and_t (and_t (and_t (and_t (and_t (and_t (and_t (and_t (and_t (and_t (and_t (and_t (and_t (and_t (and_t (and_t (and_t (and_t (and_t (and_t (and_t (and_t (and_t (and_t (and_t (and_t (and_t (and_t (and_t (and_t (k1) k2) k3) k4) k5) k6) k7) k8) k9) k10) k11) k12) k13) k14) k15) k16) k17) k18) k19) k20) k21) k22) k23) k24) k25) k26) k27) k28) (by kernel_rfl)) k30) k31) k32
end Go.Proofs.YtbkigpopplepdaaGreatDoor
