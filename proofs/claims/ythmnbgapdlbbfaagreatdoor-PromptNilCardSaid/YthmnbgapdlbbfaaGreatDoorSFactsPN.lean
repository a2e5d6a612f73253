/- The closed facts of the row of promptNil, one by one. Printed by factsgen.py. -/
import Derived.Test.YthmnbgapdlbbfaaGreatDoorSBridge
set_option linter.unusedSimpArgs false
set_option linter.unusedVariables false
open Go Go.Vm Go.Proofs Go.Proofs.YthmnbgapdlbbfaaGreatDoor
namespace Go.Vm.Seat
set_option maxRecDepth 100000
theorem promptNil_k0 : (Rows.promptNilRow.wf (OpenSpec.ofChange Rows.promptNilSpec)) = true := by kernel_rfl
theorem promptNil_k1 : (laidOutB Tryz.prog) = true := by kernel_rfl
theorem promptNil_k2 : (mapsRowed Tryz.prog) = true := by kernel_rfl
theorem promptNil_k3 : (Tryz.f12.params.all (Tryz.prog.readableRec ·)) = true := by kernel_rfl
theorem promptNil_k4 : (namedTie Tryz.prog Rows.promptNilRow.named Rows.promptNilSpec.vars) = true := by kernel_rfl
theorem promptNil_k5 : ((Rows.promptNilRow.stops == [])) = true := by kernel_rfl
theorem promptNil_k6 : ((Tryz.prog.stops == [])) = true := by kernel_rfl
theorem promptNil_k7 : ((Rows.promptNilRow.knobs == [])) = true := by kernel_rfl
theorem promptNil_k8 : ((Tryz.prog.stopKnobs == [])) = true := by kernel_rfl
theorem promptNil_k9 : ((Rows.promptNilRow.inPlace == Tryz.prog.inPlace 12)) = true := by kernel_rfl
theorem promptNil_k10 : ((Rows.promptNilRow.unfollowed == Tryz.prog.unfollowed 12)) = true := by kernel_rfl
theorem promptNil_k11 : ((Rows.promptNilRow.recurses == Tryz.prog.recurses 12)) = true := by kernel_rfl
theorem promptNil_k12 : ((Rows.promptNilRow.named == Tryz.prog.varsNamed 12)) = true := by kernel_rfl
theorem promptNil_k13 : ((Rows.promptNilRow.maps == (Tryz.f12.params.toList ++ Rows.promptNilSpec.plain.varTypes Tryz.prog).any (Tryz.prog.mapsRec ·))) = true := by kernel_rfl
theorem promptNil_k14 : ((Rows.promptNilRow.ifaces == (Tryz.f12.params.toList ++ Rows.promptNilSpec.plain.varTypes Tryz.prog).any (Tryz.prog.ifacesRec ·))) = true := by kernel_rfl
theorem promptNil_k15 : ((Rows.promptNilRow.mapsOut == Tryz.prog.mapsAmong Tryz.f12.resultTypes.toList)) = true := by kernel_rfl
theorem promptNil_k16 : ((Rows.promptNilRow.loops == (Tryz.f12.params.toList ++ Rows.promptNilSpec.plain.varTypes Tryz.prog).any (Tryz.prog.loopsFrom ·))) = true := by kernel_rfl
theorem promptNil_k17 : ((Rows.promptNilRow.wideKeys == (Tryz.f12.params.toList ++ Rows.promptNilSpec.plain.varTypes Tryz.prog ++ Tryz.f12.resultTypes.toList).any (Tryz.prog.wideKeysFrom ·))) = true := by kernel_rfl
theorem promptNil_k18 : (Rows.promptNilSpec.vars.all (Tryz.prog.varReadable ·)) = true := by kernel_rfl
theorem promptNil_k19 : (Tryz.f12.resultTypes.all (fun t => Tryz.prog.readableRec t && decide (t < Tryz.prog.types.size))) = true := by kernel_rfl
theorem promptNil_k20 : ((Rows.promptNilRow.ifacesOut == Tryz.f12.resultTypes.toList.any (Tryz.prog.ifacesRec ·))) = true := by kernel_rfl
theorem promptNil_k21 : ((Rows.promptNilRow.loopsOut == Tryz.f12.resultTypes.toList.any (Tryz.prog.loopsFrom ·))) = true := by kernel_rfl
theorem promptNil_k22 : ((Rows.promptNilRow.plainKeys == Tryz.prog.plainKeys)) = true := by kernel_rfl
theorem promptNil_k23 : (Rows.promptNilRow.shortTexts.isNone) = true := by kernel_rfl
theorem promptNil_k24 : (Tryz.prog.stopsHeard) = true := by kernel_rfl
theorem promptNil_k25 : (Tryz.prog.mayEnter) = true := by kernel_rfl
theorem promptNil_k26 : ((Rows.promptNilRow.lifted == Tryz.prog.liftsFinal)) = true := by kernel_rfl
theorem promptNil_k27 : ((Tryz.prog.make == some Rows.promptNilRow.make)) = true := by kernel_rfl
theorem promptNil_k28 : ((Rows.promptNilRow.kinds == (if Rows.promptNilRow.domain.isEmpty then [] else Tryz.f12.params.toList.map fun t => match Tryz.prog.underlying t with | some (.int k) => some k | _ => none))) = true := by kernel_rfl
theorem promptNil_k29 : ((Rows.promptNilRow.pinned == Rows.promptNilRow.pinnedBy)) = true := by kernel_rfl
theorem promptNil_k30 : ((Rows.promptNilRow.veiled == (Tryz.f12.params.toList ++ Rows.promptNilSpec.plain.varTypes Tryz.prog ++ Tryz.f12.resultTypes.toList).any (Tryz.prog.veiledRec ·))) = true := by kernel_rfl
theorem promptNil_k31 : (Rows.promptNilRow.veiledFits Tryz.prog Tryz.f12.params.toList (Tryz.f12.params.toList ++ Rows.promptNilSpec.plain.varTypes Tryz.prog ++ Tryz.f12.resultTypes.toList)) = true := by kernel_rfl
theorem promptNil_closed : joinedFacts Tryz.prog 12 Tryz.f12 Rows.promptNilSpec Rows.promptNilRow = true := (and2 (and2 (and2 (and2 (and2 (and2 (and2 (and2 (and2 (and2 (and2 (and2 (and2 (and2 (and2 (and2 (and2 (and2 (and2 (and2 (and2 (and2 (and2 (and2 (and2 (and2 (and2 (and2 (and2 (and2 (and2 promptNil_k0 promptNil_k1) promptNil_k2) promptNil_k3) promptNil_k4) promptNil_k5) promptNil_k6) promptNil_k7) promptNil_k8) promptNil_k9) promptNil_k10) promptNil_k11) promptNil_k12) promptNil_k13) promptNil_k14) promptNil_k15) promptNil_k16) promptNil_k17) promptNil_k18) promptNil_k19) promptNil_k20) promptNil_k21) promptNil_k22) promptNil_k23) promptNil_k24) promptNil_k25) promptNil_k26) promptNil_k27) promptNil_k28) promptNil_k29) promptNil_k30) promptNil_k31)
end Go.Vm.Seat
