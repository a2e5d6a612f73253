/- Closed facts of PromptNil's card. -/
import Derived.Test.YthmnbgapdlbbfaaGreatDoorSFactsC
import Derived.Test.YthmnbgapdlbbfaaGreatDoorCards
set_option linter.unusedSimpArgs false
set_option linter.unusedVariables false
open Go Go.Vm Go.Proofs Go.Proofs.YthmnbgapdlbbfaaGreatDoor
namespace Go.Vm.Seat
set_option maxRecDepth 100000
theorem promptNil_wf : Rows.promptNilRow.wfByText (OpenSpec.ofChange Rows.promptNilSpec) = true := by kernel_rfl
theorem promptNil_goes : false = Rows.promptNilRow.goesBy Tryz.prog := by kernel_rfl
theorem want115 : Tryz.prog.wantsStandIn 115 = false := by kernel_rfl
theorem promptNil_named : Tryz.prog.funcNamed "shuttle/shuttlelaw30.PromptNil" = some 12 := by kernel_rfl
end Go.Vm.Seat
