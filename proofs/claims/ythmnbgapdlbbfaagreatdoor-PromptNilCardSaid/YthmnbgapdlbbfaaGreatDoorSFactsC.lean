/- Closed facts of the cards. -/
import Derived.Test.YthmnbgapdlbbfaaGreatDoorSBridge
import Derived.SevenTiedAt
set_option linter.unusedSimpArgs false
set_option linter.unusedVariables false
open Go Go.Vm Go.Proofs Go.Proofs.YthmnbgapdlbbfaaGreatDoor
namespace Go.Vm.Seat
set_option maxRecDepth 100000
theorem c_main : Tryz.prog.mainIs = some (true, "f2e953554dd28101e899f3e1a8b8eaf32c46ae32fc98ade4c69040696f0dbb4b".toList) := by kernel_rfl
theorem c_looks : true = Tryz.prog.looks [] := by kernel_rfl
end Go.Vm.Seat
