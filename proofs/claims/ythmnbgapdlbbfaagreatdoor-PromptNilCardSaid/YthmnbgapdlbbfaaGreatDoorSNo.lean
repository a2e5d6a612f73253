/- The seat's program: no runtime.NumGoroutine; regions that draw are sound. -/
import Derived.Test.YthmnbgapdlbbfaaGreatDoorVmTbl
import Derived.KernelRfl
import Derived.Test.YthmnbgapdlbbfaaGreatDoorProg
set_option linter.unusedSimpArgs false
set_option linter.unusedVariables false
open Go Go.Vm Go.Proofs
namespace Go.Vm.Seat
theorem nonum_all : (Tryz.prog.funcs.toList.all fun fn => !(fn.name == "runtime.NumGoroutine")) = true := by kernel_rfl
theorem nonum : NoNum Tryz.prog := by
  intro f fn h
  have := List.all_eq_true.1 nonum_all fn (by rw [Array.mem_toList_iff]; exact Array.mem_of_getElem? h)
  simpa using this
theorem mixed : Tryz.prog.follows .mixedOrders = true := by kernel_rfl
theorem drawn : DrawOK Tryz.prog := draw_ok nonum mixed
theorem sfn {orc : Oracle} (hO : OrcOK Tryz.prog orc) (k : Nat) : SFn Tryz.prog (ev Tryz.prog orc k) := (ev_sound nonum drawn hO k).2.2.2.1
end Go.Vm.Seat
