/- The types of the seat: what they are, by the kernel. Printed by genfacts.py. -/
import Derived.Test.YthmnbgapdlbbfaaGreatDoorVmOpsS
import Derived.KernelRfl
import Derived.Test.YthmnbgapdlbbfaaGreatDoorProg
set_option linter.unusedSimpArgs false
set_option linter.unusedVariables false
open Go Go.Vm Go.Proofs
set_option maxRecDepth 100000
namespace Go.Vm.Seat

@[go_sem] theorem sz_3 : szOf Tryz.prog 3 = some 1 := by kernel_rfl
@[go_sem] theorem by_3 : bytesOf' Tryz.prog 3 = some 8 := by kernel_rfl
@[go_sem] theorem agg_3 : aggA Tryz.prog 3 = some false := by kernel_rfl
@[go_sem] theorem und_3 : und Tryz.prog 3 = some (.int (.i64)) := by kernel_rfl
@[go_sem] theorem sz_4 : szOf Tryz.prog 4 = some 1 := by kernel_rfl
@[go_sem] theorem by_4 : bytesOf' Tryz.prog 4 = some 1 := by kernel_rfl
@[go_sem] theorem agg_4 : aggA Tryz.prog 4 = some false := by kernel_rfl
@[go_sem] theorem und_4 : und Tryz.prog 4 = some (.bool ) := by kernel_rfl
@[go_sem] theorem sz_5 : szOf Tryz.prog 5 = some 1 := by kernel_rfl
@[go_sem] theorem by_5 : bytesOf' Tryz.prog 5 = some 1 := by kernel_rfl
@[go_sem] theorem agg_5 : aggA Tryz.prog 5 = some false := by kernel_rfl
@[go_sem] theorem und_5 : und Tryz.prog 5 = some (.int (.u8)) := by kernel_rfl
@[go_sem] theorem sz_9 : szOf Tryz.prog 9 = some 1 := by kernel_rfl
@[go_sem] theorem by_9 : bytesOf' Tryz.prog 9 = some 16 := by kernel_rfl
@[go_sem] theorem agg_9 : aggA Tryz.prog 9 = some false := by kernel_rfl
@[go_sem] theorem und_9 : und Tryz.prog 9 = some (.string ) := by kernel_rfl
@[go_sem] theorem seq_9 : seqA Tryz.prog 9 = true := by kernel_rfl
@[go_sem] theorem sz_21 : szOf Tryz.prog 21 = some 1 := by kernel_rfl
@[go_sem] theorem by_21 : bytesOf' Tryz.prog 21 = some 4 := by kernel_rfl
@[go_sem] theorem agg_21 : aggA Tryz.prog 21 = some false := by kernel_rfl
@[go_sem] theorem und_21 : und Tryz.prog 21 = some (.int (.i32)) := by kernel_rfl
@[go_sem] theorem sz_24 : szOf Tryz.prog 24 = some 1 := by kernel_rfl
@[go_sem] theorem by_24 : bytesOf' Tryz.prog 24 = some 1 := by kernel_rfl
@[go_sem] theorem agg_24 : aggA Tryz.prog 24 = some false := by kernel_rfl
@[go_sem] theorem und_24 : und Tryz.prog 24 = some (.int (.i8)) := by kernel_rfl
@[go_sem] theorem sz_301 : szOf Tryz.prog 301 = some 1 := by kernel_rfl
@[go_sem] theorem by_301 : bytesOf' Tryz.prog 301 = some 0 := by kernel_rfl
@[go_sem] theorem agg_301 : aggA Tryz.prog 301 = some false := by kernel_rfl
@[go_sem] theorem sz_355 : szOf Tryz.prog 355 = some 2 := by kernel_rfl
@[go_sem] theorem by_355 : bytesOf' Tryz.prog 355 = some 8 := by kernel_rfl
@[go_sem] theorem agg_355 : aggA Tryz.prog 355 = some true := by kernel_rfl
@[go_sem] theorem fa_355_0 (b o : Nat) : fieldAddrA Tryz.prog 355 (.pointer (some ⟨b, o, none⟩)) 0 = some (.pointer (some ⟨b, o + 0, none⟩)) := by kernel_rfl
@[go_sem] theorem fv_355_0 (l : List Value) : fieldA Tryz.prog 355 (.agg l.toArray) 0 = l[0]? := by kernel_rfl
@[go_sem] theorem fa_355_1 (b o : Nat) : fieldAddrA Tryz.prog 355 (.pointer (some ⟨b, o, none⟩)) 1 = some (.pointer (some ⟨b, o + 1, none⟩)) := by kernel_rfl
@[go_sem] theorem fv_355_1 (l : List Value) : fieldA Tryz.prog 355 (.agg l.toArray) 1 = l[1]? := by kernel_rfl
@[go_sem] theorem sz_358 : szOf Tryz.prog 358 = some 1 := by kernel_rfl
@[go_sem] theorem by_358 : bytesOf' Tryz.prog 358 = some 24 := by kernel_rfl
@[go_sem] theorem agg_358 : aggA Tryz.prog 358 = some false := by kernel_rfl
@[go_sem] theorem und_358 : und Tryz.prog 358 = some (.slice 355) := by kernel_rfl
@[go_sem] theorem seq_358 : seqA Tryz.prog 358 = true := by kernel_rfl
end Go.Vm.Seat
