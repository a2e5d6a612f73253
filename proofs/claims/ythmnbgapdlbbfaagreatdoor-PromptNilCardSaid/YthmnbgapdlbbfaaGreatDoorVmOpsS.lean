/- Rewriting operations: addresses, cells, lengths. -/
import Derived.Test.YthmnbgapdlbbfaaGreatDoorVmSimp
set_option linter.unusedSimpArgs false
set_option linter.unusedVariables false
namespace Go.Vm
variable {P : Program}
attribute [go_sem] ptr slc vPtr vSlice aOf vInt vStr vBool asNat builtinA lenA loadA storeOp storeA indexAddrA indexA sliceLen
@[go_sem] theorem pairOfMap (x : Option Value) (μ : Mem) : (x.map fun v => (v, μ)) = pairM μ x := rfl
theorem xM_pair (μ : Mem) (x : Option Value) (K : Value → Mem → Prop) (d : Dum K) : xM (pairM μ x) K d = xV x (fun v => K v μ) .mk := by cases x <;> rfl
attribute [go_sem] xM_pair
end Go.Vm
