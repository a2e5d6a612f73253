/- For every step, PromptNil answers true, and each argument reads behind the call as it read before. Conditions: the listed tables of Go's library read as the program's text lays them (tied). -/
import Derived.Test.YthmnbgapdlbbfaaGreatDoorSPromptNil
namespace Go.Proofs.YthmnbgapdlbbfaaGreatDoor
theorem promptNil_holds : Rows.PromptNilCardSaid := Go.Vm.Seat.promptNil_card
#print axioms promptNil_holds
end Go.Proofs.YthmnbgapdlbbfaaGreatDoor
