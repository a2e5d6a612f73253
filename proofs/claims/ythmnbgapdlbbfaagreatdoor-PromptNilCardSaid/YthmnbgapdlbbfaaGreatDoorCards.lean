/-
  DERIVED. GIVEN WITH THE SEED: THE CARDS: each row of YthmnbgapdlbbfaaGreatDoorRows.lean that lists a variable, with what it lists TIED to the program's text (the seventh form; the later family's looks); each row that meets fmt, with fmt's text TOLD by the authors' own Lean function (tested against real Go, not proved from fmt's source: count such statements apart). THE CARD IS WHAT COUNTS. Prove the row's statement (the work); the ties are given (YthmnbgapdlbbfaaGreatDoorTie.lean); close each card by the builder's one call (the guide's Derived/Test/ToyasCard.lean, 'card_holds'). Laid BY PROGRAM, IN A SANDBOX (cutbox-door.mjs). By AI agents, Wed Nov 11 2026. No macro, syntax, notation, axiom, sorry.
-/
import Derived.Test.YthmnbgapdlbbfaaGreatDoorRows
import GoSem.ClaimSeven
namespace Go.Proofs.YthmnbgapdlbbfaaGreatDoor
namespace Rows

/-- THE TIED CARD OF 'shuttlelaw25.PaintNil'. -/
def paintNilCard : Claim7 := { stood := { row := paintNilRow, standIns := [], harness := (true, "f2e953554dd28101e899f3e1a8b8eaf32c46ae32fc98ade4c69040696f0dbb4b"), looks := true }, kinds := [], alts := [], laidByText := true, laidKinds := [.data, .data, .data, .data, .pinned], laidTests := true, laidLooks := .later }
def PaintNilCardSaid : Prop := Claim7.holds Tryz.pinned (.plain (OpenSpec.ofChange paintNilSpec)) paintNilCard

/-- THE TIED CARD OF 'shuttlelaw25.PaintTiles'. -/
def paintTilesCard : Claim7 := { stood := { row := paintTilesRow, standIns := [], harness := (true, "f2e953554dd28101e899f3e1a8b8eaf32c46ae32fc98ade4c69040696f0dbb4b"), looks := true }, kinds := [], alts := [], laidByText := true, laidKinds := [.data, .data, .data, .data, .pinned], laidTests := true, laidLooks := .later }
def PaintTilesCardSaid : Prop := Claim7.holds Tryz.pinned (.plain (OpenSpec.ofChange paintTilesSpec)) paintTilesCard

/-- THE TIED CARD OF 'shuttlelaw16.CaretThere'. -/
def caretThereCard : Claim7 := { stood := { row := caretThereRow, standIns := [], harness := (true, "f2e953554dd28101e899f3e1a8b8eaf32c46ae32fc98ade4c69040696f0dbb4b"), looks := true }, kinds := [], alts := [], laidByText := true, laidKinds := [.data, .data, .data, .data, .pinned], laidTests := true, laidLooks := .later }
def CaretThereCardSaid : Prop := Claim7.holds Tryz.pinned (.plain (OpenSpec.ofChange caretThereSpec)) caretThereCard

/-- THE TIED CARD OF 'shuttlelaw16.CaretClusters'. -/
def caretClustersCard : Claim7 := { stood := { row := caretClustersRow, standIns := [], harness := (true, "f2e953554dd28101e899f3e1a8b8eaf32c46ae32fc98ade4c69040696f0dbb4b"), looks := true }, kinds := [], alts := [], laidByText := true, laidKinds := [.data, .data, .data, .data, .pinned], laidTests := true, laidLooks := .later }
def CaretClustersCardSaid : Prop := Claim7.holds Tryz.pinned (.plain (OpenSpec.ofChange caretClustersSpec)) caretClustersCard

/-- THE TIED CARD OF 'shuttlelaw16.CaretSides'. -/
def caretSidesCard : Claim7 := { stood := { row := caretSidesRow, standIns := [], harness := (true, "f2e953554dd28101e899f3e1a8b8eaf32c46ae32fc98ade4c69040696f0dbb4b"), looks := true }, kinds := [], alts := [], laidByText := true, laidKinds := [.data, .data, .data, .data, .pinned], laidTests := true, laidLooks := .later }
def CaretSidesCardSaid : Prop := Claim7.holds Tryz.pinned (.plain (OpenSpec.ofChange caretSidesSpec)) caretSidesCard

/-- THE TIED CARD OF 'shuttlelaw27.ViewNil'. -/
def viewNilCard : Claim7 := { stood := { row := viewNilRow, standIns := [], harness := (true, "f2e953554dd28101e899f3e1a8b8eaf32c46ae32fc98ade4c69040696f0dbb4b"), looks := true }, kinds := [], alts := [], laidByText := true, laidKinds := [.data, .data, .data, .data, .pinned], laidTests := true, laidLooks := .later }
def ViewNilCardSaid : Prop := Claim7.holds Tryz.pinned (.plain (OpenSpec.ofChange viewNilSpec)) viewNilCard

/-- THE TIED CARD OF 'shuttlelaw27.ViewKnown'. -/
def viewKnownCard : Claim7 := { stood := { row := viewKnownRow, standIns := [], harness := (true, "f2e953554dd28101e899f3e1a8b8eaf32c46ae32fc98ade4c69040696f0dbb4b"), looks := true }, kinds := [], alts := [], laidByText := true, laidKinds := [.data, .data, .data, .data, .pinned], laidTests := true, laidLooks := .later }
def ViewKnownCardSaid : Prop := Claim7.holds Tryz.pinned (.plain (OpenSpec.ofChange viewKnownSpec)) viewKnownCard

/-- THE TIED CARD OF 'shuttlelaw27.ViewBack'. -/
def viewBackCard : Claim7 := { stood := { row := viewBackRow, standIns := [], harness := (true, "f2e953554dd28101e899f3e1a8b8eaf32c46ae32fc98ade4c69040696f0dbb4b"), looks := true }, kinds := [], alts := [], laidByText := true, laidKinds := [.data, .data, .data, .data, .pinned], laidTests := true, laidLooks := .later }
def ViewBackCardSaid : Prop := Claim7.holds Tryz.pinned (.plain (OpenSpec.ofChange viewBackSpec)) viewBackCard

/-- THE TIED CARD OF 'shuttlelaw30.PromptCompletes'. -/
def promptCompletesCard : Claim7 := { stood := { row := promptCompletesRow, standIns := [], harness := (true, "f2e953554dd28101e899f3e1a8b8eaf32c46ae32fc98ade4c69040696f0dbb4b"), looks := true }, kinds := [], alts := [], laidByText := true, laidKinds := [.data, .data, .data, .data, .pinned], laidTests := true, laidLooks := .later }
def PromptCompletesCardSaid : Prop := Claim7.holds Tryz.pinned (.plain (OpenSpec.ofChange promptCompletesSpec)) promptCompletesCard

/-- THE TIED CARD OF 'shuttlelaw30.PromptNil'. -/
def promptNilCard : Claim7 := { stood := { row := promptNilRow, standIns := [], harness := (true, "f2e953554dd28101e899f3e1a8b8eaf32c46ae32fc98ade4c69040696f0dbb4b"), looks := true }, kinds := [], alts := [], laidByText := true, laidKinds := [.data, .data, .data, .data, .pinned], laidTests := true, laidLooks := .later }
def PromptNilCardSaid : Prop := Claim7.holds Tryz.pinned (.plain (OpenSpec.ofChange promptNilSpec)) promptNilCard

/-- THE TIED CARD OF 'shuttlelaw30.PromptKnown'. -/
def promptKnownCard : Claim7 := { stood := { row := promptKnownRow, standIns := [], harness := (true, "f2e953554dd28101e899f3e1a8b8eaf32c46ae32fc98ade4c69040696f0dbb4b"), looks := true }, kinds := [], alts := [], laidByText := true, laidKinds := [.data, .data, .data, .data, .pinned], laidTests := true, laidLooks := .later }
def PromptKnownCardSaid : Prop := Claim7.holds Tryz.pinned (.plain (OpenSpec.ofChange promptKnownSpec)) promptKnownCard

/-- THE TIED CARD OF 'shuttlelaw30.PromptShape'. -/
def promptShapeCard : Claim7 := { stood := { row := promptShapeRow, standIns := [], harness := (true, "f2e953554dd28101e899f3e1a8b8eaf32c46ae32fc98ade4c69040696f0dbb4b"), looks := true }, kinds := [], alts := [], laidByText := true, laidKinds := [.data, .data, .data, .data, .pinned], laidTests := true, laidLooks := .later }
def PromptShapeCardSaid : Prop := Claim7.holds Tryz.pinned (.plain (OpenSpec.ofChange promptShapeSpec)) promptShapeCard

/-- THE SECOND FORM's CARD OF 'shuttlelaw25.PaintNil'. -/
def paintNilUptoCard : Claim7 := { stood := { row := paintNilUptoRow, standIns := [], harness := (true, "f2e953554dd28101e899f3e1a8b8eaf32c46ae32fc98ade4c69040696f0dbb4b"), looks := true }, kinds := [], alts := [], laidByText := true, laidKinds := [.data, .data, .data, .data, .pinned], laidTests := true, laidLooks := .later }
def PaintNilUptoCardSaid : Prop := Claim7.holds Tryz.pinned (.plain (OpenSpec.upto paintNilSpec)) paintNilUptoCard

/-- THE SECOND FORM's CARD OF 'shuttlelaw25.PaintTiles'. -/
def paintTilesUptoCard : Claim7 := { stood := { row := paintTilesUptoRow, standIns := [], harness := (true, "f2e953554dd28101e899f3e1a8b8eaf32c46ae32fc98ade4c69040696f0dbb4b"), looks := true }, kinds := [], alts := [], laidByText := true, laidKinds := [.data, .data, .data, .data, .pinned], laidTests := true, laidLooks := .later }
def PaintTilesUptoCardSaid : Prop := Claim7.holds Tryz.pinned (.plain (OpenSpec.upto paintTilesSpec)) paintTilesUptoCard

/-- THE SECOND FORM's CARD OF 'shuttlelaw16.CaretThere'. -/
def caretThereUptoCard : Claim7 := { stood := { row := caretThereUptoRow, standIns := [], harness := (true, "f2e953554dd28101e899f3e1a8b8eaf32c46ae32fc98ade4c69040696f0dbb4b"), looks := true }, kinds := [], alts := [], laidByText := true, laidKinds := [.data, .data, .data, .data, .pinned], laidTests := true, laidLooks := .later }
def CaretThereUptoCardSaid : Prop := Claim7.holds Tryz.pinned (.plain (OpenSpec.upto caretThereSpec)) caretThereUptoCard

/-- THE SECOND FORM's CARD OF 'shuttlelaw16.CaretClusters'. -/
def caretClustersUptoCard : Claim7 := { stood := { row := caretClustersUptoRow, standIns := [], harness := (true, "f2e953554dd28101e899f3e1a8b8eaf32c46ae32fc98ade4c69040696f0dbb4b"), looks := true }, kinds := [], alts := [], laidByText := true, laidKinds := [.data, .data, .data, .data, .pinned], laidTests := true, laidLooks := .later }
def CaretClustersUptoCardSaid : Prop := Claim7.holds Tryz.pinned (.plain (OpenSpec.upto caretClustersSpec)) caretClustersUptoCard

/-- THE SECOND FORM's CARD OF 'shuttlelaw16.CaretSides'. -/
def caretSidesUptoCard : Claim7 := { stood := { row := caretSidesUptoRow, standIns := [], harness := (true, "f2e953554dd28101e899f3e1a8b8eaf32c46ae32fc98ade4c69040696f0dbb4b"), looks := true }, kinds := [], alts := [], laidByText := true, laidKinds := [.data, .data, .data, .data, .pinned], laidTests := true, laidLooks := .later }
def CaretSidesUptoCardSaid : Prop := Claim7.holds Tryz.pinned (.plain (OpenSpec.upto caretSidesSpec)) caretSidesUptoCard

/-- THE SECOND FORM's CARD OF 'shuttlelaw27.ViewNil'. -/
def viewNilUptoCard : Claim7 := { stood := { row := viewNilUptoRow, standIns := [], harness := (true, "f2e953554dd28101e899f3e1a8b8eaf32c46ae32fc98ade4c69040696f0dbb4b"), looks := true }, kinds := [], alts := [], laidByText := true, laidKinds := [.data, .data, .data, .data, .pinned], laidTests := true, laidLooks := .later }
def ViewNilUptoCardSaid : Prop := Claim7.holds Tryz.pinned (.plain (OpenSpec.upto viewNilSpec)) viewNilUptoCard

/-- THE SECOND FORM's CARD OF 'shuttlelaw27.ViewKnown'. -/
def viewKnownUptoCard : Claim7 := { stood := { row := viewKnownUptoRow, standIns := [], harness := (true, "f2e953554dd28101e899f3e1a8b8eaf32c46ae32fc98ade4c69040696f0dbb4b"), looks := true }, kinds := [], alts := [], laidByText := true, laidKinds := [.data, .data, .data, .data, .pinned], laidTests := true, laidLooks := .later }
def ViewKnownUptoCardSaid : Prop := Claim7.holds Tryz.pinned (.plain (OpenSpec.upto viewKnownSpec)) viewKnownUptoCard

/-- THE SECOND FORM's CARD OF 'shuttlelaw27.ViewBack'. -/
def viewBackUptoCard : Claim7 := { stood := { row := viewBackUptoRow, standIns := [], harness := (true, "f2e953554dd28101e899f3e1a8b8eaf32c46ae32fc98ade4c69040696f0dbb4b"), looks := true }, kinds := [], alts := [], laidByText := true, laidKinds := [.data, .data, .data, .data, .pinned], laidTests := true, laidLooks := .later }
def ViewBackUptoCardSaid : Prop := Claim7.holds Tryz.pinned (.plain (OpenSpec.upto viewBackSpec)) viewBackUptoCard

/-- THE SECOND FORM's CARD OF 'shuttlelaw30.PromptCompletes'. -/
def promptCompletesUptoCard : Claim7 := { stood := { row := promptCompletesUptoRow, standIns := [], harness := (true, "f2e953554dd28101e899f3e1a8b8eaf32c46ae32fc98ade4c69040696f0dbb4b"), looks := true }, kinds := [], alts := [], laidByText := true, laidKinds := [.data, .data, .data, .data, .pinned], laidTests := true, laidLooks := .later }
def PromptCompletesUptoCardSaid : Prop := Claim7.holds Tryz.pinned (.plain (OpenSpec.upto promptCompletesSpec)) promptCompletesUptoCard

/-- THE SECOND FORM's CARD OF 'shuttlelaw30.PromptNil'. -/
def promptNilUptoCard : Claim7 := { stood := { row := promptNilUptoRow, standIns := [], harness := (true, "f2e953554dd28101e899f3e1a8b8eaf32c46ae32fc98ade4c69040696f0dbb4b"), looks := true }, kinds := [], alts := [], laidByText := true, laidKinds := [.data, .data, .data, .data, .pinned], laidTests := true, laidLooks := .later }
def PromptNilUptoCardSaid : Prop := Claim7.holds Tryz.pinned (.plain (OpenSpec.upto promptNilSpec)) promptNilUptoCard

/-- THE SECOND FORM's CARD OF 'shuttlelaw30.PromptKnown'. -/
def promptKnownUptoCard : Claim7 := { stood := { row := promptKnownUptoRow, standIns := [], harness := (true, "f2e953554dd28101e899f3e1a8b8eaf32c46ae32fc98ade4c69040696f0dbb4b"), looks := true }, kinds := [], alts := [], laidByText := true, laidKinds := [.data, .data, .data, .data, .pinned], laidTests := true, laidLooks := .later }
def PromptKnownUptoCardSaid : Prop := Claim7.holds Tryz.pinned (.plain (OpenSpec.upto promptKnownSpec)) promptKnownUptoCard

/-- THE SECOND FORM's CARD OF 'shuttlelaw30.PromptShape'. -/
def promptShapeUptoCard : Claim7 := { stood := { row := promptShapeUptoRow, standIns := [], harness := (true, "f2e953554dd28101e899f3e1a8b8eaf32c46ae32fc98ade4c69040696f0dbb4b"), looks := true }, kinds := [], alts := [], laidByText := true, laidKinds := [.data, .data, .data, .data, .pinned], laidTests := true, laidLooks := .later }
def PromptShapeUptoCardSaid : Prop := Claim7.holds Tryz.pinned (.plain (OpenSpec.upto promptShapeSpec)) promptShapeUptoCard
end Rows
end Go.Proofs.YthmnbgapdlbbfaaGreatDoor
