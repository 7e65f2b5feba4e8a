/-
  DERIVED. GIVEN WITH THE SEED: THE CARDS: each row of YtbdkedjgfihamaaGreatDoorRows.lean that lists a variable, with what it lists TIED to the program's text (the seventh form; the later family's looks); each row that meets fmt, with fmt's text TOLD by the authors' own Lean function (tested against real Go, not proved from fmt's source: count such statements apart). THE CARD IS WHAT COUNTS. Prove the row's statement (the work); the ties are given (YtbdkedjgfihamaaGreatDoorTie.lean); close each card by the builder's one call (the guide's Derived/Test/ToyasCard.lean, 'card_holds'). Laid BY PROGRAM, IN A SANDBOX (cutbox-door.mjs). By AI agents, Wed Nov 11 2026. No macro, syntax, notation, axiom, sorry.
-/
import Derived.Test.YtbdkedjgfihamaaGreatDoorRows
import GoSem.ClaimSeven
namespace Go.Proofs.YtbdkedjgfihamaaGreatDoor
namespace Rows

/-- THE TIED CARD OF 'provostlaw28.UndoNames'. -/
def undoNamesCard : Claim7 := { stood := { row := undoNamesRow, standIns := [], harness := (true, "5f48d943f767dc1a69b23e64f09192cc685acff27790003950affe84495fefdb"), looks := false }, kinds := [], alts := [], laidByText := true, laidKinds := [.data, .pinned], laidTests := true, laidLooks := .later }
def UndoNamesCardSaid : Prop := Claim7.holds Tryz.pinned (.plain (OpenSpec.ofChange undoNamesSpec)) undoNamesCard

/-- THE TIED CARD OF 'provostlaw28.UndoBack'. -/
def undoBackCard : Claim7 := { stood := { row := undoBackRow, standIns := [], harness := (true, "5f48d943f767dc1a69b23e64f09192cc685acff27790003950affe84495fefdb"), looks := false }, kinds := [], alts := [], laidByText := true, laidKinds := [.data, .pinned], laidTests := true, laidLooks := .later }
def UndoBackCardSaid : Prop := Claim7.holds Tryz.pinned (.plain (OpenSpec.ofChange undoBackSpec)) undoBackCard

/-- THE TIED CARD OF 'provostlaw28.UndoNested'. -/
def undoNestedCard : Claim7 := { stood := { row := undoNestedRow, standIns := [], harness := (true, "5f48d943f767dc1a69b23e64f09192cc685acff27790003950affe84495fefdb"), looks := false }, kinds := [], alts := [], laidByText := true, laidKinds := [.data, .pinned], laidTests := true, laidLooks := .later }
def UndoNestedCardSaid : Prop := Claim7.holds Tryz.pinned (.plain (OpenSpec.ofChange undoNestedSpec)) undoNestedCard

/-- THE TIED CARD OF 'provostlaw28.UndoDoes'. -/
def undoDoesCard : Claim7 := { stood := { row := undoDoesRow, standIns := [], harness := (true, "5f48d943f767dc1a69b23e64f09192cc685acff27790003950affe84495fefdb"), looks := false }, kinds := [], alts := [], laidByText := true, laidKinds := [.data, .pinned], laidTests := true, laidLooks := .later }
def UndoDoesCardSaid : Prop := Claim7.holds Tryz.pinned (.plain (OpenSpec.ofChange undoDoesSpec)) undoDoesCard

/-- THE SECOND FORM's CARD OF 'provostlaw28.UndoNames'. -/
def undoNamesUptoCard : Claim7 := { stood := { row := undoNamesUptoRow, standIns := [], harness := (true, "5f48d943f767dc1a69b23e64f09192cc685acff27790003950affe84495fefdb"), looks := false }, kinds := [], alts := [], laidByText := true, laidKinds := [.data, .pinned], laidTests := true, laidLooks := .later }
def UndoNamesUptoCardSaid : Prop := Claim7.holds Tryz.pinned (.plain (OpenSpec.upto undoNamesSpec)) undoNamesUptoCard

/-- THE SECOND FORM's CARD OF 'provostlaw28.UndoBack'. -/
def undoBackUptoCard : Claim7 := { stood := { row := undoBackUptoRow, standIns := [], harness := (true, "5f48d943f767dc1a69b23e64f09192cc685acff27790003950affe84495fefdb"), looks := false }, kinds := [], alts := [], laidByText := true, laidKinds := [.data, .pinned], laidTests := true, laidLooks := .later }
def UndoBackUptoCardSaid : Prop := Claim7.holds Tryz.pinned (.plain (OpenSpec.upto undoBackSpec)) undoBackUptoCard

/-- THE SECOND FORM's CARD OF 'provostlaw28.UndoNested'. -/
def undoNestedUptoCard : Claim7 := { stood := { row := undoNestedUptoRow, standIns := [], harness := (true, "5f48d943f767dc1a69b23e64f09192cc685acff27790003950affe84495fefdb"), looks := false }, kinds := [], alts := [], laidByText := true, laidKinds := [.data, .pinned], laidTests := true, laidLooks := .later }
def UndoNestedUptoCardSaid : Prop := Claim7.holds Tryz.pinned (.plain (OpenSpec.upto undoNestedSpec)) undoNestedUptoCard

/-- THE SECOND FORM's CARD OF 'provostlaw28.UndoDoes'. -/
def undoDoesUptoCard : Claim7 := { stood := { row := undoDoesUptoRow, standIns := [], harness := (true, "5f48d943f767dc1a69b23e64f09192cc685acff27790003950affe84495fefdb"), looks := false }, kinds := [], alts := [], laidByText := true, laidKinds := [.data, .pinned], laidTests := true, laidLooks := .later }
def UndoDoesUptoCardSaid : Prop := Claim7.holds Tryz.pinned (.plain (OpenSpec.upto undoDoesSpec)) undoDoesUptoCard
end Rows
end Go.Proofs.YtbdkedjgfihamaaGreatDoor
