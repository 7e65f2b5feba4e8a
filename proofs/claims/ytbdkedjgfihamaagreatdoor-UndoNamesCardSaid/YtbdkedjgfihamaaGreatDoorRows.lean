/-
  NARROWER THAN 'FOR EVERY INPUT', by the rows' own cells (each row's printed sentence says how): UndoNames: laid · UndoBack: laid · UndoNested: laid · UndoDoes: laid.
  DERIVED. THE GIVEN ROWS OF THIS SEAT. 4 by the template 'for every input the law returns true; each argument reads behind the call as it read before'; 0 by the template 'total and deterministic' (their statements: YtbdkedjgfihamaaGreatDoorTotals.lean).
  GIVEN WITH THE SEED: the statements are not yours to turn. If you find one false, say at which input.
  Laid BY PROGRAM, IN A SANDBOX (cutbox-rows.mjs): the forced cells as the released guide's own fill.sh prints them over the translation aa6c2441f4e37400… (all of the seat's roots in one cut). By AI agents, Wed Nov 11 2026. No macro, syntax, notation, axiom, sorry.
-/
import Derived.Test.YtbdkedjgfihamaaGreatDoorChecked
import GoSem.PinnedTables
import GoSem.Claim
import GoSem.ClaimJoined
import GoSem.ClaimMapViews
import Derived.JoinedTies
import Derived.KernelRfl
namespace Go.Proofs.YtbdkedjgfihamaaGreatDoor
/- THE CELL 'sum', in the pinned program and in every row, IS THE sha256 OF THE DUMP (.gsa) THAT YtbdkedjgfihamaaGreatDoorProg.lean LOADS. Nothing in Lean hashes anything: it is a label: what it is worth is what the hold of that sum in a sandbox is worth. -/
noncomputable def Tryz.pinned : Pinned := { name := "ytbdkedjgfihamaagreatdoor", sum := "aa6c2441f4e37400b48c9e57fdaefda3b53e6324e7ee7c95b427c1e99ec8ca21", checked := Tryz.checked }
namespace Rows
def none {H : Type} : Left H := { results := [], args := [] }

/- WHAT THE LISTED PACKAGE-LEVEL VARIABLES READ AS WHEN THE CALL BEGINS. Each datum BY PROGRAM (the guide's laid-datum.mjs) off the statement by which the dump's own 'gosem.cut.vars' lays the variable. In a bare row this is a premise. The card (YtbdkedjgfihamaaGreatDoorCards.lean) ties it to the program's text. -/
def laid_unicode_utf8_acceptRanges {H : Type} : DataW H := .agg [.agg [.lit (.int .u8 128), .lit (.int .u8 191)], .agg [.lit (.int .u8 160), .lit (.int .u8 191)], .agg [.lit (.int .u8 128), .lit (.int .u8 159)], .agg [.lit (.int .u8 144), .lit (.int .u8 191)], .agg [.lit (.int .u8 128), .lit (.int .u8 143)], .agg [.lit (.int .u8 0), .lit (.int .u8 0)], .agg [.lit (.int .u8 0), .lit (.int .u8 0)], .agg [.lit (.int .u8 0), .lit (.int .u8 0)], .agg [.lit (.int .u8 0), .lit (.int .u8 0)], .agg [.lit (.int .u8 0), .lit (.int .u8 0)], .agg [.lit (.int .u8 0), .lit (.int .u8 0)], .agg [.lit (.int .u8 0), .lit (.int .u8 0)], .agg [.lit (.int .u8 0), .lit (.int .u8 0)], .agg [.lit (.int .u8 0), .lit (.int .u8 0)], .agg [.lit (.int .u8 0), .lit (.int .u8 0)], .agg [.lit (.int .u8 0), .lit (.int .u8 0)]]
/-- One of Go's own tables, pinned by name: the form's constant. -/
def laid_unicode_utf8_first : DataW Unit := Go.Pinned.utf8First

/-- 'provostlaw28.UndoNames': WHATEVER THE INPUT: true; the input reads as it did. -/
def undoNamesSpec : ChangeSpec := { name := "undoNames", fn := fun _ => fun
  | [] => { results := [.lit (.bool true)], args := [] }
  | _ => none }
def undoNamesRow : OpenClaim := { program := "ytbdkedjgfihamaagreatdoor", sum := "aa6c2441f4e37400b48c9e57fdaefda3b53e6324e7ee7c95b427c1e99ec8ca21", func := "provost/provostlaw28.UndoNames", spec := "undoNames", inPlace := ["internal/bytealg.IndexByteString", "internal/bytealg.IndexString", "slices.overlaps[provost/api.Record]"], unfollowed := true, recurses := true, named := ["unicode/utf8.first", "unicode/utf8.acceptRanges", "internal/bytealg.MaxLen"], apart := false, laid := [("unicode/utf8.acceptRanges", laid_unicode_utf8_acceptRanges), ("unicode/utf8.first", laid_unicode_utf8_first)] }
def UndoNamesSaid : Prop := undoNamesRow.holds Tryz.pinned (OpenSpec.ofChange undoNamesSpec)

/-- ITS FALSE NEIGHBOUR: 'it returns false'. Refute it at one input. -/
def undoNamesWrong : ChangeSpec := { name := "undoNames", fn := fun _ => fun
  | [] => { results := [.lit (.bool false)], args := [] }
  | _ => none }
def UndoNamesWrongFalsely : Prop := undoNamesRow.holds Tryz.pinned (OpenSpec.ofChange undoNamesWrong)

/-- 'provostlaw28.UndoBack': WHATEVER THE INPUT: true; the input reads as it did. -/
def undoBackSpec : ChangeSpec := { name := "undoBack", fn := fun _ => fun
  | [d1, d2, d3, d4, d5] => { results := [.lit (.bool true)], args := [d1, d2, d3, d4, d5] }
  | _ => none }
def undoBackRow : OpenClaim := { program := "ytbdkedjgfihamaagreatdoor", sum := "aa6c2441f4e37400b48c9e57fdaefda3b53e6324e7ee7c95b427c1e99ec8ca21", func := "provost/provostlaw28.UndoBack", spec := "undoBack", inPlace := ["internal/bytealg.IndexByteString", "internal/bytealg.IndexString", "slices.overlaps[provost/api.Record]"], unfollowed := true, recurses := true, named := ["unicode/utf8.first", "unicode/utf8.acceptRanges", "internal/bytealg.MaxLen"], apart := false, laid := [("unicode/utf8.acceptRanges", laid_unicode_utf8_acceptRanges), ("unicode/utf8.first", laid_unicode_utf8_first)] }
def UndoBackSaid : Prop := undoBackRow.holds Tryz.pinned (OpenSpec.ofChange undoBackSpec)

/-- ITS FALSE NEIGHBOUR: 'it returns false'. Refute it at one input. -/
def undoBackWrong : ChangeSpec := { name := "undoBack", fn := fun _ => fun
  | [d1, d2, d3, d4, d5] => { results := [.lit (.bool false)], args := [d1, d2, d3, d4, d5] }
  | _ => none }
def UndoBackWrongFalsely : Prop := undoBackRow.holds Tryz.pinned (OpenSpec.ofChange undoBackWrong)

/-- 'provostlaw28.UndoNested': WHATEVER THE INPUT: true; the input reads as it did. -/
def undoNestedSpec : ChangeSpec := { name := "undoNested", fn := fun _ => fun
  | [d1, d2, d3] => { results := [.lit (.bool true)], args := [d1, d2, d3] }
  | _ => none }
def undoNestedRow : OpenClaim := { program := "ytbdkedjgfihamaagreatdoor", sum := "aa6c2441f4e37400b48c9e57fdaefda3b53e6324e7ee7c95b427c1e99ec8ca21", func := "provost/provostlaw28.UndoNested", spec := "undoNested", inPlace := ["internal/bytealg.IndexByteString", "internal/bytealg.IndexString", "slices.overlaps[provost/api.Record]"], unfollowed := true, recurses := true, named := ["unicode/utf8.first", "unicode/utf8.acceptRanges", "internal/bytealg.MaxLen"], apart := false, laid := [("unicode/utf8.acceptRanges", laid_unicode_utf8_acceptRanges), ("unicode/utf8.first", laid_unicode_utf8_first)] }
def UndoNestedSaid : Prop := undoNestedRow.holds Tryz.pinned (OpenSpec.ofChange undoNestedSpec)

/-- ITS FALSE NEIGHBOUR: 'it returns false'. Refute it at one input. -/
def undoNestedWrong : ChangeSpec := { name := "undoNested", fn := fun _ => fun
  | [d1, d2, d3] => { results := [.lit (.bool false)], args := [d1, d2, d3] }
  | _ => none }
def UndoNestedWrongFalsely : Prop := undoNestedRow.holds Tryz.pinned (OpenSpec.ofChange undoNestedWrong)

/-- 'provostlaw28.UndoDoes': WHATEVER THE INPUT: true; the input reads as it did. -/
def undoDoesSpec : ChangeSpec := { name := "undoDoes", fn := fun _ => fun
  | [d1, d2, d3, d4, d5] => { results := [.lit (.bool true)], args := [d1, d2, d3, d4, d5] }
  | _ => none }
def undoDoesRow : OpenClaim := { program := "ytbdkedjgfihamaagreatdoor", sum := "aa6c2441f4e37400b48c9e57fdaefda3b53e6324e7ee7c95b427c1e99ec8ca21", func := "provost/provostlaw28.UndoDoes", spec := "undoDoes", inPlace := ["internal/bytealg.IndexByteString", "internal/bytealg.IndexString", "slices.overlaps[provost/api.Record]"], unfollowed := true, recurses := true, named := ["unicode/utf8.first", "unicode/utf8.acceptRanges", "internal/bytealg.MaxLen"], apart := false, laid := [("unicode/utf8.acceptRanges", laid_unicode_utf8_acceptRanges), ("unicode/utf8.first", laid_unicode_utf8_first)] }
def UndoDoesSaid : Prop := undoDoesRow.holds Tryz.pinned (OpenSpec.ofChange undoDoesSpec)

/-- ITS FALSE NEIGHBOUR: 'it returns false'. Refute it at one input. -/
def undoDoesWrong : ChangeSpec := { name := "undoDoes", fn := fun _ => fun
  | [d1, d2, d3, d4, d5] => { results := [.lit (.bool false)], args := [d1, d2, d3, d4, d5] }
  | _ => none }
def UndoDoesWrongFalsely : Prop := undoDoesRow.holds Tryz.pinned (OpenSpec.ofChange undoDoesWrong)

/- THE SECOND FORM. 'bulk': how many values and letters a reading holds, each counted each time it is reached (what is shared counts as often as it is met; a slice's spare places count too). A statement '..UptoSaid' is the law's where the arguments, and the package variables that the reading takes, are together of bulk at most 1048576: NARROWER than '..Said'. Prove '..Said' where nothing that the law and all that it calls make is longer than what came in: it says more and counts as full. Else prove '..UptoSaid'. A law counts once. -/
mutual
def uptoBulk {H : Type} : DataW H → Nat
  | .lit (.string bytes) => bytes.length + 1
  | .lit _ => 1
  | .nil => 1
  | .ptr d => uptoBulk d + 1
  | .slice elems spare => uptoBulkAll elems + uptoBulkAll spare + 1
  | .agg parts => uptoBulkAll parts + 1
  | .iface _ d => uptoBulk d + 1
  | .map entries => uptoBulkEntries entries + 1
  | .held _ => 1
def uptoBulkAll {H : Type} : List (DataW H) → Nat
  | [] => 0
  | d :: r => uptoBulk d + uptoBulkAll r
def uptoBulkEntries {H : Type} : List (Lit × DataW H) → Nat
  | [] => 0
  | x :: r => uptoBulkEntry x + uptoBulkEntries r
def uptoBulkEntry {H : Type} : Lit × DataW H → Nat
  | (.string bytes, d) => bytes.length + uptoBulk d + 1
  | (_, d) => uptoBulk d + 1
 end
def uptoSmall : (H : Type) → List (DataW H) → Bool := fun _ ds => decide (uptoBulkAll ds ≤ 1048576)
def OpenSpec.upto (s : _root_.Go.ChangeSpec) : _root_.Go.OpenSpec := { _root_.Go.OpenSpec.ofChange s with cond := some uptoSmall }

/-- 'provostlaw28.UndoNames', WHERE WHAT IT READS IS OF BULK AT MOST 1048576: true; the input reads as it did. -/
def undoNamesUptoRow : OpenClaim := { program := "ytbdkedjgfihamaagreatdoor", sum := "aa6c2441f4e37400b48c9e57fdaefda3b53e6324e7ee7c95b427c1e99ec8ca21", func := "provost/provostlaw28.UndoNames", spec := "undoNames", inPlace := ["internal/bytealg.IndexByteString", "internal/bytealg.IndexString", "slices.overlaps[provost/api.Record]"], unfollowed := true, recurses := true, named := ["unicode/utf8.first", "unicode/utf8.acceptRanges", "internal/bytealg.MaxLen"], apart := false, laid := [("unicode/utf8.acceptRanges", laid_unicode_utf8_acceptRanges), ("unicode/utf8.first", laid_unicode_utf8_first)], narrowed := true }
def UndoNamesUptoSaid : Prop := undoNamesUptoRow.holds Tryz.pinned (OpenSpec.upto undoNamesSpec)

/-- 'provostlaw28.UndoBack', WHERE WHAT IT READS IS OF BULK AT MOST 1048576: true; the input reads as it did. -/
def undoBackUptoRow : OpenClaim := { program := "ytbdkedjgfihamaagreatdoor", sum := "aa6c2441f4e37400b48c9e57fdaefda3b53e6324e7ee7c95b427c1e99ec8ca21", func := "provost/provostlaw28.UndoBack", spec := "undoBack", inPlace := ["internal/bytealg.IndexByteString", "internal/bytealg.IndexString", "slices.overlaps[provost/api.Record]"], unfollowed := true, recurses := true, named := ["unicode/utf8.first", "unicode/utf8.acceptRanges", "internal/bytealg.MaxLen"], apart := false, laid := [("unicode/utf8.acceptRanges", laid_unicode_utf8_acceptRanges), ("unicode/utf8.first", laid_unicode_utf8_first)], narrowed := true }
def UndoBackUptoSaid : Prop := undoBackUptoRow.holds Tryz.pinned (OpenSpec.upto undoBackSpec)

/-- 'provostlaw28.UndoNested', WHERE WHAT IT READS IS OF BULK AT MOST 1048576: true; the input reads as it did. -/
def undoNestedUptoRow : OpenClaim := { program := "ytbdkedjgfihamaagreatdoor", sum := "aa6c2441f4e37400b48c9e57fdaefda3b53e6324e7ee7c95b427c1e99ec8ca21", func := "provost/provostlaw28.UndoNested", spec := "undoNested", inPlace := ["internal/bytealg.IndexByteString", "internal/bytealg.IndexString", "slices.overlaps[provost/api.Record]"], unfollowed := true, recurses := true, named := ["unicode/utf8.first", "unicode/utf8.acceptRanges", "internal/bytealg.MaxLen"], apart := false, laid := [("unicode/utf8.acceptRanges", laid_unicode_utf8_acceptRanges), ("unicode/utf8.first", laid_unicode_utf8_first)], narrowed := true }
def UndoNestedUptoSaid : Prop := undoNestedUptoRow.holds Tryz.pinned (OpenSpec.upto undoNestedSpec)

/-- 'provostlaw28.UndoDoes', WHERE WHAT IT READS IS OF BULK AT MOST 1048576: true; the input reads as it did. -/
def undoDoesUptoRow : OpenClaim := { program := "ytbdkedjgfihamaagreatdoor", sum := "aa6c2441f4e37400b48c9e57fdaefda3b53e6324e7ee7c95b427c1e99ec8ca21", func := "provost/provostlaw28.UndoDoes", spec := "undoDoes", inPlace := ["internal/bytealg.IndexByteString", "internal/bytealg.IndexString", "slices.overlaps[provost/api.Record]"], unfollowed := true, recurses := true, named := ["unicode/utf8.first", "unicode/utf8.acceptRanges", "internal/bytealg.MaxLen"], apart := false, laid := [("unicode/utf8.acceptRanges", laid_unicode_utf8_acceptRanges), ("unicode/utf8.first", laid_unicode_utf8_first)], narrowed := true }
def UndoDoesUptoSaid : Prop := undoDoesUptoRow.holds Tryz.pinned (OpenSpec.upto undoDoesSpec)

end Rows
end Go.Proofs.YtbdkedjgfihamaaGreatDoor
