/-
  DERIVED. GIVEN WITH THE SEED: THE CARDS: each row of YtilhicefhhgecaaGreatDoorRows.lean that lists a variable, with what it lists TIED to the program's text (the seventh form; the later family's looks); each row that meets fmt, with fmt's text TOLD by the authors' own Lean function (tested against real Go, not proved from fmt's source: count such statements apart). THE CARD IS WHAT COUNTS. Prove the row's statement (the work); the ties are given (YtilhicefhhgecaaGreatDoorTie.lean); close each card by the builder's one call (the guide's Derived/Test/ToyasCard.lean, 'card_holds'). Laid BY PROGRAM, IN A SANDBOX (cutbox-door.mjs). By AI agents, Wed Nov 11 2026. No macro, syntax, notation, axiom, sorry.
-/
import Derived.Test.YtilhicefhhgecaaGreatDoorRows
import GoSem.ClaimSeven
namespace Go.Proofs.YtilhicefhhgecaaGreatDoor
namespace Rows

/-- THE TIED CARD OF 'provostlaw10.SubsetNames'. -/
def subsetNamesCard : Claim7 := { stood := { row := subsetNamesRow, standIns := [], harness := (true, "b652839b525a558306c1035623ca2774316a78dc42f1a0ea08ab1ac71f559e6e"), looks := true }, kinds := [], alts := [], laidByText := true, laidKinds := [.data, .data, .data, .data, .sentinel, .sentinel, .pinned], laidTests := true, laidLooks := .later }
def SubsetNamesCardSaid : Prop := Claim7.holds Tryz.pinned (.plain (OpenSpec.ofChange subsetNamesSpec)) subsetNamesCard

/-- THE TIED CARD OF 'provostlaw11.LeastNames'. -/
def leastNamesCard : Claim7 := { stood := { row := leastNamesRow, standIns := [], harness := (true, "b652839b525a558306c1035623ca2774316a78dc42f1a0ea08ab1ac71f559e6e"), looks := true }, kinds := [], alts := [], laidByText := true, laidKinds := [.data, .data, .data, .data, .sentinel, .sentinel, .pinned], laidTests := true, laidLooks := .later }
def LeastNamesCardSaid : Prop := Claim7.holds Tryz.pinned (.plain (OpenSpec.ofChange leastNamesSpec)) leastNamesCard

/-- THE TIED CARD OF 'provostlaw11.LeastLanguage'. -/
def leastLanguageCard : Claim7 := { stood := { row := leastLanguageRow, standIns := [], harness := (true, "b652839b525a558306c1035623ca2774316a78dc42f1a0ea08ab1ac71f559e6e"), looks := true }, kinds := [], alts := [], laidByText := true, laidKinds := [.data, .data, .data, .data, .sentinel, .sentinel, .pinned], laidTests := true, laidLooks := .later }
def LeastLanguageCardSaid : Prop := Claim7.holds Tryz.pinned (.plain (OpenSpec.ofChange leastLanguageSpec)) leastLanguageCard

/-- THE TIED CARD OF 'provostlaw07.PatternReads'. -/
def patternReadsCard : Claim7 := { stood := { row := patternReadsRow, standIns := [], harness := (true, "b652839b525a558306c1035623ca2774316a78dc42f1a0ea08ab1ac71f559e6e"), looks := true }, kinds := [], alts := [], laidByText := true, laidKinds := [.data, .data, .data, .data, .sentinel, .sentinel, .pinned], laidTests := true, laidLooks := .later }
def PatternReadsCardSaid : Prop := Claim7.holds Tryz.pinned (.plain (OpenSpec.ofChange patternReadsSpec)) patternReadsCard

/-- THE TIED CARD OF 'provostlaw07.PatternNames'. -/
def patternNamesCard : Claim7 := { stood := { row := patternNamesRow, standIns := [], harness := (true, "b652839b525a558306c1035623ca2774316a78dc42f1a0ea08ab1ac71f559e6e"), looks := true }, kinds := [], alts := [], laidByText := true, laidKinds := [.data, .data, .data, .data, .sentinel, .sentinel, .pinned], laidTests := true, laidLooks := .later }
def PatternNamesCardSaid : Prop := Claim7.holds Tryz.pinned (.plain (OpenSpec.ofChange patternNamesSpec)) patternNamesCard

/-- THE TIED CARD OF 'provostlaw07.PatternBack'. -/
def patternBackCard : Claim7 := { stood := { row := patternBackRow, standIns := [], harness := (true, "b652839b525a558306c1035623ca2774316a78dc42f1a0ea08ab1ac71f559e6e"), looks := true }, kinds := [], alts := [], laidByText := true, laidKinds := [.data, .data, .data, .data, .sentinel, .sentinel, .pinned], laidTests := true, laidLooks := .later }
def PatternBackCardSaid : Prop := Claim7.holds Tryz.pinned (.plain (OpenSpec.ofChange patternBackSpec)) patternBackCard

/-- THE TIED CARD OF 'provostlaw07.PatternOne'. -/
def patternOneCard : Claim7 := { stood := { row := patternOneRow, standIns := [], harness := (true, "b652839b525a558306c1035623ca2774316a78dc42f1a0ea08ab1ac71f559e6e"), looks := true }, kinds := [], alts := [], laidByText := true, laidKinds := [.data, .data, .data, .data, .sentinel, .sentinel, .pinned], laidTests := true, laidLooks := .later }
def PatternOneCardSaid : Prop := Claim7.holds Tryz.pinned (.plain (OpenSpec.ofChange patternOneSpec)) patternOneCard

/-- THE TIED CARD OF 'provostlaw07.PatternRows'. -/
def patternRowsCard : Claim7 := { stood := { row := patternRowsRow, standIns := [], harness := (true, "b652839b525a558306c1035623ca2774316a78dc42f1a0ea08ab1ac71f559e6e"), looks := true }, kinds := [], alts := [], laidByText := true, laidKinds := [.data, .data, .data, .data, .sentinel, .sentinel, .pinned], laidTests := true, laidLooks := .later }
def PatternRowsCardSaid : Prop := Claim7.holds Tryz.pinned (.plain (OpenSpec.ofChange patternRowsSpec)) patternRowsCard

/-- THE SECOND FORM's CARD OF 'provostlaw10.SubsetNames'. -/
def subsetNamesUptoCard : Claim7 := { stood := { row := subsetNamesUptoRow, standIns := [], harness := (true, "b652839b525a558306c1035623ca2774316a78dc42f1a0ea08ab1ac71f559e6e"), looks := true }, kinds := [], alts := [], laidByText := true, laidKinds := [.data, .data, .data, .data, .sentinel, .sentinel, .pinned], laidTests := true, laidLooks := .later }
def SubsetNamesUptoCardSaid : Prop := Claim7.holds Tryz.pinned (.plain (OpenSpec.upto subsetNamesSpec)) subsetNamesUptoCard

/-- THE SECOND FORM's CARD OF 'provostlaw11.LeastNames'. -/
def leastNamesUptoCard : Claim7 := { stood := { row := leastNamesUptoRow, standIns := [], harness := (true, "b652839b525a558306c1035623ca2774316a78dc42f1a0ea08ab1ac71f559e6e"), looks := true }, kinds := [], alts := [], laidByText := true, laidKinds := [.data, .data, .data, .data, .sentinel, .sentinel, .pinned], laidTests := true, laidLooks := .later }
def LeastNamesUptoCardSaid : Prop := Claim7.holds Tryz.pinned (.plain (OpenSpec.upto leastNamesSpec)) leastNamesUptoCard

/-- THE SECOND FORM's CARD OF 'provostlaw11.LeastLanguage'. -/
def leastLanguageUptoCard : Claim7 := { stood := { row := leastLanguageUptoRow, standIns := [], harness := (true, "b652839b525a558306c1035623ca2774316a78dc42f1a0ea08ab1ac71f559e6e"), looks := true }, kinds := [], alts := [], laidByText := true, laidKinds := [.data, .data, .data, .data, .sentinel, .sentinel, .pinned], laidTests := true, laidLooks := .later }
def LeastLanguageUptoCardSaid : Prop := Claim7.holds Tryz.pinned (.plain (OpenSpec.upto leastLanguageSpec)) leastLanguageUptoCard

/-- THE SECOND FORM's CARD OF 'provostlaw07.PatternReads'. -/
def patternReadsUptoCard : Claim7 := { stood := { row := patternReadsUptoRow, standIns := [], harness := (true, "b652839b525a558306c1035623ca2774316a78dc42f1a0ea08ab1ac71f559e6e"), looks := true }, kinds := [], alts := [], laidByText := true, laidKinds := [.data, .data, .data, .data, .sentinel, .sentinel, .pinned], laidTests := true, laidLooks := .later }
def PatternReadsUptoCardSaid : Prop := Claim7.holds Tryz.pinned (.plain (OpenSpec.upto patternReadsSpec)) patternReadsUptoCard

/-- THE SECOND FORM's CARD OF 'provostlaw07.PatternNames'. -/
def patternNamesUptoCard : Claim7 := { stood := { row := patternNamesUptoRow, standIns := [], harness := (true, "b652839b525a558306c1035623ca2774316a78dc42f1a0ea08ab1ac71f559e6e"), looks := true }, kinds := [], alts := [], laidByText := true, laidKinds := [.data, .data, .data, .data, .sentinel, .sentinel, .pinned], laidTests := true, laidLooks := .later }
def PatternNamesUptoCardSaid : Prop := Claim7.holds Tryz.pinned (.plain (OpenSpec.upto patternNamesSpec)) patternNamesUptoCard

/-- THE SECOND FORM's CARD OF 'provostlaw07.PatternBack'. -/
def patternBackUptoCard : Claim7 := { stood := { row := patternBackUptoRow, standIns := [], harness := (true, "b652839b525a558306c1035623ca2774316a78dc42f1a0ea08ab1ac71f559e6e"), looks := true }, kinds := [], alts := [], laidByText := true, laidKinds := [.data, .data, .data, .data, .sentinel, .sentinel, .pinned], laidTests := true, laidLooks := .later }
def PatternBackUptoCardSaid : Prop := Claim7.holds Tryz.pinned (.plain (OpenSpec.upto patternBackSpec)) patternBackUptoCard

/-- THE SECOND FORM's CARD OF 'provostlaw07.PatternOne'. -/
def patternOneUptoCard : Claim7 := { stood := { row := patternOneUptoRow, standIns := [], harness := (true, "b652839b525a558306c1035623ca2774316a78dc42f1a0ea08ab1ac71f559e6e"), looks := true }, kinds := [], alts := [], laidByText := true, laidKinds := [.data, .data, .data, .data, .sentinel, .sentinel, .pinned], laidTests := true, laidLooks := .later }
def PatternOneUptoCardSaid : Prop := Claim7.holds Tryz.pinned (.plain (OpenSpec.upto patternOneSpec)) patternOneUptoCard

/-- THE SECOND FORM's CARD OF 'provostlaw07.PatternRows'. -/
def patternRowsUptoCard : Claim7 := { stood := { row := patternRowsUptoRow, standIns := [], harness := (true, "b652839b525a558306c1035623ca2774316a78dc42f1a0ea08ab1ac71f559e6e"), looks := true }, kinds := [], alts := [], laidByText := true, laidKinds := [.data, .data, .data, .data, .sentinel, .sentinel, .pinned], laidTests := true, laidLooks := .later }
def PatternRowsUptoCardSaid : Prop := Claim7.holds Tryz.pinned (.plain (OpenSpec.upto patternRowsSpec)) patternRowsUptoCard
end Rows
end Go.Proofs.YtilhicefhhgecaaGreatDoor
