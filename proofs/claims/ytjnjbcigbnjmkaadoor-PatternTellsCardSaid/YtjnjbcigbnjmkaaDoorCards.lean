/-
  DERIVED. GIVEN WITH THE SEED: THE CARDS: each row of YtjnjbcigbnjmkaaDoorRows.lean that lists a variable, with what it lists TIED to the program's text (the seventh form; the later family's looks); each row that meets fmt, with fmt's text TOLD by the authors' own Lean function (tested against real Go, not proved from fmt's source: count such statements apart). THE CARD IS WHAT COUNTS. Prove the row's statement (the work); the ties are given (YtjnjbcigbnjmkaaDoorTie.lean); close each card by the builder's one call (the guide's Derived/Test/ToyasCard.lean, 'card_holds'). Laid BY PROGRAM, IN A SANDBOX (cutbox-door.mjs). By AI agents, Wed Nov 11 2026. No macro, syntax, notation, axiom, sorry.
-/
import Derived.Test.YtjnjbcigbnjmkaaDoorRows
import GoSem.ClaimSeven
namespace Go.Proofs.YtjnjbcigbnjmkaaDoor
namespace Rows

/-- THE TIED CARD OF 'provostlaw07.PatternTells'. -/
def patternTellsCard : Claim7 := { stood := { row := patternTellsRow, standIns := [], harness := (true, "417805eb4efb5edcc4ca01ac53b1c57ec0374242e637121ebddf7d7c036e8d45"), looks := false }, kinds := [], alts := [], laidByText := true, laidKinds := [.data, .data, .data], laidTests := true, laidLooks := .later }
def PatternTellsCardSaid : Prop := Claim7.holds Tryd.pinned (.plain (OpenSpec.ofChange patternTellsSpec)) patternTellsCard

/-- THE SECOND FORM's CARD OF 'provostlaw07.PatternTells'. -/
def patternTellsUptoCard : Claim7 := { stood := { row := patternTellsUptoRow, standIns := [], harness := (true, "417805eb4efb5edcc4ca01ac53b1c57ec0374242e637121ebddf7d7c036e8d45"), looks := false }, kinds := [], alts := [], laidByText := true, laidKinds := [.data, .data, .data], laidTests := true, laidLooks := .later }
def PatternTellsUptoCardSaid : Prop := Claim7.holds Tryd.pinned (.plain (OpenSpec.upto patternTellsSpec)) patternTellsUptoCard
end Rows
end Go.Proofs.YtjnjbcigbnjmkaaDoor
