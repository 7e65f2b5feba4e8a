/-
  DERIVED. GIVEN WITH THE SEED: THE CARDS: each row of YtcmmmgblkbbdnaaGreatDoorRows.lean that lists a variable, with what it lists TIED to the program's text (the seventh form; the later family's looks); each row that meets fmt, with fmt's text TOLD by the authors' own Lean function (tested against real Go, not proved from fmt's source: count such statements apart). THE CARD IS WHAT COUNTS. Prove the row's statement (the work); the ties are given (YtcmmmgblkbbdnaaGreatDoorTie.lean); close each card by the builder's one call (the guide's Derived/Test/ToyasCard.lean, 'card_holds'). Laid BY PROGRAM, IN A SANDBOX (cutbox-door.mjs). By AI agents, Wed Nov 11 2026. No macro, syntax, notation, axiom, sorry.
-/
import Derived.Test.YtcmmmgblkbbdnaaGreatDoorRows
import GoSem.ClaimSeven
namespace Go.Proofs.YtcmmmgblkbbdnaaGreatDoor
namespace Rows

/-- THE TIED CARD OF 'provostlaw08.TongueNames'. -/
def tongueNamesCard : Claim7 := { stood := { row := tongueNamesRow, standIns := [], harness := (true, "e702d0a69b92f6a6e57714016e23a6f5461b44196ca5b8d81e6d14f0615dd2ce"), looks := true }, kinds := [], alts := [], laidByText := true, laidKinds := [.data, .data, .data, .data, .sentinel, .sentinel, .pinned], laidTests := true, laidLooks := .later }
def TongueNamesCardSaid : Prop := Claim7.holds Tryz.pinned (.plain (OpenSpec.ofChange tongueNamesSpec)) tongueNamesCard

/-- THE TIED CARD OF 'provostlaw08.TongueAgain'. -/
def tongueAgainCard : Claim7 := { stood := { row := tongueAgainRow, standIns := [], harness := (true, "e702d0a69b92f6a6e57714016e23a6f5461b44196ca5b8d81e6d14f0615dd2ce"), looks := true }, kinds := [], alts := [], laidByText := true, laidKinds := [.data, .data, .data, .data, .sentinel, .sentinel, .pinned], laidTests := true, laidLooks := .later }
def TongueAgainCardSaid : Prop := Claim7.holds Tryz.pinned (.plain (OpenSpec.ofChange tongueAgainSpec)) tongueAgainCard

/-- THE TIED CARD OF 'provostlaw09.AutoNames'. -/
def autoNamesCard : Claim7 := { stood := { row := autoNamesRow, standIns := [], harness := (true, "e702d0a69b92f6a6e57714016e23a6f5461b44196ca5b8d81e6d14f0615dd2ce"), looks := true }, kinds := [], alts := [], laidByText := true, laidKinds := [.data, .data, .data, .data, .sentinel, .sentinel, .pinned], laidTests := true, laidLooks := .later }
def AutoNamesCardSaid : Prop := Claim7.holds Tryz.pinned (.plain (OpenSpec.ofChange autoNamesSpec)) autoNamesCard

/-- THE TIED CARD OF 'provostlaw09.AutoReaches'. -/
def autoReachesCard : Claim7 := { stood := { row := autoReachesRow, standIns := [], harness := (true, "e702d0a69b92f6a6e57714016e23a6f5461b44196ca5b8d81e6d14f0615dd2ce"), looks := true }, kinds := [], alts := [], laidByText := true, laidKinds := [.data, .data, .data, .data, .sentinel, .sentinel, .pinned], laidTests := true, laidLooks := .later }
def AutoReachesCardSaid : Prop := Claim7.holds Tryz.pinned (.plain (OpenSpec.ofChange autoReachesSpec)) autoReachesCard

/-- THE TIED CARD OF 'provostlaw09.AutoLanguage'. -/
def autoLanguageCard : Claim7 := { stood := { row := autoLanguageRow, standIns := [], harness := (true, "e702d0a69b92f6a6e57714016e23a6f5461b44196ca5b8d81e6d14f0615dd2ce"), looks := true }, kinds := [], alts := [], laidByText := true, laidKinds := [.data, .data, .data, .data, .sentinel, .sentinel, .pinned], laidTests := true, laidLooks := .later }
def AutoLanguageCardSaid : Prop := Claim7.holds Tryz.pinned (.plain (OpenSpec.ofChange autoLanguageSpec)) autoLanguageCard

/-- THE TIED CARD OF 'provostlaw10.SubsetWalks'. -/
def subsetWalksCard : Claim7 := { stood := { row := subsetWalksRow, standIns := [], harness := (true, "e702d0a69b92f6a6e57714016e23a6f5461b44196ca5b8d81e6d14f0615dd2ce"), looks := true }, kinds := [], alts := [], laidByText := true, laidKinds := [.data, .data, .data, .data, .sentinel, .sentinel, .pinned], laidTests := true, laidLooks := .later }
def SubsetWalksCardSaid : Prop := Claim7.holds Tryz.pinned (.plain (OpenSpec.ofChange subsetWalksSpec)) subsetWalksCard

/-- THE TIED CARD OF 'provostlaw10.SubsetAccepts'. -/
def subsetAcceptsCard : Claim7 := { stood := { row := subsetAcceptsRow, standIns := [], harness := (true, "e702d0a69b92f6a6e57714016e23a6f5461b44196ca5b8d81e6d14f0615dd2ce"), looks := true }, kinds := [], alts := [], laidByText := true, laidKinds := [.data, .data, .data, .data, .sentinel, .sentinel, .pinned], laidTests := true, laidLooks := .later }
def SubsetAcceptsCardSaid : Prop := Claim7.holds Tryz.pinned (.plain (OpenSpec.ofChange subsetAcceptsSpec)) subsetAcceptsCard

/-- THE TIED CARD OF 'provostlaw11.LeastRuns'. -/
def leastRunsCard : Claim7 := { stood := { row := leastRunsRow, standIns := [], harness := (true, "e702d0a69b92f6a6e57714016e23a6f5461b44196ca5b8d81e6d14f0615dd2ce"), looks := true }, kinds := [], alts := [], laidByText := true, laidKinds := [.data, .data, .data, .data, .sentinel, .sentinel, .pinned], laidTests := true, laidLooks := .later }
def LeastRunsCardSaid : Prop := Claim7.holds Tryz.pinned (.plain (OpenSpec.ofChange leastRunsSpec)) leastRunsCard

/-- THE TIED CARD OF 'provostlaw11.LeastFew'. -/
def leastFewCard : Claim7 := { stood := { row := leastFewRow, standIns := [], harness := (true, "e702d0a69b92f6a6e57714016e23a6f5461b44196ca5b8d81e6d14f0615dd2ce"), looks := true }, kinds := [], alts := [], laidByText := true, laidKinds := [.data, .data, .data, .data, .sentinel, .sentinel, .pinned], laidTests := true, laidLooks := .later }
def LeastFewCardSaid : Prop := Claim7.holds Tryz.pinned (.plain (OpenSpec.ofChange leastFewSpec)) leastFewCard

/-- THE TIED CARD OF 'provostlaw11.LeastShort'. -/
def leastShortCard : Claim7 := { stood := { row := leastShortRow, standIns := [], harness := (true, "e702d0a69b92f6a6e57714016e23a6f5461b44196ca5b8d81e6d14f0615dd2ce"), looks := true }, kinds := [], alts := [], laidByText := true, laidKinds := [.data, .data, .data, .data, .sentinel, .sentinel, .pinned], laidTests := true, laidLooks := .later }
def LeastShortCardSaid : Prop := Claim7.holds Tryz.pinned (.plain (OpenSpec.ofChange leastShortSpec)) leastShortCard

/-- THE TIED CARD OF 'provostlaw11.LeastOne'. -/
def leastOneCard : Claim7 := { stood := { row := leastOneRow, standIns := [], harness := (true, "e702d0a69b92f6a6e57714016e23a6f5461b44196ca5b8d81e6d14f0615dd2ce"), looks := true }, kinds := [], alts := [], laidByText := true, laidKinds := [.data, .data, .data, .data, .sentinel, .sentinel, .pinned], laidTests := true, laidLooks := .later }
def LeastOneCardSaid : Prop := Claim7.holds Tryz.pinned (.plain (OpenSpec.ofChange leastOneSpec)) leastOneCard

/-- THE TIED CARD OF 'provostlaw11.LeastLanguage'. -/
def leastLanguageCard : Claim7 := { stood := { row := leastLanguageRow, standIns := [], harness := (true, "e702d0a69b92f6a6e57714016e23a6f5461b44196ca5b8d81e6d14f0615dd2ce"), looks := true }, kinds := [], alts := [], laidByText := true, laidKinds := [.data, .data, .data, .data, .sentinel, .sentinel, .pinned], laidTests := true, laidLooks := .later }
def LeastLanguageCardSaid : Prop := Claim7.holds Tryz.pinned (.plain (OpenSpec.ofChange leastLanguageSpec)) leastLanguageCard

/-- THE SECOND FORM's CARD OF 'provostlaw08.TongueNames'. -/
def tongueNamesUptoCard : Claim7 := { stood := { row := tongueNamesUptoRow, standIns := [], harness := (true, "e702d0a69b92f6a6e57714016e23a6f5461b44196ca5b8d81e6d14f0615dd2ce"), looks := true }, kinds := [], alts := [], laidByText := true, laidKinds := [.data, .data, .data, .data, .sentinel, .sentinel, .pinned], laidTests := true, laidLooks := .later }
def TongueNamesUptoCardSaid : Prop := Claim7.holds Tryz.pinned (.plain (OpenSpec.upto tongueNamesSpec)) tongueNamesUptoCard

/-- THE SECOND FORM's CARD OF 'provostlaw08.TongueAgain'. -/
def tongueAgainUptoCard : Claim7 := { stood := { row := tongueAgainUptoRow, standIns := [], harness := (true, "e702d0a69b92f6a6e57714016e23a6f5461b44196ca5b8d81e6d14f0615dd2ce"), looks := true }, kinds := [], alts := [], laidByText := true, laidKinds := [.data, .data, .data, .data, .sentinel, .sentinel, .pinned], laidTests := true, laidLooks := .later }
def TongueAgainUptoCardSaid : Prop := Claim7.holds Tryz.pinned (.plain (OpenSpec.upto tongueAgainSpec)) tongueAgainUptoCard

/-- THE SECOND FORM's CARD OF 'provostlaw09.AutoNames'. -/
def autoNamesUptoCard : Claim7 := { stood := { row := autoNamesUptoRow, standIns := [], harness := (true, "e702d0a69b92f6a6e57714016e23a6f5461b44196ca5b8d81e6d14f0615dd2ce"), looks := true }, kinds := [], alts := [], laidByText := true, laidKinds := [.data, .data, .data, .data, .sentinel, .sentinel, .pinned], laidTests := true, laidLooks := .later }
def AutoNamesUptoCardSaid : Prop := Claim7.holds Tryz.pinned (.plain (OpenSpec.upto autoNamesSpec)) autoNamesUptoCard

/-- THE SECOND FORM's CARD OF 'provostlaw09.AutoReaches'. -/
def autoReachesUptoCard : Claim7 := { stood := { row := autoReachesUptoRow, standIns := [], harness := (true, "e702d0a69b92f6a6e57714016e23a6f5461b44196ca5b8d81e6d14f0615dd2ce"), looks := true }, kinds := [], alts := [], laidByText := true, laidKinds := [.data, .data, .data, .data, .sentinel, .sentinel, .pinned], laidTests := true, laidLooks := .later }
def AutoReachesUptoCardSaid : Prop := Claim7.holds Tryz.pinned (.plain (OpenSpec.upto autoReachesSpec)) autoReachesUptoCard

/-- THE SECOND FORM's CARD OF 'provostlaw09.AutoLanguage'. -/
def autoLanguageUptoCard : Claim7 := { stood := { row := autoLanguageUptoRow, standIns := [], harness := (true, "e702d0a69b92f6a6e57714016e23a6f5461b44196ca5b8d81e6d14f0615dd2ce"), looks := true }, kinds := [], alts := [], laidByText := true, laidKinds := [.data, .data, .data, .data, .sentinel, .sentinel, .pinned], laidTests := true, laidLooks := .later }
def AutoLanguageUptoCardSaid : Prop := Claim7.holds Tryz.pinned (.plain (OpenSpec.upto autoLanguageSpec)) autoLanguageUptoCard

/-- THE SECOND FORM's CARD OF 'provostlaw10.SubsetWalks'. -/
def subsetWalksUptoCard : Claim7 := { stood := { row := subsetWalksUptoRow, standIns := [], harness := (true, "e702d0a69b92f6a6e57714016e23a6f5461b44196ca5b8d81e6d14f0615dd2ce"), looks := true }, kinds := [], alts := [], laidByText := true, laidKinds := [.data, .data, .data, .data, .sentinel, .sentinel, .pinned], laidTests := true, laidLooks := .later }
def SubsetWalksUptoCardSaid : Prop := Claim7.holds Tryz.pinned (.plain (OpenSpec.upto subsetWalksSpec)) subsetWalksUptoCard

/-- THE SECOND FORM's CARD OF 'provostlaw10.SubsetAccepts'. -/
def subsetAcceptsUptoCard : Claim7 := { stood := { row := subsetAcceptsUptoRow, standIns := [], harness := (true, "e702d0a69b92f6a6e57714016e23a6f5461b44196ca5b8d81e6d14f0615dd2ce"), looks := true }, kinds := [], alts := [], laidByText := true, laidKinds := [.data, .data, .data, .data, .sentinel, .sentinel, .pinned], laidTests := true, laidLooks := .later }
def SubsetAcceptsUptoCardSaid : Prop := Claim7.holds Tryz.pinned (.plain (OpenSpec.upto subsetAcceptsSpec)) subsetAcceptsUptoCard

/-- THE SECOND FORM's CARD OF 'provostlaw11.LeastRuns'. -/
def leastRunsUptoCard : Claim7 := { stood := { row := leastRunsUptoRow, standIns := [], harness := (true, "e702d0a69b92f6a6e57714016e23a6f5461b44196ca5b8d81e6d14f0615dd2ce"), looks := true }, kinds := [], alts := [], laidByText := true, laidKinds := [.data, .data, .data, .data, .sentinel, .sentinel, .pinned], laidTests := true, laidLooks := .later }
def LeastRunsUptoCardSaid : Prop := Claim7.holds Tryz.pinned (.plain (OpenSpec.upto leastRunsSpec)) leastRunsUptoCard

/-- THE SECOND FORM's CARD OF 'provostlaw11.LeastFew'. -/
def leastFewUptoCard : Claim7 := { stood := { row := leastFewUptoRow, standIns := [], harness := (true, "e702d0a69b92f6a6e57714016e23a6f5461b44196ca5b8d81e6d14f0615dd2ce"), looks := true }, kinds := [], alts := [], laidByText := true, laidKinds := [.data, .data, .data, .data, .sentinel, .sentinel, .pinned], laidTests := true, laidLooks := .later }
def LeastFewUptoCardSaid : Prop := Claim7.holds Tryz.pinned (.plain (OpenSpec.upto leastFewSpec)) leastFewUptoCard

/-- THE SECOND FORM's CARD OF 'provostlaw11.LeastShort'. -/
def leastShortUptoCard : Claim7 := { stood := { row := leastShortUptoRow, standIns := [], harness := (true, "e702d0a69b92f6a6e57714016e23a6f5461b44196ca5b8d81e6d14f0615dd2ce"), looks := true }, kinds := [], alts := [], laidByText := true, laidKinds := [.data, .data, .data, .data, .sentinel, .sentinel, .pinned], laidTests := true, laidLooks := .later }
def LeastShortUptoCardSaid : Prop := Claim7.holds Tryz.pinned (.plain (OpenSpec.upto leastShortSpec)) leastShortUptoCard

/-- THE SECOND FORM's CARD OF 'provostlaw11.LeastOne'. -/
def leastOneUptoCard : Claim7 := { stood := { row := leastOneUptoRow, standIns := [], harness := (true, "e702d0a69b92f6a6e57714016e23a6f5461b44196ca5b8d81e6d14f0615dd2ce"), looks := true }, kinds := [], alts := [], laidByText := true, laidKinds := [.data, .data, .data, .data, .sentinel, .sentinel, .pinned], laidTests := true, laidLooks := .later }
def LeastOneUptoCardSaid : Prop := Claim7.holds Tryz.pinned (.plain (OpenSpec.upto leastOneSpec)) leastOneUptoCard

/-- THE SECOND FORM's CARD OF 'provostlaw11.LeastLanguage'. -/
def leastLanguageUptoCard : Claim7 := { stood := { row := leastLanguageUptoRow, standIns := [], harness := (true, "e702d0a69b92f6a6e57714016e23a6f5461b44196ca5b8d81e6d14f0615dd2ce"), looks := true }, kinds := [], alts := [], laidByText := true, laidKinds := [.data, .data, .data, .data, .sentinel, .sentinel, .pinned], laidTests := true, laidLooks := .later }
def LeastLanguageUptoCardSaid : Prop := Claim7.holds Tryz.pinned (.plain (OpenSpec.upto leastLanguageSpec)) leastLanguageUptoCard
end Rows
end Go.Proofs.YtcmmmgblkbbdnaaGreatDoor
