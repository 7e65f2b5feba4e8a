/- THE STATEMENT AutoNamesCardSaid: whatever the arguments: the law returns true, and its arguments read as before. No condition but the card's: the tables and the sentinels of Go's library are those that the program's text lays. -/
import Derived.Test.YtcmmmgblkbbdnaaGreatDoorL9fh
import Derived.Test.YtcmmmgblkbbdnaaGreatDoorLth
import Derived.Test.YtcmmmgblkbbdnaaGreatDoorTie
import Derived.Test.YtcmmmgblkbbdnaaGreatDoorCards
import Derived.FnData
namespace Go.Proofs.YtcmmmgblkbbdnaaGreatDoor.lawAutoNames
open Go.ChangeShapes Go.WideShapes Go.ChangeAt Go.RowKit Pv

theorem own : ownKnob Tryz.prog.godebug = none := by kernel_rfl
theorem laidOut : laidOutB Tryz.prog = true := by kernel_rfl
theorem named : Tryz.prog.funcNamed "provost/provostlaw09.AutoNames" = some 5 := by kernel_rfl
theorem closed : joinedFacts Tryz.prog 5 Tryz.f5 Rows.autoNamesSpec Rows.autoNamesRow = true := by kernel_rfl
theorem inst : Tryz.f5.isInstance Tryz.prog Rows.autoNamesRow.origin Rows.autoNamesRow.targs := of_decide_eq_true (by kernel_rfl)
theorem wrap : Tryz.f5.isWrapper Tryz.prog Rows.autoNamesRow.wrapper Rows.autoNamesRow.mainSum := by unfold Func.isWrapper; first | (rw [if_pos (by decide +kernel)]; kernel_rfl) | (rw [if_neg (by decide +kernel)]; exact ⟨rfl, rfl⟩)
theorem wft : Rows.autoNamesRow.wfByText (OpenSpec.ofChange Rows.autoNamesSpec) = true := by kernel_rfl
theorem mainIs : Tryz.prog.mainIs = some (true, "e702d0a69b92f6a6e57714016e23a6f5461b44196ca5b8d81e6d14f0615dd2ce".toList) := by kernel_rfl
theorem goes : false = Rows.autoNamesRow.goesBy Tryz.prog := by kernel_rfl
theorem looks : true = Tryz.prog.looks [] := by kernel_rfl

set_option maxHeartbeats 800000 in
set_option maxRecDepth 100000 in
theorem lifted (os : Os) (started : os.Started) (H : Type) (enc : TypeId × Value → H) :
    ReturnsInHanded {} Tryz.checked os 5 .any (fun w args => (Rows.autoNamesSpec.pre enc Tryz.prog Tryz.f5 Rows.autoNamesRow.domain false w args ∧ laidMet Tryz.prog Rows.autoNamesRow.laid w) ∧ sizedMet enc Tryz.prog Tryz.f5 (OpenSpec.ofChange Rows.autoNamesSpec) false w args)
      (Rows.autoNamesSpec.post enc Tryz.prog Tryz.f5 false true false false) := by
  refine returnsInHanded_of_change_and (C := Tryz.checked) (X := fun w _ => laidMet Tryz.prog Rows.autoNamesRow.laid w) (fun _ _ _ hh h => h.of_heap hh) own started (by kernel_rfl) Tryz.func5
    (ChangeSpec.witness_at (enc := enc) (C := Tryz.checked) (os := os) (X := fun w _ => laidMet Tryz.prog Rows.autoNamesRow.laid w) false (laidWorld os) #[] 8 rfl (by kernel_rfl) (by kernel_rfl) (by kernel_rfl) (by kernel_rfl) (by kernel_rfl) (laid_met os _)) ?_
  intro W base args ds gs before hval0 hW _ hsz0 hL _
  have T : TabU W.heap.size W := tabs_of_laid hL
  have hW' := hW
  obtain ⟨p, q, hA0, hV, rfl, hfz, hnd⟩ := hW
  have hA : DataW.TrodAll enc Tryz.prog W 0 (fun _ => true) true Tryz.f5.params.toList args.toList ds p := hA0
  rw [Tryz.params5] at hA
  obtain ⟨hargs, rfl, rfl⟩ := trodAll_nil hA
  obtain rfl : args = #[] := by cases args; simp_all
  obtain ⟨rfl, rfl⟩ := trodVars_none hV
  clear hA0 hval0
  refine (law_AutoNames W W.heap.size T (Nat.le_refl _)).mono fun e W' ⟨he, bel⟩ => ?_
  subst he
  exact ⟨_, rfl, _, _, _, [], _, [], hW', trodAll_mk1 (shut_bool Tryz.underlying4 _),
    trodAll_mk0, rfl, bel.frame _, fun h => by cases h⟩

theorem over : Rows.autoNamesRow.holds Tryz.pinned (OpenSpec.ofChange Rows.autoNamesSpec) :=
  OpenClaim.holds_of_wide 5 Tryz.f5 rfl rfl rfl rfl rfl rfl rfl ⟨rfl, rfl, rfl, rfl, rfl⟩ rfl rfl rfl rfl rfl named Tryz.func5 closed inst wrap
    (fun os started H enc _ => lifted os started H enc)

/-- THE STATEMENT -/
theorem proved : Rows.AutoNamesCardSaid :=
  Claim7.holds_tied_plain_at .later [] [.data, .data, .data, .data, .sentinel, .sentinel, .pinned] true (true, "e702d0a69b92f6a6e57714016e23a6f5461b44196ca5b8d81e6d14f0615dd2ce") true
    over (fun _ h => by cases h) wft (fun _ h => by cases h) autoNames_row_tie rfl ⟨rfl, rfl⟩ mainIs rfl
    (fun f fn hf hfn => by
      obtain rfl : f = 5 := (Option.some.inj (named.symm.trans hf)).symm
      obtain rfl : fn = Tryz.f5 := (Option.some.inj (Tryz.func5.symm.trans hfn)).symm
      exact ⟨looks, fun j t ht => by
        rw [Tryz.params5] at ht
        simp at ht⟩)
    goes
#print axioms proved
end Go.Proofs.YtcmmmgblkbbdnaaGreatDoor.lawAutoNames
