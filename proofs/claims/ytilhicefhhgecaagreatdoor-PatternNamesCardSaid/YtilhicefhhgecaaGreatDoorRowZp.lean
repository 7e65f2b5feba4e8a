/- THE STATEMENT PatternNamesCardSaid: whatever the arguments: the law returns true, and its arguments read as before. No condition but the card's: the tables and the sentinels of Go's library are those that the program's text lays. -/
import Derived.Test.YtilhicefhhgecaaGreatDoorL7gp
import Derived.Test.YtilhicefhhgecaaGreatDoorL7tp
import Derived.Test.YtilhicefhhgecaaGreatDoorLtp
import Derived.Test.YtilhicefhhgecaaGreatDoorTie
import Derived.Test.YtilhicefhhgecaaGreatDoorCards
import Derived.FnData
namespace Go.Proofs.YtilhicefhhgecaaGreatDoor.lawPatternNames
open Go.ChangeShapes Go.WideShapes Go.ChangeAt Go.RowKit Pv

theorem own : ownKnob Tryz.prog.godebug = none := by kernel_rfl
theorem laidOut : laidOutB Tryz.prog = true := by kernel_rfl
theorem named : Tryz.prog.funcNamed "provost/provostlaw07.PatternNames" = some 7 := by kernel_rfl
theorem closed : joinedFacts Tryz.prog 7 Tryz.f7 Rows.patternNamesSpec Rows.patternNamesRow = true := by kernel_rfl
theorem inst : Tryz.f7.isInstance Tryz.prog Rows.patternNamesRow.origin Rows.patternNamesRow.targs := of_decide_eq_true (by kernel_rfl)
theorem wrap : Tryz.f7.isWrapper Tryz.prog Rows.patternNamesRow.wrapper Rows.patternNamesRow.mainSum := by unfold Func.isWrapper; first | (rw [if_pos (by decide +kernel)]; kernel_rfl) | (rw [if_neg (by decide +kernel)]; exact ⟨rfl, rfl⟩)
theorem wft : Rows.patternNamesRow.wfByText (OpenSpec.ofChange Rows.patternNamesSpec) = true := by kernel_rfl
theorem mainIs : Tryz.prog.mainIs = some (true, "b652839b525a558306c1035623ca2774316a78dc42f1a0ea08ab1ac71f559e6e".toList) := by kernel_rfl
theorem goes : false = Rows.patternNamesRow.goesBy Tryz.prog := by kernel_rfl
theorem looks : true = Tryz.prog.looks [] := by kernel_rfl

set_option maxHeartbeats 800000 in
set_option maxRecDepth 100000 in
theorem lifted (os : Os) (started : os.Started) (H : Type) (enc : TypeId × Value → H) :
    ReturnsInHanded {} Tryz.checked os 7 .any (fun w args => (Rows.patternNamesSpec.pre enc Tryz.prog Tryz.f7 Rows.patternNamesRow.domain false w args ∧ laidMet Tryz.prog Rows.patternNamesRow.laid w) ∧ sizedMet enc Tryz.prog Tryz.f7 (OpenSpec.ofChange Rows.patternNamesSpec) false w args)
      (Rows.patternNamesSpec.post enc Tryz.prog Tryz.f7 false true false false) := by
  refine returnsInHanded_of_change_and (C := Tryz.checked) (X := fun w _ => laidMet Tryz.prog Rows.patternNamesRow.laid w) (fun _ _ _ hh h => h.of_heap hh) own started (by kernel_rfl) Tryz.func7
    (ChangeSpec.witness_at (enc := enc) (C := Tryz.checked) (os := os) (X := fun w _ => laidMet Tryz.prog Rows.patternNamesRow.laid w) false (laidWorld os) #[] 8 rfl (by kernel_rfl) (by kernel_rfl) (by kernel_rfl) (by kernel_rfl) (by kernel_rfl) (laid_met os _)) ?_
  intro W base args ds gs before hval0 hW _ hsz0 hL _
  have T : T7 W.heap.size W := tabs7_of_laid hL
  have hW' := hW
  obtain ⟨p, q, hA0, hV, rfl, hfz, hnd⟩ := hW
  have hA : DataW.TrodAll enc Tryz.prog W 0 (fun _ => true) true Tryz.f7.params.toList args.toList ds p := hA0
  rw [Tryz.params7] at hA
  obtain ⟨hargs, rfl, rfl⟩ := trodAll_nil hA
  obtain rfl : args = #[] := by cases args; simp_all
  obtain ⟨rfl, rfl⟩ := trodVars_none hV
  clear hA0 hval0
  refine (law_PatternNames W W.heap.size T (Nat.le_refl _)).mono fun e W' ⟨he, bel⟩ => ?_
  subst he
  exact ⟨_, rfl, _, _, _, [], _, [], hW', trodAll_mk1 (shut_bool Tryz.underlying4 _),
    trodAll_mk0, rfl, bel.frame _, fun h => by cases h⟩

theorem over : Rows.patternNamesRow.holds Tryz.pinned (OpenSpec.ofChange Rows.patternNamesSpec) :=
  OpenClaim.holds_of_wide 7 Tryz.f7 rfl rfl rfl rfl rfl rfl rfl ⟨rfl, rfl, rfl, rfl, rfl⟩ rfl rfl rfl rfl rfl named Tryz.func7 closed inst wrap
    (fun os started H enc _ => lifted os started H enc)

/-- THE STATEMENT -/
theorem proved : Rows.PatternNamesCardSaid :=
  Claim7.holds_tied_plain_at .later [] [.data, .data, .data, .data, .sentinel, .sentinel, .pinned] true (true, "b652839b525a558306c1035623ca2774316a78dc42f1a0ea08ab1ac71f559e6e") true
    over (fun _ h => by cases h) wft (fun _ h => by cases h) patternNames_row_tie rfl ⟨rfl, rfl⟩ mainIs rfl
    (fun f fn hf hfn => by
      obtain rfl : f = 7 := (Option.some.inj (named.symm.trans hf)).symm
      obtain rfl : fn = Tryz.f7 := (Option.some.inj (Tryz.func7.symm.trans hfn)).symm
      exact ⟨looks, fun j t ht => by
        rw [Tryz.params7] at ht
        simp at ht⟩)
    goes
#print axioms proved
end Go.Proofs.YtilhicefhhgecaaGreatDoor.lawPatternNames
