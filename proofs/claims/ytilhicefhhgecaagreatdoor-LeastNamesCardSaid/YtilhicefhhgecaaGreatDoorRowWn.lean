/- THE STATEMENT LeastNamesCardSaid: whatever the arguments: the law returns true, and its arguments read as before. No condition but the card's: the tables and the sentinels of Go's library are those that the program's text lays. -/
import Derived.Test.YtilhicefhhgecaaGreatDoorL11gn
import Derived.Test.YtilhicefhhgecaaGreatDoorLtn
import Derived.Test.YtilhicefhhgecaaGreatDoorTie
import Derived.Test.YtilhicefhhgecaaGreatDoorCards
import Derived.FnData
namespace Go.Proofs.YtilhicefhhgecaaGreatDoor.lawLeastNames
open Go.ChangeShapes Go.WideShapes Go.ChangeAt Go.RowKit Pv

theorem own : ownKnob Tryz.prog.godebug = none := by kernel_rfl
theorem laidOut : laidOutB Tryz.prog = true := by kernel_rfl
theorem named : Tryz.prog.funcNamed "provost/provostlaw11.LeastNames" = some 4 := by kernel_rfl
theorem closed : joinedFacts Tryz.prog 4 Tryz.f4 Rows.leastNamesSpec Rows.leastNamesRow = true := by kernel_rfl
theorem inst : Tryz.f4.isInstance Tryz.prog Rows.leastNamesRow.origin Rows.leastNamesRow.targs := of_decide_eq_true (by kernel_rfl)
theorem wrap : Tryz.f4.isWrapper Tryz.prog Rows.leastNamesRow.wrapper Rows.leastNamesRow.mainSum := by unfold Func.isWrapper; first | (rw [if_pos (by decide +kernel)]; kernel_rfl) | (rw [if_neg (by decide +kernel)]; exact ⟨rfl, rfl⟩)
theorem wft : Rows.leastNamesRow.wfByText (OpenSpec.ofChange Rows.leastNamesSpec) = true := by kernel_rfl
theorem mainIs : Tryz.prog.mainIs = some (true, "b652839b525a558306c1035623ca2774316a78dc42f1a0ea08ab1ac71f559e6e".toList) := by kernel_rfl
theorem goes : false = Rows.leastNamesRow.goesBy Tryz.prog := by kernel_rfl
theorem looks : true = Tryz.prog.looks [] := by kernel_rfl

set_option maxHeartbeats 800000 in
set_option maxRecDepth 100000 in
theorem lifted (os : Os) (started : os.Started) (H : Type) (enc : TypeId × Value → H) :
    ReturnsInHanded {} Tryz.checked os 4 .any (fun w args => (Rows.leastNamesSpec.pre enc Tryz.prog Tryz.f4 Rows.leastNamesRow.domain false w args ∧ laidMet Tryz.prog Rows.leastNamesRow.laid w) ∧ sizedMet enc Tryz.prog Tryz.f4 (OpenSpec.ofChange Rows.leastNamesSpec) false w args)
      (Rows.leastNamesSpec.post enc Tryz.prog Tryz.f4 false true false false) := by
  refine returnsInHanded_of_change_and (C := Tryz.checked) (X := fun w _ => laidMet Tryz.prog Rows.leastNamesRow.laid w) (fun _ _ _ hh h => h.of_heap hh) own started (by kernel_rfl) Tryz.func4
    (ChangeSpec.witness_at (enc := enc) (C := Tryz.checked) (os := os) (X := fun w _ => laidMet Tryz.prog Rows.leastNamesRow.laid w) false (laidWorld os) #[] 8 rfl (by kernel_rfl) (by kernel_rfl) (by kernel_rfl) (by kernel_rfl) (by kernel_rfl) (laid_met os _)) ?_
  intro W base args ds gs before hval0 hW _ hsz0 hL _
  have T : TabU W.heap.size W := tabs_of_laid hL
  have hW' := hW
  obtain ⟨p, q, hA0, hV, rfl, hfz, hnd⟩ := hW
  have hA : DataW.TrodAll enc Tryz.prog W 0 (fun _ => true) true Tryz.f4.params.toList args.toList ds p := hA0
  rw [Tryz.params4] at hA
  obtain ⟨hargs, rfl, rfl⟩ := trodAll_nil hA
  obtain rfl : args = #[] := by cases args; simp_all
  obtain ⟨rfl, rfl⟩ := trodVars_none hV
  clear hA0 hval0
  refine (law_LeastNames W W.heap.size T (Nat.le_refl _)).mono fun e W' ⟨he, bel⟩ => ?_
  subst he
  exact ⟨_, rfl, _, _, _, [], _, [], hW', trodAll_mk1 (shut_bool Tryz.underlying4 _),
    trodAll_mk0, rfl, bel.frame _, fun h => by cases h⟩

theorem over : Rows.leastNamesRow.holds Tryz.pinned (OpenSpec.ofChange Rows.leastNamesSpec) :=
  OpenClaim.holds_of_wide 4 Tryz.f4 rfl rfl rfl rfl rfl rfl rfl ⟨rfl, rfl, rfl, rfl, rfl⟩ rfl rfl rfl rfl rfl named Tryz.func4 closed inst wrap
    (fun os started H enc _ => lifted os started H enc)

/-- THE STATEMENT -/
theorem proved : Rows.LeastNamesCardSaid :=
  Claim7.holds_tied_plain_at .later [] [.data, .data, .data, .data, .sentinel, .sentinel, .pinned] true (true, "b652839b525a558306c1035623ca2774316a78dc42f1a0ea08ab1ac71f559e6e") true
    over (fun _ h => by cases h) wft (fun _ h => by cases h) leastNames_row_tie rfl ⟨rfl, rfl⟩ mainIs rfl
    (fun f fn hf hfn => by
      obtain rfl : f = 4 := (Option.some.inj (named.symm.trans hf)).symm
      obtain rfl : fn = Tryz.f4 := (Option.some.inj (Tryz.func4.symm.trans hfn)).symm
      exact ⟨looks, fun j t ht => by
        rw [Tryz.params4] at ht
        simp at ht⟩)
    goes
#print axioms proved
end Go.Proofs.YtilhicefhhgecaaGreatDoor.lawLeastNames
