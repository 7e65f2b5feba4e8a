/- THE STATEMENT PatternReadsCardSaid: whatever the arguments: the law returns true, and its arguments read as before. No condition but the card's: the tables and the sentinels of Go's library are those that the program's text lays. -/
import Derived.Test.YtilhicefhhgecaaGreatDoorL7hq
import Derived.Test.YtilhicefhhgecaaGreatDoorL7tq
import Derived.Test.YtilhicefhhgecaaGreatDoorLtq
import Derived.Test.YtilhicefhhgecaaGreatDoorTie
import Derived.Test.YtilhicefhhgecaaGreatDoorCards
import Derived.FnData
namespace Go.Proofs.YtilhicefhhgecaaGreatDoor.lawPatternReads
open Go.ChangeShapes Go.WideShapes Go.ChangeAt Go.RowKit Pv

theorem own : ownKnob Tryz.prog.godebug = none := by kernel_rfl
theorem laidOut : laidOutB Tryz.prog = true := by kernel_rfl
theorem named : Tryz.prog.funcNamed "provost/provostlaw07.PatternReads" = some 6 := by kernel_rfl
theorem closed : joinedFacts Tryz.prog 6 Tryz.f6 Rows.patternReadsSpec Rows.patternReadsRow = true := by kernel_rfl
theorem inst : Tryz.f6.isInstance Tryz.prog Rows.patternReadsRow.origin Rows.patternReadsRow.targs := of_decide_eq_true (by kernel_rfl)
theorem wrap : Tryz.f6.isWrapper Tryz.prog Rows.patternReadsRow.wrapper Rows.patternReadsRow.mainSum := by unfold Func.isWrapper; first | (rw [if_pos (by decide +kernel)]; kernel_rfl) | (rw [if_neg (by decide +kernel)]; exact ⟨rfl, rfl⟩)
theorem wft : Rows.patternReadsRow.wfByText (OpenSpec.ofChange Rows.patternReadsSpec) = true := by kernel_rfl
theorem mainIs : Tryz.prog.mainIs = some (true, "b652839b525a558306c1035623ca2774316a78dc42f1a0ea08ab1ac71f559e6e".toList) := by kernel_rfl
theorem goes : false = Rows.patternReadsRow.goesBy Tryz.prog := by kernel_rfl
theorem looks : true = Tryz.prog.looks [] := by kernel_rfl

set_option maxHeartbeats 800000 in
set_option maxRecDepth 100000 in
theorem lifted (os : Os) (started : os.Started) (H : Type) (enc : TypeId × Value → H) :
    ReturnsInHanded {} Tryz.checked os 6 .any (fun w args => (Rows.patternReadsSpec.pre enc Tryz.prog Tryz.f6 Rows.patternReadsRow.domain false w args ∧ laidMet Tryz.prog Rows.patternReadsRow.laid w) ∧ sizedMet enc Tryz.prog Tryz.f6 (OpenSpec.ofChange Rows.patternReadsSpec) false w args)
      (Rows.patternReadsSpec.post enc Tryz.prog Tryz.f6 false true false false) := by
  refine returnsInHanded_of_change_and (C := Tryz.checked) (X := fun w _ => laidMet Tryz.prog Rows.patternReadsRow.laid w) (fun _ _ _ hh h => h.of_heap hh) own started (by kernel_rfl) Tryz.func6
    (ChangeSpec.witness_at (enc := enc) (C := Tryz.checked) (os := os) (X := fun w _ => laidMet Tryz.prog Rows.patternReadsRow.laid w) false (laidWorld os) #[.string ⟨#[]⟩] 8 rfl (by kernel_rfl) (by kernel_rfl) (by kernel_rfl) (by kernel_rfl) (by kernel_rfl) (laid_met os _)) ?_
  intro W base args ds gs before hval0 hW _ hsz0 hL _
  have T : T7 W.heap.size W := tabs7_of_laid hL
  have hsz : (DataW.weightsEach Tryz.prog (Tryz.f6.params.toList ++ Rows.patternReadsSpec.plain.varTypes Tryz.prog) (ds ++ gs)).all (· ≤ reachBytes) = true := hsz0
  clear hsz0
  have hval : ∀ (j : Nat) t v, Tryz.f6.params[j]? = some t → args[j]? = some v → Value.okWide Tryz.prog W .any base t v := hval0
  have hW' := hW
  obtain ⟨p, q, hA0, hV, rfl, hfz, hnd⟩ := hW
  have hA : DataW.TrodAll enc Tryz.prog W 0 (fun _ => true) true Tryz.f6.params.toList args.toList ds p := hA0
  rw [Tryz.params6] at hA hval hsz
  obtain ⟨v0, vs0, d0, ds0, p0, q0, hargs, rfl, rfl, h0, r0⟩ := trodAll_cons hA
  obtain ⟨rfl, rfl, rfl⟩ := trodAll_nil r0
  obtain rfl : args = #[v0] := by cases args; simp_all
  obtain ⟨rfl, rfl⟩ := trodVars_none hV
  have k0 := h0
  have lt0 : ∀ x ∈ p0, x.block < W.heap.size := by obtain ⟨m, hm⟩ := k0; exact DataW.trod_lt m _ _ _ hm
  obtain ⟨x_0, rfl, _, _, z_0⟩ := Go.ChangeMaps.open_string Tryz.underlying9 (hval 0 9 v0 rfl rfl) h0
  clear hA0 hval0
  refine (law_PatternReads x_0 W W.heap.size T (Nat.le_refl _)).mono fun e W' ⟨he, bel⟩ => ?_
  subst he
  exact ⟨_, rfl, _, _, _, [], _, [], hW', trodAll_mk1 (shut_bool Tryz.underlying4 _),
    (trodAll_cons_mk (Below.trod laidOut (by kernel_rfl) (of_decide_eq_true (by kernel_rfl)) k0 bel lt0) trodAll_mk0), rfl, bel.frame _, fun h => by cases h⟩

theorem over : Rows.patternReadsRow.holds Tryz.pinned (OpenSpec.ofChange Rows.patternReadsSpec) :=
  OpenClaim.holds_of_wide 6 Tryz.f6 rfl rfl rfl rfl rfl rfl rfl ⟨rfl, rfl, rfl, rfl, rfl⟩ rfl rfl rfl rfl rfl named Tryz.func6 closed inst wrap
    (fun os started H enc _ => lifted os started H enc)

/-- THE STATEMENT -/
theorem proved : Rows.PatternReadsCardSaid :=
  Claim7.holds_tied_plain_at .later [] [.data, .data, .data, .data, .sentinel, .sentinel, .pinned] true (true, "b652839b525a558306c1035623ca2774316a78dc42f1a0ea08ab1ac71f559e6e") true
    over (fun _ h => by cases h) wft (fun _ h => by cases h) patternReads_row_tie rfl ⟨rfl, rfl⟩ mainIs rfl
    (fun f fn hf hfn => by
      obtain rfl : f = 6 := (Option.some.inj (named.symm.trans hf)).symm
      obtain rfl : fn = Tryz.f6 := (Option.some.inj (Tryz.func6.symm.trans hfn)).symm
      exact ⟨looks, fun j t ht => by
        rw [Tryz.params6] at ht
        have h3 : t = 9 := by
          rcases j with _ | j
          · simpa using ht.symm
          · simp at ht
        subst h3; exact (show Tryz.prog.wantsStandIn 9 = false by kernel_rfl)⟩)
    goes
#print axioms proved
end Go.Proofs.YtilhicefhhgecaaGreatDoor.lawPatternReads
