/- THE STATEMENT LeastLanguageCardSaid: whatever the arguments: the law returns true, and its arguments read as before. No condition but the card's: the tables and the sentinels of Go's library are those that the program's text lays. -/
import Derived.Test.YtilhicefhhgecaaGreatDoorL11bm
import Derived.Test.YtilhicefhhgecaaGreatDoorLtm
import Derived.Test.YtilhicefhhgecaaGreatDoorTie
import Derived.Test.YtilhicefhhgecaaGreatDoorCards
import Derived.Test.YtilhicefhhgecaaGreatDoorBtm
import Derived.FnData
namespace Go.Proofs.YtilhicefhhgecaaGreatDoor.lawLeastLanguage
open Go.ChangeShapes Go.WideShapes Go.ChangeAt Go.RowKit Pv

theorem own : ownKnob Tryz.prog.godebug = none := by kernel_rfl
theorem laidOut : laidOutB Tryz.prog = true := by kernel_rfl
theorem named : Tryz.prog.funcNamed "provost/provostlaw11.LeastLanguage" = some 5 := by kernel_rfl
theorem closed : joinedFacts Tryz.prog 5 Tryz.f5 Rows.leastLanguageSpec Rows.leastLanguageRow = true := by kernel_rfl
theorem inst : Tryz.f5.isInstance Tryz.prog Rows.leastLanguageRow.origin Rows.leastLanguageRow.targs := of_decide_eq_true (by kernel_rfl)
theorem wrap : Tryz.f5.isWrapper Tryz.prog Rows.leastLanguageRow.wrapper Rows.leastLanguageRow.mainSum := by unfold Func.isWrapper; first | (rw [if_pos (by decide +kernel)]; kernel_rfl) | (rw [if_neg (by decide +kernel)]; exact ⟨rfl, rfl⟩)
theorem wft : Rows.leastLanguageRow.wfByText (OpenSpec.ofChange Rows.leastLanguageSpec) = true := by kernel_rfl
theorem mainIs : Tryz.prog.mainIs = some (true, "b652839b525a558306c1035623ca2774316a78dc42f1a0ea08ab1ac71f559e6e".toList) := by kernel_rfl
theorem goes : false = Rows.leastLanguageRow.goesBy Tryz.prog := by kernel_rfl
theorem looks : true = Tryz.prog.looks [] := by kernel_rfl
theorem cI : Tryz.prog.cellsOf 3 = 1 := by kernel_rfl
theorem cU : Tryz.prog.cellsOf 5 = 1 := by kernel_rfl
theorem cS : Tryz.prog.cellsOf 50 = 1 := by kernel_rfl
theorem cR : Tryz.prog.cellsOf 124 = 2 := by kernel_rfl
theorem cX : Tryz.prog.cellsOf 52 = 5 := by kernel_rfl
theorem bR' : Tryz.prog.bytesOf 124 = 16 := by kernel_rfl
theorem bX : Tryz.prog.bytesOf 52 = 56 := by kernel_rfl
theorem bI : Tryz.prog.bytesOf 3 = 8 := by kernel_rfl

set_option maxHeartbeats 800000 in
set_option maxRecDepth 100000 in
theorem lifted (os : Os) (started : os.Started) (H : Type) (enc : TypeId × Value → H) :
    ReturnsInHanded {} Tryz.checked os 5 .any (fun w args => (Rows.leastLanguageSpec.pre enc Tryz.prog Tryz.f5 Rows.leastLanguageRow.domain false w args ∧ laidMet Tryz.prog Rows.leastLanguageRow.laid w) ∧ sizedMet enc Tryz.prog Tryz.f5 (OpenSpec.ofChange Rows.leastLanguageSpec) false w args)
      (Rows.leastLanguageSpec.post enc Tryz.prog Tryz.f5 false true false false) := by
  refine returnsInHanded_of_change_and (C := Tryz.checked) (X := fun w _ => laidMet Tryz.prog Rows.leastLanguageRow.laid w) (fun _ _ _ hh h => h.of_heap hh) own started (by kernel_rfl) Tryz.func5
    (ChangeSpec.witness_at (enc := enc) (C := Tryz.checked) (os := os) (X := fun w _ => laidMet Tryz.prog Rows.leastLanguageRow.laid w) false (laidWorld os) #[.slice none 0 0, .slice none 0 0] 8 rfl (by kernel_rfl) (by kernel_rfl) (by kernel_rfl) (by kernel_rfl) (by kernel_rfl) (laid_met os _)) ?_
  intro W base args ds gs before hval0 hW _ hsz0 hL _
  have T : TabU W.heap.size W := tabs_of_laid hL
  have hsz : (DataW.weightsEach Tryz.prog (Tryz.f5.params.toList ++ Rows.leastLanguageSpec.plain.varTypes Tryz.prog) (ds ++ gs)).all (· ≤ reachBytes) = true := hsz0
  clear hsz0
  have hval : ∀ (j : Nat) t v, Tryz.f5.params[j]? = some t → args[j]? = some v → Value.okWide Tryz.prog W .any base t v := hval0
  have hW' := hW
  obtain ⟨p, q, hA0, hV, rfl, hfz, hnd⟩ := hW
  have hA : DataW.TrodAll enc Tryz.prog W 0 (fun _ => true) true Tryz.f5.params.toList args.toList ds p := hA0
  rw [Tryz.params5] at hA hval hsz
  obtain ⟨v0, vs0, d0, ds0, p0, q0, hargs, rfl, rfl, h0, r0⟩ := trodAll_cons hA
  obtain ⟨v1, vs1, d1, ds1, p1, q1, rfl, rfl, rfl, h1, r1⟩ := trodAll_cons r0
  obtain ⟨rfl, rfl, rfl⟩ := trodAll_nil r1
  obtain rfl : args = #[v0, v1] := by cases args; simp_all
  obtain ⟨rfl, rfl⟩ := trodVars_none hV
  have l0 := lite_arg (j := 0) hsz rfl rfl
  have l1 := lite_arg (j := 1) hsz rfl rfl
  have k0 := h0; have k1 := h1
  have lt0 : ∀ x ∈ p0, x.block < W.heap.size := by obtain ⟨m, hm⟩ := k0; exact DataW.trod_lt m _ _ _ hm
  have lt1 : ∀ x ∈ p1, x.block < W.heap.size := by obtain ⟨m, hm⟩ := k1; exact DataW.trod_lt m _ _ _ hm
  obtain ⟨a_0, n_0, c_0, rfl⟩ := okWide_slice Tryz.underlying29 (hval 0 29 v0 rfl rfl)
  obtain ⟨fuel0, hf0⟩ := h0
  obtain ⟨t_0, A_0, e_0, hv0, H_0, _⟩ := read_rx Tryz.underlying29 Tryz.underlying52 Tryz.underlying124 rfl rfl rfl rfl rfl rfl rfl rfl rfl rfl rfl rfl rfl rfl Tryz.underlying5 Tryz.underlying50 Tryz.underlying3 cX cR cU cS cI (by rw [bX]; omega) (by rw [bR']; omega) hf0 l0
  injection hv0 with g0a g0b g0c
  subst g0a; subst g0c
  have L_0 := Lib.hid g0b.symm
  obtain ⟨a_1, n_1, c_1, rfl⟩ := okWide_slice Tryz.underlying22 (hval 1 22 v1 rfl rfl)
  obtain ⟨fuel1, hf1⟩ := h1
  obtain ⟨t_1, A_1, e_1, hv1, H_1, hc_1⟩ := read_slice Tryz.underlying22 cI (by rw [bI]; omega) hf1 l1 fun f u y hy _ => read_int Tryz.underlying3 hy
  injection hv1 with g1a g1b g1c
  subst g1a; subst g1c
  have L_1 := Lib.hid g1b.symm
  clear hA0 hval0
  refine (law_LeastLanguage a_0 a_1 n_0 c_0 n_1 c_1 t_0 t_1 W W.heap.size H_0 L_0 H_1 L_1 T (Nat.le_refl _)).mono fun e W' ⟨he, bel⟩ => ?_
  subst he
  exact ⟨_, rfl, _, _, _, [], _, [], hW', trodAll_mk1 (shut_bool Tryz.underlying4 _),
    (trodAll_cons_mk (Below.trod laidOut (by kernel_rfl) (of_decide_eq_true (by kernel_rfl)) k0 bel lt0) (trodAll_cons_mk (Below.trod laidOut (by kernel_rfl) (of_decide_eq_true (by kernel_rfl)) k1 bel lt1) trodAll_mk0)), rfl, bel.frame _, fun h => by cases h⟩

theorem over : Rows.leastLanguageRow.holds Tryz.pinned (OpenSpec.ofChange Rows.leastLanguageSpec) :=
  OpenClaim.holds_of_wide 5 Tryz.f5 rfl rfl rfl rfl rfl rfl rfl ⟨rfl, rfl, rfl, rfl, rfl⟩ rfl rfl rfl rfl rfl named Tryz.func5 closed inst wrap
    (fun os started H enc _ => lifted os started H enc)

/-- THE STATEMENT -/
theorem proved : Rows.LeastLanguageCardSaid :=
  Claim7.holds_tied_plain_at .later [] [.data, .data, .data, .data, .sentinel, .sentinel, .pinned] true (true, "b652839b525a558306c1035623ca2774316a78dc42f1a0ea08ab1ac71f559e6e") true
    over (fun _ h => by cases h) wft (fun _ h => by cases h) leastLanguage_row_tie rfl ⟨rfl, rfl⟩ mainIs rfl
    (fun f fn hf hfn => by
      obtain rfl : f = 5 := (Option.some.inj (named.symm.trans hf)).symm
      obtain rfl : fn = Tryz.f5 := (Option.some.inj (Tryz.func5.symm.trans hfn)).symm
      exact ⟨looks, fun j t ht => by
        rw [Tryz.params5] at ht
        have h3 : t = 29 ∨ t = 22 := by
          rcases j with _ | _ | j
          · left; simpa using ht.symm
          · right; simpa using ht.symm
          · simp at ht
        rcases h3 with h3 | h3
        · subst h3; exact (show Tryz.prog.wantsStandIn 29 = false by kernel_rfl)
        · subst h3; exact (show Tryz.prog.wantsStandIn 22 = false by kernel_rfl)⟩)
    goes
#print axioms proved
end Go.Proofs.YtilhicefhhgecaaGreatDoor.lawLeastLanguage
