/- THE STATEMENT LeastOneCardSaid: whatever the arguments: the law returns true, and its arguments read as before. No condition but the card's: the tables and the sentinels of Go's library are those that the program's text lays. -/
import Derived.Test.YtcmmmgblkbbdnaaGreatDoorL11zQg
import Derived.Test.YtcmmmgblkbbdnaaGreatDoorTie
import Derived.Test.YtcmmmgblkbbdnaaGreatDoorCards
import Derived.Test.YtcmmmgblkbbdnaaGreatDoorBtg
import Derived.FnData
namespace Go.Proofs.YtcmmmgblkbbdnaaGreatDoor.lawLeastOne
open Go.ChangeShapes Go.WideShapes Go.ChangeAt Go.RowKit Pv

theorem own : ownKnob Tryz.prog.godebug = none := by kernel_rfl
theorem laidOut : laidOutB Tryz.prog = true := by kernel_rfl
theorem named : Tryz.prog.funcNamed "provost/provostlaw11.LeastOne" = some 13 := by kernel_rfl
theorem closed : joinedFacts Tryz.prog 13 Tryz.f13 Rows.leastOneSpec Rows.leastOneRow = true := by kernel_rfl
theorem inst : Tryz.f13.isInstance Tryz.prog Rows.leastOneRow.origin Rows.leastOneRow.targs := of_decide_eq_true (by kernel_rfl)
theorem wrap : Tryz.f13.isWrapper Tryz.prog Rows.leastOneRow.wrapper Rows.leastOneRow.mainSum := by unfold Func.isWrapper; first | (rw [if_pos (by decide +kernel)]; kernel_rfl) | (rw [if_neg (by decide +kernel)]; exact ⟨rfl, rfl⟩)
theorem wft : Rows.leastOneRow.wfByText (OpenSpec.ofChange Rows.leastOneSpec) = true := by kernel_rfl
theorem mainIs : Tryz.prog.mainIs = some (true, "e702d0a69b92f6a6e57714016e23a6f5461b44196ca5b8d81e6d14f0615dd2ce".toList) := by kernel_rfl
theorem goes : false = Rows.leastOneRow.goesBy Tryz.prog := by kernel_rfl
theorem looks : true = Tryz.prog.looks [] := by kernel_rfl
theorem cI : Tryz.prog.cellsOf 3 = 1 := by kernel_rfl
theorem bI : Tryz.prog.bytesOf 3 = 8 := by kernel_rfl
theorem cB : Tryz.prog.cellsOf 4 = 1 := by kernel_rfl
theorem cSI : Tryz.prog.cellsOf 27 = 1 := by kernel_rfl
theorem cD : Tryz.prog.cellsOf 62 = 3 := by kernel_rfl
theorem bB : Tryz.prog.bytesOf 4 = 1 := by kernel_rfl
theorem bS : Tryz.prog.bytesOf 27 = 24 := by kernel_rfl

set_option maxHeartbeats 800000 in
set_option maxRecDepth 100000 in
theorem lifted (os : Os) (started : os.Started) (H : Type) (enc : TypeId × Value → H) :
    ReturnsInHanded {} Tryz.checked os 13 .any (fun w args => (Rows.leastOneSpec.pre enc Tryz.prog Tryz.f13 Rows.leastOneRow.domain false w args ∧ laidMet Tryz.prog Rows.leastOneRow.laid w) ∧ sizedMet enc Tryz.prog Tryz.f13 (OpenSpec.ofChange Rows.leastOneSpec) false w args)
      (Rows.leastOneSpec.post enc Tryz.prog Tryz.f13 false true false false) := by
  refine returnsInHanded_of_change_and (C := Tryz.checked) (X := fun w _ => laidMet Tryz.prog Rows.leastOneRow.laid w) (fun _ _ _ hh h => h.of_heap hh) own started (by kernel_rfl) Tryz.func13
    (ChangeSpec.witness_at (enc := enc) (C := Tryz.checked) (os := os) (X := fun w _ => laidMet Tryz.prog Rows.leastOneRow.laid w) false (laidWorld os) #[.agg #[.slice none 0 0, .slice none 0 0, .slice none 0 0], .agg #[.slice none 0 0, .slice none 0 0, .slice none 0 0], .slice none 0 0] 8 rfl (by kernel_rfl) (by kernel_rfl) (by kernel_rfl) (by kernel_rfl) (by kernel_rfl) (laid_met os _)) ?_
  intro W base args ds gs before hval0 hW _ hsz0 hL _
  have T : TabU W.heap.size W := tabs_of_laid hL
  have hsz : (DataW.weightsEach Tryz.prog (Tryz.f13.params.toList ++ Rows.leastOneSpec.plain.varTypes Tryz.prog) (ds ++ gs)).all (· ≤ reachBytes) = true := hsz0
  clear hsz0
  have hval : ∀ (j : Nat) t v, Tryz.f13.params[j]? = some t → args[j]? = some v → Value.okWide Tryz.prog W .any base t v := hval0
  have hW' := hW
  obtain ⟨p, q, hA0, hV, rfl, hfz, hnd⟩ := hW
  have hA : DataW.TrodAll enc Tryz.prog W 0 (fun _ => true) true Tryz.f13.params.toList args.toList ds p := hA0
  rw [Tryz.params13] at hA hval hsz
  obtain ⟨v0, vs0, d0, ds0, p0, q0, hargs, rfl, rfl, h0, r0⟩ := trodAll_cons hA
  obtain ⟨v1, vs1, d1, ds1, p1, q1, rfl, rfl, rfl, h1, r1⟩ := trodAll_cons r0
  obtain ⟨v2, vs2, d2, ds2, p2, q2, rfl, rfl, rfl, h2, r2⟩ := trodAll_cons r1
  obtain ⟨rfl, rfl, rfl⟩ := trodAll_nil r2
  obtain rfl : args = #[v0, v1, v2] := by cases args; simp_all
  obtain ⟨rfl, rfl⟩ := trodVars_none hV
  have l0 := lite_arg (j := 0) hsz rfl rfl
  have l1 := lite_arg (j := 1) hsz rfl rfl
  have l2 := lite_arg (j := 2) hsz rfl rfl
  have k0 := h0; have k1 := h1; have k2 := h2
  have lt0 : ∀ x ∈ p0, x.block < W.heap.size := by obtain ⟨m, hm⟩ := k0; exact DataW.trod_lt m _ _ _ hm
  have lt1 : ∀ x ∈ p1, x.block < W.heap.size := by obtain ⟨m, hm⟩ := k1; exact DataW.trod_lt m _ _ _ hm
  have lt2 : ∀ x ∈ p2, x.block < W.heap.size := by obtain ⟨m, hm⟩ := k2; exact DataW.trod_lt m _ _ _ hm
  obtain ⟨y1_0, y2_0, y3_0, t_0, rfl, hD0⟩ := read_dfa Tryz.underlying62 (by kernel_rfl) cD rfl rfl rfl Tryz.underlying27 Tryz.underlying59 Tryz.underlying60 Tryz.underlying3 Tryz.underlying4 cI cSI cB (by rw [bI]; omega) (by rw [bS]; omega) (by rw [bB]; omega) (hval 0 62 v0 rfl rfl) h0 l0
  obtain ⟨A_0, B_0, C_0, n1_0, n2_0, n3_0, c1_0, c2_0, c3_0, rfl, rfl, rfl, H_0⟩ := hD0.opens
  obtain ⟨y1_1, y2_1, y3_1, t_1, rfl, hD1⟩ := read_dfa Tryz.underlying62 (by kernel_rfl) cD rfl rfl rfl Tryz.underlying27 Tryz.underlying59 Tryz.underlying60 Tryz.underlying3 Tryz.underlying4 cI cSI cB (by rw [bI]; omega) (by rw [bS]; omega) (by rw [bB]; omega) (hval 1 62 v1 rfl rfl) h1 l1
  obtain ⟨A_1, B_1, C_1, n1_1, n2_1, n3_1, c1_1, c2_1, c3_1, rfl, rfl, rfl, H_1⟩ := hD1.opens
  obtain ⟨a_2, n_2, c_2, rfl⟩ := okWide_slice Tryz.underlying27 (hval 2 27 v2 rfl rfl)
  obtain ⟨fuel2, hf2⟩ := h2
  obtain ⟨t_2, A_2, e_2, hv2, H_2, _⟩ := read_slice Tryz.underlying27 cI (by rw [bI]; omega) hf2 l2 fun f u y hy _ => read_int Tryz.underlying3 hy
  injection hv2 with g2a g2b g2c
  subst g2a; subst g2c
  have L_2 := Lib.hid g2b.symm
  clear hA0 hval0
  refine (law_LeastOne A_0 B_0 C_0 A_1 B_1 C_1 a_2 c1_0 c2_0 c3_0 n1_0 n2_0 n3_0 c1_1 c2_1 c3_1 n1_1 n2_1 n3_1 n_2 c_2 t_0 t_1 t_2 W W.heap.size H_0 H_1 H_2 L_2 T (Nat.le_refl _)).mono fun e W' ⟨he, bel⟩ => ?_
  subst he
  exact ⟨_, rfl, _, _, _, [], _, [], hW', trodAll_mk1 (shut_bool Tryz.underlying4 _),
    (trodAll_cons_mk (Below.trod laidOut (by kernel_rfl) (of_decide_eq_true (by kernel_rfl)) k0 bel lt0) (trodAll_cons_mk (Below.trod laidOut (by kernel_rfl) (of_decide_eq_true (by kernel_rfl)) k1 bel lt1) (trodAll_cons_mk (Below.trod laidOut (by kernel_rfl) (of_decide_eq_true (by kernel_rfl)) k2 bel lt2) trodAll_mk0))), rfl, bel.frame _, fun h => by cases h⟩

theorem over : Rows.leastOneRow.holds Tryz.pinned (OpenSpec.ofChange Rows.leastOneSpec) :=
  OpenClaim.holds_of_wide 13 Tryz.f13 rfl rfl rfl rfl rfl rfl rfl ⟨rfl, rfl, rfl, rfl, rfl⟩ rfl rfl rfl rfl rfl named Tryz.func13 closed inst wrap
    (fun os started H enc _ => lifted os started H enc)

/-- THE STATEMENT -/
theorem proved : Rows.LeastOneCardSaid :=
  Claim7.holds_tied_plain_at .later [] [.data, .data, .data, .data, .sentinel, .sentinel, .pinned] true (true, "e702d0a69b92f6a6e57714016e23a6f5461b44196ca5b8d81e6d14f0615dd2ce") true
    over (fun _ h => by cases h) wft (fun _ h => by cases h) leastOne_row_tie rfl ⟨rfl, rfl⟩ mainIs rfl
    (fun f fn hf hfn => by
      obtain rfl : f = 13 := (Option.some.inj (named.symm.trans hf)).symm
      obtain rfl : fn = Tryz.f13 := (Option.some.inj (Tryz.func13.symm.trans hfn)).symm
      exact ⟨looks, fun j t ht => by
        rw [Tryz.params13] at ht
        have h3 : t = 62 ∨ t = 27 := by
          rcases j with _ | _ | _ | j
          · left; simpa using ht.symm
          · left; simpa using ht.symm
          · right; simpa using ht.symm
          · simp at ht
        rcases h3 with h3 | h3
        · subst h3; exact (show Tryz.prog.wantsStandIn 62 = false by kernel_rfl)
        · subst h3; exact (show Tryz.prog.wantsStandIn 27 = false by kernel_rfl)⟩)
    goes
#print axioms proved
end Go.Proofs.YtcmmmgblkbbdnaaGreatDoor.lawLeastOne
