/- THE STATEMENT AutoReachesCardSaid: whatever the arguments: the law returns true, and its arguments read as before. No condition but the card's: the tables and the sentinels of Go's library are those that the program's text lays. -/
import Derived.Test.YtcmmmgblkbbdnaaGreatDoorL9fh
import Derived.Test.YtcmmmgblkbbdnaaGreatDoorLth
import Derived.Test.YtcmmmgblkbbdnaaGreatDoorTie
import Derived.Test.YtcmmmgblkbbdnaaGreatDoorCards
import Derived.Test.YtcmmmgblkbbdnaaGreatDoorBth
import Derived.Test.YtcmmmgblkbbdnaaGreatDoorBuh
import Derived.FnData
namespace Go.Proofs.YtcmmmgblkbbdnaaGreatDoor.lawAutoReaches
open Go.ChangeShapes Go.WideShapes Go.ChangeAt Go.RowKit Pv

theorem own : ownKnob Tryz.prog.godebug = none := by kernel_rfl
theorem laidOut : laidOutB Tryz.prog = true := by kernel_rfl
theorem named : Tryz.prog.funcNamed "provost/provostlaw09.AutoReaches" = some 6 := by kernel_rfl
theorem closed : joinedFacts Tryz.prog 6 Tryz.f6 Rows.autoReachesSpec Rows.autoReachesRow = true := by kernel_rfl
theorem inst : Tryz.f6.isInstance Tryz.prog Rows.autoReachesRow.origin Rows.autoReachesRow.targs := of_decide_eq_true (by kernel_rfl)
theorem wrap : Tryz.f6.isWrapper Tryz.prog Rows.autoReachesRow.wrapper Rows.autoReachesRow.mainSum := by unfold Func.isWrapper; first | (rw [if_pos (by decide +kernel)]; kernel_rfl) | (rw [if_neg (by decide +kernel)]; exact ⟨rfl, rfl⟩)
theorem wft : Rows.autoReachesRow.wfByText (OpenSpec.ofChange Rows.autoReachesSpec) = true := by kernel_rfl
theorem mainIs : Tryz.prog.mainIs = some (true, "e702d0a69b92f6a6e57714016e23a6f5461b44196ca5b8d81e6d14f0615dd2ce".toList) := by kernel_rfl
theorem goes : false = Rows.autoReachesRow.goesBy Tryz.prog := by kernel_rfl
theorem looks : true = Tryz.prog.looks [] := by kernel_rfl
theorem cI : Tryz.prog.cellsOf 3 = 1 := by kernel_rfl
theorem bI : Tryz.prog.bytesOf 3 = 8 := by kernel_rfl

set_option maxHeartbeats 800000 in
set_option maxRecDepth 100000 in
theorem lifted (os : Os) (started : os.Started) (H : Type) (enc : TypeId × Value → H) :
    ReturnsInHanded {} Tryz.checked os 6 .any (fun w args => (Rows.autoReachesSpec.pre enc Tryz.prog Tryz.f6 Rows.autoReachesRow.domain false w args ∧ laidMet Tryz.prog Rows.autoReachesRow.laid w) ∧ sizedMet enc Tryz.prog Tryz.f6 (OpenSpec.ofChange Rows.autoReachesSpec) false w args)
      (Rows.autoReachesSpec.post enc Tryz.prog Tryz.f6 false true false false) := by
  refine returnsInHanded_of_change_and (C := Tryz.checked) (X := fun w _ => laidMet Tryz.prog Rows.autoReachesRow.laid w) (fun _ _ _ hh h => h.of_heap hh) own started (by kernel_rfl) Tryz.func6
    (ChangeSpec.witness_at (enc := enc) (C := Tryz.checked) (os := os) (X := fun w _ => laidMet Tryz.prog Rows.autoReachesRow.laid w) false (laidWorld os) #[.agg #[.slice none 0 0, .int .i64 0], .slice none 0 0, .int .i64 0, .slice none 0 0] 8 rfl (by kernel_rfl) (by kernel_rfl) (by kernel_rfl) (by kernel_rfl) (by kernel_rfl) (laid_met os _)) ?_
  intro W base args ds gs before hval0 hW _ hsz0 hL _
  have T : TabU W.heap.size W := tabs_of_laid hL
  have hsz : (DataW.weightsEach Tryz.prog (Tryz.f6.params.toList ++ Rows.autoReachesSpec.plain.varTypes Tryz.prog) (ds ++ gs)).all (· ≤ reachBytes) = true := hsz0
  clear hsz0
  have hval : ∀ (j : Nat) t v, Tryz.f6.params[j]? = some t → args[j]? = some v → Value.okWide Tryz.prog W .any base t v := hval0
  have hW' := hW
  obtain ⟨p, q, hA0, hV, rfl, hfz, hnd⟩ := hW
  have hA : DataW.TrodAll enc Tryz.prog W 0 (fun _ => true) true Tryz.f6.params.toList args.toList ds p := hA0
  rw [Tryz.params6] at hA hval hsz
  obtain ⟨v0, vs0, d0, ds0, p0, q0, hargs, rfl, rfl, h0, r0⟩ := trodAll_cons hA
  obtain ⟨v1, vs1, d1, ds1, p1, q1, rfl, rfl, rfl, h1, r1⟩ := trodAll_cons r0
  obtain ⟨v2, vs2, d2, ds2, p2, q2, rfl, rfl, rfl, h2, r2⟩ := trodAll_cons r1
  obtain ⟨v3, vs3, d3, ds3, p3, q3, rfl, rfl, rfl, h3, r3⟩ := trodAll_cons r2
  obtain ⟨rfl, rfl, rfl⟩ := trodAll_nil r3
  obtain rfl : args = #[v0, v1, v2, v3] := by cases args; simp_all
  obtain ⟨rfl, rfl⟩ := trodVars_none hV
  have l0 := lite_arg (j := 0) hsz rfl rfl
  have l1 := lite_arg (j := 1) hsz rfl rfl
  have l3 := lite_arg (j := 3) hsz rfl rfl
  have k0 := h0; have k1 := h1; have k2 := h2; have k3 := h3
  have lt0 : ∀ x ∈ p0, x.block < W.heap.size := by obtain ⟨m, hm⟩ := k0; exact DataW.trod_lt m _ _ _ hm
  have lt1 : ∀ x ∈ p1, x.block < W.heap.size := by obtain ⟨m, hm⟩ := k1; exact DataW.trod_lt m _ _ _ hm
  have lt2 : ∀ x ∈ p2, x.block < W.heap.size := by obtain ⟨m, hm⟩ := k2; exact DataW.trod_lt m _ _ _ hm
  have lt3 : ∀ x ∈ p3, x.block < W.heap.size := by obtain ⟨m, hm⟩ := k3; exact DataW.trod_lt m _ _ _ hm
  obtain ⟨a_0, n_0, c_0, acc_0, t_0, rfl, H_0, l_0, R_0⟩ := read_au (hval 0 46 v0 rfl rfl) h0 l0
  have L_0 := Lib.hid l_0
  obtain ⟨a_1, n_1, c_1, rfl⟩ := okWide_slice Tryz.underlying27 (hval 1 27 v1 rfl rfl)
  obtain ⟨fuel1, hf1⟩ := h1
  obtain ⟨t_1, A_1, e_1, hv1, H_1, hc_1⟩ := read_slice Tryz.underlying27 cI (by rw [bI]; omega) hf1 l1 fun f u y hy _ => read_int Tryz.underlying3 hy
  injection hv1 with g1a g1b g1c
  subst g1a; subst g1c
  have L_1 := Lib.hid g1b.symm
  obtain ⟨x_2, rfl, _, ra_2, rb_2⟩ := open_int Tryz.underlying3 (hval 2 3 v2 rfl rfl) h2
  obtain ⟨a_3, n_3, c_3, rfl⟩ := okWide_slice Tryz.underlying27 (hval 3 27 v3 rfl rfl)
  obtain ⟨fuel3, hf3⟩ := h3
  obtain ⟨t_3, A_3, e_3, hv3, H_3, hc_3⟩ := read_slice Tryz.underlying27 cI (by rw [bI]; omega) hf3 l3 fun f u y hy _ => read_int Tryz.underlying3 hy
  injection hv3 with g3a g3b g3c
  subst g3a; subst g3c
  have L_3 := Lib.hid g3b.symm
  clear hA0 hval0
  refine (law_AutoReaches a_0 a_1 a_3 n_0 c_0 n_1 c_1 n_3 c_3 acc_0 x_2 t_0 t_1 t_3 W W.heap.size H_0 L_0 H_1 L_1 (by have := hc_1; rw [L_1.out] at this; exact this) H_3 L_3 T (Nat.le_refl _)).mono fun e W' ⟨he, bel⟩ => ?_
  subst he
  exact ⟨_, rfl, _, _, _, [], _, [], hW', trodAll_mk1 (shut_bool Tryz.underlying4 _),
    (trodAll_cons_mk (Below.trod laidOut (by kernel_rfl) (of_decide_eq_true (by kernel_rfl)) k0 bel lt0) (trodAll_cons_mk (Below.trod laidOut (by kernel_rfl) (of_decide_eq_true (by kernel_rfl)) k1 bel lt1) (trodAll_cons_mk (Below.trod laidOut (by kernel_rfl) (of_decide_eq_true (by kernel_rfl)) k2 bel lt2) (trodAll_cons_mk (Below.trod laidOut (by kernel_rfl) (of_decide_eq_true (by kernel_rfl)) k3 bel lt3) trodAll_mk0)))), rfl, bel.frame _, fun h => by cases h⟩

theorem over : Rows.autoReachesRow.holds Tryz.pinned (OpenSpec.ofChange Rows.autoReachesSpec) :=
  OpenClaim.holds_of_wide 6 Tryz.f6 rfl rfl rfl rfl rfl rfl rfl ⟨rfl, rfl, rfl, rfl, rfl⟩ rfl rfl rfl rfl rfl named Tryz.func6 closed inst wrap
    (fun os started H enc _ => lifted os started H enc)

/-- THE STATEMENT -/
theorem proved : Rows.AutoReachesCardSaid :=
  Claim7.holds_tied_plain_at .later [] [.data, .data, .data, .data, .sentinel, .sentinel, .pinned] true (true, "e702d0a69b92f6a6e57714016e23a6f5461b44196ca5b8d81e6d14f0615dd2ce") true
    over (fun _ h => by cases h) wft (fun _ h => by cases h) autoReaches_row_tie rfl ⟨rfl, rfl⟩ mainIs rfl
    (fun f fn hf hfn => by
      obtain rfl : f = 6 := (Option.some.inj (named.symm.trans hf)).symm
      obtain rfl : fn = Tryz.f6 := (Option.some.inj (Tryz.func6.symm.trans hfn)).symm
      exact ⟨looks, fun j t ht => by
        rw [Tryz.params6] at ht
        have h3 : t = 46 ∨ t = 27 ∨ t = 3 := by
          rcases j with _ | _ | _ | _ | j
          · left; simpa using ht.symm
          · right; left; simpa using ht.symm
          · right; right; simpa using ht.symm
          · right; left; simpa using ht.symm
          · simp at ht
        rcases h3 with h3 | h3 | h3
        · subst h3; exact (show Tryz.prog.wantsStandIn 46 = false by kernel_rfl)
        · subst h3; exact (show Tryz.prog.wantsStandIn 27 = false by kernel_rfl)
        · subst h3; exact (show Tryz.prog.wantsStandIn 3 = false by kernel_rfl)⟩)
    goes
#print axioms proved
end Go.Proofs.YtcmmmgblkbbdnaaGreatDoor.lawAutoReaches
