/- THE STATEMENT SubsetWalksCardSaid: whatever the arguments: the law returns true, and its arguments read as before. No condition but the card's: the tables and the sentinels of Go's library are those that the program's text lays. -/
import Derived.Test.YtcmmmgblkbbdnaaGreatDoorL10dg
import Derived.Test.YtcmmmgblkbbdnaaGreatDoorLtg
import Derived.Test.YtcmmmgblkbbdnaaGreatDoorTie
import Derived.Test.YtcmmmgblkbbdnaaGreatDoorCards
import Derived.Test.YtcmmmgblkbbdnaaGreatDoorBtg
import Derived.FnData
namespace Go.Proofs.YtcmmmgblkbbdnaaGreatDoor.lawSubsetWalks
open Go.ChangeShapes Go.WideShapes Go.ChangeAt Go.RowKit Pv

theorem own : ownKnob Tryz.prog.godebug = none := by kernel_rfl
theorem laidOut : laidOutB Tryz.prog = true := by kernel_rfl
theorem named : Tryz.prog.funcNamed "provost/provostlaw10.SubsetWalks" = some 8 := by kernel_rfl
theorem closed : joinedFacts Tryz.prog 8 Tryz.f8 Rows.subsetWalksSpec Rows.subsetWalksRow = true := by kernel_rfl
theorem inst : Tryz.f8.isInstance Tryz.prog Rows.subsetWalksRow.origin Rows.subsetWalksRow.targs := of_decide_eq_true (by kernel_rfl)
theorem wrap : Tryz.f8.isWrapper Tryz.prog Rows.subsetWalksRow.wrapper Rows.subsetWalksRow.mainSum := by unfold Func.isWrapper; first | (rw [if_pos (by decide +kernel)]; kernel_rfl) | (rw [if_neg (by decide +kernel)]; exact ⟨rfl, rfl⟩)
theorem wft : Rows.subsetWalksRow.wfByText (OpenSpec.ofChange Rows.subsetWalksSpec) = true := by kernel_rfl
theorem mainIs : Tryz.prog.mainIs = some (true, "e702d0a69b92f6a6e57714016e23a6f5461b44196ca5b8d81e6d14f0615dd2ce".toList) := by kernel_rfl
theorem goes : false = Rows.subsetWalksRow.goesBy Tryz.prog := by kernel_rfl
theorem looks : true = Tryz.prog.looks [] := by kernel_rfl
theorem cI : Tryz.prog.cellsOf 3 = 1 := by kernel_rfl
theorem bI : Tryz.prog.bytesOf 3 = 8 := by kernel_rfl
theorem cB : Tryz.prog.cellsOf 4 = 1 := by kernel_rfl
theorem cSI : Tryz.prog.cellsOf 27 = 1 := by kernel_rfl
theorem cD : Tryz.prog.cellsOf 62 = 3 := by kernel_rfl
theorem bB : Tryz.prog.bytesOf 4 = 1 := by kernel_rfl
theorem bS : Tryz.prog.bytesOf 27 = 24 := by kernel_rfl

set_option maxHeartbeats 800000 in
set_option maxRecDepth 100000 in
theorem lifted (os : Os) (started : os.Started) (H : Type) (enc : TypeId × Value → H) :
    ReturnsInHanded {} Tryz.checked os 8 .any (fun w args => (Rows.subsetWalksSpec.pre enc Tryz.prog Tryz.f8 Rows.subsetWalksRow.domain false w args ∧ laidMet Tryz.prog Rows.subsetWalksRow.laid w) ∧ sizedMet enc Tryz.prog Tryz.f8 (OpenSpec.ofChange Rows.subsetWalksSpec) false w args)
      (Rows.subsetWalksSpec.post enc Tryz.prog Tryz.f8 false true false false) := by
  refine returnsInHanded_of_change_and (C := Tryz.checked) (X := fun w _ => laidMet Tryz.prog Rows.subsetWalksRow.laid w) (fun _ _ _ hh h => h.of_heap hh) own started (by kernel_rfl) Tryz.func8
    (ChangeSpec.witness_at (enc := enc) (C := Tryz.checked) (os := os) (X := fun w _ => laidMet Tryz.prog Rows.subsetWalksRow.laid w) false (laidWorld os) #[.agg #[.slice none 0 0, .slice none 0 0, .slice none 0 0], .int .i64 0, .slice none 0 0, .slice none 0 0, .int .i64 0] 8 rfl (by kernel_rfl) (by kernel_rfl) (by kernel_rfl) (by kernel_rfl) (by kernel_rfl) (laid_met os _)) ?_
  intro W base args ds gs before hval0 hW _ hsz0 hL _
  have T : TabU W.heap.size W := tabs_of_laid hL
  have hsz : (DataW.weightsEach Tryz.prog (Tryz.f8.params.toList ++ Rows.subsetWalksSpec.plain.varTypes Tryz.prog) (ds ++ gs)).all (· ≤ reachBytes) = true := hsz0
  clear hsz0
  have hval : ∀ (j : Nat) t v, Tryz.f8.params[j]? = some t → args[j]? = some v → Value.okWide Tryz.prog W .any base t v := hval0
  have hW' := hW
  obtain ⟨p, q, hA0, hV, rfl, hfz, hnd⟩ := hW
  have hA : DataW.TrodAll enc Tryz.prog W 0 (fun _ => true) true Tryz.f8.params.toList args.toList ds p := hA0
  rw [Tryz.params8] at hA hval hsz
  obtain ⟨v0, vs0, d0, ds0, p0, q0, hargs, rfl, rfl, h0, r0⟩ := trodAll_cons hA
  obtain ⟨v1, vs1, d1, ds1, p1, q1, rfl, rfl, rfl, h1, r1⟩ := trodAll_cons r0
  obtain ⟨v2, vs2, d2, ds2, p2, q2, rfl, rfl, rfl, h2, r2⟩ := trodAll_cons r1
  obtain ⟨v3, vs3, d3, ds3, p3, q3, rfl, rfl, rfl, h3, r3⟩ := trodAll_cons r2
  obtain ⟨v4, vs4, d4, ds4, p4, q4, rfl, rfl, rfl, h4, r4⟩ := trodAll_cons r3
  obtain ⟨rfl, rfl, rfl⟩ := trodAll_nil r4
  obtain rfl : args = #[v0, v1, v2, v3, v4] := by cases args; simp_all
  obtain ⟨rfl, rfl⟩ := trodVars_none hV
  have l0 := lite_arg (j := 0) hsz rfl rfl
  have l2 := lite_arg (j := 2) hsz rfl rfl
  have l3 := lite_arg (j := 3) hsz rfl rfl
  have k0 := h0; have k1 := h1; have k2 := h2; have k3 := h3; have k4 := h4
  have lt0 : ∀ x ∈ p0, x.block < W.heap.size := by obtain ⟨m, hm⟩ := k0; exact DataW.trod_lt m _ _ _ hm
  have lt1 : ∀ x ∈ p1, x.block < W.heap.size := by obtain ⟨m, hm⟩ := k1; exact DataW.trod_lt m _ _ _ hm
  have lt2 : ∀ x ∈ p2, x.block < W.heap.size := by obtain ⟨m, hm⟩ := k2; exact DataW.trod_lt m _ _ _ hm
  have lt3 : ∀ x ∈ p3, x.block < W.heap.size := by obtain ⟨m, hm⟩ := k3; exact DataW.trod_lt m _ _ _ hm
  have lt4 : ∀ x ∈ p4, x.block < W.heap.size := by obtain ⟨m, hm⟩ := k4; exact DataW.trod_lt m _ _ _ hm
  obtain ⟨y1_0, y2_0, y3_0, t_0, rfl, hD0⟩ := read_dfa Tryz.underlying62 (by kernel_rfl) cD rfl rfl rfl Tryz.underlying27 Tryz.underlying59 Tryz.underlying60 Tryz.underlying3 Tryz.underlying4 cI cSI cB (by rw [bI]; omega) (by rw [bS]; omega) (by rw [bB]; omega) (hval 0 62 v0 rfl rfl) h0 l0
  obtain ⟨A_0, B_0, C_0, n1_0, n2_0, n3_0, c1_0, c2_0, c3_0, rfl, rfl, rfl, H_0⟩ := hD0.opens
  obtain ⟨x_1, rfl, _, ra_1, rb_1⟩ := open_int Tryz.underlying3 (hval 1 3 v1 rfl rfl) h1
  obtain ⟨a_2, n_2, c_2, rfl⟩ := okWide_slice Tryz.underlying27 (hval 2 27 v2 rfl rfl)
  obtain ⟨fuel2, hf2⟩ := h2
  obtain ⟨t_2, A_2, e_2, hv2, H_2, _⟩ := read_slice Tryz.underlying27 cI (by rw [bI]; omega) hf2 l2 fun f u y hy _ => read_int Tryz.underlying3 hy
  injection hv2 with g2a g2b g2c
  subst g2a; subst g2c
  have L_2 := Lib.hid g2b.symm
  obtain ⟨a_3, n_3, c_3, rfl⟩ := okWide_slice Tryz.underlying27 (hval 3 27 v3 rfl rfl)
  obtain ⟨fuel3, hf3⟩ := h3
  obtain ⟨t_3, A_3, e_3, hv3, H_3, _⟩ := read_slice Tryz.underlying27 cI (by rw [bI]; omega) hf3 l3 fun f u y hy _ => read_int Tryz.underlying3 hy
  injection hv3 with g3a g3b g3c
  subst g3a; subst g3c
  have L_3 := Lib.hid g3b.symm
  obtain ⟨x_4, rfl, _, ra_4, rb_4⟩ := open_int Tryz.underlying3 (hval 4 3 v4 rfl rfl) h4
  clear hA0 hval0
  refine (law_SubsetWalks A_0 B_0 C_0 a_2 a_3 c1_0 c2_0 c3_0 n1_0 n2_0 n3_0 n_2 c_2 n_3 c_3 x_1 x_4 t_0 t_2 t_3 W W.heap.size H_0 H_2 L_2 H_3 L_3 (by have := rb_4; simp [Lit.wf, IntKind.min, IntKind.max, IntKind.signed, IntKind.bits] at this; exact this) T (Nat.le_refl _)).mono fun e W' ⟨he, bel⟩ => ?_
  subst he
  exact ⟨_, rfl, _, _, _, [], _, [], hW', trodAll_mk1 (shut_bool Tryz.underlying4 _),
    (trodAll_cons_mk (Below.trod laidOut (by kernel_rfl) (of_decide_eq_true (by kernel_rfl)) k0 bel lt0) (trodAll_cons_mk (Below.trod laidOut (by kernel_rfl) (of_decide_eq_true (by kernel_rfl)) k1 bel lt1) (trodAll_cons_mk (Below.trod laidOut (by kernel_rfl) (of_decide_eq_true (by kernel_rfl)) k2 bel lt2) (trodAll_cons_mk (Below.trod laidOut (by kernel_rfl) (of_decide_eq_true (by kernel_rfl)) k3 bel lt3) (trodAll_cons_mk (Below.trod laidOut (by kernel_rfl) (of_decide_eq_true (by kernel_rfl)) k4 bel lt4) trodAll_mk0))))), rfl, bel.frame _, fun h => by cases h⟩

theorem over : Rows.subsetWalksRow.holds Tryz.pinned (OpenSpec.ofChange Rows.subsetWalksSpec) :=
  OpenClaim.holds_of_wide 8 Tryz.f8 rfl rfl rfl rfl rfl rfl rfl ⟨rfl, rfl, rfl, rfl, rfl⟩ rfl rfl rfl rfl rfl named Tryz.func8 closed inst wrap
    (fun os started H enc _ => lifted os started H enc)

/-- THE STATEMENT -/
theorem proved : Rows.SubsetWalksCardSaid :=
  Claim7.holds_tied_plain_at .later [] [.data, .data, .data, .data, .sentinel, .sentinel, .pinned] true (true, "e702d0a69b92f6a6e57714016e23a6f5461b44196ca5b8d81e6d14f0615dd2ce") true
    over (fun _ h => by cases h) wft (fun _ h => by cases h) subsetWalks_row_tie rfl ⟨rfl, rfl⟩ mainIs rfl
    (fun f fn hf hfn => by
      obtain rfl : f = 8 := (Option.some.inj (named.symm.trans hf)).symm
      obtain rfl : fn = Tryz.f8 := (Option.some.inj (Tryz.func8.symm.trans hfn)).symm
      exact ⟨looks, fun j t ht => by
        rw [Tryz.params8] at ht
        have h3 : t = 62 ∨ t = 3 ∨ t = 27 := by
          rcases j with _ | _ | _ | _ | _ | j
          · left; simpa using ht.symm
          · right; left; simpa using ht.symm
          · right; right; simpa using ht.symm
          · right; right; simpa using ht.symm
          · right; left; simpa using ht.symm
          · simp at ht
        rcases h3 with h3 | h3 | h3
        · subst h3; exact (show Tryz.prog.wantsStandIn 62 = false by kernel_rfl)
        · subst h3; exact (show Tryz.prog.wantsStandIn 3 = false by kernel_rfl)
        · subst h3; exact (show Tryz.prog.wantsStandIn 27 = false by kernel_rfl)⟩)
    goes
#print axioms proved
end Go.Proofs.YtcmmmgblkbbdnaaGreatDoor.lawSubsetWalks
