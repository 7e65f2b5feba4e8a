/- THE STATEMENT UndoBackCardSaid: whatever the arguments: the law returns true, and its arguments read as before. No condition but the card's: the tables and the sentinels of Go's library are those that the program's text lays. -/
import Derived.Test.YtbdkedjgfihamaaGreatDoorV73u
import Derived.Test.YtbdkedjgfihamaaGreatDoorLvu
import Derived.Test.YtbdkedjgfihamaaGreatDoorTie
import Derived.Test.YtbdkedjgfihamaaGreatDoorCards
import Derived.Test.YtbdkedjgfihamaaGreatDoorVRu
import Derived.FnData
namespace Go.Proofs.YtbdkedjgfihamaaGreatDoor.lawUndoBack
open Go.ChangeShapes Go.WideShapes Go.ChangeAt Go.RowKit Pv

theorem own : ownKnob Tryz.prog.godebug = none := by kernel_rfl
theorem laidOut : laidOutB Tryz.prog = true := by kernel_rfl
theorem named : Tryz.prog.funcNamed "provost/provostlaw28.UndoBack" = some 4 := by kernel_rfl
theorem closed : joinedFacts Tryz.prog 4 Tryz.f4 Rows.undoBackSpec Rows.undoBackRow = true := by kernel_rfl
theorem inst : Tryz.f4.isInstance Tryz.prog Rows.undoBackRow.origin Rows.undoBackRow.targs := of_decide_eq_true (by kernel_rfl)
theorem wrap : Tryz.f4.isWrapper Tryz.prog Rows.undoBackRow.wrapper Rows.undoBackRow.mainSum := by unfold Func.isWrapper; first | (rw [if_pos (by decide +kernel)]; kernel_rfl) | (rw [if_neg (by decide +kernel)]; exact ⟨rfl, rfl⟩)
theorem wft : Rows.undoBackRow.wfByText (OpenSpec.ofChange Rows.undoBackSpec) = true := by kernel_rfl
theorem mainIs : Tryz.prog.mainIs = some (true, "5f48d943f767dc1a69b23e64f09192cc685acff27790003950affe84495fefdb".toList) := by kernel_rfl
theorem goes : false = Rows.undoBackRow.goesBy Tryz.prog := by kernel_rfl
theorem looks : false = Tryz.prog.looks [] := by kernel_rfl

set_option maxHeartbeats 800000 in
set_option maxRecDepth 100000 in
theorem lifted (os : Os) (started : os.Started) (H : Type) (enc : TypeId × Value → H) :
    ReturnsInHanded {} Tryz.checked os 4 .any (fun w args => (Rows.undoBackSpec.pre enc Tryz.prog Tryz.f4 Rows.undoBackRow.domain false w args ∧ laidMet Tryz.prog Rows.undoBackRow.laid w) ∧ sizedMet enc Tryz.prog Tryz.f4 (OpenSpec.ofChange Rows.undoBackSpec) false w args)
      (Rows.undoBackSpec.post enc Tryz.prog Tryz.f4 false true false false) := by
  refine returnsInHanded_of_change_and (C := Tryz.checked) (X := fun w _ => laidMet Tryz.prog Rows.undoBackRow.laid w) (fun _ _ _ hh h => h.of_heap hh) own started (by kernel_rfl) Tryz.func4
    (ChangeSpec.witness_at (enc := enc) (C := Tryz.checked) (os := os) (X := fun w _ => laidMet Tryz.prog Rows.undoBackRow.laid w) false (laidWorld os) #[.agg #[.slice none 0 0, .slice none 0 0], .slice none 0 0, .slice none 0 0, .slice none 0 0, .int .i64 0] 8 rfl (by kernel_rfl) (by kernel_rfl) (by kernel_rfl) (by kernel_rfl) (by kernel_rfl) (laid_met os _)) ?_
  intro W base args ds gs before hval0 hW _ hsz0 hL _
  have T : TabS W.heap.size W := tabs_of_laid hL
  have hsz : (DataW.weightsEach Tryz.prog (Tryz.f4.params.toList ++ Rows.undoBackSpec.plain.varTypes Tryz.prog) (ds ++ gs)).all (· ≤ reachBytes) = true := hsz0
  clear hsz0
  have hval : ∀ (j : Nat) t v, Tryz.f4.params[j]? = some t → args[j]? = some v → Value.okWide Tryz.prog W .any base t v := hval0
  have hW' := hW
  obtain ⟨p, q, hA0, hV, rfl, hfz, hnd⟩ := hW
  have hA : DataW.TrodAll enc Tryz.prog W 0 (fun _ => true) true Tryz.f4.params.toList args.toList ds p := hA0
  rw [Tryz.params4] at hA hval hsz
  obtain ⟨v0, vs0, d0, ds0, p0, q0, hargs, rfl, rfl, h0, r0⟩ := trodAll_cons hA
  obtain ⟨v1, vs1, d1, ds1, p1, q1, rfl, rfl, rfl, h1, r1⟩ := trodAll_cons r0
  obtain ⟨v2, vs2, d2, ds2, p2, q2, rfl, rfl, rfl, h2, r2⟩ := trodAll_cons r1
  obtain ⟨v3, vs3, d3, ds3, p3, q3, rfl, rfl, rfl, h3, r3⟩ := trodAll_cons r2
  obtain ⟨v4, vs4, d4, ds4, p4, q4, rfl, rfl, rfl, h4, r4⟩ := trodAll_cons r3
  obtain ⟨rfl, rfl, rfl⟩ := trodAll_nil r4
  obtain rfl : args = #[v0, v1, v2, v3, v4] := by cases args; simp_all
  obtain ⟨rfl, rfl⟩ := trodVars_none hV
  have l0 := lite_arg (j := 0) hsz rfl rfl
  have l1 := lite_arg (j := 1) hsz rfl rfl
  have l2 := lite_arg (j := 2) hsz rfl rfl
  have l3 := lite_arg (j := 3) hsz rfl rfl
  have k0 := h0; have k1 := h1; have k2 := h2; have k3 := h3; have k4 := h4
  have lt0 : ∀ x ∈ p0, x.block < W.heap.size := by obtain ⟨m, hm⟩ := k0; exact DataW.trod_lt m _ _ _ hm
  have lt1 : ∀ x ∈ p1, x.block < W.heap.size := by obtain ⟨m, hm⟩ := k1; exact DataW.trod_lt m _ _ _ hm
  have lt2 : ∀ x ∈ p2, x.block < W.heap.size := by obtain ⟨m, hm⟩ := k2; exact DataW.trod_lt m _ _ _ hm
  have lt3 : ∀ x ∈ p3, x.block < W.heap.size := by obtain ⟨m, hm⟩ := k3; exact DataW.trod_lt m _ _ _ hm
  have lt4 : ∀ x ∈ p4, x.block < W.heap.size := by obtain ⟨m, hm⟩ := k4; exact DataW.trod_lt m _ _ _ hm
  obtain ⟨T_0, tn_0, tc_0, L_0, ln_0, lc_0, s_0, rfl, H_0, hu_0, hw_0⟩ := read_sto (hval 0 25 v0 rfl rfl) h0 l0
  obtain ⟨a_1, n_1, c_1, rfl⟩ := okWide_slice Tryz.underlying43 (hval 1 43 v1 rfl rfl)
  obtain ⟨fuel1, hf1⟩ := h1
  obtain ⟨t_1, A_1, e_1, hv1, H_1, hc_1⟩ := read_slice Tryz.underlying43 sU (by rw [bUu]; omega) hf1 l1 fun f u y hy _ => read_u8 Tryz.underlying5 hy
  injection hv1 with g1a g1b g1c
  subst g1a; subst g1c
  have L_1 := Lib.hid g1b.symm
  obtain ⟨a_2, n_2, c_2, rfl⟩ := okWide_slice Tryz.underlying44 (hval 2 44 v2 rfl rfl)
  obtain ⟨fuel2, hf2⟩ := h2
  obtain ⟨t_2, A_2, e_2, hv2, H_2, hc_2⟩ := read_slice Tryz.underlying44 sI (by rw [bIi]; omega) hf2 l2 fun f u y hy _ => read_int Tryz.underlying3 hy
  injection hv2 with g2a g2b g2c
  subst g2a; subst g2c
  have L_2 := Lib.hid g2b.symm
  obtain ⟨a_3, n_3, c_3, rfl⟩ := okWide_slice Tryz.underlying45 (hval 3 45 v3 rfl rfl)
  obtain ⟨fuel3, hf3⟩ := h3
  obtain ⟨t_3, A_3, e_3, hv3, H_3, hc_3⟩ := read_slice_K Tryz.underlying45 sR (by omega) (by rw [bRr]; omega) hf3 l3 fun fuel cs y hl hy hL => read_rec hl hy hL
  injection hv3 with g3a g3b g3c
  subst g3a; subst g3c
  have L_3 := Lib.hid g3b.symm
  obtain ⟨x_4, rfl, _, ra_4, rb_4⟩ := open_int Tryz.underlying3 (hval 4 3 v4 rfl rfl) h4
  clear hA0 hval0
  refine (law_UndoBack W.heap.size T_0 L_0 a_1 a_2 a_3 tn_0 tc_0 ln_0 lc_0 n_1 c_1 n_2 c_2 n_3 c_3 s_0 t_1 t_2 t_3 x_4 W H_0 hu_0 hw_0 H_1 L_1 H_2 L_2 H_3 L_3 T (Nat.le_refl _)).mono fun e W' ⟨he, bel⟩ => ?_
  subst he
  exact ⟨_, rfl, _, _, _, [], _, [], hW', trodAll_mk1 (shut_bool Tryz.underlying4 _),
    (trodAll_cons_mk (Below.trod laidOut (by kernel_rfl) (of_decide_eq_true (by kernel_rfl)) k0 bel lt0) (trodAll_cons_mk (Below.trod laidOut (by kernel_rfl) (of_decide_eq_true (by kernel_rfl)) k1 bel lt1) (trodAll_cons_mk (Below.trod laidOut (by kernel_rfl) (of_decide_eq_true (by kernel_rfl)) k2 bel lt2) (trodAll_cons_mk (Below.trod laidOut (by kernel_rfl) (of_decide_eq_true (by kernel_rfl)) k3 bel lt3) (trodAll_cons_mk (Below.trod laidOut (by kernel_rfl) (of_decide_eq_true (by kernel_rfl)) k4 bel lt4) trodAll_mk0))))), rfl, bel.frame _, fun h => by cases h⟩

theorem over : Rows.undoBackRow.holds Tryz.pinned (OpenSpec.ofChange Rows.undoBackSpec) :=
  OpenClaim.holds_of_wide 4 Tryz.f4 rfl rfl rfl rfl rfl rfl rfl ⟨rfl, rfl, rfl, rfl, rfl⟩ rfl rfl rfl rfl rfl named Tryz.func4 closed inst wrap
    (fun os started H enc _ => lifted os started H enc)

/-- THE STATEMENT -/
theorem proved : Rows.UndoBackCardSaid :=
  Claim7.holds_tied_plain_at .later [] [.data, .pinned] true (true, "5f48d943f767dc1a69b23e64f09192cc685acff27790003950affe84495fefdb") false
    over (fun _ h => by cases h) wft (fun _ h => by cases h) undoBack_row_tie rfl ⟨rfl, rfl⟩ mainIs rfl
    (fun f fn hf hfn => by
      obtain rfl : f = 4 := (Option.some.inj (named.symm.trans hf)).symm
      obtain rfl : fn = Tryz.f4 := (Option.some.inj (Tryz.func4.symm.trans hfn)).symm
      exact ⟨looks, fun j t ht => by
        rw [Tryz.params4] at ht
        have h3 : t = 25 ∨ t = 43 ∨ t = 44 ∨ t = 45 ∨ t = 3 := by
          rcases j with _ | _ | _ | _ | _ | j
          · left; simpa using ht.symm
          · right; left; simpa using ht.symm
          · right; right; left; simpa using ht.symm
          · right; right; right; left; simpa using ht.symm
          · right; right; right; right; simpa using ht.symm
          · simp at ht
        rcases h3 with h3 | h3 | h3 | h3 | h3
        · subst h3; exact (show Tryz.prog.wantsStandIn 25 = false by kernel_rfl)
        · subst h3; exact (show Tryz.prog.wantsStandIn 43 = false by kernel_rfl)
        · subst h3; exact (show Tryz.prog.wantsStandIn 44 = false by kernel_rfl)
        · subst h3; exact (show Tryz.prog.wantsStandIn 45 = false by kernel_rfl)
        · subst h3; exact (show Tryz.prog.wantsStandIn 3 = false by kernel_rfl)⟩)
    goes
#print axioms proved
end Go.Proofs.YtbdkedjgfihamaaGreatDoor.lawUndoBack
