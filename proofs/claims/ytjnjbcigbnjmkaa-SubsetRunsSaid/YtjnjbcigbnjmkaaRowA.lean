/- THE STATEMENT SubsetRunsSaid: whatever the two automata, the state, the number and the numbers: the law returns true, and its arguments read as before. No condition. -/
import Derived.Test.YtjnjbcigbnjmkaaLawA
import Derived.Test.YtjnjbcigbnjmkaaRead
import Derived.Test.YtjnjbcigbnjmkaaRows
import Derived.ProofKit
import Derived.SizedLaws
import Derived.OpenShut
import Derived.ChangeOld
namespace Go.Proofs.Ytjnjbcigbnjmkaa.lawSubsetRuns
open Go.ChangeShapes Go.WideShapes Go.ChangeAt Go.RowKit Pv

theorem own : ownKnob Try.prog.godebug = none := by kernel_rfl
theorem laidOut : laidOutB Try.prog = true := by kernel_rfl
theorem cI : Try.prog.cellsOf 3 = 1 := by kernel_rfl
theorem cB : Try.prog.cellsOf 4 = 1 := by kernel_rfl
theorem cS : Try.prog.cellsOf 22 = 1 := by kernel_rfl
theorem cD : Try.prog.cellsOf 26 = 3 := by kernel_rfl
theorem bI : Try.prog.bytesOf 3 = 8 := by kernel_rfl
theorem bB : Try.prog.bytesOf 4 = 1 := by kernel_rfl
theorem bS : Try.prog.bytesOf 22 = 24 := by kernel_rfl

set_option maxHeartbeats 800000 in
set_option maxRecDepth 100000 in
theorem lifted (os : Os) (started : os.Started) (H : Type) (enc : TypeId × Value → H) :
    ReturnsInHanded {} Try.checked os 3 .any (Rows.subsetRunsSpec.pre6 enc Try.prog Try.f3 Rows.subsetRunsRow.domain false) (Rows.subsetRunsSpec.post enc Try.prog Try.f3 false true false false) := by
  refine returnsInHanded_of_change_sized (C := Try.checked) own started (by kernel_rfl) Try.func3
    (ChangeSpec.witness6 (enc := enc) (C := Try.checked) false ⟨#[], #[.agg #[.slice none 0 0, .slice none 0 0, .slice none 0 0], .agg #[.slice none 0 0, .slice none 0 0, .slice none 0 0], .int .i64 0, .int .i64 0, .slice none 0 0], []⟩ 8 (by kernel_rfl) (by kernel_rfl) (by kernel_rfl) (by kernel_rfl)) ?_
  intro W base args ds gs before hval0 hW _ hsz0 _
  have hsz : (DataW.weightsEach Try.prog (Try.f3.params.toList ++ Rows.subsetRunsSpec.plain.varTypes Try.prog) (ds ++ gs)).all (· ≤ reachBytes) = true := hsz0
  clear hsz0
  have hval : ∀ (j : Nat) t v, Try.f3.params[j]? = some t → args[j]? = some v → Value.okWide Try.prog W .any base t v := hval0
  have hW' := hW
  obtain ⟨p, q, hA0, hV, rfl, hfz, hnd⟩ := hW
  have hA : DataW.TrodAll enc Try.prog W 0 (fun _ => true) true Try.f3.params.toList args.toList ds p := hA0
  rw [Try.params3] at hA hval hsz
  obtain ⟨v0, vs0, d0, ds0, p0, q0, hargs, rfl, rfl, h0, r0⟩ := trodAll_cons hA
  obtain ⟨v1, vs1, d1, ds1, p1, q1, rfl, rfl, rfl, h1, r1⟩ := trodAll_cons r0
  obtain ⟨v2, vs2, d2, ds2, p2, q2, rfl, rfl, rfl, h2, r2⟩ := trodAll_cons r1
  obtain ⟨v3, vs3, d3, ds3, p3, q3, rfl, rfl, rfl, h3, r3⟩ := trodAll_cons r2
  obtain ⟨v4, vs4, d4, ds4, p4, q4, rfl, rfl, rfl, h4, r4⟩ := trodAll_cons r3
  obtain ⟨rfl, rfl, rfl⟩ := trodAll_nil r4
  obtain rfl : args = #[v0, v1, v2, v3, v4] := by cases args; simp_all
  obtain ⟨rfl, rfl⟩ := trodVars_none hV
  have l0 := lite_arg (j := 0) hsz rfl rfl
  have l1 := lite_arg (j := 1) hsz rfl rfl
  have l4 := lite_arg (j := 4) hsz rfl rfl
  have k0 := h0; have k1 := h1; have k2 := h2; have k3 := h3; have k4 := h4
  have lt0 : ∀ x ∈ p0, x.block < W.heap.size := by obtain ⟨m, hm⟩ := k0; exact DataW.trod_lt m _ _ _ hm
  have lt1 : ∀ x ∈ p1, x.block < W.heap.size := by obtain ⟨m, hm⟩ := k1; exact DataW.trod_lt m _ _ _ hm
  have lt2 : ∀ x ∈ p2, x.block < W.heap.size := by obtain ⟨m, hm⟩ := k2; exact DataW.trod_lt m _ _ _ hm
  have lt3 : ∀ x ∈ p3, x.block < W.heap.size := by obtain ⟨m, hm⟩ := k3; exact DataW.trod_lt m _ _ _ hm
  have lt4 : ∀ x ∈ p4, x.block < W.heap.size := by obtain ⟨m, hm⟩ := k4; exact DataW.trod_lt m _ _ _ hm
  obtain ⟨a1, a2, a3, D, rfl, hD⟩ := read_dfa Try.underlying26 (by kernel_rfl) cD rfl rfl rfl Try.underlying22 Try.underlying23 Try.underlying24 Try.underlying3 Try.underlying4 cI cS cB (by rw [bI]; omega) (by rw [bS]; omega) (by rw [bB]; omega) (hval 0 26 v0 rfl rfl) h0 l0
  obtain ⟨b1, b2, b3, O, rfl, hO⟩ := read_dfa Try.underlying26 (by kernel_rfl) cD rfl rfl rfl Try.underlying22 Try.underlying23 Try.underlying24 Try.underlying3 Try.underlying4 cI cS cB (by rw [bI]; omega) (by rw [bS]; omega) (by rw [bB]; omega) (hval 1 26 v1 rfl rfl) h1 l1
  obtain ⟨s, rfl, _, _, _⟩ := open_int Try.underlying3 (hval 2 3 v2 rfl rfl) h2
  obtain ⟨n, rfl, _, _, _⟩ := open_int Try.underlying3 (hval 3 3 v3 rfl rfl) h3
  obtain ⟨a0, len, cap, rfl⟩ := okWide_slice Try.underlying22 (hval 4 22 v4 rfl rfl)
  obtain ⟨fuel, hf⟩ := h4
  obtain ⟨pts, hp⟩ := read_slice Try.underlying22 cI (by rw [bI]; omega) hf l4 fun f u y hy _ => read_int Try.underlying3 hy
  obtain ⟨A1, A2, A3, n1, n2, n3, c1, c2, c3, rfl, rfl, rfl, HD⟩ := hD.opens
  obtain ⟨B1, B2, B3, m1, m2, m3, e1, e2, e3, rfl, rfl, rfl, HO⟩ := hO.opens
  obtain ⟨A4, c4, hv4, hp4, _⟩ := hp
  injection hv4 with g1 g2 g3
  subst g1; subst g3
  clear hA0 hval0
  refine (law_SubsetRuns A1 A2 A3 B1 B2 B3 a0 c1 c2 c3 n1 n2 n3 e1 e2 e3 m1 m2 m3 cap len D O s n pts W HD HO hp4 (Lib.hid g2.symm)).mono fun e W' ⟨he, bel⟩ => ?_
  subst he
  exact ⟨_, rfl, _, _, _, [], _, [], hW', trodAll_mk1 (shut_bool Try.underlying4 _),
    (trodAll_cons_mk (Below.trod laidOut (by kernel_rfl) (of_decide_eq_true (by kernel_rfl)) k0 bel lt0) (trodAll_cons_mk (Below.trod laidOut (by kernel_rfl) (of_decide_eq_true (by kernel_rfl)) k1 bel lt1) (trodAll_cons_mk (Below.trod laidOut (by kernel_rfl) (of_decide_eq_true (by kernel_rfl)) k2 bel lt2)
      (trodAll_cons_mk (Below.trod laidOut (by kernel_rfl) (of_decide_eq_true (by kernel_rfl)) k3 bel lt3) (trodAll_cons_mk (Below.trod laidOut (by kernel_rfl) (of_decide_eq_true (by kernel_rfl)) k4 bel lt4) trodAll_mk0))))), rfl, bel.frame _, fun h => by cases h⟩

theorem over : Rows.subsetRunsRow.holds Try.pinned (OpenSpec.ofChange Rows.subsetRunsSpec) :=
  OpenClaim.holds_of_wide 3 Try.f3 rfl rfl rfl rfl rfl rfl rfl ⟨rfl, rfl, rfl, rfl, rfl⟩ rfl rfl rfl rfl rfl (by kernel_rfl) Try.func3 (by kernel_rfl)
    (of_decide_eq_true (by kernel_rfl)) (by unfold Func.isWrapper; first | (rw [if_pos (by decide +kernel)]; kernel_rfl) | (rw [if_neg (by decide +kernel)]; exact ⟨rfl, rfl⟩))
    (fun os started H enc _ => lifted os started H enc)

/-- THE STATEMENT -/
theorem proved : Rows.SubsetRunsSaid := over
#print axioms proved
end Go.Proofs.Ytjnjbcigbnjmkaa.lawSubsetRuns
