/- THE STATEMENT LeastTellsSaid: whatever the two automata: the law returns true, and its arguments read as before. No condition. -/
import Derived.Test.YtjnjbcigbnjmkaaHgy
import Derived.Test.YtjnjbcigbnjmkaaReady
import Derived.Test.YtjnjbcigbnjmkaaRows
import Derived.ProofKit
import Derived.SizedLaws
import Derived.OpenShut
import Derived.ChangeOld
namespace Go.Proofs.Ytjnjbcigbnjmkaa.lawLeastTells
open Go.ChangeShapes Go.WideShapes Go.ChangeAt Go.RowKit Pv

theorem own : ownKnob Try.prog.godebug = none := by kernel_rfl
theorem laidOut : laidOutB Try.prog = true := by kernel_rfl
theorem cI : Try.prog.cellsOf 3 = 1 := by kernel_rfl
theorem cB : Try.prog.cellsOf 4 = 1 := by kernel_rfl
theorem cS : Try.prog.cellsOf 22 = 1 := by kernel_rfl
theorem cD : Try.prog.cellsOf 26 = 3 := by kernel_rfl
theorem bI : Try.prog.bytesOf 3 = 8 := by kernel_rfl
theorem bB : Try.prog.bytesOf 4 = 1 := by kernel_rfl
theorem bS : Try.prog.bytesOf 22 = 24 := by kernel_rfl

set_option maxHeartbeats 800000 in
set_option maxRecDepth 100000 in
theorem lifted (os : Os) (started : os.Started) (H : Type) (enc : TypeId × Value → H) :
    ReturnsInHanded {} Try.checked os 8 .any (Rows.leastTellsSpec.pre6 enc Try.prog Try.f8 Rows.leastTellsRow.domain false) (Rows.leastTellsSpec.post enc Try.prog Try.f8 false true false false) := by
  refine returnsInHanded_of_change_sized (C := Try.checked) own started (by kernel_rfl) Try.func8
    (ChangeSpec.witness6 (enc := enc) (C := Try.checked) false ⟨#[], #[.agg #[.slice none 0 0, .slice none 0 0, .slice none 0 0], .agg #[.slice none 0 0, .slice none 0 0, .slice none 0 0]], []⟩ 8 (by kernel_rfl) (by kernel_rfl) (by kernel_rfl) (by kernel_rfl)) ?_
  intro W base args ds gs before hval0 hW _ hsz0 _
  have hsz : (DataW.weightsEach Try.prog (Try.f8.params.toList ++ Rows.leastTellsSpec.plain.varTypes Try.prog) (ds ++ gs)).all (· ≤ reachBytes) = true := hsz0
  clear hsz0
  have hval : ∀ (j : Nat) t v, Try.f8.params[j]? = some t → args[j]? = some v → Value.okWide Try.prog W .any base t v := hval0
  have hW' := hW
  obtain ⟨p, q, hA0, hV, rfl, hfz, hnd⟩ := hW
  have hA : DataW.TrodAll enc Try.prog W 0 (fun _ => true) true Try.f8.params.toList args.toList ds p := hA0
  rw [Try.params8] at hA hval hsz
  obtain ⟨v0, vs0, d0, ds0, p0, q0, hargs, rfl, rfl, h0, r0⟩ := trodAll_cons hA
  obtain ⟨v1, vs1, d1, ds1, p1, q1, rfl, rfl, rfl, h1, r1⟩ := trodAll_cons r0
  obtain ⟨rfl, rfl, rfl⟩ := trodAll_nil r1
  obtain rfl : args = #[v0, v1] := by cases args; simp_all
  obtain ⟨rfl, rfl⟩ := trodVars_none hV
  have l0 := lite_arg (j := 0) hsz rfl rfl
  have l1 := lite_arg (j := 1) hsz rfl rfl
  have k0 := h0; have k1 := h1
  have lt0 : ∀ x ∈ p0, x.block < W.heap.size := by obtain ⟨m, hm⟩ := k0; exact DataW.trod_lt m _ _ _ hm
  have lt1 : ∀ x ∈ p1, x.block < W.heap.size := by obtain ⟨m, hm⟩ := k1; exact DataW.trod_lt m _ _ _ hm
  obtain ⟨a1, a2, a3, D, rfl, hD⟩ := read_dfa Try.underlying26 (by kernel_rfl) cD rfl rfl rfl Try.underlying22 Try.underlying23 Try.underlying24 Try.underlying3 Try.underlying4 cI cS cB (by rw [bI]; omega) (by rw [bS]; omega) (by rw [bB]; omega) (hval 0 26 v0 rfl rfl) h0 l0
  obtain ⟨b1, b2, b3, O, rfl, hO⟩ := read_dfa Try.underlying26 (by kernel_rfl) cD rfl rfl rfl Try.underlying22 Try.underlying23 Try.underlying24 Try.underlying3 Try.underlying4 cI cS cB (by rw [bI]; omega) (by rw [bS]; omega) (by rw [bB]; omega) (hval 1 26 v1 rfl rfl) h1 l1
  obtain ⟨A1, A2, A3, n1, n2, n3, c1, c2, c3, rfl, rfl, rfl, HD⟩ := hD.opens
  obtain ⟨B1, B2, B3, m1, m2, m3, e1, e2, e3, rfl, rfl, rfl, HO⟩ := hO.opens
  clear hA0 hval0
  refine (law_LeastTells A1 A2 A3 B1 B2 B3 c1 c2 c3 n1 n2 n3 e1 e2 e3 m1 m2 m3 D O W HD HO).mono fun e W' ⟨he, bel⟩ => ?_
  subst he
  exact ⟨_, rfl, _, _, _, [], _, [], hW', trodAll_mk1 (shut_bool Try.underlying4 _),
    (trodAll_cons_mk (Below.trod laidOut (by kernel_rfl) (of_decide_eq_true (by kernel_rfl)) k0 bel lt0) (trodAll_cons_mk (Below.trod laidOut (by kernel_rfl) (of_decide_eq_true (by kernel_rfl)) k1 bel lt1) trodAll_mk0)), rfl, bel.frame _, fun h => by cases h⟩

theorem over : Rows.leastTellsRow.holds Try.pinned (OpenSpec.ofChange Rows.leastTellsSpec) :=
  OpenClaim.holds_of_wide 8 Try.f8 rfl rfl rfl rfl rfl rfl rfl ⟨rfl, rfl, rfl, rfl, rfl⟩ rfl rfl rfl rfl rfl (by kernel_rfl) Try.func8 (by kernel_rfl)
    (of_decide_eq_true (by kernel_rfl)) (by unfold Func.isWrapper; first | (rw [if_pos (by decide +kernel)]; kernel_rfl) | (rw [if_neg (by decide +kernel)]; exact ⟨rfl, rfl⟩))
    (fun os started H enc _ => lifted os started H enc)

/-- THE STATEMENT -/
theorem proved : Rows.LeastTellsSaid := over
#print axioms proved
end Go.Proofs.Ytjnjbcigbnjmkaa.lawLeastTells
