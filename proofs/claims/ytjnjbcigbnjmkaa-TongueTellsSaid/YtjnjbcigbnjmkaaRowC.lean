/- THE STATEMENT TongueTellsSaid: whatever the nodes, the numbers and the place: the law returns true, and its arguments read as before. No condition. -/
import Derived.Test.YtjnjbcigbnjmkaaTx
import Derived.Test.YtjnjbcigbnjmkaaBt
import Derived.Test.YtjnjbcigbnjmkaaRows
import Derived.ProofKit
import Derived.SizedLaws
import Derived.OpenShut
import Derived.ChangeOld
namespace Go.Proofs.Ytjnjbcigbnjmkaa.lawTongueTells
open Go.ChangeShapes Go.WideShapes Go.ChangeAt Go.RowKit Pv

theorem own : ownKnob Try.prog.godebug = none := by kernel_rfl
theorem laidOut : laidOutB Try.prog = true := by kernel_rfl
theorem cI : Try.prog.cellsOf 3 = 1 := by kernel_rfl
theorem cU : Try.prog.cellsOf 5 = 1 := by kernel_rfl
theorem cS : Try.prog.cellsOf 57 = 1 := by kernel_rfl
theorem cR : Try.prog.cellsOf 61 = 2 := by kernel_rfl
theorem cX : Try.prog.cellsOf 100 = 5 := by kernel_rfl
theorem bR' : Try.prog.bytesOf 61 = 16 := by kernel_rfl
theorem bI : Try.prog.bytesOf 3 = 8 := by kernel_rfl
theorem bX : Try.prog.bytesOf 100 = 56 := by kernel_rfl

set_option maxHeartbeats 800000 in
set_option maxRecDepth 100000 in
theorem lifted (os : Os) (started : os.Started) (H : Type) (enc : TypeId × Value → H) :
    ReturnsInHanded {} Try.checked os 5 .any (Rows.tongueTellsSpec.pre6 enc Try.prog Try.f5 Rows.tongueTellsRow.domain false) (Rows.tongueTellsSpec.post enc Try.prog Try.f5 false true false false) := by
  refine returnsInHanded_of_change_sized (C := Try.checked) own started (by kernel_rfl) Try.func5
    (ChangeSpec.witness6 (enc := enc) (C := Try.checked) false ⟨#[], #[.slice none 0 0, .slice none 0 0, .int .i64 0], []⟩ 8 (by kernel_rfl) (by kernel_rfl) (by kernel_rfl) (by kernel_rfl)) ?_
  intro W base args ds gs before hval0 hW _ hsz0 _
  have hsz : (DataW.weightsEach Try.prog (Try.f5.params.toList ++ Rows.tongueTellsSpec.plain.varTypes Try.prog) (ds ++ gs)).all (· ≤ reachBytes) = true := hsz0
  clear hsz0
  have hval : ∀ (j : Nat) t v, Try.f5.params[j]? = some t → args[j]? = some v → Value.okWide Try.prog W .any base t v := hval0
  have hW' := hW
  obtain ⟨p, q, hA0, hV, rfl, hfz, hnd⟩ := hW
  have hA : DataW.TrodAll enc Try.prog W 0 (fun _ => true) true Try.f5.params.toList args.toList ds p := hA0
  rw [Try.params5] at hA hval hsz
  obtain ⟨v0, vs0, d0, ds0, p0, q0, hargs, rfl, rfl, h0, r0⟩ := trodAll_cons hA
  obtain ⟨v1, vs1, d1, ds1, p1, q1, rfl, rfl, rfl, h1, r1⟩ := trodAll_cons r0
  obtain ⟨v2, vs2, d2, ds2, p2, q2, rfl, rfl, rfl, h2, r2⟩ := trodAll_cons r1
  obtain ⟨rfl, rfl, rfl⟩ := trodAll_nil r2
  obtain rfl : args = #[v0, v1, v2] := by cases args; simp_all
  obtain ⟨rfl, rfl⟩ := trodVars_none hV
  have l0 := lite_arg (j := 0) hsz rfl rfl
  have l1 := lite_arg (j := 1) hsz rfl rfl
  have k0 := h0; have k1 := h1; have k2 := h2
  have lt0 : ∀ x ∈ p0, x.block < W.heap.size := by obtain ⟨m, hm⟩ := k0; exact DataW.trod_lt m _ _ _ hm
  have lt1 : ∀ x ∈ p1, x.block < W.heap.size := by obtain ⟨m, hm⟩ := k1; exact DataW.trod_lt m _ _ _ hm
  have lt2 : ∀ x ∈ p2, x.block < W.heap.size := by obtain ⟨m, hm⟩ := k2; exact DataW.trod_lt m _ _ _ hm
  obtain ⟨a0, len, cap, rfl⟩ := okWide_slice Try.underlying45 (hval 0 45 v0 rfl rfl)
  obtain ⟨b0, len1, cap1, rfl⟩ := okWide_slice Try.underlying22 (hval 1 22 v1 rfl rfl)
  obtain ⟨a, rfl, _, _, _⟩ := open_int Try.underlying3 (hval 2 3 v2 rfl rfl) h2
  obtain ⟨fuel, hf⟩ := h0
  obtain ⟨fuel1, hf1⟩ := h1
  obtain ⟨t, A, c, hv, hat, _⟩ := read_rx Try.underlying45 Try.underlying100 Try.underlying61 rfl rfl rfl rfl rfl rfl rfl rfl rfl rfl rfl rfl rfl rfl Try.underlying5 Try.underlying57 Try.underlying3 cX cR cU cS cI (by rw [bX]; omega) (by rw [bR']; omega) hf l0
  injection hv with g1 g2 g3
  subst g1; subst g3
  obtain ⟨pts, hpp⟩ := read_slice Try.underlying22 cI (by rw [bI]; omega) hf1 l1 fun f u y hy _ => read_int Try.underlying3 hy
  obtain ⟨B, c4, hv4, hp4, _⟩ := hpp
  injection hv4 with g4 g5 g6
  subst g4; subst g6
  clear hA0 hval0
  refine (law_TongueTells a0 len cap t b0 len1 cap1 pts a W hat (Lib.hid g2.symm) hp4 (Lib.hid g5.symm)).mono fun e W' ⟨he, bel⟩ => ?_
  subst he
  exact ⟨_, rfl, _, _, _, [], _, [], hW', trodAll_mk1 (shut_bool Try.underlying4 _),
    (trodAll_cons_mk (Below.trod laidOut (by kernel_rfl) (of_decide_eq_true (by kernel_rfl)) k0 bel lt0) (trodAll_cons_mk (Below.trod laidOut (by kernel_rfl) (of_decide_eq_true (by kernel_rfl)) k1 bel lt1) (trodAll_cons_mk (Below.trod laidOut (by kernel_rfl) (of_decide_eq_true (by kernel_rfl)) k2 bel lt2) trodAll_mk0))), rfl, bel.frame _, fun h => by cases h⟩

theorem over : Rows.tongueTellsRow.holds Try.pinned (OpenSpec.ofChange Rows.tongueTellsSpec) :=
  OpenClaim.holds_of_wide 5 Try.f5 rfl rfl rfl rfl rfl rfl rfl ⟨rfl, rfl, rfl, rfl, rfl⟩ rfl rfl rfl rfl rfl (by kernel_rfl) Try.func5 (by kernel_rfl)
    (of_decide_eq_true (by kernel_rfl)) (by unfold Func.isWrapper; first | (rw [if_pos (by decide +kernel)]; kernel_rfl) | (rw [if_neg (by decide +kernel)]; exact ⟨rfl, rfl⟩))
    (fun os started H enc _ => lifted os started H enc)

/-- THE STATEMENT -/
theorem proved : Rows.TongueTellsSaid := over
#print axioms proved
end Go.Proofs.Ytjnjbcigbnjmkaa.lawTongueTells
