/- Walks: what stands behind what is repeated, by the program. PUT1 -/
import Derived.Test.YtilhicefhhgecaaGreatDoorYgp
import Derived.Lib.AppendIntMem
import Derived.Laws.StructEq
namespace Go.Proofs.YtilhicefhhgecaaGreatDoor
open Go.RowKit Pv

theorem eq_two (a b c d : Int) (w : World) : (Op.equalIn 10000 171 (.agg #[.int .i64 a, .int .i64 b]) (.agg #[.int .i64 c, .int .i64 d])).run Tryz.prog w = .ok (a == c && b == d) w := by
  have u3 := Tryz.underlying3
  have a3 := Tryz.isAgg3
  have z3 := Tryz.sizeOf3
  rw [show (10000 : Nat) = 9999 + 1 from rfl, Op.equalIn]
  simp only [Sem.run_bind, run_underlying Tryz.underlying171, Result.andThen_ok]
  simp only [Std.Legacy.Range.forIn_eq_forIn_range', Std.Legacy.Range.size, Nat.sub_zero, Nat.add_sub_cancel, Nat.div_one, List.range'_succ, List.range'_zero, List.forIn_cons, List.forIn_nil]
  go_simp
  by_cases h1 : a = c <;> by_cases h2 : b = d <;> simp [h1, h2]
theorem itoa_grown {w0 : World} (hT : TabsP w0.heap.size w0) (x : Int) (h0 : -1 ≤ x) (h1 : x ≤ 16) (W : World) (hb : Below w0.heap.size w0 W) :
    Calls Tryz.prog 112 #[.int .i64 x] W fun e w' => e = .returned (.string (mkS (Lib.itoa x))) ∧ Below W.heap.size W w' :=
  (Tryz.strconv_Itoa x (by omega) (by omega) W (hT.next hb).tab).mono fun e w' ⟨h1, k, os, h2⟩ => ⟨h1, by rw [h2]; exact Lib.below_grow _ _ (Nat.le_refl _) k os⟩

set_option maxHeartbeats 1000000 in
set_option maxRecDepth 100000 in
theorem pattern_often (S : Option Addr) (sn sc : Nat) (many least most : Int) (w : World) (h0 : 0 ≤ least) (h1 : least ≤ 16) (h2 : most = -1 ∨ least ≤ most) (h3 : most ≤ 16) (hT : TabsP w.heap.size w) :
    Calls Tryz.prog 73 #[.agg #[.int .u8 4, .slice S sn sc, .int .i64 many, .int .i64 least, .int .i64 most]] w fun e w' => e = .returned (.string (mkS (oftL least most))) ∧ Below w.heap.size w w' := by
  have HC := ocase h0 h2
  have hB0 : Below w.heap.size w (w.alloc (.cells #[.int .u8 4, .slice S sn sc, .int .i64 many, .int .i64 least, .int .i64 most] 52)) := (Below.refl _ _).alloc (Nat.le_refl _) _
  have HB0 := Lib.hid hB0
  have hT0 := (hT.next hB0).up hB0.size
  have HI1 := Lib.hid (itoa_grown hT0 least (by omega) h1)
  have HI2 := Lib.hid (itoa_grown hT0 most (by omega) h3)
  have HS1 := Lib.hid (itoa_dig least.toNat (by omega))
  rw [Int.toNat_of_nonneg h0] at HS1
  rw [HS1.out] at HI1
  have HS2 := Lib.hid (fun h : 0 ≤ most => show Lib.itoa most = digL most.toNat by have := itoa_dig most.toNat (by omega); rwa [Int.toNat_of_nonneg h] at this)
  have hz1 : (mkS (digL least.toNat)).size ≤ 2 := by rw [mkS_size]; exact digL_len _
  have hz2 : 0 ≤ most → (mkS (Lib.itoa most)).size ≤ 2 := fun h => by rw [mkS_size, HS2.out h]; exact digL_len _
  have HF := Lib.hid (fun (W : World) (hb : Below (w.alloc (.cells #[.int .u8 4, .slice S sn sc, .int .i64 many, .int .i64 least, .int .i64 most] 52)).heap.size (w.alloc (.cells #[.int .u8 4, .slice S sn sc, .int .i64 many, .int .i64 least, .int .i64 most] 52)) W) =>
    (⟨(hb.cell (p := ⟨w.heap.size, 3, none⟩) (by simp)).trans (World.cell?_alloc_new ..), (hb.cell (p := ⟨w.heap.size, 4, none⟩) (by simp)).trans (World.cell?_alloc_new ..)⟩ : W.cell? ⟨w.heap.size, 3, none⟩ = some (.int .i64 least) ∧ W.cell? ⟨w.heap.size, 4, none⟩ = some (.int .i64 most)))
  clear h2 hT hB0 hT0 HS1
  cases HC
  case star a b e =>
    subst a; subst b
    have HE := Lib.hid e
    have hz2' : (mkS (Lib.itoa (-1))).size ≤ 2 := by decide +kernel
    clear e hz2 HS2
    generalize mkS (digL (0 : Int).toNat) = s1 at *
    generalize mkS (Lib.itoa (-1)) = s2 at *
    have he := eq_two
    go_enter Tryz.func73, Tryz.ntmps73
    go_wp2
    refine wp_region_grown (by kernel_rfl) (by kernel_rfl) ?_
    have hgc__ := @Grown.cell
    repeat (go_big_quiet_step ((first | (go_at_call 112; with_reducible refine callG (HI1.out _ (Grown.be _))) | (go_at_call 112; with_reducible refine callG (HI2.out _ (Grown.be _))))))
    refine wpQuiet_nil ?_
    clear hgc__
    intro _ hw__
    obtain ⟨⟨w1, hb1⟩, hw__⟩ := hw__
    simp only at hw__
    subst hw__
    rename_i w1
    obtain ⟨f3, f4⟩ := HF.out _ hb1
    have HBX := Lib.hid (HB0.out.trans (hb1.mono HB0.out.size))
    clear hb1
    go_wp2
    go_ret
    exact ⟨by rw [HE.out]; rfl, HBX.out⟩
  case plus a b e =>
    subst a; subst b
    have HE := Lib.hid e
    have hz2' : (mkS (Lib.itoa (-1))).size ≤ 2 := by decide +kernel
    clear e hz2 HS2
    generalize mkS (digL (1 : Int).toNat) = s1 at *
    generalize mkS (Lib.itoa (-1)) = s2 at *
    have he := eq_two
    go_enter Tryz.func73, Tryz.ntmps73
    go_wp2
    refine wp_region_grown (by kernel_rfl) (by kernel_rfl) ?_
    have hgc__ := @Grown.cell
    repeat (go_big_quiet_step ((first | (go_at_call 112; with_reducible refine callG (HI1.out _ (Grown.be _))) | (go_at_call 112; with_reducible refine callG (HI2.out _ (Grown.be _))))))
    refine wpQuiet_nil ?_
    clear hgc__
    intro _ hw__
    obtain ⟨⟨w1, hb1⟩, hw__⟩ := hw__
    simp only at hw__
    subst hw__
    rename_i w1
    obtain ⟨f3, f4⟩ := HF.out _ hb1
    have HBX := Lib.hid (HB0.out.trans (hb1.mono HB0.out.size))
    clear hb1
    go_wp2
    go_ret
    exact ⟨by rw [HE.out]; rfl, HBX.out⟩
  case opt a b e =>
    subst a; subst b
    have HE := Lib.hid e
    have hz2' : (mkS (Lib.itoa 1)).size ≤ 2 := by exact hz2 (by omega)
    clear e hz2 HS2
    generalize mkS (digL (0 : Int).toNat) = s1 at *
    generalize mkS (Lib.itoa 1) = s2 at *
    have he := eq_two
    go_enter Tryz.func73, Tryz.ntmps73
    go_wp2
    refine wp_region_grown (by kernel_rfl) (by kernel_rfl) ?_
    have hgc__ := @Grown.cell
    repeat (go_big_quiet_step ((first | (go_at_call 112; with_reducible refine callG (HI1.out _ (Grown.be _))) | (go_at_call 112; with_reducible refine callG (HI2.out _ (Grown.be _))))))
    refine wpQuiet_nil ?_
    clear hgc__
    intro _ hw__
    obtain ⟨⟨w1, hb1⟩, hw__⟩ := hw__
    simp only at hw__
    subst hw__
    rename_i w1
    obtain ⟨f3, f4⟩ := HF.out _ hb1
    have HBX := Lib.hid (HB0.out.trans (hb1.mono HB0.out.size))
    clear hb1
    go_wp2
    go_ret
    exact ⟨by rw [HE.out]; rfl, HBX.out⟩
  case more a b e =>
    subst b
    have HE := Lib.hid ((congrArg mkS e).trans (oft0 _))
    clear e hz2 HS2
    have q0 : (least == 0) = false := by simp; omega
    have q1 : (least == 1) = false := by simp; omega
    generalize mkS (digL least.toNat) = s1 at *
    generalize mkS (Lib.itoa (-1)) = s2 at *
    have he := eq_two
    go_enter Tryz.func73, Tryz.ntmps73
    go_wp2
    refine wp_region_grown (by kernel_rfl) (by kernel_rfl) ?_
    have hgc__ := @Grown.cell
    repeat (go_big_quiet_step ((first | (go_at_call 112; with_reducible refine callG (HI1.out _ (Grown.be _))) | (go_at_call 112; with_reducible refine callG (HI2.out _ (Grown.be _))))))
    refine wpQuiet_nil ?_
    clear hgc__
    intro _ hw__
    obtain ⟨⟨w1, hb1⟩, hw__⟩ := hw__
    simp only at hw__
    subst hw__
    rename_i w1
    obtain ⟨f3, f4⟩ := HF.out _ hb1
    have HBX := Lib.hid (HB0.out.trans (hb1.mono HB0.out.size))
    clear hb1
    go_wp2
    go_ret
    exact ⟨by show Ending.returned (.string _) = _; rw [HE.out], HBX.out⟩
  case same a b e =>
    subst a
    have HE := Lib.hid ((congrArg mkS e).trans (oft1 _))
    rw [HS2.out b] at HI2
    clear e hz2 HS2
    generalize mkS (digL most.toNat) = s1 at *
    have he := eq_two
    have q2 : (most == -1) = false := by simp; omega
    have q3 : (most == 0 && most == 1) = false := by simp; omega
    by_cases a0 : most = 0
    case' pos => subst a0
    case' neg =>
      have q0 : (most == 0) = false := by simpa using a0
      by_cases a1 : most = 1
      case' pos => subst a1
      case' neg => have q1 : (most == 1) = false := by simpa using a1
    all_goals
      go_enter Tryz.func73, Tryz.ntmps73
      go_wp2
      refine wp_region_grown (by kernel_rfl) (by kernel_rfl) ?_
      have hgc__ := @Grown.cell
      repeat (go_big_quiet_step ((first | (go_at_call 112; with_reducible refine callG (HI1.out _ (Grown.be _))) | (go_at_call 112; with_reducible refine callG (HI2.out _ (Grown.be _))))))
      refine wpQuiet_nil ?_
      clear hgc__
      intro _ hw__
      obtain ⟨⟨w1, hb1⟩, hw__⟩ := hw__
      simp only at hw__
      subst hw__
      rename_i w1
      obtain ⟨f3, f4⟩ := HF.out _ hb1
      have HBX := Lib.hid (HB0.out.trans (hb1.mono HB0.out.size))
      clear hb1
      go_wp2
      go_ret
      exact ⟨by show Ending.returned (.string _) = _; rw [HE.out], HBX.out⟩
  case other a b ho e =>
    have HE := Lib.hid ((congrArg mkS e).trans (oft2 _ _))
    have hz3 := hz2 (by omega)
    rw [HS2.out (by omega)] at HI2 hz3
    clear e hz2 HS2
    generalize mkS (digL least.toNat) = s1 at *
    generalize mkS (digL most.toNat) = s2 at *
    have he := eq_two
    have q2 : (most == -1) = false := by simp; omega
    have q3 : (most == least) = false := by simp; omega
    have q5 : least = 0 → (most == 1) = false := by intro h; simp; omega
    clear ho
    by_cases a0 : least = 0
    case' pos => have q4 := q5 a0; subst a0
    case' neg =>
      have q0 : (least == 0) = false := by simpa using a0
      by_cases a1 : least = 1
      case' pos => subst a1
      case' neg => have q1 : (least == 1) = false := by simpa using a1
    all_goals
      clear q5
      go_enter Tryz.func73, Tryz.ntmps73
      go_wp2
      refine wp_region_grown (by kernel_rfl) (by kernel_rfl) ?_
      have hgc__ := @Grown.cell
      repeat (go_big_quiet_step ((first | (go_at_call 112; with_reducible refine callG (HI1.out _ (Grown.be _))) | (go_at_call 112; with_reducible refine callG (HI2.out _ (Grown.be _))))))
      refine wpQuiet_nil ?_
      clear hgc__
      intro _ hw__
      obtain ⟨⟨w1, hb1⟩, hw__⟩ := hw__
      simp only at hw__
      subst hw__
      rename_i w1
      obtain ⟨f3, f4⟩ := HF.out _ hb1
      have HBX := Lib.hid (HB0.out.trans (hb1.mono HB0.out.size))
      clear hb1
      go_wp2
      go_ret
      exact ⟨by show Ending.returned (.string _) = _; rw [HE.out], HBX.out⟩
end Go.Proofs.YtilhicefhhgecaaGreatDoor
