/- Walks: whether two patterns are the same; where a node's nodes begin. -/
import Derived.Deep.RegionHeld3
import Derived.Deep.RegionLaw
import Derived.Test.YtilhicefhhgecaaGreatDoorPgq
import Derived.Test.YtilhicefhhgecaaGreatDoorHsq
import Derived.Test.YtilhicefhhgecaaGreatDoorTaq
namespace Go.Proofs.YtilhicefhhgecaaGreatDoor
open Go.RowKit Pv

theorem Rx.ne_of {a b : Rx} (h : a.kind ≠ b.kind ∨ a.many ≠ b.many ∨ a.least ≠ b.least ∨ a.most ≠ b.most ∨ a.set ≠ b.set) : a ≠ b := by
  rintro rfl
  simp at h

set_option maxHeartbeats 2000000 in
set_option maxRecDepth 100000 in
theorem ref07_Same (A B : Option Addr) (c d n m : Nat) (t u : List Rx) (w : World) (ha : AtRx w A t) (hb : AtRx w B u) (HL : Hid (t.length = n)) (HM : Hid (u.length = m)) :
    Calls Tryz.prog 30 #[.slice A n c, .slice B m d] w fun e w' => e = .returned (.bool (decide (t = u))) ∧ Below w.heap.size w w' := by
  by_cases hlen : n = m
  case neg =>
    have h1 : ((n : Int) != (m : Int)) = true := by simp; omega
    have HN := Lib.hid (show decide (t = u) = false by simp; intro h; subst h; exact hlen (HL.out.symm.trans HM.out))
    clear hlen ha hb
    go_enter Tryz.func30, Tryz.ntmps30
    go_wp2
    go_ret
    exact ⟨ret_bool HN.out.symm, (by repeat (first | exact Below.refl _ _ | exact (Below.refl _ _).alloc (Nat.le_refl _) _ | apply below_drewN))⟩
  have hl : n ≤ 140737488355328 := by have := ha.1; rwa [HL.out] at this
  subst hlen
  have h1 : ((n : Int) != (n : Int)) = false := by simp
  go_enter Tryz.func30, Tryz.ntmps30
  go_wp2
  go_loopw [5] (fun i wr => ∃ k : Nat, i = .int .i64 k ∧ k ≤ n ∧ Below w.heap.size w wr ∧ t.take k = u.take k) (fun i _ => n - (intOf i).toNat)
  case atStart => exact ⟨0, rfl, by omega, (by repeat (first | exact Below.refl _ _ | exact (Below.refl _ _).alloc (Nat.le_refl _) _ | apply below_drewN)), by simp⟩
  case round =>
    obtain ⟨k, rfl, hk, hbel, heq⟩ := hrel
    have HE := Lib.hid heq; have HB := Lib.hid hbel; clear heq hbel
    by_cases hlt : k < n
    · obtain ⟨b1, o1, kd, S1, s1, m1, l1, many, least, most, rfl, H5, hs1, HM1, _, _, _, _, _, HX⟩ := ha.g5 HL hlt
      obtain ⟨b2, o2, kd', S2, s2, m2, l2, many', least', most', rfl, H5', hs2, HM2, _, _, _, _, _, HY⟩ := hb.g5 HM hlt
      obtain ⟨y0, y1, y2, y3, y4, y5⟩ := H5.next (Keep.of HB.out)
      obtain ⟨z0, z1, z2, z3, z4, z5⟩ := H5'.next (Keep.of HB.out)
      have HC := Lib.hid (fun (W : World) (kp : Keep w W) => ref06_Same S1 S2 s1 s2 m1 m2 l1 l2 W (hs1.keep kp) (hs2.keep kp) HM1 HM2)
      have HNE := Lib.hid (show (⟨kd, l1, many, least, most⟩ : Rx) ≠ ⟨kd', l2, many', least', most'⟩ → decide (t = u) = false from fun h => decide_eq_false fun hh => h (by subst hh; exact Option.some.inj (HX.out.symm.trans HY.out)))
      have HKB := Lib.hid (Keep.of HB.out)
      clear ha hb hs1 hs2 H5 H5'
      by_cases e1 : kd = kd'
      case neg =>
        have HN := Lib.hid (HNE.out (Rx.ne_of (.inl e1)))
        have t1 : (kd != kd') = true := by simp [e1]
        clear e1
        go_wp2
        refine wp_region_grown (by kernel_rfl) (by kernel_rfl) ?_
        have hgc__ := @Grown.cell
        repeat (go_big_quiet_step (fail))
        refine wpQuiet_nil ?_
        clear hgc__
        intro _ hw__
        obtain ⟨⟨w1, hb1⟩, hw__⟩ := hw__
        simp only at hw__
        subst hw__
        go_wp2
        go_ret
        exact ⟨ret_bool HN.out.symm, HB.out.trans (hb1.mono HB.out.size)⟩
      subst e1
      have t1 : (kd != kd) = false := by simp
      by_cases e2 : many = many'
      case neg =>
        have HN := Lib.hid (HNE.out (Rx.ne_of (.inr (.inl e2))))
        have t2 : (many != many') = true := by simp [e2]
        clear e2
        go_wp2
        refine wp_region_grown (by kernel_rfl) (by kernel_rfl) ?_
        have hgc__ := @Grown.cell
        repeat (go_big_quiet_step (fail))
        refine wpQuiet_nil ?_
        clear hgc__
        intro _ hw__
        obtain ⟨⟨w1, hb1⟩, hw__⟩ := hw__
        simp only at hw__
        subst hw__
        go_wp2
        go_ret
        exact ⟨ret_bool HN.out.symm, HB.out.trans (hb1.mono HB.out.size)⟩
      subst e2
      have t2 : (many != many) = false := by simp
      by_cases e3 : least = least'
      case neg =>
        have HN := Lib.hid (HNE.out (Rx.ne_of (.inr (.inr (.inl e3)))))
        have t3 : (least != least') = true := by simp [e3]
        clear e3
        go_wp2
        refine wp_region_grown (by kernel_rfl) (by kernel_rfl) ?_
        have hgc__ := @Grown.cell
        repeat (go_big_quiet_step (fail))
        refine wpQuiet_nil ?_
        clear hgc__
        intro _ hw__
        obtain ⟨⟨w1, hb1⟩, hw__⟩ := hw__
        simp only at hw__
        subst hw__
        go_wp2
        go_ret
        exact ⟨ret_bool HN.out.symm, HB.out.trans (hb1.mono HB.out.size)⟩
      subst e3
      have t3 : (least != least) = false := by simp
      by_cases e4 : most = most'
      case neg =>
        have HN := Lib.hid (HNE.out (Rx.ne_of (.inr (.inr (.inr (.inl e4))))))
        have t4 : (most != most') = true := by simp [e4]
        clear e4
        go_wp2
        refine wp_region_grown (by kernel_rfl) (by kernel_rfl) ?_
        have hgc__ := @Grown.cell
        repeat (go_big_quiet_step (fail))
        refine wpQuiet_nil ?_
        clear hgc__
        intro _ hw__
        obtain ⟨⟨w1, hb1⟩, hw__⟩ := hw__
        simp only at hw__
        subst hw__
        go_wp2
        go_ret
        exact ⟨ret_bool HN.out.symm, HB.out.trans (hb1.mono HB.out.size)⟩
      subst e4
      have t4 : (most != most) = false := by simp
      by_cases e5 : l1 = l2
      · rw [decide_eq_true e5] at HC
        have E5 := Lib.hid e5
        clear e5
        go_wp2
        refine wp_region_grown (by kernel_rfl) (by kernel_rfl) ?_
        have hgc__ := @Grown.cell
        repeat (go_big_quiet_step ((go_at_call 68; refine callD (HC.out _ (HKB.out.trans (Grown.keep _))))))
        refine wpQuiet_nil ?_
        clear hgc__
        intro _ hw__
        obtain ⟨⟨w1, hb1⟩, hw__⟩ := hw__
        simp only at hw__
        subst hw__
        go_wp2
        go_roundw
        case rel => exact ⟨k + 1, by go_num, by omega, HB.out.trans (hb1.mono HB.out.size), by rw [take_snoc HX.out, take_snoc HY.out, HE.out, E5.out]⟩
        case measure => simp [intOf]; omega
      · rw [decide_eq_false e5] at HC
        have HN := Lib.hid (HNE.out (Rx.ne_of (.inr (.inr (.inr (.inr e5))))))
        clear e5
        go_wp2
        refine wp_region_grown (by kernel_rfl) (by kernel_rfl) ?_
        have hgc__ := @Grown.cell
        repeat (go_big_quiet_step ((go_at_call 68; refine callD (HC.out _ (HKB.out.trans (Grown.keep _))))))
        refine wpQuiet_nil ?_
        clear hgc__
        intro _ hw__
        obtain ⟨⟨w1, hb1⟩, hw__⟩ := hw__
        simp only at hw__
        subst hw__
        go_wp2
        go_ret
        exact ⟨ret_bool HN.out.symm, HB.out.trans (hb1.mono HB.out.size)⟩
    · have : k = n := by omega
      subst this
      have HY := Lib.hid (show decide (t = u) = true from decide_eq_true (by have := HE.out; rwa [List.take_of_length_le (by rw [HL.out]; omega), List.take_of_length_le (by rw [HM.out]; omega)] at this))
      clear ha hb
      go_wp2
      go_ret
      exact ⟨ret_bool HY.out.symm, HB.out⟩

end Go.Proofs.YtilhicefhhgecaaGreatDoor
