/- Walks: whether two patterns are the same; where a node's nodes begin. -/
import Derived.Test.YtjnjbcigbnjmkaaDoorPi
namespace Go.Proofs.YtjnjbcigbnjmkaaDoor
open Go.RowKit Pv

theorem Rx.ne_of {a b : Rx} (h : a.kind ≠ b.kind ∨ a.many ≠ b.many ∨ a.least ≠ b.least ∨ a.most ≠ b.most ∨ a.set ≠ b.set) : a ≠ b := by
  rintro rfl
  simp at h

set_option maxHeartbeats 2000000 in
set_option maxRecDepth 100000 in
theorem ref07_Same (A B : Option Addr) (c d n m : Nat) (t u : List Rx) (w : World) (ha : AtRx w A t) (hb : AtRx w B u) (HL : Hid (t.length = n)) (HM : Hid (u.length = m)) :
    Calls Tryd.prog 13 #[.slice A n c, .slice B m d] w fun e w' => e = .returned (.bool (decide (t = u))) ∧ Below w.heap.size w w' := by
  by_cases hlen : n = m
  case neg =>
    have h1 : ((n : Int) != (m : Int)) = true := by simp; omega
    have HN := Lib.hid (show decide (t = u) = false by simp; intro h; subst h; exact hlen (HL.out.symm.trans HM.out))
    clear hlen ha hb
    go_enter Tryd.func13, Tryd.ntmps13
    go_wp2
    go_ret
    exact ⟨ret_bool HN.out.symm, (by repeat (first | exact Below.refl _ _ | exact (Below.refl _ _).alloc (Nat.le_refl _) _ | apply below_drewN))⟩
  have hl : n ≤ 140737488355328 := by have := ha.1; rwa [HL.out] at this
  subst hlen
  have h1 : ((n : Int) != (n : Int)) = false := by simp
  go_enter Tryd.func13, Tryd.ntmps13
  go_wp2
  go_loopw [5] (fun i wr => ∃ k : Nat, i = .int .i64 k ∧ k ≤ n ∧ Below w.heap.size w wr ∧ t.take k = u.take k) (fun i _ => n - (intOf i).toNat)
  case atStart => exact ⟨0, rfl, by omega, (by repeat (first | exact Below.refl _ _ | exact (Below.refl _ _).alloc (Nat.le_refl _) _ | apply below_drewN)), by simp⟩
  case round =>
    obtain ⟨k, rfl, hk, hbel, heq⟩ := hrel
    have HE := Lib.hid heq; have HB := Lib.hid hbel; clear heq hbel
    by_cases hlt : k < n
    · obtain ⟨b1, o1, kd, S1, s1, m1, l1, many, least, most, rfl, H5, hs1, HM1, _, _, _, _, _, HX⟩ := ha.g5 HL hlt
      obtain ⟨b2, o2, kd', S2, s2, m2, l2, many', least', most', rfl, H5', hs2, HM2, _, _, _, _, _, HY⟩ := hb.g5 HM hlt
      obtain ⟨y0, y1, y2, y3, y4, y5⟩ := H5.next (Keep.of HB.out)
      obtain ⟨z0, z1, z2, z3, z4, z5⟩ := H5'.next (Keep.of HB.out)
      have HC := Lib.hid (fun (W : World) (kp : Keep w W) => ref06_Same S1 S2 s1 s2 m1 m2 l1 l2 W (hs1.keep kp) (hs2.keep kp) HM1 HM2)
      have HNE := Lib.hid (show (⟨kd, l1, many, least, most⟩ : Rx) ≠ ⟨kd', l2, many', least', most'⟩ → decide (t = u) = false from fun h => decide_eq_false fun hh => h (by subst hh; exact Option.some.inj (HX.out.symm.trans HY.out)))
      have HKB := Lib.hid (Keep.of HB.out)
      clear ha hb hs1 hs2 H5 H5'
      by_cases e1 : kd = kd'
      case neg =>
        have HN := Lib.hid (HNE.out (Rx.ne_of (.inl e1)))
        have t1 : (kd != kd') = true := by simp [e1]
        clear e1
        go_wp2
        refine wp_region_grown (by kernel_rfl) (by kernel_rfl) ?_
        have hgc__ := @Grown.cell
        repeat (go_big_quiet_step (fail))
        refine wpQuiet_nil ?_
        clear hgc__
        intro _ hw__
        obtain ⟨⟨w1, hb1⟩, hw__⟩ := hw__
        simp only at hw__
        subst hw__
        go_wp2
        go_ret
        exact ⟨ret_bool HN.out.symm, HB.out.trans (hb1.mono HB.out.size)⟩
      subst e1
      have t1 : (kd != kd) = false := by simp
      by_cases e2 : many = many'
      case neg =>
        have HN := Lib.hid (HNE.out (Rx.ne_of (.inr (.inl e2))))
        have t2 : (many != many') = true := by simp [e2]
        clear e2
        go_wp2
        refine wp_region_grown (by kernel_rfl) (by kernel_rfl) ?_
        have hgc__ := @Grown.cell
        repeat (go_big_quiet_step (fail))
        refine wpQuiet_nil ?_
        clear hgc__
        intro _ hw__
        obtain ⟨⟨w1, hb1⟩, hw__⟩ := hw__
        simp only at hw__
        subst hw__
        go_wp2
        go_ret
        exact ⟨ret_bool HN.out.symm, HB.out.trans (hb1.mono HB.out.size)⟩
      subst e2
      have t2 : (many != many) = false := by simp
      by_cases e3 : least = least'
      case neg =>
        have HN := Lib.hid (HNE.out (Rx.ne_of (.inr (.inr (.inl e3)))))
        have t3 : (least != least') = true := by simp [e3]
        clear e3
        go_wp2
        refine wp_region_grown (by kernel_rfl) (by kernel_rfl) ?_
        have hgc__ := @Grown.cell
        repeat (go_big_quiet_step (fail))
        refine wpQuiet_nil ?_
        clear hgc__
        intro _ hw__
        obtain ⟨⟨w1, hb1⟩, hw__⟩ := hw__
        simp only at hw__
        subst hw__
        go_wp2
        go_ret
        exact ⟨ret_bool HN.out.symm, HB.out.trans (hb1.mono HB.out.size)⟩
      subst e3
      have t3 : (least != least) = false := by simp
      by_cases e4 : most = most'
      case neg =>
        have HN := Lib.hid (HNE.out (Rx.ne_of (.inr (.inr (.inr (.inl e4))))))
        have t4 : (most != most') = true := by simp [e4]
        clear e4
        go_wp2
        refine wp_region_grown (by kernel_rfl) (by kernel_rfl) ?_
        have hgc__ := @Grown.cell
        repeat (go_big_quiet_step (fail))
        refine wpQuiet_nil ?_
        clear hgc__
        intro _ hw__
        obtain ⟨⟨w1, hb1⟩, hw__⟩ := hw__
        simp only at hw__
        subst hw__
        go_wp2
        go_ret
        exact ⟨ret_bool HN.out.symm, HB.out.trans (hb1.mono HB.out.size)⟩
      subst e4
      have t4 : (most != most) = false := by simp
      by_cases e5 : l1 = l2
      · rw [decide_eq_true e5] at HC
        have E5 := Lib.hid e5
        clear e5
        go_wp2
        refine wp_region_grown (by kernel_rfl) (by kernel_rfl) ?_
        have hgc__ := @Grown.cell
        repeat (go_big_quiet_step ((go_at_call 27; refine callD (HC.out _ (HKB.out.trans (Grown.keep _))))))
        refine wpQuiet_nil ?_
        clear hgc__
        intro _ hw__
        obtain ⟨⟨w1, hb1⟩, hw__⟩ := hw__
        simp only at hw__
        subst hw__
        go_wp2
        go_roundw
        case rel => exact ⟨k + 1, by go_num, by omega, HB.out.trans (hb1.mono HB.out.size), by rw [take_snoc HX.out, take_snoc HY.out, HE.out, E5.out]⟩
        case measure => simp [intOf]; omega
      · rw [decide_eq_false e5] at HC
        have HN := Lib.hid (HNE.out (Rx.ne_of (.inr (.inr (.inr (.inr e5))))))
        clear e5
        go_wp2
        refine wp_region_grown (by kernel_rfl) (by kernel_rfl) ?_
        have hgc__ := @Grown.cell
        repeat (go_big_quiet_step ((go_at_call 27; refine callD (HC.out _ (HKB.out.trans (Grown.keep _))))))
        refine wpQuiet_nil ?_
        clear hgc__
        intro _ hw__
        obtain ⟨⟨w1, hb1⟩, hw__⟩ := hw__
        simp only at hw__
        subst hw__
        go_wp2
        go_ret
        exact ⟨ret_bool HN.out.symm, HB.out.trans (hb1.mono HB.out.size)⟩
    · have : k = n := by omega
      subst this
      have HY := Lib.hid (show decide (t = u) = true from decide_eq_true (by have := HE.out; rwa [List.take_of_length_le (by rw [HL.out]; omega), List.take_of_length_le (by rw [HM.out]; omega)] at this))
      clear ha hb
      go_wp2
      go_ret
      exact ⟨ret_bool HY.out.symm, HB.out⟩

/-- Where the nodes of a node begin, k of them, the first at i. -/
noncomputable def starts (t : List Rx) (i : Nat) : Nat → List Int
  | 0 => []
  | k + 1 => starts t i k ++ [bR (again (behind t 16) k i)]

set_option maxHeartbeats 2000000 in
set_option maxRecDepth 100000 in
/-- The node at i, all of whose nodes have a place behind. -/
theorem ref07_Under (A : Option Addr) (c n i : Nat) (t : List Rx) (x : Rx) (w : World) (h : AtRx w A t) (HL : Hid (t.length = n)) (hn : n ≤ 64) (HX : Hid (t[i]? = some x)) (HP : Hid (∀ k, k ≤ x.many.toNat → ∃ e, e ≤ n ∧ again (behind t 16) k (i + 1) = some e)) (hmany : 0 ≤ x.many ∧ x.many ≤ 64) :
    Calls Tryd.prog 36 #[.slice A n c, .int .i64 i] w fun e w' => ∃ B c', e = .returned (.slice B x.many.toNat c') ∧ w'.ownsRow w.heap.size 3 1 (.slice B x.many.toNat c') x.many.toNat ((starts t (i + 1) x.many.toNat).map (Value.int .i64)) ∧ Below w.heap.size w w' := by
  obtain ⟨i0, hi0, hz0, hs0, hb0⟩ := info_parts info_int
  have hin : i < n := by have := lt_of_get HX.out; rwa [HL.out] at this
  have HBH := Lib.hid (fun (e : Nat) (he : e ≤ n) (W : World) (kp : Keep w W) => ref07_Behind A c n t w h HL 16 (by omega) e W kp he)
  obtain ⟨b, off, kd, B, cs, m, l, many, least, most, rfl, H5, hs, HM, hm, hkd, hma, hle, hmo, HX'⟩ := h.g5 HL hin
  obtain rfl := Option.some.inj (HX'.out.symm.trans HX.out)
  simp only at hmany HP ⊢
  obtain ⟨y0, y1, y2, y3, y4, y5⟩ := H5
  clear h hs HX'
  obtain ⟨q, rfl⟩ := Int.eq_ofNat_of_zero_le hmany.1
  simp only [Int.toNat_natCast] at HP ⊢
  go_enter Tryd.func36, Tryd.ntmps36
  go_wp2
  go_loopw [1, 5, 7] (fun at' v j wr => ∃ (k : Nat) (A' : Option Addr) (c' : Nat), j = .int .i64 k ∧ k ≤ q ∧ at' = .int .i64 (bR (again (behind t 16) k (i + 1))) ∧ v = .slice A' k c' ∧ wr.ownsRow w.heap.size 3 1 (.slice A' k c') k ((starts t (i + 1) k).map (Value.int .i64)) ∧ Below w.heap.size w wr) (fun _ _ j _ => q - (intOf j).toNat)
  case atStart => exact ⟨0, none, 0, rfl, by omega, by simp [again, bR_some], rfl, World.ownsRow_nil _ _ _ _, (by repeat (first | exact Below.refl _ _ | exact (Below.refl _ _).alloc (Nat.le_refl _) _ | apply below_drewN))⟩
  case round =>
    clear y0 y1 y2 y3 y4 y5
    obtain ⟨k, A', c', rfl, hk, rfl, rfl, hown, hbel⟩ := hrel
    have HO := Lib.hid hown; have HB := Lib.hid hbel
    clear hown hbel
    by_cases hlt : k < q
    · obtain ⟨e, hen, hae⟩ := HP.out k (by omega)
      have HA := Lib.hid hae
      have HC := Lib.hid (HBH.out e hen)
      have HS1 := Lib.hid (show again (behind t 16) (k + 1) (i + 1) = behind t 16 e by rw [again_snoc, HA.out]; rfl)
      have HS2 := Lib.hid (show starts t (i + 1) (k + 1) = starts t (i + 1) k ++ [(e : Int)] by rw [starts, HA.out, bR_some])
      rw [hae]
      simp only [bR_some]
      clear hae
      have Q1 : Hid (k + 1 ≤ maxLen) := Lib.hid (by simp only [maxLen]; omega)
      have Q2 : Hid ((k + 1) * 8 ≤ 140737488355328) := Lib.hid (by omega)
      have Q3 : Hid (w.heap.size ≤ (wr.alloc (.cells #[.int .i64 e] 3)).heap.size) := Lib.hid (by have h1 := HB.out.size; simp; omega)
      have SRC := Lib.hid (Src.one (w := wr) (x := .int .i64 e) (t := 3) rfl)
      have OW := Lib.hid (HO.out.alloc (.cells #[.int .i64 e] 3))
      go_wp2_with (first
        | (at_builtin
           go_must (refine wpList_append_src _ rfl (.tmp 20) (.tmp 22) 42 rfl w.heap.size 3 i0 (.int .i64 0) 1 8 Tryd.underlying42 hi0 hz0 hs0 hb0 rfl (by decide) A' c' k _ rfl OW.out _ 1 1 _ rfl SRC.out Q1.out Q2.out Q3.out ?_)
           intro A4 c4 w4 own4 gr4 _
           have hb4 := ((HB.out.alloc HB.out.size (.cells #[.int .i64 e] 3)).grown gr4 Q3.out (fun g hg => (OW.out.lt g hg).1))
           have B4 := Lib.hid hb4; have O4 := Lib.hid own4
           clear gr4 own4 hb4)
        | (go_at_call 23; refine (HC.out _ (Keep.of B4.out)).mono ?_; rintro e w5 ⟨rfl, hb5⟩; have O5 := Lib.hid (ownsRow_below O4.out hb5); have B5 := Lib.hid (B4.out.trans (hb5.mono B4.out.size)); clear hb5))
      go_roundw
      case rel => exact ⟨k + 1, A4, c4, by go_num, by omega, by rw [HS1.out], rfl, by rw [HS2.out, List.map_append]; exact O5.out, B5.out⟩
      case measure => simp [intOf]; omega
    · have : k = q := by omega
      subst this
      go_wp2
      go_ret
      exact ⟨A', c', rfl, HO.out, HB.out⟩

end Go.Proofs.YtjnjbcigbnjmkaaDoor
