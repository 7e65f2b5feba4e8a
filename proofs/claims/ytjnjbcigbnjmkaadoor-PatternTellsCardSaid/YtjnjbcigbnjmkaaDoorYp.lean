/- Walks: whether two patterns are the same, by the program: nodes, lists of nodes. PUT1 -/
import Derived.Test.YtjnjbcigbnjmkaaDoorYo
namespace Go.Proofs.YtjnjbcigbnjmkaaDoor
open Go.RowKit Pv

set_option maxHeartbeats 1000000 in
set_option maxRecDepth 100000 in
theorem same_node (S1 S2 : Option Addr) (s1 s2 m1 m2 : Nat) (l1 l2 : List Rng) (kd kd' many many' least least' most most' : Int) (w : World) (h1 : AtSet w S1 l1) (h2 : AtSet w S2 l2) (HM1 : Hid (l1.length = m1)) (HM2 : Hid (l2.length = m2)) :
    Calls Tryd.prog 25 #[.agg #[.int .u8 kd, .slice S1 m1 s1, .int .i64 many, .int .i64 least, .int .i64 most], .agg #[.int .u8 kd', .slice S2 m2 s2, .int .i64 many', .int .i64 least', .int .i64 most']] w
      fun e w' => e = .returned (.bool (decide ((⟨kd, l1, many, least, most⟩ : Rx) = ⟨kd', l2, many', least', most'⟩))) ∧ Below w.heap.size w w' := by
  have HC := Lib.hid (fun (W : World) (hb : Below w.heap.size w W) => equal_rngs S1 S2 s1 s2 m1 m2 l1 l2 W (h1.keep (Keep.of hb)) (h2.keep (Keep.of hb)) HM1 HM2)
  have HNE := Lib.hid (fun (h : (⟨kd, l1, many, least, most⟩ : Rx) ≠ ⟨kd', l2, many', least', most'⟩) => decide_eq_false h)
  have HB2 := Lib.hid (((Below.refl w.heap.size w).alloc (Nat.le_refl _) (.cells #[.int .u8 kd, .slice S1 m1 s1, .int .i64 many, .int .i64 least, .int .i64 most] 40)).alloc (by simp) (.cells #[.int .u8 kd', .slice S2 m2 s2, .int .i64 many', .int .i64 least', .int .i64 most'] 40))
  clear h1 h2
  by_cases e1 : kd = kd'
  case neg =>
    have HN := Lib.hid (HNE.out (Rx.ne_of (.inl e1)))
    have t1 : (kd == kd') = false := by simp [e1]
    clear e1
    go_enter Tryd.func25, Tryd.ntmps25
    go_wp2
    go_ret
    exact ⟨ret_bool HN.out.symm, HB2.out⟩
  subst e1
  by_cases e2 : many = many'
  case neg =>
    have HN := Lib.hid (HNE.out (Rx.ne_of (.inr (.inl e2))))
    have t1 : (many == many') = false := by simp [e2]
    clear e2
    go_enter Tryd.func25, Tryd.ntmps25
    go_wp2
    go_ret
    exact ⟨ret_bool HN.out.symm, HB2.out⟩
  subst e2
  by_cases e3 : least = least'
  case neg =>
    have HN := Lib.hid (HNE.out (Rx.ne_of (.inr (.inr (.inl e3)))))
    have t1 : (least == least') = false := by simp [e3]
    clear e3
    go_enter Tryd.func25, Tryd.ntmps25
    go_wp2
    go_ret
    exact ⟨ret_bool HN.out.symm, HB2.out⟩
  subst e3
  by_cases e4 : most = most'
  case neg =>
    have HN := Lib.hid (HNE.out (Rx.ne_of (.inr (.inr (.inr (.inl e4))))))
    have t1 : (most == most') = false := by simp [e4]
    clear e4
    go_enter Tryd.func25, Tryd.ntmps25
    go_wp2
    go_ret
    exact ⟨ret_bool HN.out.symm, HB2.out⟩
  subst e4
  have HEQ : Hid (decide (l1 = l2) = decide ((⟨kd, l1, many, least, most⟩ : Rx) = ⟨kd, l2, many, least, most⟩)) := Lib.hid (by
    by_cases h : l1 = l2
    · subst h; simp
    · rw [decide_eq_false h, HNE.out (fun hh => h (by injection hh))])
  rw [← HEQ.out]
  generalize decide (l1 = l2) = bb at *
  clear HEQ
  go_enter Tryd.func25, Tryd.ntmps25
  go_wp2_with (go_at_call 26; refine (HC.out _ HB2.out).mono ?_; rintro e w1 ⟨rfl, hb1⟩; have HB3 := Lib.hid (HB2.out.trans (hb1.mono HB2.out.size)); clear hb1)
  go_ret
  exact ⟨rfl, HB3.out⟩

set_option maxHeartbeats 1000000 in
set_option maxRecDepth 100000 in
theorem equal_nodes (A B : Option Addr) (c d n m : Nat) (t u : List Rx) (w : World) (ha : AtRx w A t) (hb : AtRx w B u) (HL : Hid (t.length = n)) (HM : Hid (u.length = m)) :
    Calls Tryd.prog 24 #[.slice A n c, .slice B m d, .func (.func 25) #[] #[]] w fun e w' => e = .returned (.bool (decide (t = u))) ∧ Below w.heap.size w w' := by
  by_cases hlen : n = m
  case neg =>
    have h1 : ((n : Int) != (m : Int)) = true := by simp; omega
    have HN := Lib.hid (show decide (t = u) = false by simp; intro h; subst h; exact hlen (HL.out.symm.trans HM.out))
    clear hlen ha hb
    go_enter Tryd.func24, Tryd.ntmps24
    go_wp2
    go_ret
    exact ⟨ret_bool HN.out.symm, (by repeat (first | exact Below.refl _ _ | exact (Below.refl _ _).alloc (Nat.le_refl _) _ | apply below_drewN))⟩
  have hl : n ≤ 140737488355328 := by have := ha.1; rwa [HL.out] at this
  subst hlen
  have h1 : ((n : Int) != (n : Int)) = false := by simp
  have HA := Lib.hid ha; have HB := Lib.hid hb
  clear ha hb
  go_enter Tryd.func24, Tryd.ntmps24
  go_wp2
  go_loopw [17] (fun i wr => ∃ k : Nat, i = .int .i64 k ∧ k ≤ n ∧ Hid (Below w.heap.size w wr) ∧ Hid (t.take k = u.take k)) (fun i _ => n - (intOf i).toNat)
  case atStart => exact ⟨0, rfl, by omega, Lib.hid (by repeat (first | exact Below.refl _ _ | exact (Below.refl _ _).alloc (Nat.le_refl _) _ | apply below_drewN)), Lib.hid (by simp)⟩
  case round =>
    obtain ⟨k, rfl, hk, HBE, HE⟩ := hrel
    by_cases hlt : k < n
    · obtain ⟨b1, o1, kd, S1, s1, m1, l1, many, least, most, rfl, H5, hs1, HM1, _, _, _, _, _, HX⟩ := (HA.out.keep (Keep.of HBE.out)).g5 HL hlt
      obtain ⟨b2, o2, kd', S2, s2, m2, l2, many', least', most', rfl, H5', hs2, HM2, _, _, _, _, _, HY⟩ := (HB.out.keep (Keep.of HBE.out)).g5 HM hlt
      have HC := Lib.hid (fun (W : World) (hb : Below wr.heap.size wr W) => same_node S1 S2 s1 s2 m1 m2 l1 l2 kd kd' many many' least least' most most' W (hs1.keep (Keep.of hb)) (hs2.keep (Keep.of hb)) HM1 HM2)
      obtain ⟨y0, y1, y2, y3, y4, y5⟩ := H5
      obtain ⟨z0, z1, z2, z3, z4, z5⟩ := H5'
      have HB2 := Lib.hid (((Below.refl wr.heap.size wr).alloc (Nat.le_refl _) (.cells #[.int .u8 kd, .slice S1 m1 s1, .int .i64 many, .int .i64 least, .int .i64 most] 40)).alloc (by simp) (.cells #[.int .u8 kd', .slice S2 m2 s2, .int .i64 many', .int .i64 least', .int .i64 most'] 40))
      have HNE := Lib.hid (show (⟨kd, l1, many, least, most⟩ : Rx) ≠ ⟨kd', l2, many', least', most'⟩ → decide (t = u) = false from fun h => decide_eq_false fun hh => h (by subst hh; exact Option.some.inj (HX.out.symm.trans HY.out)))
      have i1 : (0 : Int) ≤ (k : Int) := by omega
      have i2 : (k : Int) < (n : Int) := by omega
      clear hs1 hs2
      by_cases e : (⟨kd, l1, many, least, most⟩ : Rx) = ⟨kd', l2, many', least', most'⟩
      · rw [decide_eq_true e] at HC
        have HX' := Lib.hid e
        clear e
        go_wp2_with (go_at_call 25; refine (HC.out _ HB2.out).mono ?_; rintro e w1 ⟨rfl, hb1⟩; have HB3 := Lib.hid (HBE.out.trans ((HB2.out.trans (hb1.mono HB2.out.size)).mono HBE.out.size)); clear hb1)
        go_roundw
        case rel => exact ⟨k + 1, by go_num, by omega, HB3, Lib.hid (by rw [take_snoc HX.out, take_snoc HY.out, HE.out, HX'.out])⟩
        case measure => simp [intOf]; omega
      · rw [decide_eq_false e] at HC
        have HN := Lib.hid (HNE.out e)
        clear e
        go_wp2_with (go_at_call 25; refine (HC.out _ HB2.out).mono ?_; rintro e w1 ⟨rfl, hb1⟩; have HB3 := Lib.hid (HBE.out.trans ((HB2.out.trans (hb1.mono HB2.out.size)).mono HBE.out.size)); clear hb1)
        go_ret
        exact ⟨ret_bool HN.out.symm, HB3.out⟩
    · have : k = n := by omega
      subst this
      have HY := Lib.hid (show decide (t = u) = true from decide_eq_true (by have := HE.out; rwa [List.take_of_length_le (by rw [HL.out]; omega), List.take_of_length_le (by rw [HM.out]; omega)] at this))
      go_wp2
      go_ret
      exact ⟨ret_bool HY.out.symm, HBE.out⟩

set_option maxHeartbeats 1000000 in
set_option maxRecDepth 100000 in
theorem pattern_Same (A B : Option Addr) (c d n m : Nat) (t u : List Rx) (w : World) (ha : AtRx w A t) (hb : AtRx w B u) (HL : Hid (t.length = n)) (HM : Hid (u.length = m)) :
    Calls Tryd.prog 12 #[.slice A n c, .slice B m d] w fun e w' => e = .returned (.bool (decide (t = u))) ∧ Below w.heap.size w w' := by
  have HC := Lib.hid (equal_nodes A B c d n m t u w ha hb HL HM)
  generalize decide (t = u) = bb at *
  clear ha hb
  go_enter Tryd.func12, Tryd.ntmps12
  go_wp2_with (go_at_call 24; refine HC.out.mono ?_; rintro e w1 ⟨rfl, hb1⟩)
  go_ret
  exact ⟨rfl, hb1⟩
end Go.Proofs.YtjnjbcigbnjmkaaDoor
