/- Walks: whether a node may be by itself; the document's and the program's (printed by genone.py). -/
import Derived.Test.YtilhicefhhgecaaGreatDoorPap
namespace Go.Proofs.YtilhicefhhgecaaGreatDoor
open Go.RowKit Pv

set_option maxHeartbeats 4000000 in
set_option maxRecDepth 100000 in
theorem pattern_one0 (B : Option Addr) (many least most : Int) (c m : Nat) (l : List Rng) (w : World) (hs : AtSet w B l) (HM : Hid (l.length = m)) :
    Calls Tryz.prog 100 #[.agg #[.int .u8 0, .slice B m c, .int .i64 many, .int .i64 least, .int .i64 most]] w fun e w' => e = .returned (.bool (oneC 0 (setB l) m many least most)) ∧ Below w.heap.size w w' := by
  have hl : m ≤ 140737488355328 := by have := hs.1; rwa [HM.out] at this
  clear hs HM
  rcases Bool.eq_false_or_eq_true ((m : Int) == 0) with t_n | t_n
  · rcases Bool.eq_false_or_eq_true (least == 0) with t_l0 | t_l0
    · rcases Bool.eq_false_or_eq_true (most == 0) with t_s0 | t_s0
      · rcases Bool.eq_false_or_eq_true (many == 0) with t_m0 | t_m0
        · go_enter Tryz.func100, Tryz.ntmps100
          go_wp2
          go_quiet (fail)
          go_wp2
          go_ret
          exact ⟨ret_bool (by simp [oneC, t_n, t_l0, t_s0, t_m0]), (by repeat (first | exact Below.refl _ _ | exact (Below.refl _ _).alloc (Nat.le_refl _) _ | apply below_drewN))⟩
        · go_enter Tryz.func100, Tryz.ntmps100
          go_wp2
          go_quiet (fail)
          go_wp2
          go_ret
          exact ⟨ret_bool (by simp [oneC, t_n, t_l0, t_s0, t_m0]), (by repeat (first | exact Below.refl _ _ | exact (Below.refl _ _).alloc (Nat.le_refl _) _ | apply below_drewN))⟩
      · go_enter Tryz.func100, Tryz.ntmps100
        go_wp2
        go_quiet (fail)
        go_wp2
        go_ret
        exact ⟨ret_bool (by simp [oneC, t_n, t_l0, t_s0]), (by repeat (first | exact Below.refl _ _ | exact (Below.refl _ _).alloc (Nat.le_refl _) _ | apply below_drewN))⟩
    · go_enter Tryz.func100, Tryz.ntmps100
      go_wp2
      go_quiet (fail)
      go_wp2
      go_ret
      exact ⟨ret_bool (by simp [oneC, t_n, t_l0]), (by repeat (first | exact Below.refl _ _ | exact (Below.refl _ _).alloc (Nat.le_refl _) _ | apply below_drewN))⟩
  · rcases Bool.eq_false_or_eq_true (least == 0) with t_l0 | t_l0
    · rcases Bool.eq_false_or_eq_true (most == 0) with t_s0 | t_s0
      · go_enter Tryz.func100, Tryz.ntmps100
        go_wp2
        go_quiet (fail)
        go_wp2
        go_ret
        exact ⟨ret_bool (by simp [oneC, t_n]), (by repeat (first | exact Below.refl _ _ | exact (Below.refl _ _).alloc (Nat.le_refl _) _ | apply below_drewN))⟩
      · go_enter Tryz.func100, Tryz.ntmps100
        go_wp2
        go_quiet (fail)
        go_wp2
        go_ret
        exact ⟨ret_bool (by simp [oneC, t_n]), (by repeat (first | exact Below.refl _ _ | exact (Below.refl _ _).alloc (Nat.le_refl _) _ | apply below_drewN))⟩
    · go_enter Tryz.func100, Tryz.ntmps100
      go_wp2
      go_quiet (fail)
      go_wp2
      go_ret
      exact ⟨ret_bool (by simp [oneC, t_n]), (by repeat (first | exact Below.refl _ _ | exact (Below.refl _ _).alloc (Nat.le_refl _) _ | apply below_drewN))⟩

set_option maxHeartbeats 4000000 in
set_option maxRecDepth 100000 in
theorem pattern_one1 (B : Option Addr) (many least most : Int) (c m : Nat) (l : List Rng) (w : World) (hs : AtSet w B l) (HM : Hid (l.length = m)) :
    Calls Tryz.prog 100 #[.agg #[.int .u8 1, .slice B m c, .int .i64 many, .int .i64 least, .int .i64 most]] w fun e w' => e = .returned (.bool (oneC 1 (setB l) m many least most)) ∧ Below w.heap.size w w' := by
  have hl : m ≤ 140737488355328 := by have := hs.1; rwa [HM.out] at this
  have HC := Lib.hid (fun (b : Int) (h : setE l = b) (W : World) (kp : Keep w W) => show Calls Tryz.prog 84 #[.slice B m c] W fun e w' => e = .returned (.int .i64 b) ∧ Below W.heap.size W w' from h ▸ ranges_Check B c m l W (hs.keep kp) HM)
  clear hs HM
  rcases Bool.eq_false_or_eq_true ((m : Int) == 0) with t_n | t_n
  · rcases Bool.eq_false_or_eq_true (least == 0) with t_l0 | t_l0
    · rcases Bool.eq_false_or_eq_true (most == 0) with t_s0 | t_s0
      · rcases Bool.eq_false_or_eq_true (many == 0) with t_m0 | t_m0
        · rcases Bool.eq_false_or_eq_true (setB l) with t_sb | t_sb
          · have H_sb := Lib.hid t_sb; clear t_sb
            go_enter Tryz.func100, Tryz.ntmps100
            go_wp2
            go_quiet (fail)
            go_wp2_with (go_at_call 84; refine (HC.out 0 (setE_yes H_sb.out) _ ((Keep.alloc _ _).trans (Keep.drewN _ _))).mono ?_; rintro e w1 ⟨rfl, hb1⟩)
            go_ret
            exact ⟨ret_bool (by simp [oneC, t_l0, t_s0, t_m0, H_sb.out]), ((below_drewN ((Below.refl _ _).alloc (Nat.le_refl _) _) _).trans (hb1.mono (by simp)))⟩
          · have H_sb := Lib.hid t_sb; clear t_sb
            go_enter Tryz.func100, Tryz.ntmps100
            go_wp2
            go_quiet (fail)
            go_wp2_with (go_at_call 84; refine (HC.out 8 (setE_no H_sb.out) _ ((Keep.alloc _ _).trans (Keep.drewN _ _))).mono ?_; rintro e w1 ⟨rfl, hb1⟩)
            go_ret
            exact ⟨ret_bool (by simp [oneC, t_l0, t_s0, t_m0, H_sb.out]), ((below_drewN ((Below.refl _ _).alloc (Nat.le_refl _) _) _).trans (hb1.mono (by simp)))⟩
        · go_enter Tryz.func100, Tryz.ntmps100
          go_wp2
          go_quiet (fail)
          go_wp2
          go_ret
          exact ⟨ret_bool (by simp [oneC, t_l0, t_s0, t_m0]), (by repeat (first | exact Below.refl _ _ | exact (Below.refl _ _).alloc (Nat.le_refl _) _ | apply below_drewN))⟩
      · go_enter Tryz.func100, Tryz.ntmps100
        go_wp2
        go_quiet (fail)
        go_wp2
        go_ret
        exact ⟨ret_bool (by simp [oneC, t_l0, t_s0]), (by repeat (first | exact Below.refl _ _ | exact (Below.refl _ _).alloc (Nat.le_refl _) _ | apply below_drewN))⟩
    · go_enter Tryz.func100, Tryz.ntmps100
      go_wp2
      go_quiet (fail)
      go_wp2
      go_ret
      exact ⟨ret_bool (by simp [oneC, t_l0]), (by repeat (first | exact Below.refl _ _ | exact (Below.refl _ _).alloc (Nat.le_refl _) _ | apply below_drewN))⟩
  · rcases Bool.eq_false_or_eq_true (least == 0) with t_l0 | t_l0
    · rcases Bool.eq_false_or_eq_true (most == 0) with t_s0 | t_s0
      · rcases Bool.eq_false_or_eq_true (many == 0) with t_m0 | t_m0
        · rcases Bool.eq_false_or_eq_true (setB l) with t_sb | t_sb
          · have H_sb := Lib.hid t_sb; clear t_sb
            go_enter Tryz.func100, Tryz.ntmps100
            go_wp2
            go_quiet (fail)
            go_wp2_with (go_at_call 84; refine (HC.out 0 (setE_yes H_sb.out) _ ((Keep.alloc _ _).trans (Keep.drewN _ _))).mono ?_; rintro e w1 ⟨rfl, hb1⟩)
            go_ret
            exact ⟨ret_bool (by simp [oneC, t_l0, t_s0, t_m0, H_sb.out]), ((below_drewN ((Below.refl _ _).alloc (Nat.le_refl _) _) _).trans (hb1.mono (by simp)))⟩
          · have H_sb := Lib.hid t_sb; clear t_sb
            go_enter Tryz.func100, Tryz.ntmps100
            go_wp2
            go_quiet (fail)
            go_wp2_with (go_at_call 84; refine (HC.out 8 (setE_no H_sb.out) _ ((Keep.alloc _ _).trans (Keep.drewN _ _))).mono ?_; rintro e w1 ⟨rfl, hb1⟩)
            go_ret
            exact ⟨ret_bool (by simp [oneC, t_l0, t_s0, t_m0, H_sb.out]), ((below_drewN ((Below.refl _ _).alloc (Nat.le_refl _) _) _).trans (hb1.mono (by simp)))⟩
        · go_enter Tryz.func100, Tryz.ntmps100
          go_wp2
          go_quiet (fail)
          go_wp2
          go_ret
          exact ⟨ret_bool (by simp [oneC, t_l0, t_s0, t_m0]), (by repeat (first | exact Below.refl _ _ | exact (Below.refl _ _).alloc (Nat.le_refl _) _ | apply below_drewN))⟩
      · go_enter Tryz.func100, Tryz.ntmps100
        go_wp2
        go_quiet (fail)
        go_wp2
        go_ret
        exact ⟨ret_bool (by simp [oneC, t_l0, t_s0]), (by repeat (first | exact Below.refl _ _ | exact (Below.refl _ _).alloc (Nat.le_refl _) _ | apply below_drewN))⟩
    · go_enter Tryz.func100, Tryz.ntmps100
      go_wp2
      go_quiet (fail)
      go_wp2
      go_ret
      exact ⟨ret_bool (by simp [oneC, t_l0]), (by repeat (first | exact Below.refl _ _ | exact (Below.refl _ _).alloc (Nat.le_refl _) _ | apply below_drewN))⟩

set_option maxHeartbeats 4000000 in
set_option maxRecDepth 100000 in
theorem pattern_one2 (B : Option Addr) (many least most : Int) (c m : Nat) (l : List Rng) (w : World) (hs : AtSet w B l) (HM : Hid (l.length = m)) :
    Calls Tryz.prog 100 #[.agg #[.int .u8 2, .slice B m c, .int .i64 many, .int .i64 least, .int .i64 most]] w fun e w' => e = .returned (.bool (oneC 2 (setB l) m many least most)) ∧ Below w.heap.size w w' := by
  have hl : m ≤ 140737488355328 := by have := hs.1; rwa [HM.out] at this
  clear hs HM
  rcases Bool.eq_false_or_eq_true ((m : Int) == 0) with t_n | t_n
  · rcases Bool.eq_false_or_eq_true (least == 0) with t_l0 | t_l0
    · rcases Bool.eq_false_or_eq_true (most == 0) with t_s0 | t_s0
      · rcases Bool.eq_false_or_eq_true (decide (2 ≤ many)) with t_m2 | t_m2
        · go_enter Tryz.func100, Tryz.ntmps100
          go_wp2
          go_quiet (fail)
          go_wp2
          go_ret
          exact ⟨ret_bool (by simp [oneC, t_n, t_l0, t_s0, t_m2] <;> (simp at t_m2; omega)), (by repeat (first | exact Below.refl _ _ | exact (Below.refl _ _).alloc (Nat.le_refl _) _ | apply below_drewN))⟩
        · go_enter Tryz.func100, Tryz.ntmps100
          go_wp2
          go_quiet (fail)
          go_wp2
          go_ret
          exact ⟨ret_bool (by simp [oneC, t_n, t_l0, t_s0, t_m2] <;> (simp at t_m2; omega)), (by repeat (first | exact Below.refl _ _ | exact (Below.refl _ _).alloc (Nat.le_refl _) _ | apply below_drewN))⟩
      · go_enter Tryz.func100, Tryz.ntmps100
        go_wp2
        go_quiet (fail)
        go_wp2
        go_ret
        exact ⟨ret_bool (by simp [oneC, t_n, t_l0, t_s0]), (by repeat (first | exact Below.refl _ _ | exact (Below.refl _ _).alloc (Nat.le_refl _) _ | apply below_drewN))⟩
    · go_enter Tryz.func100, Tryz.ntmps100
      go_wp2
      go_quiet (fail)
      go_wp2
      go_ret
      exact ⟨ret_bool (by simp [oneC, t_n, t_l0]), (by repeat (first | exact Below.refl _ _ | exact (Below.refl _ _).alloc (Nat.le_refl _) _ | apply below_drewN))⟩
  · rcases Bool.eq_false_or_eq_true (least == 0) with t_l0 | t_l0
    · rcases Bool.eq_false_or_eq_true (most == 0) with t_s0 | t_s0
      · go_enter Tryz.func100, Tryz.ntmps100
        go_wp2
        go_quiet (fail)
        go_wp2
        go_ret
        exact ⟨ret_bool (by simp [oneC, t_n]), (by repeat (first | exact Below.refl _ _ | exact (Below.refl _ _).alloc (Nat.le_refl _) _ | apply below_drewN))⟩
      · go_enter Tryz.func100, Tryz.ntmps100
        go_wp2
        go_quiet (fail)
        go_wp2
        go_ret
        exact ⟨ret_bool (by simp [oneC, t_n]), (by repeat (first | exact Below.refl _ _ | exact (Below.refl _ _).alloc (Nat.le_refl _) _ | apply below_drewN))⟩
    · go_enter Tryz.func100, Tryz.ntmps100
      go_wp2
      go_quiet (fail)
      go_wp2
      go_ret
      exact ⟨ret_bool (by simp [oneC, t_n]), (by repeat (first | exact Below.refl _ _ | exact (Below.refl _ _).alloc (Nat.le_refl _) _ | apply below_drewN))⟩

set_option maxHeartbeats 4000000 in
set_option maxRecDepth 100000 in
theorem pattern_one3 (B : Option Addr) (many least most : Int) (c m : Nat) (l : List Rng) (w : World) (hs : AtSet w B l) (HM : Hid (l.length = m)) :
    Calls Tryz.prog 100 #[.agg #[.int .u8 3, .slice B m c, .int .i64 many, .int .i64 least, .int .i64 most]] w fun e w' => e = .returned (.bool (oneC 3 (setB l) m many least most)) ∧ Below w.heap.size w w' := by
  have hl : m ≤ 140737488355328 := by have := hs.1; rwa [HM.out] at this
  clear hs HM
  rcases Bool.eq_false_or_eq_true ((m : Int) == 0) with t_n | t_n
  · rcases Bool.eq_false_or_eq_true (least == 0) with t_l0 | t_l0
    · rcases Bool.eq_false_or_eq_true (most == 0) with t_s0 | t_s0
      · rcases Bool.eq_false_or_eq_true (decide (2 ≤ many)) with t_m2 | t_m2
        · go_enter Tryz.func100, Tryz.ntmps100
          go_wp2
          go_quiet (fail)
          go_wp2
          go_ret
          exact ⟨ret_bool (by simp [oneC, t_n, t_l0, t_s0, t_m2] <;> (simp at t_m2; omega)), (by repeat (first | exact Below.refl _ _ | exact (Below.refl _ _).alloc (Nat.le_refl _) _ | apply below_drewN))⟩
        · go_enter Tryz.func100, Tryz.ntmps100
          go_wp2
          go_quiet (fail)
          go_wp2
          go_ret
          exact ⟨ret_bool (by simp [oneC, t_n, t_l0, t_s0, t_m2] <;> (simp at t_m2; omega)), (by repeat (first | exact Below.refl _ _ | exact (Below.refl _ _).alloc (Nat.le_refl _) _ | apply below_drewN))⟩
      · go_enter Tryz.func100, Tryz.ntmps100
        go_wp2
        go_quiet (fail)
        go_wp2
        go_ret
        exact ⟨ret_bool (by simp [oneC, t_n, t_l0, t_s0]), (by repeat (first | exact Below.refl _ _ | exact (Below.refl _ _).alloc (Nat.le_refl _) _ | apply below_drewN))⟩
    · go_enter Tryz.func100, Tryz.ntmps100
      go_wp2
      go_quiet (fail)
      go_wp2
      go_ret
      exact ⟨ret_bool (by simp [oneC, t_n, t_l0]), (by repeat (first | exact Below.refl _ _ | exact (Below.refl _ _).alloc (Nat.le_refl _) _ | apply below_drewN))⟩
  · rcases Bool.eq_false_or_eq_true (least == 0) with t_l0 | t_l0
    · rcases Bool.eq_false_or_eq_true (most == 0) with t_s0 | t_s0
      · go_enter Tryz.func100, Tryz.ntmps100
        go_wp2
        go_quiet (fail)
        go_wp2
        go_ret
        exact ⟨ret_bool (by simp [oneC, t_n]), (by repeat (first | exact Below.refl _ _ | exact (Below.refl _ _).alloc (Nat.le_refl _) _ | apply below_drewN))⟩
      · go_enter Tryz.func100, Tryz.ntmps100
        go_wp2
        go_quiet (fail)
        go_wp2
        go_ret
        exact ⟨ret_bool (by simp [oneC, t_n]), (by repeat (first | exact Below.refl _ _ | exact (Below.refl _ _).alloc (Nat.le_refl _) _ | apply below_drewN))⟩
    · go_enter Tryz.func100, Tryz.ntmps100
      go_wp2
      go_quiet (fail)
      go_wp2
      go_ret
      exact ⟨ret_bool (by simp [oneC, t_n]), (by repeat (first | exact Below.refl _ _ | exact (Below.refl _ _).alloc (Nat.le_refl _) _ | apply below_drewN))⟩

set_option maxHeartbeats 4000000 in
set_option maxRecDepth 100000 in
theorem pattern_one4 (B : Option Addr) (many least most : Int) (c m : Nat) (l : List Rng) (w : World) (hs : AtSet w B l) (HM : Hid (l.length = m)) :
    Calls Tryz.prog 100 #[.agg #[.int .u8 4, .slice B m c, .int .i64 many, .int .i64 least, .int .i64 most]] w fun e w' => e = .returned (.bool (oneC 4 (setB l) m many least most)) ∧ Below w.heap.size w w' := by
  have hl : m ≤ 140737488355328 := by have := hs.1; rwa [HM.out] at this
  clear hs HM
  rcases Bool.eq_false_or_eq_true ((m : Int) == 0) with t_n | t_n
  · rcases Bool.eq_false_or_eq_true (least == 0) with t_l0 | t_l0
    · rcases Bool.eq_false_or_eq_true (most == 0) with t_s0 | t_s0
      · rcases Bool.eq_false_or_eq_true (many == 1) with t_m1 | t_m1
        · rcases Bool.eq_false_or_eq_true (decide (0 ≤ least)) with t_l1 | t_l1
          · rcases Bool.eq_false_or_eq_true (decide (least ≤ 16)) with t_l16 | t_l16
            · rcases Bool.eq_false_or_eq_true (most == -1) with t_s1 | t_s1
              · go_enter Tryz.func100, Tryz.ntmps100
                go_wp2
                go_quiet (fail)
                go_wp2
                go_ret
                exact ⟨ret_bool (by simp [oneC, t_n, t_m1, t_l1, t_l16, t_s1]), (by repeat (first | exact Below.refl _ _ | exact (Below.refl _ _).alloc (Nat.le_refl _) _ | apply below_drewN))⟩
              · rcases Bool.eq_false_or_eq_true (decide (least ≤ most)) with t_ls | t_ls
                · rcases Bool.eq_false_or_eq_true (decide (most ≤ 16)) with t_s16 | t_s16
                  · go_enter Tryz.func100, Tryz.ntmps100
                    go_wp2
                    go_quiet (fail)
                    go_wp2
                    go_ret
                    exact ⟨ret_bool (by simp [oneC, t_n, t_m1, t_l1, t_l16, t_s1, t_ls, t_s16]), (by repeat (first | exact Below.refl _ _ | exact (Below.refl _ _).alloc (Nat.le_refl _) _ | apply below_drewN))⟩
                  · go_enter Tryz.func100, Tryz.ntmps100
                    go_wp2
                    go_quiet (fail)
                    go_wp2
                    go_ret
                    exact ⟨ret_bool (by simp [oneC, t_n, t_m1, t_l1, t_l16, t_s1, t_ls, t_s16]), (by repeat (first | exact Below.refl _ _ | exact (Below.refl _ _).alloc (Nat.le_refl _) _ | apply below_drewN))⟩
                · go_enter Tryz.func100, Tryz.ntmps100
                  go_wp2
                  go_quiet (fail)
                  go_wp2
                  go_ret
                  exact ⟨ret_bool (by simp [oneC, t_n, t_m1, t_l1, t_l16, t_s1, t_ls]), (by repeat (first | exact Below.refl _ _ | exact (Below.refl _ _).alloc (Nat.le_refl _) _ | apply below_drewN))⟩
            · go_enter Tryz.func100, Tryz.ntmps100
              go_wp2
              go_quiet (fail)
              go_wp2
              go_ret
              exact ⟨ret_bool (by simp [oneC, t_n, t_m1, t_l1, t_l16]), (by repeat (first | exact Below.refl _ _ | exact (Below.refl _ _).alloc (Nat.le_refl _) _ | apply below_drewN))⟩
          · go_enter Tryz.func100, Tryz.ntmps100
            go_wp2
            go_quiet (fail)
            go_wp2
            go_ret
            exact ⟨ret_bool (by simp [oneC, t_n, t_m1, t_l1]), (by repeat (first | exact Below.refl _ _ | exact (Below.refl _ _).alloc (Nat.le_refl _) _ | apply below_drewN))⟩
        · go_enter Tryz.func100, Tryz.ntmps100
          go_wp2
          go_quiet (fail)
          go_wp2
          go_ret
          exact ⟨ret_bool (by simp [oneC, t_n, t_m1]), (by repeat (first | exact Below.refl _ _ | exact (Below.refl _ _).alloc (Nat.le_refl _) _ | apply below_drewN))⟩
      · rcases Bool.eq_false_or_eq_true (many == 1) with t_m1 | t_m1
        · rcases Bool.eq_false_or_eq_true (decide (0 ≤ least)) with t_l1 | t_l1
          · rcases Bool.eq_false_or_eq_true (decide (least ≤ 16)) with t_l16 | t_l16
            · rcases Bool.eq_false_or_eq_true (most == -1) with t_s1 | t_s1
              · go_enter Tryz.func100, Tryz.ntmps100
                go_wp2
                go_quiet (fail)
                go_wp2
                go_ret
                exact ⟨ret_bool (by simp [oneC, t_n, t_m1, t_l1, t_l16, t_s1]), (by repeat (first | exact Below.refl _ _ | exact (Below.refl _ _).alloc (Nat.le_refl _) _ | apply below_drewN))⟩
              · rcases Bool.eq_false_or_eq_true (decide (least ≤ most)) with t_ls | t_ls
                · rcases Bool.eq_false_or_eq_true (decide (most ≤ 16)) with t_s16 | t_s16
                  · go_enter Tryz.func100, Tryz.ntmps100
                    go_wp2
                    go_quiet (fail)
                    go_wp2
                    go_ret
                    exact ⟨ret_bool (by simp [oneC, t_n, t_m1, t_l1, t_l16, t_s1, t_ls, t_s16]), (by repeat (first | exact Below.refl _ _ | exact (Below.refl _ _).alloc (Nat.le_refl _) _ | apply below_drewN))⟩
                  · go_enter Tryz.func100, Tryz.ntmps100
                    go_wp2
                    go_quiet (fail)
                    go_wp2
                    go_ret
                    exact ⟨ret_bool (by simp [oneC, t_n, t_m1, t_l1, t_l16, t_s1, t_ls, t_s16]), (by repeat (first | exact Below.refl _ _ | exact (Below.refl _ _).alloc (Nat.le_refl _) _ | apply below_drewN))⟩
                · go_enter Tryz.func100, Tryz.ntmps100
                  go_wp2
                  go_quiet (fail)
                  go_wp2
                  go_ret
                  exact ⟨ret_bool (by simp [oneC, t_n, t_m1, t_l1, t_l16, t_s1, t_ls]), (by repeat (first | exact Below.refl _ _ | exact (Below.refl _ _).alloc (Nat.le_refl _) _ | apply below_drewN))⟩
            · go_enter Tryz.func100, Tryz.ntmps100
              go_wp2
              go_quiet (fail)
              go_wp2
              go_ret
              exact ⟨ret_bool (by simp [oneC, t_n, t_m1, t_l1, t_l16]), (by repeat (first | exact Below.refl _ _ | exact (Below.refl _ _).alloc (Nat.le_refl _) _ | apply below_drewN))⟩
          · go_enter Tryz.func100, Tryz.ntmps100
            go_wp2
            go_quiet (fail)
            go_wp2
            go_ret
            exact ⟨ret_bool (by simp [oneC, t_n, t_m1, t_l1]), (by repeat (first | exact Below.refl _ _ | exact (Below.refl _ _).alloc (Nat.le_refl _) _ | apply below_drewN))⟩
        · go_enter Tryz.func100, Tryz.ntmps100
          go_wp2
          go_quiet (fail)
          go_wp2
          go_ret
          exact ⟨ret_bool (by simp [oneC, t_n, t_m1]), (by repeat (first | exact Below.refl _ _ | exact (Below.refl _ _).alloc (Nat.le_refl _) _ | apply below_drewN))⟩
    · rcases Bool.eq_false_or_eq_true (many == 1) with t_m1 | t_m1
      · rcases Bool.eq_false_or_eq_true (decide (0 ≤ least)) with t_l1 | t_l1
        · rcases Bool.eq_false_or_eq_true (decide (least ≤ 16)) with t_l16 | t_l16
          · rcases Bool.eq_false_or_eq_true (most == -1) with t_s1 | t_s1
            · go_enter Tryz.func100, Tryz.ntmps100
              go_wp2
              go_quiet (fail)
              go_wp2
              go_ret
              exact ⟨ret_bool (by simp [oneC, t_n, t_m1, t_l1, t_l16, t_s1]), (by repeat (first | exact Below.refl _ _ | exact (Below.refl _ _).alloc (Nat.le_refl _) _ | apply below_drewN))⟩
            · rcases Bool.eq_false_or_eq_true (decide (least ≤ most)) with t_ls | t_ls
              · rcases Bool.eq_false_or_eq_true (decide (most ≤ 16)) with t_s16 | t_s16
                · go_enter Tryz.func100, Tryz.ntmps100
                  go_wp2
                  go_quiet (fail)
                  go_wp2
                  go_ret
                  exact ⟨ret_bool (by simp [oneC, t_n, t_m1, t_l1, t_l16, t_s1, t_ls, t_s16]), (by repeat (first | exact Below.refl _ _ | exact (Below.refl _ _).alloc (Nat.le_refl _) _ | apply below_drewN))⟩
                · go_enter Tryz.func100, Tryz.ntmps100
                  go_wp2
                  go_quiet (fail)
                  go_wp2
                  go_ret
                  exact ⟨ret_bool (by simp [oneC, t_n, t_m1, t_l1, t_l16, t_s1, t_ls, t_s16]), (by repeat (first | exact Below.refl _ _ | exact (Below.refl _ _).alloc (Nat.le_refl _) _ | apply below_drewN))⟩
              · go_enter Tryz.func100, Tryz.ntmps100
                go_wp2
                go_quiet (fail)
                go_wp2
                go_ret
                exact ⟨ret_bool (by simp [oneC, t_n, t_m1, t_l1, t_l16, t_s1, t_ls]), (by repeat (first | exact Below.refl _ _ | exact (Below.refl _ _).alloc (Nat.le_refl _) _ | apply below_drewN))⟩
          · go_enter Tryz.func100, Tryz.ntmps100
            go_wp2
            go_quiet (fail)
            go_wp2
            go_ret
            exact ⟨ret_bool (by simp [oneC, t_n, t_m1, t_l1, t_l16]), (by repeat (first | exact Below.refl _ _ | exact (Below.refl _ _).alloc (Nat.le_refl _) _ | apply below_drewN))⟩
        · go_enter Tryz.func100, Tryz.ntmps100
          go_wp2
          go_quiet (fail)
          go_wp2
          go_ret
          exact ⟨ret_bool (by simp [oneC, t_n, t_m1, t_l1]), (by repeat (first | exact Below.refl _ _ | exact (Below.refl _ _).alloc (Nat.le_refl _) _ | apply below_drewN))⟩
      · go_enter Tryz.func100, Tryz.ntmps100
        go_wp2
        go_quiet (fail)
        go_wp2
        go_ret
        exact ⟨ret_bool (by simp [oneC, t_n, t_m1]), (by repeat (first | exact Below.refl _ _ | exact (Below.refl _ _).alloc (Nat.le_refl _) _ | apply below_drewN))⟩
  · rcases Bool.eq_false_or_eq_true (least == 0) with t_l0 | t_l0
    · rcases Bool.eq_false_or_eq_true (most == 0) with t_s0 | t_s0
      · go_enter Tryz.func100, Tryz.ntmps100
        go_wp2
        go_quiet (fail)
        go_wp2
        go_ret
        exact ⟨ret_bool (by simp [oneC, t_n]), (by repeat (first | exact Below.refl _ _ | exact (Below.refl _ _).alloc (Nat.le_refl _) _ | apply below_drewN))⟩
      · go_enter Tryz.func100, Tryz.ntmps100
        go_wp2
        go_quiet (fail)
        go_wp2
        go_ret
        exact ⟨ret_bool (by simp [oneC, t_n]), (by repeat (first | exact Below.refl _ _ | exact (Below.refl _ _).alloc (Nat.le_refl _) _ | apply below_drewN))⟩
    · go_enter Tryz.func100, Tryz.ntmps100
      go_wp2
      go_quiet (fail)
      go_wp2
      go_ret
      exact ⟨ret_bool (by simp [oneC, t_n]), (by repeat (first | exact Below.refl _ _ | exact (Below.refl _ _).alloc (Nat.le_refl _) _ | apply below_drewN))⟩

set_option maxHeartbeats 4000000 in
set_option maxRecDepth 100000 in
theorem pattern_one5 (B : Option Addr) (k : Int) (many least most : Int) (c m : Nat) (l : List Rng) (w : World) (hs : AtSet w B l) (HM : Hid (l.length = m)) (hk5 : Hid (4 < k)) :
    Calls Tryz.prog 100 #[.agg #[.int .u8 k, .slice B m c, .int .i64 many, .int .i64 least, .int .i64 most]] w fun e w' => e = .returned (.bool (oneC k (setB l) m many least most)) ∧ Below w.heap.size w w' := by
  have hl : m ≤ 140737488355328 := by have := hs.1; rwa [HM.out] at this
  have k0 : (k == 0) = false := by have := hk5.out; simp; omega
  have k1 : (k == 1) = false := by have := hk5.out; simp; omega
  have k2 : (k == 2) = false := by have := hk5.out; simp; omega
  have k3 : (k == 3) = false := by have := hk5.out; simp; omega
  have k4 : (k == 4) = false := by have := hk5.out; simp; omega
  clear hs HM
  rcases Bool.eq_false_or_eq_true ((m : Int) == 0) with t_n | t_n
  · rcases Bool.eq_false_or_eq_true (least == 0) with t_l0 | t_l0
    · rcases Bool.eq_false_or_eq_true (most == 0) with t_s0 | t_s0
      · go_enter Tryz.func100, Tryz.ntmps100
        go_wp2
        go_quiet (fail)
        go_wp2
        go_ret
        exact ⟨ret_bool (by simp [oneC, k0, k1, k2, k3, k4]), (by repeat (first | exact Below.refl _ _ | exact (Below.refl _ _).alloc (Nat.le_refl _) _ | apply below_drewN))⟩
      · go_enter Tryz.func100, Tryz.ntmps100
        go_wp2
        go_quiet (fail)
        go_wp2
        go_ret
        exact ⟨ret_bool (by simp [oneC, k0, k1, k2, k3, k4]), (by repeat (first | exact Below.refl _ _ | exact (Below.refl _ _).alloc (Nat.le_refl _) _ | apply below_drewN))⟩
    · go_enter Tryz.func100, Tryz.ntmps100
      go_wp2
      go_quiet (fail)
      go_wp2
      go_ret
      exact ⟨ret_bool (by simp [oneC, k0, k1, k2, k3, k4]), (by repeat (first | exact Below.refl _ _ | exact (Below.refl _ _).alloc (Nat.le_refl _) _ | apply below_drewN))⟩
  · rcases Bool.eq_false_or_eq_true (least == 0) with t_l0 | t_l0
    · rcases Bool.eq_false_or_eq_true (most == 0) with t_s0 | t_s0
      · go_enter Tryz.func100, Tryz.ntmps100
        go_wp2
        go_quiet (fail)
        go_wp2
        go_ret
        exact ⟨ret_bool (by simp [oneC, k0, k1, k2, k3, k4]), (by repeat (first | exact Below.refl _ _ | exact (Below.refl _ _).alloc (Nat.le_refl _) _ | apply below_drewN))⟩
      · go_enter Tryz.func100, Tryz.ntmps100
        go_wp2
        go_quiet (fail)
        go_wp2
        go_ret
        exact ⟨ret_bool (by simp [oneC, k0, k1, k2, k3, k4]), (by repeat (first | exact Below.refl _ _ | exact (Below.refl _ _).alloc (Nat.le_refl _) _ | apply below_drewN))⟩
    · go_enter Tryz.func100, Tryz.ntmps100
      go_wp2
      go_quiet (fail)
      go_wp2
      go_ret
      exact ⟨ret_bool (by simp [oneC, k0, k1, k2, k3, k4]), (by repeat (first | exact Below.refl _ _ | exact (Below.refl _ _).alloc (Nat.le_refl _) _ | apply below_drewN))⟩

end Go.Proofs.YtilhicefhhgecaaGreatDoor

namespace Go.Proofs.YtilhicefhhgecaaGreatDoor
open Go.RowKit Pv

theorem kindcases {k : Int} (h : 0 ≤ k) : k = 0 ∨ k = 1 ∨ k = 2 ∨ k = 3 ∨ k = 4 ∨ 4 < k := by omega
end Go.Proofs.YtilhicefhhgecaaGreatDoor
