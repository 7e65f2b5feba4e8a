/- Walks: where a node ends, at any place, by the document and by the program; the document's check. PUT1 -/
import Derived.Test.YtjnjbcigbnjmkaaDoorYk
namespace Pv
open Go Go.RowKit
noncomputable def endN (t : List Rx) (x : Int) : Int := if patB t = true ∧ 0 ≤ x ∧ x < (t.length : Int) then bR (behind t 16 x.toNat) else 0
noncomputable def endE (t : List Rx) (x : Int) : Int := if patB t = true then (if 0 ≤ x ∧ x < (t.length : Int) then 0 else 2) else 8
theorem end_yes {t : List Rx} {i : Nat} (h : Pat t) (hi : i < t.length) : endN t i = bR (behind t 16 i) ∧ endE t i = 0 := by
  unfold endN endE
  rw [if_pos ⟨patB_yes h, by omega, by omega⟩, if_pos (patB_yes h), if_pos ⟨by omega, by omega⟩]
  exact ⟨by simp, rfl⟩
theorem end_out {t : List Rx} {x : Int} (h : Pat t) (hi : ¬ (0 ≤ x ∧ x < (t.length : Int))) : endN t x = 0 ∧ endE t x = 2 := by
  unfold endN endE
  rw [if_neg (fun hh => hi hh.2), if_pos (patB_yes h), if_neg hi]
  exact ⟨rfl, rfl⟩
theorem end_no {t : List Rx} {x : Int} (h : ¬ Pat t) : endN t x = 0 ∧ endE t x = 8 := by
  unfold endN endE
  rw [if_neg (fun hh => by rw [patB_no h] at hh; cases hh.1), if_neg (by rw [patB_no h]; simp)]
  exact ⟨rfl, rfl⟩
end Pv
namespace Go.Proofs.YtjnjbcigbnjmkaaDoor
open Go.RowKit Pv

set_option maxHeartbeats 1000000 in
set_option maxRecDepth 100000 in
theorem pattern_End (A : Option Addr) (c n : Nat) (x : Int) (t : List Rx) (w : World) (h : AtRx w A t) (HL : Hid (t.length = n)) :
    Calls Tryd.prog 8 #[.slice A n c, .int .i64 x] w fun e w' => e = .returned (.tuple #[.int .i64 (endN t x), .int .i64 (endE t x)]) ∧ Below w.heap.size w w' := by
  have hl : n ≤ 140737488355328 := by have := h.1; rwa [HL.out] at this
  have hnil := fun (W : World) (a : Option Addr) (n c : Nat) => Lib.run_eql_slice_nil (P := Tryd.prog) W 42 3 a n c 0 0 Tryd.underlying42
  by_cases hp : Pat t
  · by_cases hx : 0 ≤ x ∧ x < (n : Int)
    · obtain ⟨i, rfl⟩ := Int.eq_ofNat_of_zero_le hx.1
      obtain ⟨e1, e2⟩ := end_yes (i := i) hp (by rw [HL.out]; omega)
      rw [e1, e2]
      exact pattern_End_yes A c n i t w h HL (Lib.hid hp) (by omega)
    · obtain ⟨e1, e2⟩ := end_out (x := x) hp (by rw [HL.out]; exact hx)
      have HC := Lib.hid (pattern_behind_yes A c n t w h HL (Lib.hid hp))
      rw [e1, e2]
      clear e1 e2 h hp
      by_cases h0 : x < 0
      case' neg => have h1 : (n : Int) ≤ x := by omega
      all_goals
        clear hx
        go_enter Tryd.func8, Tryd.ntmps8
        go_wp2_with (go_at_call 15; refine HC.out.mono ?_; rintro e w1 ⟨eb, rfl, _, hb1⟩)
        go_ret2
        exact ⟨rfl, hb1⟩
  · obtain ⟨e1, e2⟩ := end_no (x := x) hp
    have HC := Lib.hid (pattern_behind_no A c n t w h HL (Lib.hid hp))
    rw [e1, e2]
    clear e1 e2 h hp
    go_enter Tryd.func8, Tryd.ntmps8
    go_wp2_with (go_at_call 15; refine HC.out.mono ?_; rintro e w1 ⟨rfl, hb1⟩)
    go_ret2
    exact ⟨rfl, hb1⟩

set_option maxHeartbeats 1000000 in
set_option maxRecDepth 100000 in
theorem ref07_End (A : Option Addr) (c n : Nat) (x : Int) (t : List Rx) (w : World) (h : AtRx w A t) (HL : Hid (t.length = n)) :
    Calls Tryd.prog 9 #[.slice A n c, .int .i64 x] w fun e w' => e = .returned (.tuple #[.int .i64 (endN t x), .int .i64 (endE t x)]) ∧ Below w.heap.size w w' := by
  have hl : n ≤ 140737488355328 := by have := h.1; rwa [HL.out] at this
  have HM := Lib.hid (ref07_May A c n t w h HL)
  by_cases hp : Pat t
  · rw [patB_yes hp] at HM
    by_cases hx : 0 ≤ x ∧ x < (n : Int)
    · obtain ⟨i, rfl⟩ := Int.eq_ofNat_of_zero_le hx.1
      obtain ⟨e1, e2⟩ := end_yes (i := i) hp (by rw [HL.out]; omega)
      have HB := Lib.hid (fun W (k : Keep w W) => ref07_Behind A c n t w h HL 16 (by omega) i W k (by omega))
      rw [e1, e2]
      generalize bR (behind t 16 i) = r at *
      clear e1 e2 h hp
      go_enter Tryd.func9, Tryd.ntmps9
      go_wp2_with (first | (go_at_call 21; refine HM.out.mono ?_; rintro e w1 ⟨rfl, hb1⟩; have HB1 := Lib.hid hb1; clear hb1) | (go_at_call 23; refine (HB.out _ (Keep.of HB1.out)).mono ?_; rintro e w2 ⟨rfl, hb2⟩; have HB2 := Lib.hid (HB1.out.trans (hb2.mono HB1.out.size)); clear hb2))
      go_ret2
      exact ⟨rfl, HB2.out⟩
    · obtain ⟨e1, e2⟩ := end_out (x := x) hp (by rw [HL.out]; exact hx)
      rw [e1, e2]
      clear e1 e2 h hp
      by_cases h0 : x < 0
      case' neg => have h1 : (n : Int) ≤ x := by omega
      all_goals
        clear hx
        go_enter Tryd.func9, Tryd.ntmps9
        go_wp2_with (go_at_call 21; refine HM.out.mono ?_; rintro e w1 ⟨rfl, hb1⟩)
        go_ret2
        exact ⟨rfl, hb1⟩
  · obtain ⟨e1, e2⟩ := end_no (x := x) hp
    rw [patB_no hp] at HM
    rw [e1, e2]
    clear e1 e2 h hp
    go_enter Tryd.func9, Tryd.ntmps9
    go_wp2_with (go_at_call 21; refine HM.out.mono ?_; rintro e w1 ⟨rfl, hb1⟩)
    go_ret2
    exact ⟨rfl, hb1⟩

set_option maxHeartbeats 1000000 in
set_option maxRecDepth 100000 in
theorem ref07_Check (A : Option Addr) (c n : Nat) (t : List Rx) (w : World) (h : AtRx w A t) (HL : Hid (t.length = n)) :
    Calls Tryd.prog 11 #[.slice A n c] w fun e w' => e = .returned (.int .i64 (patE t)) ∧ Below w.heap.size w w' := by
  have HM := Lib.hid (ref07_May A c n t w h HL)
  by_cases hp : Pat t
  · have HE := Lib.hid (patE_yes hp)
    rw [patB_yes hp] at HM
    clear h hp
    go_enter Tryd.func11, Tryd.ntmps11
    go_wp2_with (go_at_call 21; refine HM.out.mono ?_; rintro e w1 ⟨rfl, hb1⟩)
    go_ret
    exact ⟨ret_int HE.out.symm, hb1⟩
  · have HE := Lib.hid (patE_no hp)
    rw [patB_no hp] at HM
    clear h hp
    go_enter Tryd.func11, Tryd.ntmps11
    go_wp2_with (go_at_call 21; refine HM.out.mono ?_; rintro e w1 ⟨rfl, hb1⟩)
    go_ret
    exact ⟨ret_int HE.out.symm, hb1⟩
end Go.Proofs.YtjnjbcigbnjmkaaDoor
