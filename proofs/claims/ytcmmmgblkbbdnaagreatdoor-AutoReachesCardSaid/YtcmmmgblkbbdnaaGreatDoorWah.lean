/- Walks: whether a number is on a list (the library's Contains at ints). -/
import Derived.Test.YtcmmmgblkbbdnaaGreatDoorMemh
import Derived.Test.YtcmmmgblkbbdnaaGreatDoorChecked
import Derived.WalkKit
import Derived.WalkSpells
import Derived.WalkLawsBesides
import Derived.Deep.QuietTactic
import Derived.BigQuiet
import Derived.Lib.Hide
import Derived.Outline
namespace Go.Proofs.YtcmmmgblkbbdnaaGreatDoor
open Go.RowKit Pv

set_option maxHeartbeats 1000000 in
set_option maxRecDepth 100000 in
theorem contains_int (A : Option Addr) (c n : Nat) (l : List Int) (p : Int) (w : World) (h : At w A RI l) (HL : Hid (l.length = n)) :
    Calls Tryz.prog 55 #[.slice A n c, .int .i64 p] w fun e w' => e = .returned (.bool (decide (p ∈ l))) ∧ w' = w := by
  have hl : n ≤ 140737488355328 := by have := h.1; rwa [HL.out] at this
  have hIX : Calls Tryz.prog 90 #[.slice A n c, .int .i64 p] w fun e w' => (∃ r : Int, e = .returned (.int .i64 r) ∧ (0 ≤ r ↔ p ∈ l)) ∧ w' = w := by
    go_enter Tryz.func90, Tryz.ntmps90
    go_wp2
    go_loop [8] (fun i => ∃ k : Nat, i = .int .i64 k ∧ k ≤ n ∧ p ∉ l.take k) (fun i => n - (intOf i).toNat)
    case atStart => exact ⟨0, rfl, by omega, by simp⟩
    case round =>
      obtain ⟨k, rfl, hk, hno⟩ := hrel
      have HNO := Lib.hid hno
      clear hno
      by_cases hlt : k < n
      · obtain ⟨b, off, u, x, rfl, hbs, hx, ⟨rfl, _, _⟩, HX⟩ := h.gt HL hlt
        by_cases hpx : p = x
        · have HM := Lib.hid (show p ∈ l by rw [hpx]; exact mem_of_get HX.out)
          subst hpx
          go_wp2
          go_ret
          exact ⟨⟨_, rfl, fun _ => HM.out, fun _ => by omega⟩, rfl⟩
        · have HS := Lib.hid (show p ∉ l.take (k + 1) by
            rw [take_snoc HX.out]
            simp only [List.mem_append, List.mem_singleton, not_or]
            exact ⟨HNO.out, hpx⟩)
          go_wp2
          go_round
          case rel => exact ⟨k + 1, by go_num, by omega, HS.out⟩
          case measure => simp [intOf]; omega
      · have HN := Lib.hid (show p ∉ l by have := HNO.out; rwa [List.take_of_length_le (by rw [HL.out]; omega)] at this)
        go_wp2
        go_ret
        exact ⟨⟨-1, rfl, fun h => by omega, fun h => absurd h HN.out⟩, rfl⟩
  have HIX := Lib.hid hIX
  obtain ⟨ans, hans⟩ : ∃ ans, decide (p ∈ l) = ans := ⟨_, rfl⟩
  rw [hans]
  have HA := Lib.hid hans
  clear hIX h hans
  go_enter Tryz.func55, Tryz.ntmps55
  go_wp2_with fail
  refine HIX.out.mono ?_
  rintro e w2 ⟨⟨r, rfl, hr⟩, rfl⟩
  have HR := Lib.hid (show decide (0 ≤ r) = ans by
    rw [← HA.out]
    by_cases h0 : p ∈ l
    · rw [decide_eq_true h0]; exact decide_eq_true (hr.2 h0)
    · rw [decide_eq_false h0]; exact decide_eq_false (fun h1 => h0 (hr.1 h1)))
  clear hr
  go_wp2
  go_ret
  exact ⟨ret_bool HR.out, rfl⟩

end Go.Proofs.YtcmmmgblkbbdnaaGreatDoor

namespace Go.Proofs.YtcmmmgblkbbdnaaGreatDoor
open Go.RowKit Pv

set_option maxHeartbeats 400000 in
theorem ref06_SameInts (A B : Option Addr) (c d n m : Nat) (l r : List Int) (w : World) (ha : At w A RI l) (hb : At w B RI r) (HL : Hid (l.length = n)) (HM : Hid (r.length = m)) :
    Calls Tryz.prog 32 #[.slice A n c, .slice B m d] w fun e w' => e = .returned (.bool (decide (l = r))) ∧ ∃ n, w' = w.drewN n := by
  by_cases hlen : n = m
  · have hl : n ≤ 140737488355328 := by have := ha.1; rwa [HL.out] at this
    subst hlen
    have h1 : ((n : Int) != (n : Int)) = false := by simp
    go_enter Tryz.func32, Tryz.ntmps32
    go_wp2
    go_loopw [5] (fun i wr => ∃ k q : Nat, i = .int .i64 k ∧ wr = w.drewN q ∧ k ≤ n ∧ l.take k = r.take k) (fun i _ => n - (intOf i).toNat)
    case atStart => exact ⟨0, 0, rfl, rfl, by omega, by simp⟩
    case round =>
      obtain ⟨k, q, rfl, rfl, hk, heq⟩ := hrel
      have HE := Lib.hid heq; clear heq
      by_cases hlt : k < n
      · obtain ⟨b, off, u, x, rfl, hbs, hx, ⟨rfl, _, _⟩, HX⟩ := ha.gt HL hlt
        obtain ⟨b', off', u', y, rfl, hbs', hy, ⟨rfl, _, _⟩, HY⟩ := hb.gt HM hlt
        clear ha hb
        by_cases hxy : x = y
        · subst hxy
          have h2 : (x != x) = false := by simp
          go_wp2
          go_quiet (fail)
          go_wp2
          go_roundw
          case rel => exact ⟨k + 1, _, by go_num, rfl, by omega, by rw [take_snoc HX.out, take_snoc HY.out, HE.out]⟩
          case measure => simp [intOf]; omega
        · have h2 : (x != y) = true := by simp [hxy]
          have HXY := Lib.hid hxy; clear hxy
          go_wp2
          go_quiet (fail)
          go_wp2
          go_ret
          refine ⟨ret_bool (decide_eq_false fun hh => HXY.out ?_).symm, _, World.drewN_drewN _ _ _⟩
          subst hh
          exact Option.some.inj (HX.out.symm.trans HY.out)
      · have : k = n := by omega
        subst this
        go_wp2
        go_ret
        exact ⟨ret_bool (decide_eq_true (by have := HE.out; rwa [List.take_of_length_le (by rw [HL.out]; omega), List.take_of_length_le (by rw [HM.out]; omega)] at this)).symm, q, rfl⟩
  · have h1 : ((n : Int) != (m : Int)) = true := by simp; omega
    have HN := Lib.hid (show decide (l = r) = false by simp; intro h; subst h; exact hlen (HL.out.symm.trans HM.out))
    clear hlen
    go_enter Tryz.func32, Tryz.ntmps32
    go_wp2
    go_ret
    exact ⟨ret_bool HN.out.symm, 0, rfl⟩

end Go.Proofs.YtcmmmgblkbbdnaaGreatDoor
