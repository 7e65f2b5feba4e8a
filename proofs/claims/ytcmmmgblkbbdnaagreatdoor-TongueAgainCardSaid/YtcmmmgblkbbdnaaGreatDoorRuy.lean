/- Walks: whether nodes are great; twins in new memory; whether two patterns are the same. -/
import Derived.Deep.RegionHeld3
import Derived.Deep.RegionLaw
import Derived.Test.YtcmmmgblkbbdnaaGreatDoorPgy
import Derived.Test.YtcmmmgblkbbdnaaGreatDoorHsy
import Derived.Test.YtcmmmgblkbbdnaaGreatDoorAuy
import Derived.Test.YtcmmmgblkbbdnaaGreatDoorAky
namespace Go.Proofs.YtcmmmgblkbbdnaaGreatDoor
open Go.RowKit Pv

/-- What the answer 'not great' tells. -/
def GreatP (t : List Rx) (q : Nat) (w : World) (e : Ending) (w' : World) : Prop :=
  ∃ g, e = .returned (.bool g) ∧ (g = false → t.length ≤ q ∧ ∀ (i : Nat) x, t[i]? = some x → x.set.length ≤ 60) ∧ w = w'
set_option maxHeartbeats 1000000 in
set_option maxRecDepth 100000 in
theorem ref07_Great (A : Option Addr) (c n q : Nat) (t : List Rx) (w : World) (h : AtRx w A t) (HL : Hid (t.length = n)) (hq : q ≤ 1000) :
    Calls Tryz.prog 22 #[.slice A n c, .int .i64 q] w (GreatP t q w) := by
  have hl : n ≤ 140737488355328 := by have := h.1; rwa [HL.out] at this
  go_enter Tryz.func22, Tryz.ntmps22
  go_wp2
  go_loop [5] (fun i => ∃ k : Nat, i = .int .i64 k ∧ k ≤ n ∧ (∀ (i : Nat) x, i < k → t[i]? = some x → x.set.length ≤ 60)) (fun i => n - (intOf i).toNat)
  case atStart => exact ⟨0, rfl, by omega, by intros; omega⟩
  case round =>
    obtain ⟨k, rfl, hk, hall⟩ := hrel
    have HA := Lib.hid hall; clear hall
    by_cases hlt : k < n
    · by_cases hkq : k < q
      · obtain ⟨b, off, kd, B, cs, m, l, many, least, most, rfl, ⟨y0, y1, y2, y3, y4, y5⟩, hs, HM, hm, _, _, _, _, HX⟩ := h.g5 HL hlt
        have hml : m ≤ 140737488355328 := by have := hs.1; rwa [HM.out] at this
        clear h hs
        by_cases h60 : 60 < m
        · go_wp2
          go_ret
          exact ⟨true, rfl, nofun, rfl⟩
        · go_wp2
          go_round
          case rel => exact ⟨k + 1, by go_num, by omega, fun i x hi hx => by
            by_cases hik : i = k
            · subst hik
              obtain rfl := Option.some.inj (HX.out.symm.trans hx)
              have := HM.out
              simp only; omega
            · exact HA.out i x (by omega) hx⟩
          case measure => simp [intOf]; omega
      · have hd : decide (q < n) = true := decide_eq_true (by omega)
        clear h
        go_wp2
        go_ret
        exact ⟨true, ret_bool (by simp <;> omega), nofun, rfl⟩
    · have : k = n := by omega
      subst this
      clear h
      by_cases hqk : q < k
      · go_wp2
        go_ret
        exact ⟨true, ret_bool (by simp <;> omega), nofun, rfl⟩
      · go_wp2
        go_ret
        exact ⟨false, ret_bool (by simp <;> omega), fun _ => ⟨by rw [HL.out]; omega, fun i x hx => HA.out i x (by have := lt_of_get hx; rwa [HL.out] at this) hx⟩, rfl⟩

end Go.Proofs.YtcmmmgblkbbdnaaGreatDoor

namespace Go.Proofs.YtcmmmgblkbbdnaaGreatDoor
open Go.RowKit Pv

end Go.Proofs.YtcmmmgblkbbdnaaGreatDoor

namespace Go.Proofs.YtcmmmgblkbbdnaaGreatDoor
open Go.RowKit Pv

end Go.Proofs.YtcmmmgblkbbdnaaGreatDoor

namespace Go.Proofs.YtcmmmgblkbbdnaaGreatDoor
open Go.RowKit Pv

end Go.Proofs.YtcmmmgblkbbdnaaGreatDoor
