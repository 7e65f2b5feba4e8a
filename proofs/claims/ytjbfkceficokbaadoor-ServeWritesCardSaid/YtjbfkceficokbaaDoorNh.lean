/- Walks: what statements go through: cells; the law ServeWrites. PUT1 -/
import Derived.Test.YtjbfkceficokbaaDoorNg
import Derived.BigQuiet
namespace Pv
open Go Go.RowKit
theorem AtFt.rng {w : World} {A : Option Addr} {l : List Ft} (h : AtFt w A l) (i : Nat) (x : Ft) (hx : l[i]? = some x) :
    (-9223372036854775808 ≤ x.rule ∧ x.rule ≤ 9223372036854775807) ∧ (-9223372036854775808 ≤ x.line ∧ x.line ≤ 9223372036854775807) ∧ (-9223372036854775808 ≤ x.col ∧ x.col ≤ 9223372036854775807) ∧ (∀ (j : Nat) s, x.path[j]? = some s → -9223372036854775808 ≤ s.at' ∧ s.at' ≤ 9223372036854775807) := by
  obtain ⟨b, off, e, hb, hc⟩ := h.2 (by have := lt_of_get hx; omega)
  obtain ⟨f, hf, hR⟩ := hc i x hx
  refine ⟨hR.rule.2, hR.line.2, hR.col.2, fun j s hs => ?_⟩
  obtain ⟨pA, pc, _, hp, _⟩ := hR.path
  obtain ⟨b2, off2, e2, hb2, hc2⟩ := hp.2 (by have := lt_of_get hs; omega)
  obtain ⟨g, _, hS⟩ := hc2 j s hs
  exact hS.at'.2
theorem AtCl.rng {w : World} {A : Option Addr} {l : List Cl} (h : AtCl w A l) (i : Nat) (x : Cl) (hx : l[i]? = some x) : -9223372036854775808 ≤ x.int ∧ x.int ≤ 9223372036854775807 := by
  obtain ⟨b, off, e, hb, hc⟩ := h.2 (by have := lt_of_get hx; omega)
  obtain ⟨f, hf, hR⟩ := hc i x hx
  exact hR.int.2
end Pv
namespace Go.Proofs.YtjbfkceficokbaaDoor
open Go.RowKit Pv

def GreatP (v : List Cl) (w : World) (e : Ending) (w' : World) : Prop := ∃ g, e = .returned (.bool g) ∧ w = w' ∧ (g = false → v.length ≤ 100 ∧ ∀ (i : Nat) c, v[i]? = some c → c.name.size ≤ 300 ∧ c.text.size ≤ 3000)

set_option maxHeartbeats 1000000 in
set_option maxRecDepth 100000 in
theorem ref03_Great (vA : Option Addr) (m mc : Nat) (v : List Cl) (w : World) (hv : AtCl w vA v) (HM : Hid (v.length = m)) :
    Calls Tryd.prog 4 #[.slice vA m mc, .int .i64 100] w (GreatP v w) := by
  have hm : m ≤ 140737488355328 := by have := hv.1; rwa [HM.out] at this
  have HV := Lib.hid hv
  clear hv
  go_enter Tryd.func4, Tryd.ntmps4
  go_wp2
  go_loop [5] (fun iv => ∃ k : Nat, iv = .int .i64 k ∧ k ≤ m ∧ k ≤ 100 ∧ ∀ (i : Nat) c, i < k → v[i]? = some c → c.name.size ≤ 300 ∧ c.text.size ≤ 3000) (fun iv => 101 - (intOf iv).toNat)
  case atStart => exact ⟨0, rfl, by omega, by omega, by intros; omega⟩
  case round =>
    obtain ⟨k, rfl, hk, hk1, hal⟩ := hrel
    have HA := Lib.hid hal
    clear hal
    by_cases hlt : k < m
    · by_cases hlh : k < 100
      · obtain ⟨b, off, kd, nm, tx, z, q, rfl, hb, ⟨x0, x1, x2, x3, x4⟩, _, _, _, HX⟩ := AtCl.gt HV.out HM hlt
        by_cases hn : 300 < nm.size
        · go_wp2
          go_ret
          exact ⟨_, rfl, rfl, fun h => by cases h⟩
        by_cases ht : 3000 < tx.size
        · go_wp2
          go_ret
          exact ⟨_, rfl, rfl, fun h => by cases h⟩
        have HA2 := Lib.hid (show ∀ (i : Nat) c, i < k + 1 → v[i]? = some c → c.name.size ≤ 300 ∧ c.text.size ≤ 3000 from fun i c hi hc => by
          by_cases e : i = k
          · subst e
            obtain rfl := Option.some.inj (hc.symm.trans HX.out)
            exact ⟨by simp only; omega, by simp only; omega⟩
          · exact HA.out i c (by omega) hc)
        go_wp2
        go_round
        case rel => exact ⟨k + 1, by go_num, by omega, by omega, HA2.out⟩
        case measure => simp [intOf]; omega
      · by_cases h100 : 100 < m
        · go_wp2
          go_ret
          exact ⟨true, ret_bool (by simp; omega), rfl, fun h => by cases h⟩
        · omega
    · have hf := Lib.hid (show m ≤ 100 ∧ ∀ (i : Nat) c, v[i]? = some c → c.name.size ≤ 300 ∧ c.text.size ≤ 3000 from ⟨by omega, fun i c hc => HA.out i c (by have := lt_of_get hc; rw [HM.out] at this; omega) hc⟩)
      go_wp2
      go_ret
      exact ⟨false, ret_bool (by simp; omega), rfl, fun _ => by rw [HM.out]; exact hf.out⟩

set_option maxHeartbeats 400000 in
set_option maxRecDepth 100000 in
theorem ref23_SameNil (pA : Option Addr) (pn pc : Nat) (w : World) :
    Calls Tryd.prog 5 #[.slice pA pn pc, .slice none 0 0] w fun e w' => e = .returned (.bool (decide (pn = 0))) ∧ w = w' := by
  by_cases h : pn = 0
  · subst h
    go_enter Tryd.func5, Tryd.ntmps5
    go_wp2
    go_loop [5] (fun iv => iv = .int .i64 0) (fun _ => 0)
    case atStart => rfl
    case round =>
      subst hrel
      go_wp2
      go_ret
      exact ⟨rfl, rfl⟩
  · have q : ((pn : Int) != 0) = true := by simp; omega
    have HN := Lib.hid (show decide (pn = 0) = false from decide_eq_false h)
    clear h
    go_enter Tryd.func5, Tryd.ntmps5
    go_wp2
    go_ret
    exact ⟨ret_bool HN.out.symm, rfl⟩
end Go.Proofs.YtjbfkceficokbaaDoor
