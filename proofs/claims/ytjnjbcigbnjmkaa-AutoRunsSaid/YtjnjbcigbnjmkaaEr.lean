/- Walks: whether two lists of ranges are the same, by the library's Equal. PUT1 -/
import Derived.Test.YtjnjbcigbnjmkaaRx
import Derived.Test.YtjnjbcigbnjmkaaW0
import Derived.Laws.StructEq
namespace Go.Proofs.Ytjnjbcigbnjmkaa
open Go.RowKit Pv

set_option maxHeartbeats 1000000 in
set_option maxRecDepth 100000 in
theorem equal_rngs (A B : Option Addr) (c d n m : Nat) (l r : List Rng) (w : World) (ha : AtSet w A l) (hb : AtSet w B r) (HL : Hid (l.length = n)) (HM : Hid (r.length = m)) :
    Calls Try.prog 86 #[.slice A n c, .slice B m d] w fun e w' => e = .returned (.bool (decide (l = r))) ∧ Below w.heap.size w w' := by
  by_cases hlen : n = m
  case neg =>
    have h1 : ((n : Int) != (m : Int)) = true := by simp; omega
    have HN := Lib.hid (show decide (l = r) = false by simp; intro h; subst h; exact hlen (HL.out.symm.trans HM.out))
    clear hlen ha hb
    go_enter Try.func86, Try.ntmps86
    go_wp2
    go_ret
    exact ⟨ret_bool HN.out.symm, (by repeat (first | exact Below.refl _ _ | exact (Below.refl _ _).alloc (Nat.le_refl _) _ | apply below_drewN))⟩
  have hl : n ≤ 140737488355328 := by have := ha.1; rwa [HL.out] at this
  subst hlen
  have h1 : ((n : Int) != (n : Int)) = false := by simp
  have HA := Lib.hid ha; have HB := Lib.hid hb
  clear ha hb
  go_enter Try.func86, Try.ntmps86
  go_wp2
  go_loopw [13] (fun i wr => ∃ k : Nat, i = .int .i64 k ∧ k ≤ n ∧ Hid (Below w.heap.size w wr) ∧ Hid (l.take k = r.take k)) (fun i _ => n - (intOf i).toNat)
  case atStart => exact ⟨0, rfl, by omega, Lib.hid (by repeat (first | exact Below.refl _ _ | exact (Below.refl _ _).alloc (Nat.le_refl _) _ | apply below_drewN)), Lib.hid (by simp)⟩
  case round =>
    obtain ⟨k, rfl, hk, HBE, HE⟩ := hrel
    by_cases hlt : k < n
    · obtain ⟨b1, o1, lo, hi, rfl, hb1, c0, c1, _, _, HX⟩ := AtSet.gt (HA.out.keep (Keep.of HBE.out)) HL hlt
      obtain ⟨b2, o2, lo', hi', rfl, hb2, d0, d1, _, _, HY⟩ := AtSet.gt (HB.out.keep (Keep.of HBE.out)) HM hlt
      have HNE := Lib.hid (show (⟨lo, hi⟩ : Rng) ≠ ⟨lo', hi'⟩ → decide (l = r) = false from fun h => decide_eq_false fun hh => h (by subst hh; exact Option.some.inj (HX.out.symm.trans HY.out)))
      have i1 : (0 : Int) ≤ (k : Int) := by omega
      have i2 : (k : Int) < (n : Int) := by omega
      have hc : (lo = lo' ∧ hi = hi') ∨ (lo = lo' ∧ hi ≠ hi') ∨ lo ≠ lo' := by omega
      rcases hc with ⟨e1, e2⟩ | ⟨e1, e2⟩ | e1
      · subst e1; subst e2
        go_wp2
        go_quiet (fail)
        go_wp2
        go_roundw
        case rel => exact ⟨k + 1, by go_num, by omega, Lib.hid (below_drewN HBE.out _), Lib.hid (by rw [take_snoc HX.out, take_snoc HY.out, HE.out])⟩
        case measure => simp [intOf]; omega
      · have HN := Lib.hid (HNE.out (fun h => e2 (by injection h)))
        subst e1
        have t2 : (hi == hi') = false := by simpa using e2
        clear e2
        go_wp2
        go_quiet (fail)
        go_wp2
        go_ret
        exact ⟨ret_bool HN.out.symm, below_drewN HBE.out _⟩
      · have HN := Lib.hid (HNE.out (fun h => e1 (by injection h)))
        have t1 : (lo == lo') = false := by simpa using e1
        clear e1
        go_wp2
        go_quiet (fail)
        go_wp2
        go_ret
        exact ⟨ret_bool HN.out.symm, below_drewN HBE.out _⟩
    · have : k = n := by omega
      subst this
      have HY := Lib.hid (show decide (l = r) = true from decide_eq_true (by have := HE.out; rwa [List.take_of_length_le (by rw [HL.out]; omega), List.take_of_length_le (by rw [HM.out]; omega)] at this))
      go_wp2
      go_ret
      exact ⟨ret_bool HY.out.symm, HBE.out⟩
end Go.Proofs.Ytjnjbcigbnjmkaa
