/- Walks: numbers written: whole.Write, the document's Write. -/
import Derived.Test.YtjbfkceficokbaaDoorJd
import Derived.Lib.AppendIntMem
namespace Pv
open Go Go.RowKit
theorem decDigits_len_le (u : Nat) (h : u ≤ 9223372036854775808) : (Lib.decDigits u).length ≤ 19 := by
  rw [Lib.decDigits_length]
  have hp := Lib.nDigits_unique
  by_cases hu : u = 0
  · subst hu; rw [Lib.nDigits_small (by omega)]; omega
  · rcases Nat.lt_or_ge 19 (Lib.nDigits u) with h1 | h1
    · obtain ⟨k, hk⟩ : ∃ k, Lib.nDigits u = k + 1 := ⟨Lib.nDigits u - 1, by omega⟩
      exfalso
      have key : ∀ (m u : Nat), u < 10 ^ (m + 1) → Lib.nDigits u ≤ m + 1 := by
        intro m
        induction m with
        | zero => intro u hu; rw [Lib.nDigits_small (by simpa using hu)]; omega
        | succ m ih =>
          intro u hu
          by_cases h10 : u < 10
          · rw [Lib.nDigits_small h10]; omega
          · rw [Lib.nDigits_big h10]
            have := ih (u / 10) (by rw [Nat.pow_succ] at hu; omega)
            omega
      have := key 18 u (Nat.lt_of_le_of_lt h (by decide))
      omega
    · exact h1
theorem itoa_len (n : Int) (h0 : -9223372036854775808 ≤ n) (h1 : n ≤ 9223372036854775807) : (Lib.itoa n).length ≤ 20 := by
  unfold Lib.itoa
  split
  · have := decDigits_len_le n.natAbs (by omega); simp; omega
  · have := decDigits_len_le n.toNat (by omega); omega
theorem itoa_nat (n : Nat) : Lib.itoa (n : Int) = Lib.decDigits n := by unfold Lib.itoa; rw [if_neg (by omega)]; simp
theorem itoa_neg (n : Nat) (h : 0 < n) : Lib.itoa (-(n : Int)) = 45 :: Lib.decDigits n := by unfold Lib.itoa; rw [if_pos (by omega)]; simp
theorem decDigits_split (n : Nat) (h : 10 ≤ n) : Lib.decDigits n = Lib.decDigits (n / 10) ++ Lib.decDigits (n % 10) := by
  rw [Lib.decDigits_one (i := n % 10) (by omega)]
  conv => lhs; rw [Lib.decDigits]
  rw [dif_neg (by omega)]
theorem digit_ext (k : Nat) (h : k < 10) : ({ data := #[48, 49, 50, 51, 52, 53, 54, 55, 56, 57] } : ByteArray).extract k (k + 1) = mkS (Lib.decDigits k) := by
  rw [Lib.decDigits_one h]
  rcases (show k = 0 ∨ k = 1 ∨ k = 2 ∨ k = 3 ∨ k = 4 ∨ k = 5 ∨ k = 6 ∨ k = 7 ∨ k = 8 ∨ k = 9 by omega) with rfl | rfl | rfl | rfl | rfl | rfl | rfl | rfl | rfl | rfl <;> decide
end Pv
namespace Go.Proofs.YtjbfkceficokbaaDoor
open Go.RowKit Pv

set_option maxHeartbeats 400000 in
set_option maxRecDepth 100000 in
theorem whole_Write (n : Int) (w : World) (B : Nat) (h0 : -9223372036854775808 ≤ n) (h1 : n ≤ 9223372036854775807) (hT : TabsB B w) :
    Calls Tryd.prog 19 #[.int .i64 n] w fun e w' => e = .returned (.string (mkS (Lib.itoa n))) ∧ Below w.heap.size w w' := by
  have HF := Lib.hid ((Tryd.strconv_FormatInt_10 n h0 h1 w hT.tab).mono (R' := fun e w' => e = .returned (.string (mkS (Lib.itoa n))) ∧ Below w.heap.size w w') fun e w' ⟨he, k, os, hw⟩ => ⟨he, by rw [hw]; exact Lib.below_grow _ _ (Nat.le_refl _) k os⟩)
  clear hT
  go_enter Tryd.func19, Tryd.ntmps19
  go_wp2_with fail
  refine HF.out.mono ?_
  rintro e w1 ⟨rfl, hb⟩
  go_wp2
  go_ret
  exact ⟨rfl, hb⟩

set_option maxHeartbeats 400000 in
set_option maxRecDepth 100000 in
theorem ref02_small (n : Nat) (w : World) (h : n < 10) :
    Calls Tryd.prog 25 #[.int .i64 n] w fun e w' => e = .returned (.string (mkS (Lib.decDigits n))) ∧ w = w' := by
  have hsl : ∀ W : World, (Instr.slice 9 (.string { data := #[48, 49, 50, 51, 52, 53, 54, 55, 56, 57] }) (some (.int .i64 (n : Int))) (some (.int .i64 ((n : Int) + 1))) none).run Tryd.prog W = .ok (.string (mkS (Lib.decDigits n))) W := fun W => by
    rw [run_slice_string W 9 _ .i64 .i64 (n : Int) ((n : Int) + 1) Tryd.underlying9 (by omega) (by omega) (by show (n : Int) + 1 ≤ 10; omega)]
    rw [← digit_ext n h, show ((n : Int) + 1).toNat = n + 1 by omega, show ((n : Int)).toNat = n by omega]
  generalize mkS (Lib.decDigits n) = r at *
  have i1 : (0 : Int) ≤ (n : Int) := by omega
  have i2 : (n : Int) < 10 := by omega
  clear h
  go_enter Tryd.func25, Tryd.ntmps25
  go_wp2
  go_ret
  exact ⟨rfl, rfl⟩

set_option maxHeartbeats 400000 in
set_option maxRecDepth 100000 in
theorem ref02_Write (k : Nat) : ∀ (n : Int) (w : World), n.natAbs ≤ k → -9223372036854775808 ≤ n → n ≤ 9223372036854775807 →
    Calls Tryd.prog 25 #[.int .i64 n] w fun e w' => e = .returned (.string (mkS (Lib.itoa n))) ∧ w = w' := by
  induction k with
  | zero =>
    intro n w hk _ _
    obtain rfl : n = ((0 : Nat) : Int) := by omega
    rw [itoa_nat]
    exact ref02_small 0 w (by omega)
  | succ k ih =>
    intro n w hk h0 h1
    by_cases hs : 0 ≤ n ∧ n < 10
    · obtain ⟨m, rfl⟩ : ∃ m : Nat, n = m := ⟨n.toNat, by omega⟩
      rw [itoa_nat]
      exact ref02_small m w (by omega)
    by_cases hm : -10 < n ∧ n < 0
    · obtain ⟨m, rfl⟩ : ∃ m : Nat, n = -(m : Int) := ⟨n.natAbs, by omega⟩
      have HS := Lib.hid (fun W : World => ref02_small m W (by omega))
      rw [itoa_neg m (by omega)]
      have HA := Lib.hid (show ({ data := #[45] } : ByteArray) ++ mkS (Lib.decDigits m) = mkS (45 :: Lib.decDigits m) from by rw [show (45 : UInt8) :: Lib.decDigits m = [45] ++ Lib.decDigits m from rfl, mkS_app]; rfl)
      have hl := decDigits_len_le m (by omega)
      rw [← mkS_size] at hl
      generalize mkS (45 :: Lib.decDigits m) = r at *
      generalize mkS (Lib.decDigits m) = q at *
      obtain ⟨hm1, hm2⟩ := hm
      clear hs ih hk h0 h1
      go_enter Tryd.func25, Tryd.ntmps25
      go_wp2_with fail
      refine (HS.out _).mono ?_
      rintro e w1 ⟨rfl, rfl⟩
      go_wp2
      go_ret
      exact ⟨ret_s HA.out, rfl⟩
    · obtain ⟨m, hmn⟩ : ∃ m : Nat, n.natAbs = m := ⟨_, rfl⟩
      have hm10 : 10 ≤ m := by omega
      have hd : (Int.tmod n 10) = (if n < 0 then -((m % 10 : Nat) : Int) else ((m % 10 : Nat) : Int)) := by
        split
        · obtain rfl : n = -(m : Int) := by omega
          rw [Int.neg_tmod, Int.tmod_eq_emod_of_nonneg (by omega)]; omega
        · obtain rfl : n = (m : Int) := by omega
          rw [Int.tmod_eq_emod_of_nonneg (by omega)]; omega
      have hq : (Int.tdiv n 10) = (if n < 0 then -((m / 10 : Nat) : Int) else ((m / 10 : Nat) : Int)) := by
        split
        · obtain rfl : n = -(m : Int) := by omega
          rw [Int.neg_tdiv, Int.tdiv_eq_ediv_of_nonneg (by omega)]; omega
        · obtain rfl : n = (m : Int) := by omega
          rw [Int.tdiv_eq_ediv_of_nonneg (by omega)]; omega
      have HW1 := ih (if n < 0 then -((m / 10 : Nat) : Int) else ((m / 10 : Nat) : Int))
      have HS := Lib.hid (fun W : World => ref02_small (m % 10) W (by omega))
      have hl := decDigits_len_le (m % 10) (by omega)
      rw [← mkS_size] at hl
      have hspl := decDigits_split m hm10
      by_cases hneg : n < 0
      · rw [if_pos hneg] at hd hq HW1
        have HW := Lib.hid (fun W : World => HW1 W (by omega) (by omega) (by omega))
        have hl2 := itoa_len (-((m / 10 : Nat) : Int)) (by omega) (by omega)
        rw [← mkS_size] at hl2
        have hit : Lib.itoa n = 45 :: Lib.decDigits m := by rw [show n = -(m : Int) by omega, itoa_neg m (by omega)]
        rw [hit]
        have HA := Lib.hid (show mkS (Lib.itoa (-((m / 10 : Nat) : Int))) ++ mkS (Lib.decDigits (m % 10)) = mkS (45 :: Lib.decDigits m) from by rw [← mkS_app, itoa_neg _ (by omega), hspl]; rfl)
        have g1 : (0 : Int) ≤ ((m % 10 : Nat) : Int) := by omega
        have g2 : ((m % 10 : Nat) : Int) < 10 := by omega
        have g3 : n ≤ -10 := by omega
        have g4 : (0 : Int) ≤ ((m / 10 : Nat) : Int) := by omega
        have g5 : ((m / 10 : Nat) : Int) ≤ 922337203685477580 := by omega
        clear ih hs hm hm10 hmn hspl hit HW1 hk
        generalize mkS (45 :: Lib.decDigits m) = r at *
        generalize mkS (Lib.decDigits (m % 10)) = q1 at *
        generalize mkS (Lib.itoa (-((m / 10 : Nat) : Int))) = q2 at *
        generalize ((m % 10 : Nat) : Int) = d at *
        generalize ((m / 10 : Nat) : Int) = u at *
        by_cases hd0 : d = 0
        case' neg => have hd1 : 0 < d := by omega
        case' pos => subst hd0
        all_goals
          go_enter Tryd.func25, Tryd.ntmps25
          go_wp2_with fail
          refine (HW.out _).mono ?_
          rintro e w1 ⟨rfl, rfl⟩
          go_wp2_with fail
          refine (HS.out _).mono ?_
          rintro e w1 ⟨rfl, rfl⟩
          go_wp2
          go_ret
          exact ⟨ret_s HA.out, rfl⟩
      · rw [if_neg hneg] at hd hq HW1
        have HW := Lib.hid (fun W : World => HW1 W (by omega) (by omega) (by omega))
        have hl2 := itoa_len ((m / 10 : Nat) : Int) (by omega) (by omega)
        rw [← mkS_size] at hl2
        have hit : Lib.itoa n = Lib.decDigits m := by rw [show n = (m : Int) by omega, itoa_nat m]
        rw [hit]
        have HA := Lib.hid (show mkS (Lib.itoa ((m / 10 : Nat) : Int)) ++ mkS (Lib.decDigits (m % 10)) = mkS (Lib.decDigits m) from by rw [← mkS_app, itoa_nat, hspl])
        have g1 : (0 : Int) ≤ ((m % 10 : Nat) : Int) := by omega
        have g2 : ((m % 10 : Nat) : Int) < 10 := by omega
        have g3 : 10 ≤ n := by omega
        have g4 : (0 : Int) ≤ ((m / 10 : Nat) : Int) := by omega
        have g5 : ((m / 10 : Nat) : Int) ≤ 922337203685477580 := by omega
        have hd' : n % 10 = ((m % 10 : Nat) : Int) := by omega
        have hq' : n / 10 = ((m / 10 : Nat) : Int) := by omega
        clear ih hs hm hm10 hmn hspl hit HW1 hk
        generalize mkS (Lib.decDigits m) = r at *
        generalize mkS (Lib.decDigits (m % 10)) = q1 at *
        generalize mkS (Lib.itoa ((m / 10 : Nat) : Int)) = q2 at *
        generalize ((m % 10 : Nat) : Int) = d at *
        generalize ((m / 10 : Nat) : Int) = u at *
        go_enter Tryd.func25, Tryd.ntmps25
        go_wp2_with fail
        refine (HW.out _).mono ?_
        rintro e w1 ⟨rfl, rfl⟩
        go_wp2_with fail
        refine (HS.out _).mono ?_
        rintro e w1 ⟨rfl, rfl⟩
        go_wp2
        go_ret
        exact ⟨ret_s HA.out, rfl⟩
end Go.Proofs.YtjbfkceficokbaaDoor
