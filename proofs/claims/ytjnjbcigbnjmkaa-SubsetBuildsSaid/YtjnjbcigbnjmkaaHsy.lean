/- Walks: whether a set has a number, by the document and by the program. -/
import Derived.Test.YtjnjbcigbnjmkaaTay
import Derived.Test.YtjnjbcigbnjmkaaW0y
namespace Go.Proofs.Ytjnjbcigbnjmkaa
open Go.RowKit Pv

set_option maxHeartbeats 1000000 in
set_option maxRecDepth 100000 in
theorem ref06_Has (A : Option Addr) (c n : Nat) (l : List Rng) (p : Int) (w : World) (h : AtSet w A l) (HL : Hid (l.length = n)) :
    Calls Try.prog 120 #[.slice A n c, .int .i64 p] w fun e w' => e = .returned (.bool (yes (InSet l p))) ∧ w' = w := by
  have hl : n ≤ 140737488355328 := by have := h.1; rwa [HL.out] at this
  obtain ⟨ans, hans⟩ : ∃ ans, yes (InSet l p) = ans := ⟨_, rfl⟩
  rw [hans]
  have HANS := Lib.hid hans
  clear hans
  go_enter Try.func120, Try.ntmps120
  go_wp2
  go_loop [5] (fun i => ∃ k : Nat, i = .int .i64 k ∧ k ≤ n ∧ (∀ (i : Nat) x, i < k → l[i]? = some x → ¬ (x.lo ≤ p ∧ p ≤ x.hi))) (fun i => n - (intOf i).toNat)
  case atStart => exact ⟨0, rfl, by omega, by intros; omega⟩
  case round =>
    obtain ⟨k, rfl, hk, hno⟩ := hrel
    have HNO := Lib.hid hno
    clear hno
    by_cases hlt : k < n
    · obtain ⟨b, off, lo, hi, rfl, hbl, x0, x1, _, _, HX⟩ := h.gt HL hlt
      have HSN := Lib.hid (fun (hh : ¬ (lo ≤ p ∧ p ≤ hi)) (i : Nat) (x : Rng) (hi' : i < k + 1) (hx : l[i]? = some x) => (show ¬ (x.lo ≤ p ∧ p ≤ x.hi) from by
        by_cases e : i = k
        · subst e
          obtain rfl := Option.some.inj (hx.symm.trans HX.out)
          exact hh
        · exact HNO.out i x (by omega) hx))
      by_cases h1 : lo ≤ p
      · by_cases h2 : p ≤ hi
        · have HY := Lib.hid (show true = ans by rw [← HANS.out]; exact (yes_t ⟨k, _, HX.out, h1, h2⟩).symm)
          go_wp2
          go_ret
          exact ⟨ret_bool HY.out, rfl⟩
        · have HS := Lib.hid (HSN.out (fun hh => h2 hh.2))
          go_wp2
          go_round
          case rel => exact ⟨k + 1, by go_num, by omega, HS.out⟩
          case measure => simp [intOf]; omega
      · have HS := Lib.hid (HSN.out (fun hh => h1 hh.1))
        go_wp2
        go_round
        case rel => exact ⟨k + 1, by go_num, by omega, HS.out⟩
        case measure => simp [intOf]; omega
    · have hkn : k = n := by omega
      have HY := Lib.hid (show false = ans by
        rw [← HANS.out]
        refine (yes_f ?_).symm
        rintro ⟨i, x, h1, h2⟩
        exact HNO.out i x (by have := lt_of_get h1; rw [HL.out] at this; omega) h1 h2)
      clear hkn
      go_wp2
      go_ret
      exact ⟨ret_bool HY.out, rfl⟩

set_option maxHeartbeats 1000000 in
set_option maxRecDepth 100000 in
theorem ranges_Has1 (lo hi p : Int) (b : Nat) (w : World) (hb : b < w.heap.size) (hc : w.cell? ⟨b, 0, none⟩ = some (.int .i64 p)) :
    Calls Try.prog 162 #[.agg #[.int .i64 lo, .int .i64 hi], .pointer (some ⟨b, 0, none⟩)] w fun e w' => e = .returned (.bool (decide (lo ≤ p) && decide (p ≤ hi))) ∧ Below w.heap.size w w' := by
  have hW : Below w.heap.size w (w.alloc (.cells #[.int .i64 lo, .int .i64 hi] 61)) := (Below.refl _ _).alloc (Nat.le_refl _) _
  have HW := Lib.hid hW
  have hc' := ((Keep.of hW).cell b 0 hb).trans hc
  clear hW
  by_cases h1 : lo ≤ p
  · by_cases h2 : p ≤ hi
    · have HA := Lib.hid (show true = (decide (lo ≤ p) && decide (p ≤ hi)) by simp [h1, h2])
      generalize (decide (lo ≤ p) && decide (p ≤ hi)) = ans at *
      go_enter Try.func162, Try.ntmps162
      go_wp2
      go_ret
      exact ⟨ret_bool HA.out, HW.out⟩
    · have HA := Lib.hid (show false = (decide (lo ≤ p) && decide (p ≤ hi)) by simp [h2])
      generalize (decide (lo ≤ p) && decide (p ≤ hi)) = ans at *
      go_enter Try.func162, Try.ntmps162
      go_wp2
      go_ret
      exact ⟨ret_bool HA.out, HW.out⟩
  · have HA := Lib.hid (show false = (decide (lo ≤ p) && decide (p ≤ hi)) by simp [h1])
    generalize (decide (lo ≤ p) && decide (p ≤ hi)) = ans at *
    go_enter Try.func162, Try.ntmps162
    go_wp2
    go_ret
    exact ⟨ret_bool HA.out, HW.out⟩

set_option maxHeartbeats 1000000 in
set_option maxRecDepth 100000 in
theorem index_rng (A : Option Addr) (c n b : Nat) (l : List Rng) (p : Int) (w : World) (h : AtSet w A l) (HL : Hid (l.length = n)) (hb : b < w.heap.size) (hc : w.cell? ⟨b, 0, none⟩ = some (.int .i64 p)) :
    Calls Try.prog 183 #[.slice A n c, .func (.func 162) #[] #[.pointer (some ⟨b, 0, none⟩)]] w fun e w' => (∃ r : Int, e = .returned (.int .i64 r) ∧ (0 ≤ r ↔ InSet l p)) ∧ Below w.heap.size w w' := by
  have hl : n ≤ 140737488355328 := by have := h.1; rwa [HL.out] at this
  have HH := Lib.hid h
  clear h
  go_enter Try.func183, Try.ntmps183
  go_wp2
  go_loopw [8] (fun i wr => ∃ k : Nat, i = .int .i64 k ∧ k ≤ n ∧ (∀ (i : Nat) x, i < k → l[i]? = some x → ¬ (x.lo ≤ p ∧ p ≤ x.hi)) ∧ Below w.heap.size w wr) (fun i _ => n - (intOf i).toNat)
  case atStart => exact ⟨0, rfl, by omega, by intros; omega, Below.refl _ _⟩
  case round =>
    obtain ⟨k, rfl, hk, hno, hbel⟩ := hrel
    have HNO := Lib.hid hno; have HB := Lib.hid hbel
    clear hno hbel
    by_cases hlt : k < n
    · obtain ⟨bb, off, lo, hi, rfl, hbl, x0, x1, _, _, HX⟩ := AtSet.gt (AtK.keep HH.out (Keep.of HB.out)) HL hlt
      have HC := Lib.hid (ranges_Has1 lo hi p b wr (Nat.lt_of_lt_of_le hb HB.out.size) (((Keep.of HB.out).cell b 0 hb).trans hc))
      by_cases hh : lo ≤ p ∧ p ≤ hi
      · rw [show (decide (lo ≤ p) && decide (p ≤ hi)) = true by simp [hh]] at HC
        have HY := Lib.hid (show InSet l p from ⟨k, _, HX.out, hh.1, hh.2⟩)
        clear hh
        go_wp2_with fail
        refine HC.out.mono ?_
        rintro e w2 ⟨rfl, hb2⟩
        have B2 := Lib.hid (HB.out.trans (hb2.mono HB.out.size))
        clear hb2
        go_wp2
        go_ret
        exact ⟨⟨_, rfl, fun _ => HY.out, fun _ => by omega⟩, B2.out⟩
      · rw [show (decide (lo ≤ p) && decide (p ≤ hi)) = false by simp; intro h1; have := fun h2 => hh ⟨h1, h2⟩; omega] at HC
        have HS := Lib.hid (fun (i : Nat) (x : Rng) (hi' : i < k + 1) (hx : l[i]? = some x) => (show ¬ (x.lo ≤ p ∧ p ≤ x.hi) from by
          by_cases e : i = k
          · subst e
            obtain rfl := Option.some.inj (hx.symm.trans HX.out)
            exact hh
          · exact HNO.out i x (by omega) hx))
        clear hh
        go_wp2_with fail
        refine HC.out.mono ?_
        rintro e w2 ⟨rfl, hb2⟩
        have B2 := Lib.hid (HB.out.trans (hb2.mono HB.out.size))
        clear hb2
        go_wp2
        go_roundw
        case rel => exact ⟨k + 1, by go_num, by omega, HS.out, B2.out⟩
        case measure => simp [intOf]; omega
    · have HN := Lib.hid (show ¬ InSet l p from by
        rintro ⟨i, x, h1, h2⟩
        exact HNO.out i x (by have := lt_of_get h1; rw [HL.out] at this; omega) h1 h2)
      go_wp2
      go_ret
      exact ⟨⟨-1, rfl, fun h => by omega, fun h => absurd h HN.out⟩, HB.out⟩

set_option maxHeartbeats 1000000 in
set_option maxRecDepth 100000 in
theorem ranges_Has (A : Option Addr) (c n : Nat) (l : List Rng) (p : Int) (w : World) (h : AtSet w A l) (HL : Hid (l.length = n)) :
    Calls Try.prog 130 #[.slice A n c, .int .i64 p] w fun e w' => e = .returned (.bool (yes (InSet l p))) ∧ Below w.heap.size w w' := by
  have hW : Below w.heap.size w (w.alloc (.cells #[.int .i64 p] 3)) := (Below.refl _ _).alloc (Nat.le_refl _) _
  have HI := Lib.hid (index_rng A c n w.heap.size l p _ (AtK.keep h (Keep.of hW)) HL (by simp) ((Blk.new w 3 #[.int .i64 p]).cell 0))
  have HW := Lib.hid hW
  have hCF : ∀ r : Int, Calls Try.prog 161 #[.slice A n c, .func (.func 162) #[] #[.pointer (some ⟨w.heap.size, 0, none⟩)]] (w.alloc (.cells #[.int .i64 p] 3)) fun e w' => e = .returned (.bool (yes (InSet l p))) ∧ Below (w.alloc (.cells #[.int .i64 p] 3)).heap.size (w.alloc (.cells #[.int .i64 p] 3)) w' := by
    intro _
    clear hW h
    generalize w.alloc (.cells #[.int .i64 p] 3) = w0 at *
    go_enter Try.func161, Try.ntmps161
    go_wp2_with fail
    refine HI.out.mono ?_
    rintro e w2 ⟨⟨r, rfl, hr⟩, hb2⟩
    have HR := Lib.hid (show decide (0 ≤ r) = yes (InSet l p) by
      by_cases h0 : InSet l p
      · rw [yes_t h0]; exact decide_eq_true (hr.2 h0)
      · rw [yes_f h0]; exact decide_eq_false (fun h1 => h0 (hr.1 h1)))
    have B2 := Lib.hid hb2
    clear hr hb2
    go_wp2
    go_ret
    exact ⟨ret_bool HR.out, B2.out⟩
  have HCF := Lib.hid (hCF 0)
  clear hCF h hW HI
  go_enter Try.func130, Try.ntmps130
  go_wp2_with fail
  refine HCF.out.mono ?_
  rintro e w2 ⟨rfl, hb2⟩
  have B2 := Lib.hid (HW.out.trans (hb2.mono HW.out.size))
  clear hb2
  go_wp2
  go_ret
  exact ⟨rfl, B2.out⟩

end Go.Proofs.Ytjnjbcigbnjmkaa
