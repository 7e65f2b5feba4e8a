/- Walks: helpers of the program: lists compared, cloned, sought through; places as bytes; a step. -/
import Derived.Test.YtjnjbcigbnjmkaaTk
import Derived.Laws.BytesArg
namespace Pv
open Go Go.RowKit

/-- Places as numbers. -/
noncomputable def bitN (n : Nat) (S : Nat → Prop) : List Int := (List.range (n + 1)).map fun i => if yes (S i) = true then 1 else 0
theorem bitN_len (n : Nat) (S : Nat → Prop) : (bitN n S).length = n + 1 := by simp [bitN]
theorem bitN_getD {n i : Nat} {S : Nat → Prop} (h : i ≤ n) : (bitN n S).getD i 0 = if yes (S i) = true then 1 else 0 := by
  simp only [bitN, List.getD, List.getElem?_map, List.getElem?_range (show i < n + 1 by omega), Option.map_some, Option.getD_some]
theorem bits_inj {n : Nat} {S S' : Nat → Prop} (h : strOfNums (bitN n S) = strOfNums (bitN n S')) : lst n S = lst n S' := by
  refine lst_ext fun i hi => ?_
  have h1 : (strOfNums (bitN n S)).data.toList[i]? = (strOfNums (bitN n S')).data.toList[i]? := by rw [h]
  simp only [strOfNums_data, bitN, List.getElem?_map, List.getElem?_range (show i < n + 1 by omega), Option.map_some, Option.some.injEq] at h1
  by_cases a : S i <;> by_cases b : S' i
  · exact ⟨fun _ => b, fun _ => a⟩
  · rw [yes_t a, yes_f b] at h1; simp at h1
  · rw [yes_f a, yes_t b] at h1; simp at h1
  · exact ⟨fun h => absurd h a, fun h => absurd h b⟩
end Pv
namespace Go.Proofs.Ytjnjbcigbnjmkaa
open Go.RowKit Pv

set_option maxHeartbeats 400000 in
theorem equal_bool (A B : Option Addr) (c d n : Nat) (l r : List Bool) (w : World) (ha : At w A RB l) (hb : At w B RB r) (HL : Hid (l.length = n)) (HM : Hid (r.length = n)) :
    Calls Try.prog 58 #[.slice A n c, .slice B n d] w fun e w' => e = .returned (.bool (decide (l = r))) ∧ ∃ n, w' = w.drewN n := by
  have hl : n ≤ 140737488355328 := by have := ha.1; rwa [HL.out] at this
  have h1 : ((n : Int) != (n : Int)) = false := by simp
  go_enter Try.func58, Try.ntmps58
  go_wp2
  go_loopw [13] (fun i wr => ∃ k q : Nat, i = .int .i64 k ∧ wr = w.drewN q ∧ k ≤ n ∧ l.take k = r.take k) (fun i _ => n - (intOf i).toNat)
  case atStart => exact ⟨0, 0, rfl, rfl, by omega, by simp⟩
  case round =>
    obtain ⟨k, q, rfl, rfl, hk, heq⟩ := hrel
    have HE := Lib.hid heq; clear heq
    by_cases hlt : k < n
    · obtain ⟨b, off, u, x, rfl, hbs, hx, hu, HX⟩ := ha.gt HL hlt
      obtain ⟨b', off', u', y, rfl, hbs', hy, hu', HY⟩ := hb.gt HM hlt
      obtain rfl : u = .bool x := hu
      obtain rfl : u' = .bool y := hu'
      clear ha hb
      have HXY := Lib.hid (show x ≠ y → decide (l = r) = false from fun h => decide_eq_false fun hh => h (by subst hh; exact Option.some.inj (HX.out.symm.trans HY.out)))
      have HSE := Lib.hid (show x = y → l.take (k + 1) = r.take (k + 1) from fun h => by rw [take_snoc HX.out, take_snoc HY.out, HE.out, h])
      cases x <;> cases y
      case false.false =>
        have HS := Lib.hid (HSE.out rfl)
        go_wp2
        go_quiet (fail)
        go_wp2
        go_roundw
        case rel => exact ⟨k + 1, _, by go_num, rfl, by omega, HS.out⟩
        case measure => simp [intOf]; omega
      case true.true =>
        have HS := Lib.hid (HSE.out rfl)
        go_wp2
        go_quiet (fail)
        go_wp2
        go_roundw
        case rel => exact ⟨k + 1, _, by go_num, rfl, by omega, HS.out⟩
        case measure => simp [intOf]; omega
      case false.true =>
        have HN := Lib.hid (HXY.out (by simp))
        go_wp2
        go_quiet (fail)
        go_wp2
        go_ret
        exact ⟨ret_bool HN.out.symm, _, World.drewN_drewN _ _ _⟩
      case true.false =>
        have HN := Lib.hid (HXY.out (by simp))
        go_wp2
        go_quiet (fail)
        go_wp2
        go_ret
        exact ⟨ret_bool HN.out.symm, _, World.drewN_drewN _ _ _⟩
    · have : k = n := by omega
      subst this
      have HY := Lib.hid (show true = decide (l = r) from (decide_eq_true (by have := HE.out; rwa [List.take_of_length_le (by rw [HL.out]; omega), List.take_of_length_le (by rw [HM.out]; omega)] at this)).symm)
      go_wp2
      go_ret
      exact ⟨ret_bool HY.out, q, rfl⟩

set_option maxHeartbeats 1000000 in
set_option maxRecDepth 100000 in
theorem clone_bool (g o c n : Nat) (S : Nat → Prop) (w : World) (hn : n ≤ 1000) (h : At w (some ⟨g, o, none⟩) RB (lst n S)) :
    Calls Try.prog 157 #[.slice (some ⟨g, o, none⟩) (n + 1) c] w fun e w' => ∃ b c', e = .returned (.slice (some ⟨b, 0, none⟩) (n + 1) c') ∧ w.heap.size ≤ b ∧ BRow w' 4 b n S ∧ Below w.heap.size w w' := by
  have hnil := fun (W : World) (a : Option Addr) (n c : Nat) => Lib.run_eql_slice_nil (P := Try.prog) W 24 4 a n c 0 0 Try.underlying24
  obtain ⟨i0, hi0, hz0, hs0, hb0⟩ := info_parts info_bool
  obtain ⟨us, hr, src⟩ := h.src (fun u x (hux : RB u x) => by rw [show u = .bool x from hux]; rfl)
  rw [lst_len] at src
  have hba : Below w.heap.size w (w.alloc (.cells #[] 4)) := (Below.refl _ _).alloc (Nat.le_refl _) _
  have S1 := Lib.hid (src.keep (Keep.of hba)); have R1 := Lib.hid hr
  have OW : Hid ((w.alloc (.cells #[] 4)).ownsRow w.heap.size 4 1 (.slice (some ⟨w.heap.size, 0, none⟩) 0 0) 0 []) := Lib.hid ⟨by simp, .inr ⟨w.heap.size, 0, #[], rfl, Nat.le_refl _, by show (w.heap.push _)[w.heap.size]? = _; simp, Nat.le_refl _, by simp only [maxLen]; omega, by simp, by simp⟩⟩
  have HB := Lib.hid hba
  have Q1 : Hid (0 + (n + 1) ≤ maxLen) := Lib.hid (by simp only [maxLen]; omega)
  have Q2 : Hid ((0 + (n + 1)) * 1 ≤ 140737488355328) := Lib.hid (by omega)
  clear src hr h hba
  go_enter Try.func157, Try.ntmps157
  go_wp2_with (at_builtin
               go_must (refine wpList_append_src _ rfl (.tmp 5) (.tmp 6) 24 rfl w.heap.size 4 i0 (.bool false) 1 1 Try.underlying24 hi0 hz0 hs0 hb0 rfl (by decide) (some ⟨w.heap.size, 0, none⟩) 0 0 [] rfl OW.out (some ⟨g, o, none⟩) (n + 1) c us rfl S1.out Q1.out Q2.out HB.out.size ?_)
               intro A1 c1 w1 own1 gr1 _
               simp only [List.nil_append, Nat.zero_add] at own1
               have G1 := Lib.hid (HB.out.grown gr1 HB.out.size (fun g hg => (OW.out.lt g hg).1)); have O1 := Lib.hid own1
               clear own1 gr1)
  go_ret
  rcases O1.out.2 with ⟨hv, h0⟩ | ⟨q, cap, cur, hv, hq, hh, hnc, hcm, hcs, htk⟩
  · omega
  · injection hv with e1 e2 e3
    subst e1
    refine ⟨q, c1, by simp, hq, ⟨cur, hh, by omega, fun i hi => ?_⟩, G1.out⟩
    have hu : us[i]? = some (us[i]'(by have := R1.out.1; rw [lst_len] at this; omega)) := List.getElem?_eq_getElem _
    have hR := R1.out.2 i _ _ hu (lst_get hi)
    have h2 : (cur.toList.take ((n + 1) * 1))[i]? = us[i]? := by rw [htk]
    rw [List.getElem?_take, if_pos (by omega), hu] at h2
    rw [← Array.getElem?_toList, h2]
    exact congrArg some hR

set_option maxHeartbeats 1000000 in
set_option maxRecDepth 100000 in
theorem contains_int (A : Option Addr) (c n : Nat) (l : List Int) (p : Int) (w : World) (h : At w A RI l) (HL : Hid (l.length = n)) :
    Calls Try.prog 68 #[.slice A n c, .int .i64 p] w fun e w' => e = .returned (.bool (decide (p ∈ l))) ∧ w' = w := by
  have hl : n ≤ 140737488355328 := by have := h.1; rwa [HL.out] at this
  have hIX : Calls Try.prog 113 #[.slice A n c, .int .i64 p] w fun e w' => (∃ r : Int, e = .returned (.int .i64 r) ∧ (0 ≤ r ↔ p ∈ l)) ∧ w' = w := by
    go_enter Try.func113, Try.ntmps113
    go_wp2
    go_loop [8] (fun i => ∃ k : Nat, i = .int .i64 k ∧ k ≤ n ∧ p ∉ l.take k) (fun i => n - (intOf i).toNat)
    case atStart => exact ⟨0, rfl, by omega, by simp⟩
    case round =>
      obtain ⟨k, rfl, hk, hno⟩ := hrel
      have HNO := Lib.hid hno
      clear hno
      by_cases hlt : k < n
      · obtain ⟨b, off, u, x, rfl, hbs, hx, ⟨rfl, _, _⟩, HX⟩ := h.gt HL hlt
        by_cases hpx : p = x
        · have HM := Lib.hid (show p ∈ l by rw [hpx]; exact mem_of_get HX.out)
          subst hpx
          go_wp2
          go_ret
          exact ⟨⟨_, rfl, fun _ => HM.out, fun _ => by omega⟩, rfl⟩
        · have HS := Lib.hid (show p ∉ l.take (k + 1) by
            rw [take_snoc HX.out]
            simp only [List.mem_append, List.mem_singleton, not_or]
            exact ⟨HNO.out, hpx⟩)
          go_wp2
          go_round
          case rel => exact ⟨k + 1, by go_num, by omega, HS.out⟩
          case measure => simp [intOf]; omega
      · have HN := Lib.hid (show p ∉ l by have := HNO.out; rwa [List.take_of_length_le (by rw [HL.out]; omega)] at this)
        go_wp2
        go_ret
        exact ⟨⟨-1, rfl, fun h => by omega, fun h => absurd h HN.out⟩, rfl⟩
  have HIX := Lib.hid hIX
  obtain ⟨ans, hans⟩ : ∃ ans, decide (p ∈ l) = ans := ⟨_, rfl⟩
  rw [hans]
  have HA := Lib.hid hans
  clear hIX h hans
  go_enter Try.func68, Try.ntmps68
  go_wp2_with fail
  refine HIX.out.mono ?_
  rintro e w2 ⟨⟨r, rfl, hr⟩, rfl⟩
  have HR := Lib.hid (show decide (0 ≤ r) = ans by
    rw [← HA.out]
    by_cases h0 : p ∈ l
    · rw [decide_eq_true h0]; exact decide_eq_true (hr.2 h0)
    · rw [decide_eq_false h0]; exact decide_eq_false (fun h1 => h0 (hr.1 h1)))
  clear hr
  go_wp2
  go_ret
  exact ⟨ret_bool HR.out, rfl⟩

end Go.Proofs.Ytjnjbcigbnjmkaa
