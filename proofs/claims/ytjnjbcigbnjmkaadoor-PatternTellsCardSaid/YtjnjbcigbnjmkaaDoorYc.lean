/- Walks: a number's text, by the document. PUT1 -/
import Derived.Test.YtjnjbcigbnjmkaaDoorYb
namespace Pv
open Go Go.RowKit
def markB : ByteArray := ⟨#[46, 91, 93, 40, 41, 42, 43, 63, 123, 125, 124, 92, 45, 94]⟩
theorem markB_at : ∀ d : Nat, ∀ h : d < markB.size, markB[d]'h = marksL.getD d 0
  | 0, _ | 1, _ | 2, _ | 3, _ | 4, _ | 5, _ | 6, _ | 7, _ | 8, _ | 9, _ | 10, _ | 11, _ | 12, _ | 13, _ => rfl
  | n + 14, h => by have h1 : markB.size = 14 := rfl; omega
theorem isMark_iff (n : Nat) : isMark n = true ↔ ∃ k, k < 14 ∧ (marksL.getD k 0).toNat = n := by
  unfold isMark
  rw [List.any_eq_true]
  constructor
  · rintro ⟨b, hb, he⟩
    obtain ⟨k, hk⟩ := List.getElem?_of_mem hb
    exact ⟨k, lt_of_get hk, by rw [List.getD_eq_getElem?_getD, hk]; simpa using he⟩
  · rintro ⟨k, hk, he⟩
    refine ⟨marksL.getD k 0, ?_, by simpa using he⟩
    rw [List.getD_eq_getElem?_getD, List.getElem?_eq_getElem (show k < marksL.length from hk)]
    exact List.getElem_mem _
theorem hex_cut1 : ∀ d : Nat, d < 16 → (⟨#[48, 49, 50, 51, 52, 53, 54, 55, 56, 57, 97, 98, 99, 100, 101, 102]⟩ : ByteArray).extract d (d + 1) = mkS [hexD d]
  | 0, _ | 1, _ | 2, _ | 3, _ | 4, _ | 5, _ | 6, _ | 7, _ | 8, _ | 9, _ | 10, _ | 11, _ | 12, _ | 13, _ | 14, _ | 15, _ => by decide
  | n + 16, h => by omega
theorem hex_cut {y : Int} {m : Nat} (h : y = (m : Int)) : (⟨#[48, 49, 50, 51, 52, 53, 54, 55, 56, 57, 97, 98, 99, 100, 101, 102]⟩ : ByteArray).extract (y % 16).toNat (y % 16 + 1).toNat = mkS [hexD (m % 16)] := by
  have e1 : (y % 16).toNat = m % 16 := by omega
  have e2 : (y % 16 + 1).toNat = m % 16 + 1 := by omega
  rw [e1, e2, hex_cut1 _ (Nat.mod_lt _ (by omega))]
theorem mark_test (k : Nat) (x : Int) (h : k < markB.size) : (wrap64 (((⟨#[46, 91, 93, 40, 41, 42, 43, 63, 123, 125, 124, 92, 45, 94]⟩ : ByteArray)[k]'h).toNat : Int) == x) = decide (((marksL.getD k 0).toNat : Int) = x) := by
  have h1 := markB_at k h
  have h2 : ((⟨#[46, 91, 93, 40, 41, 42, 43, 63, 123, 125, 124, 92, 45, 94]⟩ : ByteArray)[k]'h) = marksL.getD k 0 := h1
  rw [h2]
  have h3 := (marksL.getD k 0).toNat_lt
  have h4 : wrap64 ((marksL.getD k 0).toNat : Int) = ((marksL.getD k 0).toNat : Int) := by unfold wrap64; omega
  rw [h4]
  rfl
end Pv
namespace Go.Proofs.YtjnjbcigbnjmkaaDoor
open Go.RowKit Pv

set_option maxHeartbeats 1000000 in
set_option maxRecDepth 100000 in
theorem ref07_mark (n : Nat) (w : World) (hn : (n : Int) ≤ 1114111) : Calls Tryd.prog 57 #[.int .i64 n] w fun e w' => e = .returned (.bool (isMark n)) ∧ w' = w := by
  obtain ⟨x, hx⟩ : ∃ x : Int, x = n := ⟨_, rfl⟩
  obtain ⟨r, hr⟩ : ∃ r, isMark n = r := ⟨_, rfl⟩
  rw [← hx] at hn ⊢
  rw [hr]
  have HX := Lib.hid hx; have HR := Lib.hid hr
  have h0 : 0 ≤ x := by omega
  clear hx hr
  go_enter Tryd.func57, Tryd.ntmps57
  go_wp2
  go_loopw [3] (fun iv wr => ∃ k : Nat, iv = .int .i64 k ∧ (k : Int) ≤ 14 ∧ wr = w ∧ Hid (∀ j, j < k → (marksL.getD j 0).toNat ≠ n)) (fun iv _ => 14 - (intOf iv).toNat)
  case atStart => exact ⟨0, rfl, by omega, rfl, Lib.hid (by intros; omega)⟩
  case round =>
    obtain ⟨k, rfl, hk, rfl, HN⟩ := hrel
    by_cases hlt : (k : Int) < 14
    · have hks : k < markB.size := by show k < 14; omega
      have HB := Lib.hid (mark_test k x hks)
      go_wp2
      · rename_i hh
        have HT := Lib.hid (show true = r by rw [← HR.out, (isMark_iff n).2 ⟨k, by omega, by have h2 := of_decide_eq_true (HB.out.symm.trans hh); have := HX.out; omega⟩])
        go_ret
        exact ⟨ret_bool HT.out, rfl⟩
      · go_roundw
        case rel =>
          rename_i hh
          refine ⟨k + 1, by go_num, by omega, by first | rfl | trivial, Lib.hid fun j hj he => ?_⟩
          by_cases hjk : j = k
          · subst hjk
            have h2 := (HB.out.trans (decide_eq_true (by rw [HX.out]; omega))).symm.trans hh
            cases h2
          · exact HN.out j (by omega) he
        case measure => simp [intOf]; omega
    · have HT := Lib.hid (show false = r by
        rw [← HR.out]
        cases h : isMark n with
        | false => rfl
        | true => obtain ⟨j, hj, he⟩ := (isMark_iff n).1 h; exact absurd he (HN.out j (by omega)))
      go_wp2
      go_ret
      exact ⟨ret_bool HT.out, rfl⟩

set_option maxHeartbeats 1000000 in
set_option maxRecDepth 100000 in
theorem ref07_written (n : Nat) (w : World) (hn : (n : Int) ≤ 1114111) : Calls Tryd.prog 47 #[.int .i64 n] w fun e w' => e = .returned (.string (mkS (numL n))) ∧ Below w.heap.size w w' := by
  have HM := Lib.hid (ref07_mark n w hn)
  have HI := Lib.hid (ref01_Is n w)
  have HB := Lib.hid (ref01_Bytes n w (by omega))
  obtain ⟨x, hx⟩ : ∃ x : Int, x = n := ⟨_, rfl⟩
  have h0 : 0 ≤ x := by omega
  obtain ⟨b, hb⟩ : ∃ b, isMark n = b := ⟨_, rfl⟩
  rw [hb] at HM
  rw [← hx] at hn HM HI HB ⊢
  have HX := Lib.hid hx
  have HBM := Lib.hid hb
  cases b
  case true =>
    have hl := isMark_lt hb
    have i0 : 32 ≤ x := by omega
    have i1 : x < 127 := by omega
    have HN := Lib.hid (numL_mark hb)
    have hcv := conv_bytes w.heap.size 1 [UInt8.ofNat n] (w.alloc (.cells #[.int .u8 x] T8)) (fun j y hy => by
      match j with
      | 0 =>
        simp at hy; subst hy
        rw [World.cell?_alloc_new, hx]
        simp; omega
      | j + 1 => simp at hy)
    simp only [List.length_cons, List.length_nil, Nat.zero_add] at hcv
    clear hx hl hb
    go_enter Tryd.func47, Tryd.ntmps47
    go_wp2_with (go_at_call 57; refine HM.out.mono ?_; rintro e w1 ⟨rfl, rfl⟩)
    go_ret
    exact ⟨by rw [HN.out]; rfl, (Below.refl _ _).alloc (Nat.le_refl _) _⟩
  case false =>
    clear hx
    by_cases h1 : (32 ≤ x ∧ x ≠ 127) ∧ isP n = true
    · have HN := Lib.hid (numL_char hb ⟨by have := HX.out; omega, h1.2⟩)
      obtain ⟨⟨i0, i1⟩, h3⟩ := h1
      rw [h3] at HI
      clear h3 hb
      generalize bytes8 n = l at *
      have q : (x != 127) = true := by simpa using i1
      go_enter Tryd.func47, Tryd.ntmps47
      go_wp2_with (first | (go_at_call 57; refine HM.out.mono ?_; rintro e w1 ⟨rfl, rfl⟩) | (go_at_call 58; refine HI.out.mono ?_; rintro e w2 ⟨rfl, rfl⟩) | (go_at_call 59; refine HB.out.mono ?_; rintro e w2 ⟨g, c, rfl, hc, hb2⟩; have hcv := conv_bytes g c l w2 hc))
      go_ret
      exact ⟨by show Ending.returned (.string (mkS l)) = _; rw [HN.out], hb2⟩
    · have HN := Lib.hid (numL_hex hb (fun h => h1 ⟨by have := HX.out; omega, h.2⟩))
      have hcase : x < 32 ∨ (32 ≤ x ∧ x = 127) ∨ (32 ≤ x ∧ x ≠ 127 ∧ isP n = false) := by
        by_cases i0 : 32 ≤ x
        · by_cases i1 : x = 127
          · exact .inr (.inl ⟨i0, i1⟩)
          · exact .inr (.inr ⟨i0, i1, by cases h : isP n with | false => rfl | true => exact absurd ⟨⟨i0, i1⟩, h⟩ h1⟩)
        · exact .inl (by omega)
      clear hb h1 HB
      rcases hcase with i0 | ⟨i0, i1⟩ | ⟨i0, i1, i2⟩
      case' inr.inl => subst i1
      case' inr.inr => have q : (x != 127) = true := by simpa using i1
      case' inr.inr => rw [i2] at HI
      all_goals
        generalize numL n = res at *
        go_enter Tryd.func47, Tryd.ntmps47
        go_wp2_with (first | (go_at_call 57; refine HM.out.mono ?_; rintro e w1 ⟨rfl, rfl⟩) | (go_at_call 58; refine HI.out.mono ?_; rintro e w2 ⟨rfl, rfl⟩))
        go_loopw [0, 3, 4] (fun nv sv iv wr => ∃ (k : Nat) (y : Int) (s : ByteArray), iv = .int .i64 k ∧ (k : Int) ≤ 6 ∧ nv = .int .i64 y ∧ 0 ≤ y ∧ y ≤ 1114111 ∧ sv = .string s ∧ s.size ≤ 6 ∧ Hid (s.size = k) ∧ Hid (y = ((n / 16 ^ k : Nat) : Int)) ∧ Hid (s = mkS (hexN k n)) ∧ Hid (wr = w1)) (fun _ _ iv _ => 6 - (intOf iv).toNat)
        case atStart => exact ⟨0, _, _, rfl, by omega, rfl, h0, hn, rfl, by decide, Lib.hid rfl, Lib.hid (by rw [HX.out]; simp), Lib.hid rfl, Lib.hid rfl⟩
        case round =>
          obtain ⟨k, y, s, rfl, hk, rfl, hy0, hy1, rfl, hs6, HSZ, HY, HS, HW⟩ := hrel
          by_cases hlt : (k : Int) < 6
          · go_wp2
            go_roundw
            case rel =>
              refine ⟨k + 1, y / 16, _, by go_num, by omega, rfl, by omega, by omega, rfl, ?_, Lib.hid ?_, Lib.hid ?_, Lib.hid ?_, HW⟩
              · rw [hex_cut HY.out]
                have h1 := HSZ.out
                simp [ByteArray.size_append, mkS_size]; omega
              · rw [hex_cut HY.out]
                have h1 := HSZ.out
                simp [ByteArray.size_append, mkS_size]; omega
              · rw [HY.out, ← shr4]; omega
              · rw [hex_cut HY.out, HS.out, ← mkS_app]; rfl
            case measure => simp [intOf]; omega
          · have hk6 : k = 6 := by omega
            subst hk6
            go_wp2
            go_ret
            refine ⟨?_, by rw [HW.out]; exact Below.refl _ _⟩
            show Ending.returned (.string _) = _
            rw [HN.out, HS.out, show (92 :: 117 :: hexN 6 n) = [92, 117] ++ hexN 6 n from rfl, mkS_app]; rfl
end Go.Proofs.YtjnjbcigbnjmkaaDoor
