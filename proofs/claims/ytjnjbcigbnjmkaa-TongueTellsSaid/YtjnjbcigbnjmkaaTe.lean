/- Walks: tables of places (the document's): again and again. -/
import Derived.Test.YtjnjbcigbnjmkaaTd
namespace Go.Proofs.Ytjnjbcigbnjmkaa
open Go.RowKit Pv

theorem th_pw {A : Nat → Nat → Prop} (h : Fwd A) (k i j : Nat) : Th (Pw A k) A i j ↔ Pw A (k + 1) i j :=
  ⟨fun ⟨m, _, _, h1, h2⟩ => ⟨m, h1, h2⟩, fun ⟨m, h1, h2⟩ => ⟨m, Pw.fwd h k i m h1, h m j h2, h1, h2⟩⟩
theorem TabPost.as {w w' : World} {n : Nat} {R R' : Nat → Nat → Prop} {e : Ending} (h : TabPost w n R e w') (hr : ∀ i j, i ≤ n → j ≤ n → (R i j ↔ R' i j)) : TabPost w n R' e w' := by
  obtain ⟨g, h1, h2, h3, h4⟩ := h
  exact ⟨g, h1, h2, h3.congr hr, h4⟩
/-- Up to so many times more. -/
def Up (A : Nat → Nat → Prop) (k i a b : Nat) : Prop := ∃ q, q ≤ i ∧ Pw A (k + q) a b
theorem Up.fwd {A : Nat → Nat → Prop} (h : Fwd A) (k i : Nat) : Fwd (Up A k i) := fun a b ⟨q, _, h1⟩ => Pw.fwd h _ a b h1
theorem Up.succ {A : Nat → Nat → Prop} {k i a b : Nat} : Up A k i a b ∨ Pw A (k + i + 1) a b ↔ Up A k (i + 1) a b := by
  constructor
  · rintro (⟨q, h1, h2⟩ | h)
    · exact ⟨q, by omega, h2⟩
    · exact ⟨i + 1, Nat.le_refl _, h⟩
  · rintro ⟨q, h1, h2⟩
    by_cases e : q ≤ i
    · exact .inl ⟨q, e, h2⟩
    · obtain rfl : q = i + 1 := by omega
      exact .inr h2

set_option maxHeartbeats 2000000 in
set_option maxRecDepth 100000 in
theorem ref08_again (ga n : Nat) (A : Nat → Nat → Prop) (hf : Fwd A) (hn : n ≤ 1000) (k : Nat) (most : Int) (hk : k ≤ 16) (hm : most = -1 ∨ ((k : Int) ≤ most ∧ most ≤ 16)) (kd many : Int) (B : Option Addr) (m cs : Nat) (w : World) (ha : Tab w ga n A) :
    Calls Try.prog 121 #[.slice (some ⟨ga, 0, none⟩) (n + 1) (n + 1), .agg #[.int .u8 kd, .slice B m cs, .int .i64 many, .int .i64 k, .int .i64 most]] w (TabPost w n (Ag A k most)) := by
  have hW : Below w.heap.size w (w.alloc (.cells #[.int .u8 kd, .slice B m cs, .int .i64 many, .int .i64 k, .int .i64 most] 100)) := (Below.refl _ _).alloc (Nat.le_refl _) _
  have HW := Lib.hid hW
  have HS := Lib.hid (ref08_still n hn (w.alloc (.cells #[.int .u8 kd, .slice B m cs, .int .i64 many, .int .i64 k, .int .i64 most] 100)))
  have BX0 := Lib.hid (Blk.new w 100 #[.int .u8 kd, .slice B m cs, .int .i64 many, .int .i64 k, .int .i64 most])
  have TA := Lib.hid ha; have HF := Lib.hid hf
  clear ha hf hW
  go_enter Try.func121, Try.ntmps121
  go_wp2_with fail
  refine HS.out.mono ?_
  rintro e w1 ⟨g, rfl, hg, tb, hb⟩
  have T0 := Lib.hid (tb.congr (R' := Pw A 0) (fun i j _ _ => Iff.rfl))
  have B0 := Lib.hid (HW.out.trans (hb.mono HW.out.size))
  have BX1 := Lib.hid (BX0.out.below hb BX0.out.lt)
  obtain ⟨x0, x1, x2, x3, x4⟩ := blk_five BX1.out
  clear tb hb
  go_wp2
  go_loopw [6, 7] (fun ov iv wr => ∃ (i g : Nat), iv = .int .i64 i ∧ i ≤ k ∧ ov = .slice (some ⟨g, 0, none⟩) (n + 1) (n + 1) ∧ Tab wr g n (Pw A i) ∧ w.heap.size ≤ g ∧ Below w.heap.size w wr ∧ Blk wr w.heap.size 100 #[.int .u8 kd, .slice B m cs, .int .i64 many, .int .i64 k, .int .i64 most]) (fun _ iv _ => k - (intOf iv).toNat)
  case atStart => exact ⟨0, g, rfl, by omega, rfl, T0.out, by have := HW.out.size; omega, B0.out, BX1.out⟩
  case round =>
    clear x0 x1 x2 x3 x4
    obtain ⟨i, g1, rfl, hi, rfl, htb, hg1, hb, hbx⟩ := hrel
    have T1 := Lib.hid htb; have B1 := Lib.hid hb; have X1 := Lib.hid hbx
    clear htb hb hbx
    obtain ⟨x0, x1, x2, x3, x4⟩ := blk_five X1.out
    by_cases hlt : i < k
    · have HC := Lib.hid (ref08_then g1 ga n (Pw A i) A hn wr T1.out (TA.out.next B1.out))
      go_wp2_with fail
      refine HC.out.mono ?_
      rintro e w2 ⟨g2, rfl, hg2, tb, hb⟩
      have T2 := Lib.hid (tb.congr (R' := Pw A (i + 1)) (fun a b _ _ => th_pw HF.out i a b))
      have B2 := Lib.hid (B1.out.trans (hb.mono B1.out.size))
      have X2 := Lib.hid (X1.out.below hb X1.out.lt)
      have hg2' : w.heap.size ≤ g2 := Nat.le_trans B1.out.size hg2
      clear tb hb
      go_wp2
      go_roundw
      case rel => exact ⟨i + 1, g2, by go_num, by omega, rfl, T2.out, hg2', B2.out, X2.out⟩
      case measure => simp [intOf]; omega
    have hik : i = k := by omega
    subst hik
    have TU := Lib.hid (T1.out.congr (R' := Up A i 0) (fun a b _ _ => by
      constructor
      · exact fun h => ⟨0, Nat.le_refl _, h⟩
      · rintro ⟨q, h1, h2⟩
        obtain rfl : q = 0 := by omega
        exact h2))
    by_cases hms : most < 0
    · have HM := Lib.hid hms
      go_wp2
      go_loopw [6, 9, 10] (fun ov av iv wr => ∃ (j g g' : Nat), iv = .int .i64 j ∧ j ≤ n ∧ ov = .slice (some ⟨g, 0, none⟩) (n + 1) (n + 1) ∧ av = .slice (some ⟨g', 0, none⟩) (n + 1) (n + 1) ∧ Tab wr g n (Pw A (i + j)) ∧ Tab wr g' n (Up A i j) ∧ w.heap.size ≤ g' ∧ Below w.heap.size w wr) (fun _ _ iv _ => n - (intOf iv).toNat)
      case atStart => exact ⟨0, g1, g1, rfl, by omega, rfl, rfl, T1.out, TU.out, hg1, B1.out⟩
      case round =>
        clear x0 x1 x2 x3 x4
        obtain ⟨j, g3, g4, rfl, hj, rfl, rfl, htb, htu, hg4, hb⟩ := hrel
        have T3 := Lib.hid htb; have U3 := Lib.hid htu; have B3 := Lib.hid hb
        clear htb htu hb
        by_cases hjt : j < n
        · have hjd : (j : Int) < (n : Int) := by omega
          have HC := Lib.hid (ref08_then g3 ga n (Pw A (i + j)) A hn wr T3.out (TA.out.next B3.out))
          go_wp2_with fail
          refine HC.out.mono ?_
          rintro e w4 ⟨g5, rfl, hg5, tb, hb⟩
          have T5 := Lib.hid (tb.congr (R' := Pw A (i + j + 1)) (fun a b _ _ => th_pw HF.out (i + j) a b))
          have B5 := Lib.hid (B3.out.trans (hb.mono B3.out.size))
          have U5 := Lib.hid (U3.out.next hb)
          have HE := Lib.hid (ref08_either g4 g5 n (Up A i j) (Pw A (i + j + 1)) (Up.fwd HF.out i j) (Pw.fwd HF.out _) hn w4 U5.out T5.out)
          clear tb hb
          go_wp2_with fail
          refine HE.out.mono ?_
          rintro e w5 ⟨g6, rfl, hg6, tb, hb⟩
          have U6 := Lib.hid (tb.congr (R' := Up A i (j + 1)) (fun a b _ _ => Up.succ))
          have T6 := Lib.hid (T5.out.next hb)
          have B6 := Lib.hid (B5.out.trans (hb.mono B5.out.size))
          have hg6' : w.heap.size ≤ g6 := Nat.le_trans B5.out.size hg6
          clear tb hb
          go_wp2
          go_roundw
          case rel => exact ⟨j + 1, g5, g6, by go_num, by omega, rfl, rfl, T6.out, U6.out, hg6', B6.out⟩
          case measure => simp [intOf]; omega
        · have hjd : ¬ (j : Int) < (n : Int) := by omega
          have TF := Lib.hid (U3.out.congr (R' := Ag A i most) (fun a b _ hb => by
            obtain rfl : j = n := by omega
            rw [Ag.few HF.out HM.out hb]
            exact Iff.rfl))
          go_wp2
          go_ret
          exact ⟨g4, rfl, hg4, TF.out, B3.out⟩
    · obtain ⟨M, hM⟩ := Int.eq_ofNat_of_zero_le (show 0 ≤ most - (i : Int) by omega)
      have hM16 : M ≤ 16 := by omega
      have hmo : 0 ≤ most ∧ most ≤ 16 := by omega
      have HMM := Lib.hid hM; have HM := Lib.hid hms
      clear hM
      go_wp2
      go_loopw [6, 9, 10] (fun ov av iv wr => ∃ (j g g' : Nat), iv = .int .i64 j ∧ j ≤ M ∧ ov = .slice (some ⟨g, 0, none⟩) (n + 1) (n + 1) ∧ av = .slice (some ⟨g', 0, none⟩) (n + 1) (n + 1) ∧ Tab wr g n (Pw A (i + j)) ∧ Tab wr g' n (Up A i j) ∧ w.heap.size ≤ g' ∧ Below w.heap.size w wr) (fun _ _ iv _ => M - (intOf iv).toNat)
      case atStart => exact ⟨0, g1, g1, rfl, by omega, rfl, rfl, T1.out, TU.out, hg1, B1.out⟩
      case round =>
        clear x0 x1 x2 x3 x4
        obtain ⟨j, g3, g4, rfl, hj, rfl, rfl, htb, htu, hg4, hb⟩ := hrel
        have T3 := Lib.hid htb; have U3 := Lib.hid htu; have B3 := Lib.hid hb
        clear htb htu hb
        by_cases hjt : j < M
        · have hjd : (j : Int) < most - (i : Int) := by have := HMM.out; omega
          have HC := Lib.hid (ref08_then g3 ga n (Pw A (i + j)) A hn wr T3.out (TA.out.next B3.out))
          go_wp2_with fail
          refine HC.out.mono ?_
          rintro e w4 ⟨g5, rfl, hg5, tb, hb⟩
          have T5 := Lib.hid (tb.congr (R' := Pw A (i + j + 1)) (fun a b _ _ => th_pw HF.out (i + j) a b))
          have B5 := Lib.hid (B3.out.trans (hb.mono B3.out.size))
          have U5 := Lib.hid (U3.out.next hb)
          have HE := Lib.hid (ref08_either g4 g5 n (Up A i j) (Pw A (i + j + 1)) (Up.fwd HF.out i j) (Pw.fwd HF.out _) hn w4 U5.out T5.out)
          clear tb hb
          go_wp2_with fail
          refine HE.out.mono ?_
          rintro e w5 ⟨g6, rfl, hg6, tb, hb⟩
          have U6 := Lib.hid (tb.congr (R' := Up A i (j + 1)) (fun a b _ _ => Up.succ))
          have T6 := Lib.hid (T5.out.next hb)
          have B6 := Lib.hid (B5.out.trans (hb.mono B5.out.size))
          have hg6' : w.heap.size ≤ g6 := Nat.le_trans B5.out.size hg6
          clear tb hb
          go_wp2
          go_roundw
          case rel => exact ⟨j + 1, g5, g6, by go_num, by omega, rfl, rfl, T6.out, U6.out, hg6', B6.out⟩
          case measure => simp [intOf]; omega
        · have hjd : ¬ (j : Int) < most - (i : Int) := by have := HMM.out; omega
          have TF := Lib.hid (U3.out.congr (R' := Ag A i most) (fun a b _ hb => by
            obtain rfl : j = M := by omega
            constructor
            · rintro ⟨q, h1, h2⟩
              exact ⟨i + q, by omega, .inr (by have := HMM.out; omega), h2⟩
            · rintro ⟨q, h1, h2, h3⟩
              obtain ⟨d, rfl⟩ : ∃ d, q = i + d := ⟨q - i, by omega⟩
              exact ⟨d, by have := HMM.out; omega, h3⟩))
          go_wp2
          go_ret
          exact ⟨g4, rfl, hg4, TF.out, B3.out⟩

end Go.Proofs.Ytjnjbcigbnjmkaa
