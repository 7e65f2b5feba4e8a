/- Walks: a text's numbers; nodes of the call's own read as nodes. PUT1 -/
import Derived.Test.YtcmmmgblkbbdnaaGreatDoorRqh
import Derived.Test.YtcmmmgblkbbdnaaGreatDoorTxh
namespace Pv
open Go Go.RowKit
/-- A text's numbers. -/
def ptsB (l : Bs) : List Int := l.map fun b => (b.toNat : Int)
theorem ptsB_len (l : Bs) : (ptsB l).length = l.length := by unfold ptsB; simp
theorem ptsB_snoc {l : Bs} {k : Nat} {b : UInt8} (h : l[k]? = some b) : ptsB (l.take (k + 1)) = ptsB (l.take k) ++ [(b.toNat : Int)] := by
  unfold ptsB
  rw [take_snoc h, List.map_append]
  rfl
end Pv
namespace Go.Proofs.YtcmmmgblkbbdnaaGreatDoor
open Go.RowKit Pv
theorem own_ptsB {w : World} {base k c : Nat} {A : Option Addr} {l : Bs} (h : w.ownsRow base 3 1 (.slice A k c) k ((ptsB l).map (Value.int .i64))) (hl : l.length ≤ 100000) : At w A RI (ptsB l) :=
  (At.of_own (R := RI) (xs := ptsB l) h ⟨by simp, fun i u x hu hx => by
    rw [List.getElem?_map, hx] at hu
    simp only [Option.map_some, Option.some.injEq] at hu
    subst hu
    refine ⟨rfl, ?_⟩
    obtain ⟨b, _, rfl⟩ := List.mem_map.1 (mem_of_get hx)
    have := b.toNat_lt
    omega⟩ (by rw [ptsB_len]; omega)).2.2
set_option maxHeartbeats 2000000 in
set_option maxRecDepth 100000 in
theorem law8_points (s : ByteArray) (w : World) (hs : s.size ≤ 2000) :
    Calls Tryz.prog 19 #[.string s] w fun e w' => ∃ A c, e = .returned (.slice A s.size c) ∧ At w' A RI (ptsB (bsl s)) ∧ Below w.heap.size w w' := by
  obtain ⟨i0, hi0, hz0, hs0, hb0⟩ := info_parts info_int9
  go_enter Tryz.func19, Tryz.ntmps19
  go_wp2
  go_loopw [3, 4] (fun lv iv W => ∃ (k c : Nat) (A : Option Addr), lv = .slice A k c ∧ iv = .int .i64 k ∧ k ≤ s.size ∧ Hid (W.ownsRow w.heap.size 3 1 (.slice A k c) k ((ptsB ((bsl s).take k)).map (Value.int .i64))) ∧ Hid (Below w.heap.size w W)) (fun _ iv _ => s.size - (intOf iv).toNat)
  case atStart => exact ⟨0, 0, none, rfl, rfl, by omega, Lib.hid (World.ownsRow_nil _ _ _ _), Lib.hid (Below.refl _ _)⟩
  case round =>
    obtain ⟨k, c, A, rfl, rfl, hk, HO, HW⟩ := hrel
    by_cases hlt : k < s.size
    · obtain ⟨b, hb⟩ : ∃ b, (bsl s)[k]? = some b := ⟨_, List.getElem?_eq_getElem (by rw [bsl_len]; exact hlt)⟩
      obtain ⟨hks, hsb⟩ := bsl_at hb
      have HSN := Lib.hid (ptsB_snoc hb)
      have HSB := Lib.hid hsb
      have hz := HW.out.size
      have hz2 : w.heap.size ≤ (wr.alloc (.cells #[.int .i64 (s[k]'hks).toNat] 3)).heap.size := by simp; omega
      have HOA := Lib.hid (HO.out.alloc (.cells #[.int .i64 (s[k]'hks).toNat] 3))
      have HSR := Lib.hid (Pv.Src.one (w := wr) (x := .int .i64 (s[k]'hks).toNat) (t := 3) rfl)
      have HWA := Lib.hid (HW.out.alloc hz (.cells #[.int .i64 (s[k]'hks).toNat] 3))
      have Q1 : Hid (k + 1 ≤ maxLen) := Lib.hid (by simp only [maxLen]; omega)
      have Q2 : Hid ((k + 1) * 8 ≤ 140737488355328) := Lib.hid (by omega)
      have g1 : (0 : Int) ≤ ((s[k]'hks).toNat : Int) := by omega
      have g2 : ((s[k]'hks).toNat : Int) ≤ 255 := by have := (s[k]'hks).toNat_lt; omega
      clear hb hsb
      go_wp2_with (first
      | (at_builtin
         go_must (refine wpList_append_src _ rfl (.tmp 11) (.tmp 16) 27 rfl w.heap.size 3 i0 (.int .i64 0) 1 8 Tryz.underlying27 hi0 hz0 hs0 hb0 rfl (by decide) A c k _ rfl HOA.out (some ⟨wr.heap.size, 0, none⟩) 1 1 _ rfl HSR.out Q1.out Q2.out hz2 ?_)
         intro A9 c9 w9 own9 gr9 _
         have HO9 := Lib.hid own9
         have HB9 := Lib.hid (HWA.out.grown gr9 hz2 (fun g hg => (HOA.out.lt g hg).1))
         clear own9 gr9))
      go_roundw
      case rel => exact ⟨k + 1, c9, A9, rfl, by go_num, by omega, Lib.hid (by rw [HSN.out, List.map_append]; have := HO9.out; rw [HSB.out] at this; exact this), HB9⟩
      case measure => simp [intOf]; omega
    · obtain rfl : k = s.size := by omega
      go_wp2
      go_ret
      have h1 := HO.out
      rw [List.take_of_length_le (by rw [bsl_len]; exact Nat.le_refl _)] at h1
      exact ⟨A, c, rfl, own_ptsB h1 (by rw [bsl_len]; omega), HW.out⟩
end Go.Proofs.YtcmmmgblkbbdnaaGreatDoor

namespace Pv
open Go Go.RowKit
/-- Is a text of a tree's language, reckoned. -/
def inTC (T : Tr) (l : Bs) : Option Bool := (runC (leadT T [[]] 0).1 (ptsB l)).map fun m => m.contains ((leadT T [[]] 0).2 : Int)
theorem Known.inTC {T : Tr} {l : Bs} {q : Bool} {r : Bool × Int} (h : Known T) (hl : l.length ≤ 1000) (hc : inTC T l = some q) (hr : BIn T.flat (ptsB l) r) : r = (q, 0) := by
  unfold Pv.inTC at hc
  cases hm : runC (leadT T [[]] 0).1 (ptsB l) with
  | none => rw [hm] at hc; cases hc
  | some m =>
    rw [hm] at hc
    obtain rfl := Option.some.inj hc
    exact h.in (by rw [ptsB_len]; omega) hm hr
end Pv
namespace Go.Proofs.YtcmmmgblkbbdnaaGreatDoor
open Go.RowKit Pv

set_option maxHeartbeats 2000000 in
set_option maxRecDepth 100000 in
theorem law8_in (t s : ByteArray) (T : Tr) (q : Bool) (w : World) (B : Nat) (h : Tells (bsl t) T) (hq : inTC T (bsl s) = some q) (hs : s.size ≤ 1000) (hT : TabU B w) (hB : B ≤ w.heap.size) :
    Calls Tryz.prog 15 #[.string t, .string s] w fun e w' => e = .returned (.bool q) ∧ Below w.heap.size w w' := by
  have HP := Lib.hid (pattern_Parse t T w B h h.plain hT hB)
  have HT := Lib.hid h
  have HQ := Lib.hid hq
  have HPS := Lib.hid (fun W => law8_points s W (by omega))
  obtain ⟨nt, hnt⟩ : ∃ nt, T.flat.length = nt := ⟨_, rfl⟩
  have HN := Lib.hid hnt
  have hn : nt ≤ 64 := by rw [← hnt]; exact h.known.size
  clear h hq hT hB hnt
  cases q
  all_goals
    go_enter Tryz.func15, Tryz.ntmps15
    go_wp2_with fail
    refine HP.out.mono ?_
    rintro e w1 ⟨A, c, rfl, k1, k2⟩
    have HB1 := Lib.hid k2
    have HAT := Lib.hid (rx_at k1 (by rw [HN.out]; omega) HT.out.sets)
    rw [HN.out]
    clear k1 k2
    go_wp2_with fail
    refine (HPS.out _).mono ?_
    rintro e w2 ⟨A2, c2, rfl, k3, k4⟩
    have HB2 := Lib.hid (HB1.out.trans (k4.mono HB1.out.size))
    have HI := Lib.hid (tongue_In A nt c T.flat A2 s.size c2 (ptsB (bsl s)) w2 (HAT.out.keep (Keep.of k4)) HN k3 (Lib.hid (by rw [ptsB_len, bsl_len])) (.inl hs))
    clear k3 k4
    go_wp2_with fail
    refine HI.out.mono ?_
    rintro e w3 ⟨k5, r, k6, rfl⟩
    obtain rfl := HT.out.known.inTC (by rw [bsl_len]; exact hs) HQ.out k6
    have HB3 := Lib.hid (HB2.out.trans (k5.mono HB2.out.size))
    clear k5 k6
    go_wp2
    go_ret
    exact ⟨rfl, HB3.out⟩
set_option maxHeartbeats 2000000 in
set_option maxRecDepth 100000 in
theorem law8_out (t s : ByteArray) (T : Tr) (q : Bool) (w : World) (B : Nat) (h : Tells (bsl t) T) (hq : inTC T (bsl s) = some q) (hs : s.size ≤ 1000) (hT : TabU B w) (hB : B ≤ w.heap.size) :
    Calls Tryz.prog 16 #[.string t, .string s] w fun e w' => e = .returned (.bool !q) ∧ Below w.heap.size w w' := by
  have HP := Lib.hid (pattern_Parse t T w B h h.plain hT hB)
  have HT := Lib.hid h
  have HQ := Lib.hid hq
  have HPS := Lib.hid (fun W => law8_points s W (by omega))
  obtain ⟨nt, hnt⟩ : ∃ nt, T.flat.length = nt := ⟨_, rfl⟩
  have HN := Lib.hid hnt
  have hn : nt ≤ 64 := by rw [← hnt]; exact h.known.size
  clear h hq hT hB hnt
  cases q
  all_goals
    go_enter Tryz.func16, Tryz.ntmps16
    go_wp2_with fail
    refine HP.out.mono ?_
    rintro e w1 ⟨A, c, rfl, k1, k2⟩
    have HB1 := Lib.hid k2
    have HAT := Lib.hid (rx_at k1 (by rw [HN.out]; omega) HT.out.sets)
    rw [HN.out]
    clear k1 k2
    go_wp2_with fail
    refine (HPS.out _).mono ?_
    rintro e w2 ⟨A2, c2, rfl, k3, k4⟩
    have HB2 := Lib.hid (HB1.out.trans (k4.mono HB1.out.size))
    have HI := Lib.hid (tongue_In A nt c T.flat A2 s.size c2 (ptsB (bsl s)) w2 (HAT.out.keep (Keep.of k4)) HN k3 (Lib.hid (by rw [ptsB_len, bsl_len])) (.inl hs))
    clear k3 k4
    go_wp2_with fail
    refine HI.out.mono ?_
    rintro e w3 ⟨k5, r, k6, rfl⟩
    obtain rfl := HT.out.known.inTC (by rw [bsl_len]; exact hs) HQ.out k6
    have HB3 := Lib.hid (HB2.out.trans (k5.mono HB2.out.size))
    clear k5 k6
    go_wp2
    go_ret
    exact ⟨rfl, HB3.out⟩

set_option maxHeartbeats 2000000 in
set_option maxRecDepth 100000 in
theorem law8_alive (w : World) (B : Nat) (hT : TabU B w) (hB : B ≤ w.heap.size) : Calls Tryz.prog 21 #[] w fun e w' => e = .returned (.bool true) ∧ Below w.heap.size w w' := by
  have H1 := Lib.hid (fun (w' : World) (hb : Below w.heap.size w w') => law8_in ⟨#[40, 97, 98, 41, 42, 99]⟩ ⟨#[99]⟩ t1 true w' B tells1 (by decide +kernel) (by decide) (hT.then hb hB) (Nat.le_trans hB hb.size))
  have H2 := Lib.hid (fun (w' : World) (hb : Below w.heap.size w w') => law8_in ⟨#[40, 97, 98, 41, 42, 99]⟩ ⟨#[97, 98, 97, 98, 99]⟩ t1 true w' B tells1 (by decide +kernel) (by decide) (hT.then hb hB) (Nat.le_trans hB hb.size))
  have H3 := Lib.hid (fun (w' : World) (hb : Below w.heap.size w w') => law8_out ⟨#[40, 97, 98, 41, 42, 99]⟩ ⟨#[97, 98, 97, 98]⟩ t1 false w' B tells1 (by decide +kernel) (by decide) (hT.then hb hB) (Nat.le_trans hB hb.size))
  have H4 := Lib.hid (fun (w' : World) (hb : Below w.heap.size w w') => law8_out ⟨#[40, 97, 98, 41, 42, 99]⟩ ⟨#[97, 99]⟩ t1 false w' B tells1 (by decide +kernel) (by decide) (hT.then hb hB) (Nat.le_trans hB hb.size))
  have HB0 := Lib.hid (Below.refl w.heap.size w)
  clear hT hB
  go_enter Tryz.func21, Tryz.ntmps21
  go_wp2_with fail
  refine (H1.out _ HB0.out).mono ?_
  rintro e w1 ⟨rfl, k⟩
  have HB1 := Lib.hid (HB0.out.trans (k.mono HB0.out.size))
  clear k
  go_wp2_with fail
  refine (H2.out _ HB1.out).mono ?_
  rintro e w2 ⟨rfl, k⟩
  have HB2 := Lib.hid (HB1.out.trans (k.mono HB1.out.size))
  clear k
  go_wp2_with fail
  refine (H3.out _ HB2.out).mono ?_
  rintro e w3 ⟨rfl, k⟩
  have HB3 := Lib.hid (HB2.out.trans (k.mono HB2.out.size))
  clear k
  go_wp2_with fail
  refine (H4.out _ HB3.out).mono ?_
  rintro e w4 ⟨rfl, k⟩
  have HB4 := Lib.hid (HB3.out.trans (k.mono HB3.out.size))
  clear k
  go_wp2
  go_ret
  exact ⟨rfl, HB4.out⟩
end Go.Proofs.YtcmmmgblkbbdnaaGreatDoor
