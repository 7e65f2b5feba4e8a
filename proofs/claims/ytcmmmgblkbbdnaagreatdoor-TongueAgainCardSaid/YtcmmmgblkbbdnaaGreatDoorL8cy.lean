/- Walks: a text's numbers; nodes of the call's own read as nodes. PUT1 -/
import Derived.Test.YtcmmmgblkbbdnaaGreatDoorRpy
import Derived.Test.YtcmmmgblkbbdnaaGreatDoorTxy
import Derived.Test.YtcmmmgblkbbdnaaGreatDoorRuy
import Derived.Test.YtcmmmgblkbbdnaaGreatDoorAky
namespace Pv
open Go Go.RowKit
/-- A text's numbers. -/
def ptsB (l : Bs) : List Int := l.map fun b => (b.toNat : Int)
theorem ptsB_len (l : Bs) : (ptsB l).length = l.length := by unfold ptsB; simp
theorem ptsB_snoc {l : Bs} {k : Nat} {b : UInt8} (h : l[k]? = some b) : ptsB (l.take (k + 1)) = ptsB (l.take k) ++ [(b.toNat : Int)] := by
  unfold ptsB
  rw [take_snoc h, List.map_append]
  rfl
end Pv
namespace Go.Proofs.YtcmmmgblkbbdnaaGreatDoor
open Go.RowKit Pv
theorem own_ptsB {w : World} {base k c : Nat} {A : Option Addr} {l : Bs} (h : w.ownsRow base 3 1 (.slice A k c) k ((ptsB l).map (Value.int .i64))) (hl : l.length ≤ 100000) : At w A RI (ptsB l) :=
  (At.of_own (R := RI) (xs := ptsB l) h ⟨by simp, fun i u x hu hx => by
    rw [List.getElem?_map, hx] at hu
    simp only [Option.map_some, Option.some.injEq] at hu
    subst hu
    refine ⟨rfl, ?_⟩
    obtain ⟨b, _, rfl⟩ := List.mem_map.1 (mem_of_get hx)
    have := b.toNat_lt
    omega⟩ (by rw [ptsB_len]; omega)).2.2
set_option maxHeartbeats 2000000 in
set_option maxRecDepth 100000 in
theorem law8_points (s : ByteArray) (w : World) (hs : s.size ≤ 2000) :
    Calls Tryz.prog 19 #[.string s] w fun e w' => ∃ A c, e = .returned (.slice A s.size c) ∧ At w' A RI (ptsB (bsl s)) ∧ Below w.heap.size w w' := by
  obtain ⟨i0, hi0, hz0, hs0, hb0⟩ := info_parts info_int9
  go_enter Tryz.func19, Tryz.ntmps19
  go_wp2
  go_loopw [3, 4] (fun lv iv W => ∃ (k c : Nat) (A : Option Addr), lv = .slice A k c ∧ iv = .int .i64 k ∧ k ≤ s.size ∧ Hid (W.ownsRow w.heap.size 3 1 (.slice A k c) k ((ptsB ((bsl s).take k)).map (Value.int .i64))) ∧ Hid (Below w.heap.size w W)) (fun _ iv _ => s.size - (intOf iv).toNat)
  case atStart => exact ⟨0, 0, none, rfl, rfl, by omega, Lib.hid (World.ownsRow_nil _ _ _ _), Lib.hid (Below.refl _ _)⟩
  case round =>
    obtain ⟨k, c, A, rfl, rfl, hk, HO, HW⟩ := hrel
    by_cases hlt : k < s.size
    · obtain ⟨b, hb⟩ : ∃ b, (bsl s)[k]? = some b := ⟨_, List.getElem?_eq_getElem (by rw [bsl_len]; exact hlt)⟩
      obtain ⟨hks, hsb⟩ := bsl_at hb
      have HSN := Lib.hid (ptsB_snoc hb)
      have HSB := Lib.hid hsb
      have hz := HW.out.size
      have hz2 : w.heap.size ≤ (wr.alloc (.cells #[.int .i64 (s[k]'hks).toNat] 3)).heap.size := by simp; omega
      have HOA := Lib.hid (HO.out.alloc (.cells #[.int .i64 (s[k]'hks).toNat] 3))
      have HSR := Lib.hid (Pv.Src.one (w := wr) (x := .int .i64 (s[k]'hks).toNat) (t := 3) rfl)
      have HWA := Lib.hid (HW.out.alloc hz (.cells #[.int .i64 (s[k]'hks).toNat] 3))
      have Q1 : Hid (k + 1 ≤ maxLen) := Lib.hid (by simp only [maxLen]; omega)
      have Q2 : Hid ((k + 1) * 8 ≤ 140737488355328) := Lib.hid (by omega)
      have g1 : (0 : Int) ≤ ((s[k]'hks).toNat : Int) := by omega
      have g2 : ((s[k]'hks).toNat : Int) ≤ 255 := by have := (s[k]'hks).toNat_lt; omega
      clear hb hsb
      go_wp2_with (first
      | (at_builtin
         go_must (refine wpList_append_src _ rfl (.tmp 11) (.tmp 16) 27 rfl w.heap.size 3 i0 (.int .i64 0) 1 8 Tryz.underlying27 hi0 hz0 hs0 hb0 rfl (by decide) A c k _ rfl HOA.out (some ⟨wr.heap.size, 0, none⟩) 1 1 _ rfl HSR.out Q1.out Q2.out hz2 ?_)
         intro A9 c9 w9 own9 gr9 _
         have HO9 := Lib.hid own9
         have HB9 := Lib.hid (HWA.out.grown gr9 hz2 (fun g hg => (HOA.out.lt g hg).1))
         clear own9 gr9))
      go_roundw
      case rel => exact ⟨k + 1, c9, A9, rfl, by go_num, by omega, Lib.hid (by rw [HSN.out, List.map_append]; have := HO9.out; rw [HSB.out] at this; exact this), HB9⟩
      case measure => simp [intOf]; omega
    · obtain rfl : k = s.size := by omega
      go_wp2
      go_ret
      have h1 := HO.out
      rw [List.take_of_length_le (by rw [bsl_len]; exact Nat.le_refl _)] at h1
      exact ⟨A, c, rfl, own_ptsB h1 (by rw [bsl_len]; omega), HW.out⟩
end Go.Proofs.YtcmmmgblkbbdnaaGreatDoor

namespace Pv
open Go Go.RowKit
/-- Is a text of a tree's language, reckoned. -/
def inTC (T : Tr) (l : Bs) : Option Bool := (runC (leadT T [[]] 0).1 (ptsB l)).map fun m => m.contains ((leadT T [[]] 0).2 : Int)
theorem Known.inTC {T : Tr} {l : Bs} {q : Bool} {r : Bool × Int} (h : Known T) (hl : l.length ≤ 1000) (hc : inTC T l = some q) (hr : BIn T.flat (ptsB l) r) : r = (q, 0) := by
  unfold Pv.inTC at hc
  cases hm : runC (leadT T [[]] 0).1 (ptsB l) with
  | none => rw [hm] at hc; cases hc
  | some m =>
    rw [hm] at hc
    obtain rfl := Option.some.inj hc
    exact h.in (by rw [ptsB_len]; omega) hm hr
end Pv
namespace Go.Proofs.YtcmmmgblkbbdnaaGreatDoor
open Go.RowKit Pv

set_option maxHeartbeats 2000000 in
set_option maxRecDepth 100000 in
theorem law8_in (t s : ByteArray) (T : Tr) (q : Bool) (w : World) (B : Nat) (h : Tells (bsl t) T) (hq : inTC T (bsl s) = some q) (hs : s.size ≤ 1000) (hT : TabU B w) (hB : B ≤ w.heap.size) :
    Calls Tryz.prog 15 #[.string t, .string s] w fun e w' => e = .returned (.bool q) ∧ Below w.heap.size w w' := by
  have HP := Lib.hid (pattern_Parse t T w B h h.plain hT hB)
  have HT := Lib.hid h
  have HQ := Lib.hid hq
  have HPS := Lib.hid (fun W => law8_points s W (by omega))
  obtain ⟨nt, hnt⟩ : ∃ nt, T.flat.length = nt := ⟨_, rfl⟩
  have HN := Lib.hid hnt
  have hn : nt ≤ 64 := by rw [← hnt]; exact h.known.size
  clear h hq hT hB hnt
  cases q
  all_goals
    go_enter Tryz.func15, Tryz.ntmps15
    go_wp2_with fail
    refine HP.out.mono ?_
    rintro e w1 ⟨A, c, rfl, k1, k2⟩
    have HB1 := Lib.hid k2
    have HAT := Lib.hid (rx_at k1 (by rw [HN.out]; omega) HT.out.sets)
    rw [HN.out]
    clear k1 k2
    go_wp2_with fail
    refine (HPS.out _).mono ?_
    rintro e w2 ⟨A2, c2, rfl, k3, k4⟩
    have HB2 := Lib.hid (HB1.out.trans (k4.mono HB1.out.size))
    have HI := Lib.hid (tongue_In A nt c T.flat A2 s.size c2 (ptsB (bsl s)) w2 (HAT.out.keep (Keep.of k4)) HN k3 (Lib.hid (by rw [ptsB_len, bsl_len])) (.inl hs))
    clear k3 k4
    go_wp2_with fail
    refine HI.out.mono ?_
    rintro e w3 ⟨k5, r, k6, rfl⟩
    obtain rfl := HT.out.known.inTC (by rw [bsl_len]; exact hs) HQ.out k6
    have HB3 := Lib.hid (HB2.out.trans (k5.mono HB2.out.size))
    clear k5 k6
    go_wp2
    go_ret
    exact ⟨rfl, HB3.out⟩
set_option maxHeartbeats 2000000 in
set_option maxRecDepth 100000 in
theorem law8_out (t s : ByteArray) (T : Tr) (q : Bool) (w : World) (B : Nat) (h : Tells (bsl t) T) (hq : inTC T (bsl s) = some q) (hs : s.size ≤ 1000) (hT : TabU B w) (hB : B ≤ w.heap.size) :
    Calls Tryz.prog 16 #[.string t, .string s] w fun e w' => e = .returned (.bool !q) ∧ Below w.heap.size w w' := by
  have HP := Lib.hid (pattern_Parse t T w B h h.plain hT hB)
  have HT := Lib.hid h
  have HQ := Lib.hid hq
  have HPS := Lib.hid (fun W => law8_points s W (by omega))
  obtain ⟨nt, hnt⟩ : ∃ nt, T.flat.length = nt := ⟨_, rfl⟩
  have HN := Lib.hid hnt
  have hn : nt ≤ 64 := by rw [← hnt]; exact h.known.size
  clear h hq hT hB hnt
  cases q
  all_goals
    go_enter Tryz.func16, Tryz.ntmps16
    go_wp2_with fail
    refine HP.out.mono ?_
    rintro e w1 ⟨A, c, rfl, k1, k2⟩
    have HB1 := Lib.hid k2
    have HAT := Lib.hid (rx_at k1 (by rw [HN.out]; omega) HT.out.sets)
    rw [HN.out]
    clear k1 k2
    go_wp2_with fail
    refine (HPS.out _).mono ?_
    rintro e w2 ⟨A2, c2, rfl, k3, k4⟩
    have HB2 := Lib.hid (HB1.out.trans (k4.mono HB1.out.size))
    have HI := Lib.hid (tongue_In A nt c T.flat A2 s.size c2 (ptsB (bsl s)) w2 (HAT.out.keep (Keep.of k4)) HN k3 (Lib.hid (by rw [ptsB_len, bsl_len])) (.inl hs))
    clear k3 k4
    go_wp2_with fail
    refine HI.out.mono ?_
    rintro e w3 ⟨k5, r, k6, rfl⟩
    obtain rfl := HT.out.known.inTC (by rw [bsl_len]; exact hs) HQ.out k6
    have HB3 := Lib.hid (HB2.out.trans (k5.mono HB2.out.size))
    clear k5 k6
    go_wp2
    go_ret
    exact ⟨rfl, HB3.out⟩

set_option maxHeartbeats 2000000 in
set_option maxRecDepth 100000 in
theorem law8_alive (w : World) (B : Nat) (hT : TabU B w) (hB : B ≤ w.heap.size) : Calls Tryz.prog 21 #[] w fun e w' => e = .returned (.bool true) ∧ Below w.heap.size w w' := by
  have H1 := Lib.hid (fun (w' : World) (hb : Below w.heap.size w w') => law8_in ⟨#[40, 97, 98, 41, 42, 99]⟩ ⟨#[99]⟩ t1 true w' B tells1 (by decide +kernel) (by decide) (hT.then hb hB) (Nat.le_trans hB hb.size))
  have H2 := Lib.hid (fun (w' : World) (hb : Below w.heap.size w w') => law8_in ⟨#[40, 97, 98, 41, 42, 99]⟩ ⟨#[97, 98, 97, 98, 99]⟩ t1 true w' B tells1 (by decide +kernel) (by decide) (hT.then hb hB) (Nat.le_trans hB hb.size))
  have H3 := Lib.hid (fun (w' : World) (hb : Below w.heap.size w w') => law8_out ⟨#[40, 97, 98, 41, 42, 99]⟩ ⟨#[97, 98, 97, 98]⟩ t1 false w' B tells1 (by decide +kernel) (by decide) (hT.then hb hB) (Nat.le_trans hB hb.size))
  have H4 := Lib.hid (fun (w' : World) (hb : Below w.heap.size w w') => law8_out ⟨#[40, 97, 98, 41, 42, 99]⟩ ⟨#[97, 99]⟩ t1 false w' B tells1 (by decide +kernel) (by decide) (hT.then hb hB) (Nat.le_trans hB hb.size))
  have HB0 := Lib.hid (Below.refl w.heap.size w)
  clear hT hB
  go_enter Tryz.func21, Tryz.ntmps21
  go_wp2_with fail
  refine (H1.out _ HB0.out).mono ?_
  rintro e w1 ⟨rfl, k⟩
  have HB1 := Lib.hid (HB0.out.trans (k.mono HB0.out.size))
  clear k
  go_wp2_with fail
  refine (H2.out _ HB1.out).mono ?_
  rintro e w2 ⟨rfl, k⟩
  have HB2 := Lib.hid (HB1.out.trans (k.mono HB1.out.size))
  clear k
  go_wp2_with fail
  refine (H3.out _ HB2.out).mono ?_
  rintro e w3 ⟨rfl, k⟩
  have HB3 := Lib.hid (HB2.out.trans (k.mono HB2.out.size))
  clear k
  go_wp2_with fail
  refine (H4.out _ HB3.out).mono ?_
  rintro e w4 ⟨rfl, k⟩
  have HB4 := Lib.hid (HB3.out.trans (k.mono HB3.out.size))
  clear k
  go_wp2
  go_ret
  exact ⟨rfl, HB4.out⟩
end Go.Proofs.YtcmmmgblkbbdnaaGreatDoor

namespace Pv
open Go Go.RowKit
theorem RRx.one {w : World} {f : Nat → Value} {x : Rx} (h : RRx w f x) : ∀ j, j < 5 → (f j).oneCell' = true := by
  intro j hj
  match j, hj with
  | 0, _ => obtain ⟨h0, _⟩ := h.1; rw [h0]; rfl
  | 1, _ => obtain ⟨A, c, hv, _⟩ := h.2; rw [hv]; rfl
  | 2, _ => exact RI.one h.3
  | 3, _ => exact RI.one h.4
  | 4, _ => exact RI.one h.5
end Pv
namespace Go.Proofs.YtcmmmgblkbbdnaaGreatDoor
open Go.RowKit Pv
theorem rrx_node {w : World} {k m x y : Int} (hk : 0 ≤ k ∧ k ≤ 255) (hm : -9223372036854775808 ≤ m ∧ m ≤ 9223372036854775807) (hx : -9223372036854775808 ≤ x ∧ x ≤ 9223372036854775807) (hy : -9223372036854775808 ≤ y ∧ y ≤ 9223372036854775807) :
    RelK 5 (RRx w) [.int .u8 k, .slice none 0 0, .int .i64 m, .int .i64 x, .int .i64 y] [⟨k, [], m, x, y⟩] :=
  RelK.one (f := fun j => [Value.int .u8 k, .slice none 0 0, .int .i64 m, .int .i64 x, .int .i64 y].getD j undef) rfl (fun j hj => by
    rcases (show j = 0 ∨ j = 1 ∨ j = 2 ∨ j = 3 ∨ j = 4 by omega) with rfl | rfl | rfl | rfl | rfl <;> rfl) ⟨⟨rfl, hk.1, hk.2⟩, ⟨none, 0, rfl, AtK.nil, Nat.le_refl _⟩, ⟨rfl, hm⟩, ⟨rfl, hx⟩, ⟨rfl, hy⟩⟩
theorem own_none {W : World} {N : Nat} (h : W.heap.size = N) : (W.alloc (.cells #[] TRx)).ownsRow N TRx 5 (.slice (some ⟨N, 0, none⟩) 0 0) 0 [] := by
  subst h
  exact ⟨by simp, .inr ⟨W.heap.size, 0, #[], rfl, Nat.le_refl _, by show (W.heap.push _)[W.heap.size]? = _; simp, Nat.le_refl _, by simp only [maxLen]; omega, by simp, by simp⟩⟩
theorem bthen {a b c : World} (h : Below a.heap.size a b) (k : Below b.heap.size b c) : Below a.heap.size a c := h.trans (k.mono h.size)
theorem at_own {w w9 : World} {b n c : Nat} {A : Option Addr} {us : List Value} {xs : List Rx} (h : w9.ownsRow b TRx 5 (.slice A n c) n us) (hr : RelK 5 (RRx w) us xs) (hn : n = xs.length) (hl : n ≤ 100000) : AtK w9 5 A (RRx w) xs := (AtK.of_own h hr hn (by omega)).2
theorem at_src {w W W' : World} {A : Option Addr} {xs : List Rx} (h : AtK W 5 A (RRx w) xs) (k : Keep W W') : ∃ us, Hid (RelK 5 (RRx w) us xs) ∧ Hid (Pv.Src W' A 5 xs.length us) := by
  obtain ⟨us, hr, hs⟩ := AtK.src (AtK.keep h k) (fun _ _ h => h.one)
  exact ⟨us, Lib.hid hr, Lib.hid hs⟩

set_option maxHeartbeats 8000000 in
set_option maxRecDepth 100000 in
theorem law_TongueAgain_in (A B : Option Addr) (nt ct nl cl n : Nat) (t : List Rx) (l : List Int) (w : World) (B0 : Nat) (ht : AtRx w A t) (HT : Hid (t.length = nt)) (hp : At w B RI l) (HL : Hid (l.length = nl)) (hn1 : 1 ≤ n) (hn2 : n ≤ 16) (hl8 : nl ≤ 8) (hT : TabU B0 w) (hB : B0 ≤ w.heap.size) :
    Calls Tryz.prog 4 #[.slice A nt ct, .slice B nl cl, .int .i64 n] w fun e w' => e = .returned (.bool true) ∧ Below w.heap.size w w' := by
  obtain ⟨i0, hi0, hz0, hs0, hb0⟩ := info_parts info_rx
  have HAL := Lib.hid (law8_alive w B0 hT hB)
  have HGR := Lib.hid (fun W (hb : Below w.heap.size w W) => ref07_Great A ct nt 40 t W (ht.keepR (Keep.of hb) (fun f x h => h.keep (Keep.of hb))) HT (by omega))
  have HAT := Lib.hid ht; have HLP := Lib.hid hp
  have e1 : (1 : Int) ≤ (n : Int) := by omega
  have e2 : (n : Int) ≤ 16 := by omega
  have e3 : (nl : Int) ≤ 8 := by omega
  clear ht hp hT hB
  go_enter Tryz.func4, Tryz.ntmps4
  go_wp2_with fail
  refine HAL.out.mono ?_
  rintro e w1 ⟨rfl, k⟩
  have HB1 := Lib.hid k
  clear k
  go_wp2_with fail
  refine (HGR.out _ HB1.out).mono ?_
  rintro e w' ⟨g, rfl, hg, rfl⟩
  have HGG := Lib.hid hg
  clear hg
  cases g with
  | true =>
    go_wp2
    go_ret
    exact ⟨rfl, HB1.out⟩
  | false =>
    have hnt : nt ≤ 40 := by have := (HGG.out rfl).1; rwa [HT.out] at this
    have AT := Lib.hid (AtK.keep HAT.out (Keep.of HB1.out))
    have L1 := Lib.hid (show t.length ≤ 100 by rw [HT.out]; omega)
    have HBw1 := HB1
    have ATT_w1 := AT
    have LEN_ATT_w1 := HT
    have PO8 := Lib.hid (own_fiveE (W := w1) (N := w1.heap.size) (.int .u8 4) (.slice none 0 0) (.int .i64 1) (.int .i64 0) (.int .i64 (-1)) rfl)
    obtain ⟨us8, RV8, SRA8⟩ := at_src ATT_w1.out (Keep.alloc w1 (.cells #[.int .u8 4, .slice none 0 0, .int .i64 1, .int .i64 0, .int .i64 (-1)] TRx))
    rw [LEN_ATT_w1.out] at SRA8
    have hz8 : w1.heap.size ≤ (w1.alloc (.cells #[.int .u8 4, .slice none 0 0, .int .i64 1, .int .i64 0, .int .i64 (-1)] TRx)).heap.size := by simp
    have Q8 : Hid (1 + nt ≤ maxLen) := Lib.hid (by simp only [maxLen]; omega)
    have Z8 : Hid ((1 + nt) * 56 ≤ 140737488355328) := Lib.hid (by omega)
    have BA8 := Lib.hid ((Below.refl w1.heap.size w1).alloc (Nat.le_refl _) (.cells #[.int .u8 4, .slice none 0 0, .int .i64 1, .int .i64 0, .int .i64 (-1)] TRx))
    go_wp2_with (first
    | (at_builtin
       refine wpList_append_src _ rfl (.tmp 43) (.tmp 44) 23 rfl w1.heap.size TRx i0 _ 5 56 Tryz.underlying23 hi0 hz0 hs0 hb0 rfl (by decide) (some ⟨w1.heap.size, 0, none⟩) 1 1 _ rfl PO8.out A nt ct _ rfl SRA8.out Q8.out Z8.out hz8 ?_
       go_must (intro A8 c8 w2 own9 gr9 _
                have AT8 : Hid (AtK w2 5 A8 (RRx w) (⟨4, [], 1, 0, -1⟩ :: t)) := Lib.hid (at_own own9 ((rrx_node (w := w) (k := 4) (m := 1) (x := 0) (y := (-1)) (by omega) (by omega) (by omega) (by omega)).app RV8.out) (by simp only [List.singleton_append, List.length_cons, LEN_ATT_w1.out]; omega) (by omega))
                have LEN_AT8 : Hid (((⟨4, [], 1, 0, -1⟩ :: t) : List Rx).length = 1 + nt) := Lib.hid (by simp only [List.length_cons, LEN_ATT_w1.out]; omega)
                have BW8 := Lib.hid (BA8.out.grown gr9 hz8 (fun k hk => (PO8.out.lt k hk).1))
                have HBw2 := Lib.hid (HBw1.out.trans (BW8.out.mono HBw1.out.size))
                clear own9 gr9
                have ATT_w2 := Lib.hid (AtK.keep HAT.out (Keep.of HBw2.out))
                have LEN_ATT_w2 := HT
                have PO9 := Lib.hid ((own_fiveE (W := w2) (N := w2.heap.size) (.int .u8 2) (.slice none 0 0) (.int .i64 2) (.int .i64 0) (.int .i64 0) rfl).alloc (.cells #[] TRx))
                have PE9 := Lib.hid (own_none (W := w2.alloc (.cells #[.int .u8 2, .slice none 0 0, .int .i64 2, .int .i64 0, .int .i64 0] TRx)) (N := w2.heap.size + 1) (by simp))
                have BA9 := Lib.hid (((Below.refl w2.heap.size w2).alloc (Nat.le_refl _) (.cells #[.int .u8 2, .slice none 0 0, .int .i64 2, .int .i64 0, .int .i64 0] TRx)).alloc (by simp) (.cells #[] TRx))
                obtain ⟨ua9, RA9, SA9⟩ := at_src ATT_w2.out (Keep.of BA9.out)
                rw [HT.out] at SA9
                have hz9 : w2.heap.size + 1 ≤ ((w2.alloc (.cells #[.int .u8 2, .slice none 0 0, .int .i64 2, .int .i64 0, .int .i64 0] TRx)).alloc (.cells #[] TRx)).heap.size := by simp
                have Q9a : Hid (0 + nt ≤ maxLen) := Lib.hid (by simp only [maxLen]; omega)
                have Z9a : Hid ((0 + nt) * 56 ≤ 140737488355328) := Lib.hid (by omega)))
    | (at_builtin
       refine wpList_append_src _ rfl (.tmp 48) (.tmp 49) 23 rfl (w2.heap.size + 1) TRx i0 _ 5 56 Tryz.underlying23 hi0 hz0 hs0 hb0 rfl (by decide) (some ⟨w2.heap.size + 1, 0, none⟩) 0 0 _ rfl PE9.out A nt ct _ rfl SA9.out Q9a.out Z9a.out hz9 ?_
       go_must (intro Aa9 ca9 wa9 own9 gr9 _
                simp only [Nat.zero_add, List.nil_append] at own9
                have OA9 := Lib.hid own9
                have PO9a := Lib.hid (PO9.out.kept gr9 (.inr (by simp [Value.ownBlock])))
                have BB9 := Lib.hid (BA9.out.grown gr9 (by simp; omega) (fun k hk => by have := (PE9.out.lt k hk).1; omega))
                obtain ⟨ub9, RB9, SB9⟩ := at_src AT8.out (Keep.of BB9.out)
                rw [LEN_AT8.out] at SB9
                have hz9b : w2.heap.size + 1 ≤ wa9.heap.size := by have := gr9.size; simp at this; omega
                have Q9b : Hid (nt + (1 + nt) ≤ maxLen) := Lib.hid (by simp only [maxLen]; omega)
                have Z9b : Hid ((nt + (1 + nt)) * 56 ≤ 140737488355328) := Lib.hid (by omega)
                clear own9 gr9))
    | (at_builtin
       refine wpList_append_src _ rfl (.tmp 50) (.tmp 51) 23 rfl (w2.heap.size + 1) TRx i0 _ 5 56 Tryz.underlying23 hi0 hz0 hs0 hb0 rfl (by decide) Aa9 ca9 nt _ rfl OA9.out A8 (1 + nt) c8 _ rfl SB9.out Q9b.out Z9b.out hz9b ?_
       go_must (intro Ab9 cb9 wb9 own9 gr9 _
                have PO9b := Lib.hid (PO9a.out.kept gr9 (by
                  cases hv : (Value.slice Aa9 nt ca9).ownBlock with
                  | none => exact .inr (by simp [Value.ownBlock])
                  | some k => exact .inr (by have := (OA9.out.lt k hv).1; simp [Value.ownBlock]; omega)))
                have BC9 := Lib.hid (BB9.out.grown gr9 (by omega) (fun k hk => by have := (OA9.out.lt k hk).1; omega))
                have ATB9 := Lib.hid (at_own own9 (RA9.out.app RB9.out) (by simp only [List.length_append, HT.out, LEN_AT8.out]) (by omega))
                obtain ⟨uc9, RC9, SC9⟩ := at_src ATB9.out (Keep.refl _)
                rw [show (t ++ (⟨4, [], 1, 0, -1⟩ :: t) : List Rx).length = nt + (1 + nt) by simp only [List.length_append, HT.out, LEN_AT8.out]] at SC9
                have hz9c : w2.heap.size ≤ wb9.heap.size := by have := gr9.size; omega
                have Q9c : Hid (1 + (nt + (1 + nt)) ≤ maxLen) := Lib.hid (by simp only [maxLen]; omega)
                have Z9c : Hid ((1 + (nt + (1 + nt))) * 56 ≤ 140737488355328) := Lib.hid (by omega)
                clear own9 gr9))
    | (at_builtin
       refine wpList_append_src _ rfl (.tmp 47) (.tmp 52) 23 rfl w2.heap.size TRx i0 _ 5 56 Tryz.underlying23 hi0 hz0 hs0 hb0 rfl (by decide) (some ⟨w2.heap.size, 0, none⟩) 1 1 _ rfl PO9b.out Ab9 (nt + (1 + nt)) cb9 _ rfl SC9.out Q9c.out Z9c.out hz9c ?_
       go_must (intro A9 c9 w3 own9 gr9 _
                have AT9 : Hid (AtK w3 5 A9 (RRx w) (⟨2, [], 2, 0, 0⟩ :: (t ++ (⟨4, [], 1, 0, -1⟩ :: t)))) := Lib.hid (at_own own9 ((rrx_node (w := w) (k := 2) (m := 2) (x := 0) (y := 0) (by omega) (by omega) (by omega) (by omega)).app RC9.out) (by simp only [List.singleton_append, List.length_cons, List.length_append, HT.out, LEN_AT8.out]; omega) (by omega))
                have LEN_AT9 : Hid ((⟨2, [], 2, 0, 0⟩ :: (t ++ (⟨4, [], 1, 0, -1⟩ :: t)) : List Rx).length = 1 + (nt + (1 + nt))) := Lib.hid (by simp only [List.length_cons, List.length_append, HT.out, LEN_AT8.out]; omega)
                have BW9 := Lib.hid (BC9.out.grown gr9 hz9c (fun k hk => (PO9b.out.lt k hk).1))
                have HBw3 := Lib.hid (HBw2.out.trans (BW9.out.mono HBw2.out.size))
                clear own9 gr9
                have ATT_w3 := Lib.hid (AtK.keep HAT.out (Keep.of HBw3.out))
                have LEN_ATT_w3 := HT
                have PO10 := Lib.hid (own_fiveE (W := w3) (N := w3.heap.size) (.int .u8 4) (.slice none 0 0) (.int .i64 1) (.int .i64 n) (.int .i64 n) rfl)
                obtain ⟨us10, RV10, SRA10⟩ := at_src ATT_w3.out (Keep.alloc w3 (.cells #[.int .u8 4, .slice none 0 0, .int .i64 1, .int .i64 n, .int .i64 n] TRx))
                rw [LEN_ATT_w3.out] at SRA10
                have hz10 : w3.heap.size ≤ (w3.alloc (.cells #[.int .u8 4, .slice none 0 0, .int .i64 1, .int .i64 n, .int .i64 n] TRx)).heap.size := by simp
                have Q10 : Hid (1 + nt ≤ maxLen) := Lib.hid (by simp only [maxLen]; omega)
                have Z10 : Hid ((1 + nt) * 56 ≤ 140737488355328) := Lib.hid (by omega)
                have BA10 := Lib.hid ((Below.refl w3.heap.size w3).alloc (Nat.le_refl _) (.cells #[.int .u8 4, .slice none 0 0, .int .i64 1, .int .i64 n, .int .i64 n] TRx))))
    | (at_builtin
       refine wpList_append_src _ rfl (.tmp 57) (.tmp 58) 23 rfl w3.heap.size TRx i0 _ 5 56 Tryz.underlying23 hi0 hz0 hs0 hb0 rfl (by decide) (some ⟨w3.heap.size, 0, none⟩) 1 1 _ rfl PO10.out A nt ct _ rfl SRA10.out Q10.out Z10.out hz10 ?_
       go_must (intro A10 c10 w4 own9 gr9 _
                have AT10 : Hid (AtK w4 5 A10 (RRx w) (⟨4, [], 1, n, n⟩ :: t)) := Lib.hid (at_own own9 ((rrx_node (w := w) (k := 4) (m := 1) (x := n) (y := n) (by omega) (by omega) (by omega) (by omega)).app RV10.out) (by simp only [List.singleton_append, List.length_cons, LEN_ATT_w3.out]; omega) (by omega))
                have LEN_AT10 : Hid (((⟨4, [], 1, n, n⟩ :: t) : List Rx).length = 1 + nt) := Lib.hid (by simp only [List.length_cons, LEN_ATT_w3.out]; omega)
                have BW10 := Lib.hid (BA10.out.grown gr9 hz10 (fun k hk => (PO10.out.lt k hk).1))
                have HBw4 := Lib.hid (HBw3.out.trans (BW10.out.mono HBw3.out.size))
                clear own9 gr9
                have ATT_w4 := Lib.hid (AtK.keep HAT.out (Keep.of HBw4.out))
                have LEN_ATT_w4 := HT
                have PO11 := Lib.hid (own_fiveE (W := w4) (N := w4.heap.size) (.int .u8 4) (.slice none 0 0) (.int .i64 1) (.int .i64 ((n : Int) - 1)) (.int .i64 ((n : Int) - 1)) rfl)
                obtain ⟨us11, RV11, SRA11⟩ := at_src ATT_w4.out (Keep.alloc w4 (.cells #[.int .u8 4, .slice none 0 0, .int .i64 1, .int .i64 ((n : Int) - 1), .int .i64 ((n : Int) - 1)] TRx))
                rw [LEN_ATT_w4.out] at SRA11
                have hz11 : w4.heap.size ≤ (w4.alloc (.cells #[.int .u8 4, .slice none 0 0, .int .i64 1, .int .i64 ((n : Int) - 1), .int .i64 ((n : Int) - 1)] TRx)).heap.size := by simp
                have Q11 : Hid (1 + nt ≤ maxLen) := Lib.hid (by simp only [maxLen]; omega)
                have Z11 : Hid ((1 + nt) * 56 ≤ 140737488355328) := Lib.hid (by omega)
                have BA11 := Lib.hid ((Below.refl w4.heap.size w4).alloc (Nat.le_refl _) (.cells #[.int .u8 4, .slice none 0 0, .int .i64 1, .int .i64 ((n : Int) - 1), .int .i64 ((n : Int) - 1)] TRx))))
    | (at_builtin
       refine wpList_append_src _ rfl (.tmp 65) (.tmp 66) 23 rfl w4.heap.size TRx i0 _ 5 56 Tryz.underlying23 hi0 hz0 hs0 hb0 rfl (by decide) (some ⟨w4.heap.size, 0, none⟩) 1 1 _ rfl PO11.out A nt ct _ rfl SRA11.out Q11.out Z11.out hz11 ?_
       go_must (intro A11 c11 w5 own9 gr9 _
                have AT11 : Hid (AtK w5 5 A11 (RRx w) (⟨4, [], 1, (n : Int) - 1, (n : Int) - 1⟩ :: t)) := Lib.hid (at_own own9 ((rrx_node (w := w) (k := 4) (m := 1) (x := ((n : Int) - 1)) (y := ((n : Int) - 1)) (by omega) (by omega) (by omega) (by omega)).app RV11.out) (by simp only [List.singleton_append, List.length_cons, LEN_ATT_w4.out]; omega) (by omega))
                have LEN_AT11 : Hid (((⟨4, [], 1, (n : Int) - 1, (n : Int) - 1⟩ :: t) : List Rx).length = 1 + nt) := Lib.hid (by simp only [List.length_cons, LEN_ATT_w4.out]; omega)
                have BW11 := Lib.hid (BA11.out.grown gr9 hz11 (fun k hk => (PO11.out.lt k hk).1))
                have HBw5 := Lib.hid (HBw4.out.trans (BW11.out.mono HBw4.out.size))
                clear own9 gr9
                have ATT_w5 := Lib.hid (AtK.keep HAT.out (Keep.of HBw5.out))
                have LEN_ATT_w5 := HT
                have PO12 := Lib.hid ((own_fiveE (W := w5) (N := w5.heap.size) (.int .u8 2) (.slice none 0 0) (.int .i64 2) (.int .i64 0) (.int .i64 0) rfl).alloc (.cells #[] TRx))
                have PE12 := Lib.hid (own_none (W := w5.alloc (.cells #[.int .u8 2, .slice none 0 0, .int .i64 2, .int .i64 0, .int .i64 0] TRx)) (N := w5.heap.size + 1) (by simp))
                have BA12 := Lib.hid (((Below.refl w5.heap.size w5).alloc (Nat.le_refl _) (.cells #[.int .u8 2, .slice none 0 0, .int .i64 2, .int .i64 0, .int .i64 0] TRx)).alloc (by simp) (.cells #[] TRx))
                obtain ⟨ua12, RA12, SA12⟩ := at_src ATT_w5.out (Keep.of BA12.out)
                rw [HT.out] at SA12
                have hz12 : w5.heap.size + 1 ≤ ((w5.alloc (.cells #[.int .u8 2, .slice none 0 0, .int .i64 2, .int .i64 0, .int .i64 0] TRx)).alloc (.cells #[] TRx)).heap.size := by simp
                have Q12a : Hid (0 + nt ≤ maxLen) := Lib.hid (by simp only [maxLen]; omega)
                have Z12a : Hid ((0 + nt) * 56 ≤ 140737488355328) := Lib.hid (by omega)))
    | (at_builtin
       refine wpList_append_src _ rfl (.tmp 70) (.tmp 71) 23 rfl (w5.heap.size + 1) TRx i0 _ 5 56 Tryz.underlying23 hi0 hz0 hs0 hb0 rfl (by decide) (some ⟨w5.heap.size + 1, 0, none⟩) 0 0 _ rfl PE12.out A nt ct _ rfl SA12.out Q12a.out Z12a.out hz12 ?_
       go_must (intro Aa12 ca12 wa12 own9 gr9 _
                simp only [Nat.zero_add, List.nil_append] at own9
                have OA12 := Lib.hid own9
                have PO12a := Lib.hid (PO12.out.kept gr9 (.inr (by simp [Value.ownBlock])))
                have BB12 := Lib.hid (BA12.out.grown gr9 (by simp; omega) (fun k hk => by have := (PE12.out.lt k hk).1; omega))
                obtain ⟨ub12, RB12, SB12⟩ := at_src AT11.out (Keep.of BB12.out)
                rw [LEN_AT11.out] at SB12
                have hz12b : w5.heap.size + 1 ≤ wa12.heap.size := by have := gr9.size; simp at this; omega
                have Q12b : Hid (nt + (1 + nt) ≤ maxLen) := Lib.hid (by simp only [maxLen]; omega)
                have Z12b : Hid ((nt + (1 + nt)) * 56 ≤ 140737488355328) := Lib.hid (by omega)
                clear own9 gr9))
    | (at_builtin
       refine wpList_append_src _ rfl (.tmp 72) (.tmp 73) 23 rfl (w5.heap.size + 1) TRx i0 _ 5 56 Tryz.underlying23 hi0 hz0 hs0 hb0 rfl (by decide) Aa12 ca12 nt _ rfl OA12.out A11 (1 + nt) c11 _ rfl SB12.out Q12b.out Z12b.out hz12b ?_
       go_must (intro Ab12 cb12 wb12 own9 gr9 _
                have PO12b := Lib.hid (PO12a.out.kept gr9 (by
                  cases hv : (Value.slice Aa12 nt ca12).ownBlock with
                  | none => exact .inr (by simp [Value.ownBlock])
                  | some k => exact .inr (by have := (OA12.out.lt k hv).1; simp [Value.ownBlock]; omega)))
                have BC12 := Lib.hid (BB12.out.grown gr9 (by omega) (fun k hk => by have := (OA12.out.lt k hk).1; omega))
                have ATB12 := Lib.hid (at_own own9 (RA12.out.app RB12.out) (by simp only [List.length_append, HT.out, LEN_AT11.out]) (by omega))
                obtain ⟨uc12, RC12, SC12⟩ := at_src ATB12.out (Keep.refl _)
                rw [show (t ++ (⟨4, [], 1, (n : Int) - 1, (n : Int) - 1⟩ :: t) : List Rx).length = nt + (1 + nt) by simp only [List.length_append, HT.out, LEN_AT11.out]] at SC12
                have hz12c : w5.heap.size ≤ wb12.heap.size := by have := gr9.size; omega
                have Q12c : Hid (1 + (nt + (1 + nt)) ≤ maxLen) := Lib.hid (by simp only [maxLen]; omega)
                have Z12c : Hid ((1 + (nt + (1 + nt))) * 56 ≤ 140737488355328) := Lib.hid (by omega)
                clear own9 gr9))
    | (at_builtin
       refine wpList_append_src _ rfl (.tmp 69) (.tmp 74) 23 rfl w5.heap.size TRx i0 _ 5 56 Tryz.underlying23 hi0 hz0 hs0 hb0 rfl (by decide) (some ⟨w5.heap.size, 0, none⟩) 1 1 _ rfl PO12b.out Ab12 (nt + (1 + nt)) cb12 _ rfl SC12.out Q12c.out Z12c.out hz12c ?_
       go_must (intro A12 c12 w6 own9 gr9 _
                have AT12 : Hid (AtK w6 5 A12 (RRx w) (⟨2, [], 2, 0, 0⟩ :: (t ++ (⟨4, [], 1, (n : Int) - 1, (n : Int) - 1⟩ :: t)))) := Lib.hid (at_own own9 ((rrx_node (w := w) (k := 2) (m := 2) (x := 0) (y := 0) (by omega) (by omega) (by omega) (by omega)).app RC12.out) (by simp only [List.singleton_append, List.length_cons, List.length_append, HT.out, LEN_AT11.out]; omega) (by omega))
                have LEN_AT12 : Hid ((⟨2, [], 2, 0, 0⟩ :: (t ++ (⟨4, [], 1, (n : Int) - 1, (n : Int) - 1⟩ :: t)) : List Rx).length = 1 + (nt + (1 + nt))) := Lib.hid (by simp only [List.length_cons, List.length_append, HT.out, LEN_AT11.out]; omega)
                have BW12 := Lib.hid (BC12.out.grown gr9 hz12c (fun k hk => (PO12b.out.lt k hk).1))
                have HBw6 := Lib.hid (HBw5.out.trans (BW12.out.mono HBw5.out.size))
                clear own9 gr9)))
    have IKa := Lib.hid (bthen (bthen (bthen (bthen (Below.refl _ _) BW9.out) BW10.out) BW11.out) BW12.out)
    have IAa := Lib.hid (tongue_In A8 (1 + nt) c8 (⟨4, [], 1, 0, -1⟩ :: t) B nl cl l w6 (AtK.keepR AT8.out (Keep.of IKa.out) (fun f x h => h.keep (Keep.of HBw6.out))) LEN_AT8 (At.keep HLP.out (Keep.of HBw6.out)) HL (.inl (by omega)))
    go_wp2_with fail
    refine IAa.out.mono ?_
    rintro e Wa ⟨k5, ⟨a1, a2⟩, k6, rfl⟩
    have Ca := Lib.hid k5; have HRa := Lib.hid k6
    have HBa := Lib.hid (bthen HBw6.out k5)
    clear k5 k6
    have IKb := Lib.hid (bthen (bthen (bthen (bthen (Below.refl _ _) BW10.out) BW11.out) BW12.out) Ca.out)
    have IAb := Lib.hid (tongue_In A9 (1 + (nt + (1 + nt))) c9 (⟨2, [], 2, 0, 0⟩ :: (t ++ (⟨4, [], 1, 0, -1⟩ :: t))) B nl cl l Wa (AtK.keepR AT9.out (Keep.of IKb.out) (fun f x h => h.keep (Keep.of HBa.out))) LEN_AT9 (At.keep HLP.out (Keep.of HBa.out)) HL (.inl (by omega)))
    go_wp2_with fail
    refine IAb.out.mono ?_
    rintro e Wb ⟨k5, ⟨b1, b2⟩, k6, rfl⟩
    have Cb := Lib.hid k5; have HRb := Lib.hid k6
    have HBb := Lib.hid (bthen HBa.out k5)
    clear k5 k6
    have IKc := Lib.hid (bthen (bthen (bthen (bthen (Below.refl _ _) BW11.out) BW12.out) Ca.out) Cb.out)
    have IAc := Lib.hid (tongue_In A10 (1 + nt) c10 (⟨4, [], 1, n, n⟩ :: t) B nl cl l Wb (AtK.keepR AT10.out (Keep.of IKc.out) (fun f x h => h.keep (Keep.of HBb.out))) LEN_AT10 (At.keep HLP.out (Keep.of HBb.out)) HL (.inl (by omega)))
    go_wp2_with fail
    refine IAc.out.mono ?_
    rintro e Wc ⟨k5, ⟨c1, c2⟩, k6, rfl⟩
    have Cc := Lib.hid k5; have HRc := Lib.hid k6
    have HBc := Lib.hid (bthen HBb.out k5)
    clear k5 k6
    have IKd := Lib.hid (bthen (bthen (bthen (Below.refl _ _) Ca.out) Cb.out) Cc.out)
    have IAd := Lib.hid (tongue_In A12 (1 + (nt + (1 + nt))) c12 (⟨2, [], 2, 0, 0⟩ :: (t ++ (⟨4, [], 1, (n : Int) - 1, (n : Int) - 1⟩ :: t))) B nl cl l Wc (AtK.keepR AT12.out (Keep.of IKd.out) (fun f x h => h.keep (Keep.of HBc.out))) LEN_AT12 (At.keep HLP.out (Keep.of HBc.out)) HL (.inl (by omega)))
    go_wp2_with fail
    refine IAd.out.mono ?_
    rintro e Wd ⟨k5, ⟨d1, d2⟩, k6, rfl⟩
    have Cd := Lib.hid k5; have HRd := Lib.hid k6
    have HBd := Lib.hid (bthen HBc.out k5)
    clear k5 k6
    have HLAW := Lib.hid (again_law (t := t) (l := l) (n := n) (by rw [HL.out]; omega) hn1 hn2 HRa.out HRb.out HRc.out HRd.out)
    obtain ⟨x1, x2, x3, x4, x5⟩ := HLAW.out
    simp only at x1 x2 x3 x4 x5
    have HX5 := Lib.hid x5
    have HX3 := Lib.hid x3; have HX4 := Lib.hid x4
    clear x3 x4 x5 HLAW
    rcases x1 with x1 | x1
    · rcases x2 with x2 | x2
      · obtain ⟨y1, y2, y3, y4, y5⟩ := HX5.out x1 x2
        rw [HL.out] at y3
        clear HX5 HX3 HX4
        subst x1; subst x2; subst y1; subst y2; subst y4
        have Y3 := Lib.hid y3; have Y5 := Lib.hid y5
        clear y3 y5
        by_cases hz : nl = 0
        · have Y6 : Hid (a1 = true) := Lib.hid (by rw [Y3.out]; simp [hz])
          have y6 := Y6.out
          subst y6; subst hz
          clear Y3 Y5
          cases c1 <;> cases b1
          all_goals
            go_wp2
            go_ret
            exact ⟨rfl, HBd.out⟩
        · have Y6 : Hid (a1 = b1) := Lib.hid (by rw [Y3.out]; simp [hz])
          have y6 := Y6.out
          subst y6
          have z1 : ((nl : Int) == 0) = false := by simp; omega
          clear Y3
          cases c1 <;> cases a1
          case true.false => exact absurd (Y5.out rfl) (by simp)
          all_goals
            clear Y5
            go_wp2
            go_ret
            exact ⟨rfl, HBd.out⟩
      · subst x1; subst x2
        clear HX5 HX3 HX4
        go_wp2
        go_ret
        exact ⟨rfl, HBd.out⟩
    · subst x1
      clear HX5 HX3 HX4 x2
      go_wp2
      go_ret
      exact ⟨rfl, HBd.out⟩
set_option maxHeartbeats 2000000 in
set_option maxRecDepth 100000 in
theorem law_TongueAgain_out (A B : Option Addr) (nt ct nl cl : Nat) (n : Int) (t : List Rx) (w : World) (B0 : Nat) (ht : AtRx w A t) (HT : Hid (t.length = nt)) (hl : nl ≤ 140737488355328) (ho : 8 < nl ∨ (nl ≤ 8 ∧ n < 1) ∨ (nl ≤ 8 ∧ 1 ≤ n ∧ 16 < n)) (hT : TabU B0 w) (hB : B0 ≤ w.heap.size) :
    Calls Tryz.prog 4 #[.slice A nt ct, .slice B nl cl, .int .i64 n] w fun e w' => e = .returned (.bool true) ∧ Below w.heap.size w w' := by
  have HAL := Lib.hid (law8_alive w B0 hT hB)
  have HGR := Lib.hid (fun W (hb : Below w.heap.size w W) => ref07_Great A ct nt 40 t W (ht.keepR (Keep.of hb) (fun f x h => h.keep (Keep.of hb))) HT (by omega))
  clear ht hT hB
  rcases ho with h1 | ⟨h1, h2⟩ | ⟨h1, h2, h3⟩
  · have e1 : (8 : Int) < (nl : Int) := by omega
    clear h1
    go_enter Tryz.func4, Tryz.ntmps4
    go_wp2_with fail
    refine HAL.out.mono ?_
    rintro e w1 ⟨rfl, k⟩
    have HB1 := Lib.hid k
    clear k
    go_wp2_with fail
    refine (HGR.out _ HB1.out).mono ?_
    rintro e w' ⟨g, rfl, hg, rfl⟩
    clear hg
    cases g
    all_goals
      go_wp2
      go_ret
      exact ⟨rfl, HB1.out⟩
  · have e1 : (nl : Int) ≤ 8 := by omega
    clear h1
    go_enter Tryz.func4, Tryz.ntmps4
    go_wp2_with fail
    refine HAL.out.mono ?_
    rintro e w1 ⟨rfl, k⟩
    have HB1 := Lib.hid k
    clear k
    go_wp2_with fail
    refine (HGR.out _ HB1.out).mono ?_
    rintro e w' ⟨g, rfl, hg, rfl⟩
    clear hg
    cases g
    all_goals
      go_wp2
      go_ret
      exact ⟨rfl, HB1.out⟩
  · have e1 : (nl : Int) ≤ 8 := by omega
    clear h1
    go_enter Tryz.func4, Tryz.ntmps4
    go_wp2_with fail
    refine HAL.out.mono ?_
    rintro e w1 ⟨rfl, k⟩
    have HB1 := Lib.hid k
    clear k
    go_wp2_with fail
    refine (HGR.out _ HB1.out).mono ?_
    rintro e w' ⟨g, rfl, hg, rfl⟩
    clear hg
    cases g
    all_goals
      go_wp2
      go_ret
      exact ⟨rfl, HB1.out⟩
theorem law_TongueAgain (A B : Option Addr) (nt ct nl cl : Nat) (n : Int) (t : List Rx) (l : List Int) (w : World) (B0 : Nat) (ht : AtRx w A t) (HT : Hid (t.length = nt)) (hp : At w B RI l) (HL : Hid (l.length = nl)) (hT : TabU B0 w) (hB : B0 ≤ w.heap.size) :
    Calls Tryz.prog 4 #[.slice A nt ct, .slice B nl cl, .int .i64 n] w fun e w' => e = .returned (.bool true) ∧ Below w.heap.size w w' := by
  have hnl : nl ≤ 140737488355328 := by have := hp.1; rwa [HL.out] at this
  by_cases h : nl ≤ 8 ∧ 1 ≤ n ∧ n ≤ 16
  · obtain ⟨h1, h2, h3⟩ := h
    obtain ⟨k, rfl⟩ : ∃ k : Nat, n = k := ⟨n.toNat, by omega⟩
    exact law_TongueAgain_in A B nt ct nl cl k t l w B0 ht HT hp HL (by omega) (by omega) h1 hT hB
  · exact law_TongueAgain_out A B nt ct nl cl n t w B0 ht HT hnl (by omega) hT hB
end Go.Proofs.YtcmmmgblkbbdnaaGreatDoor
