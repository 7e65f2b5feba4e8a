/- Walks: alive of the subset's chapter. PUT1 -/
import Derived.Test.YtilhicefhhgecaaGreatDoorO15n
import Derived.Test.YtilhicefhhgecaaGreatDoorHcn
import Derived.Test.YtilhicefhhgecaaGreatDoorWjn
import Derived.Deep.RegionHeld3
import Derived.Test.YtilhicefhhgecaaGreatDoorWhn
import Derived.Test.YtilhicefhhgecaaGreatDoorDfan
import Derived.Test.YtilhicefhhgecaaGreatDoorGnn
import Derived.Test.YtilhicefhhgecaaGreatDoorQvn
import Derived.Test.YtilhicefhhgecaaGreatDoorRbn
namespace Pv
open Go Go.RowKit
theorem rel_ints : ∀ {l : List Int}, (∀ x, x ∈ l → -9223372036854775808 ≤ x ∧ x ≤ 9223372036854775807) → Rel RI (l.map (Value.int .i64)) l := fun {l} h => ⟨by simp, fun i u x hu hx => by
  rw [List.getElem?_map, hx] at hu
  obtain rfl := Option.some.inj hu
  exact ⟨rfl, h x (mem_of_get hx)⟩⟩
theorem rel_bools (l : List Bool) : Rel RB (l.map Value.bool) l := ⟨by simp, fun i u x hu hx => by
  rw [List.getElem?_map, hx] at hu
  obtain rfl := Option.some.inj hu
  rfl⟩
/-- A row of ints in a block. -/
theorem isInts_blk {w : World} {g n : Nat} {t : TypeId} {l : List Int} {cs : Array Value} (h : Blk w g t cs) (hc : cs.toList = l.map (Value.int .i64)) (hn : l.length = n) (hl : ∀ x, x ∈ l → -9223372036854775808 ≤ x ∧ x ≤ 9223372036854775807) (hz : n ≤ 1000) : IsInts w (.slice (some ⟨g, 0, none⟩) n n) l := by
  subst hn
  exact ⟨_, _, rfl, At.ofBlk h (by rw [hc]; exact rel_ints hl) (by omega), Nat.le_refl _⟩
theorem IsInts.at {w : World} {A : Option Addr} {n c : Nat} {l : List Int} (h : IsInts w (.slice A n c) l) : At w A RI l := by
  obtain ⟨A', c', e, h, _⟩ := h
  injection e with e1 _ _
  subst e1
  exact h
end Pv
namespace Go.Proofs.YtilhicefhhgecaaGreatDoor
open Go.RowKit Pv
def d10 : Dfa := ⟨[0, 97, 98], [[1, 2, 1], [1, 1, 1], [1, 1, 1]], [false, false, true]⟩
theorem d10_ok : d10.Ok := okC_is (by decide +kernel)
theorem d10_out : Out (leadT (chX 97) [[]] 0).1 (((leadT (chX 97) [[]] 0).2 : Nat) : Int) d10 0 := subB_is tells7.known (by decide +kernel)
theorem d10_lit (w : World) : DfaAt ((((((w.alloc (.cells #[.int .i64 0, .int .i64 97, .int .i64 98] 3)).alloc (.cells #[.int .i64 1, .int .i64 2, .int .i64 1] 3)).alloc (.cells #[.int .i64 1, .int .i64 1, .int .i64 1] 3)).alloc (.cells #[.int .i64 1, .int .i64 1, .int .i64 1] 3)).alloc (.cells #[.slice (some ⟨w.heap.size + 1, 0, none⟩) 3 3, .slice (some ⟨w.heap.size + 1 + 1, 0, none⟩) 3 3, .slice (some ⟨w.heap.size + 1 + 1 + 1, 0, none⟩) 3 3] 22)).alloc (.cells #[.bool false, .bool false, .bool true] 4))
    (some ⟨w.heap.size, 0, none⟩) (some ⟨w.heap.size + 1 + 1 + 1 + 1, 0, none⟩) (some ⟨w.heap.size + 1 + 1 + 1 + 1 + 1, 0, none⟩) 3 3 3 d10 := by
  have b0 := (((((blk_at (W := w) 3 #[.int .i64 0, .int .i64 97, .int .i64 98] rfl).alloc (.cells #[.int .i64 1, .int .i64 2, .int .i64 1] 3)).alloc (.cells #[.int .i64 1, .int .i64 1, .int .i64 1] 3)).alloc (.cells #[.int .i64 1, .int .i64 1, .int .i64 1] 3)).alloc (.cells #[.slice (some ⟨w.heap.size + 1, 0, none⟩) 3 3, .slice (some ⟨w.heap.size + 1 + 1, 0, none⟩) 3 3, .slice (some ⟨w.heap.size + 1 + 1 + 1, 0, none⟩) 3 3] 22)).alloc (.cells #[.bool false, .bool false, .bool true] 4)
  have b1 := ((((blk_at (W := (w.alloc (.cells #[.int .i64 0, .int .i64 97, .int .i64 98] 3))) (n := w.heap.size + 1) 3 #[.int .i64 1, .int .i64 2, .int .i64 1] (by simp)).alloc (.cells #[.int .i64 1, .int .i64 1, .int .i64 1] 3)).alloc (.cells #[.int .i64 1, .int .i64 1, .int .i64 1] 3)).alloc (.cells #[.slice (some ⟨w.heap.size + 1, 0, none⟩) 3 3, .slice (some ⟨w.heap.size + 1 + 1, 0, none⟩) 3 3, .slice (some ⟨w.heap.size + 1 + 1 + 1, 0, none⟩) 3 3] 22)).alloc (.cells #[.bool false, .bool false, .bool true] 4)
  have b2 := (((blk_at (W := ((w.alloc (.cells #[.int .i64 0, .int .i64 97, .int .i64 98] 3)).alloc (.cells #[.int .i64 1, .int .i64 2, .int .i64 1] 3))) (n := w.heap.size + 1 + 1) 3 #[.int .i64 1, .int .i64 1, .int .i64 1] (by simp)).alloc (.cells #[.int .i64 1, .int .i64 1, .int .i64 1] 3)).alloc (.cells #[.slice (some ⟨w.heap.size + 1, 0, none⟩) 3 3, .slice (some ⟨w.heap.size + 1 + 1, 0, none⟩) 3 3, .slice (some ⟨w.heap.size + 1 + 1 + 1, 0, none⟩) 3 3] 22)).alloc (.cells #[.bool false, .bool false, .bool true] 4)
  have b3 := ((blk_at (W := (((w.alloc (.cells #[.int .i64 0, .int .i64 97, .int .i64 98] 3)).alloc (.cells #[.int .i64 1, .int .i64 2, .int .i64 1] 3)).alloc (.cells #[.int .i64 1, .int .i64 1, .int .i64 1] 3))) (n := w.heap.size + 1 + 1 + 1) 3 #[.int .i64 1, .int .i64 1, .int .i64 1] (by simp)).alloc (.cells #[.slice (some ⟨w.heap.size + 1, 0, none⟩) 3 3, .slice (some ⟨w.heap.size + 1 + 1, 0, none⟩) 3 3, .slice (some ⟨w.heap.size + 1 + 1 + 1, 0, none⟩) 3 3] 22)).alloc (.cells #[.bool false, .bool false, .bool true] 4)
  have b4 := (blk_at (W := ((((w.alloc (.cells #[.int .i64 0, .int .i64 97, .int .i64 98] 3)).alloc (.cells #[.int .i64 1, .int .i64 2, .int .i64 1] 3)).alloc (.cells #[.int .i64 1, .int .i64 1, .int .i64 1] 3)).alloc (.cells #[.int .i64 1, .int .i64 1, .int .i64 1] 3))) (n := w.heap.size + 1 + 1 + 1 + 1) 22 #[.slice (some ⟨w.heap.size + 1, 0, none⟩) 3 3, .slice (some ⟨w.heap.size + 1 + 1, 0, none⟩) 3 3, .slice (some ⟨w.heap.size + 1 + 1 + 1, 0, none⟩) 3 3] (by simp)).alloc (.cells #[.bool false, .bool false, .bool true] 4)
  have b5 := blk_at (W := (((((w.alloc (.cells #[.int .i64 0, .int .i64 97, .int .i64 98] 3)).alloc (.cells #[.int .i64 1, .int .i64 2, .int .i64 1] 3)).alloc (.cells #[.int .i64 1, .int .i64 1, .int .i64 1] 3)).alloc (.cells #[.int .i64 1, .int .i64 1, .int .i64 1] 3)).alloc (.cells #[.slice (some ⟨w.heap.size + 1, 0, none⟩) 3 3, .slice (some ⟨w.heap.size + 1 + 1, 0, none⟩) 3 3, .slice (some ⟨w.heap.size + 1 + 1 + 1, 0, none⟩) 3 3] 22))) (n := w.heap.size + 1 + 1 + 1 + 1 + 1) 4 #[.bool false, .bool false, .bool true] (by simp)
  refine ⟨(isInts_blk (n := 3) b0 rfl rfl (by decide) (by omega)).at, At.ofBlk b4 ((Rel.one (isInts_blk (n := 3) b1 rfl rfl (by decide) (by omega))).app ((Rel.one (isInts_blk (n := 3) b2 rfl rfl (by decide) (by omega))).app (Rel.one (isInts_blk (n := 3) b3 rfl rfl (by decide) (by omega))))) (by decide), At.ofBlk b5 (rel_bools [false, false, true]) (by decide), Lib.hid rfl, Lib.hid rfl, Lib.hid rfl⟩

set_option maxHeartbeats 2000000 in
set_option maxRecDepth 100000 in
theorem law10_alive (w : World) (B : Nat) (hT : TabU B w) (hB : B ≤ w.heap.size) : Calls Tryz.prog 16 #[] w fun e w' => e = .returned (.bool true) ∧ Below w.heap.size w w' := by
  have HO := Lib.hid (law10_of ⟨#[97]⟩ (chX 97) d10 w B tells7 d10_out d10_ok hT hB)
  clear hT hB
  go_enter Tryz.func16, Tryz.ntmps16
  go_wp2_with fail
  refine HO.out.mono ?_
  rintro e w1 ⟨A1, n1, c1, A2, n2, c2, A3, n3, c3, rfl, k1, k2⟩
  have hb2 : Below w1.heap.size w1 (w1.alloc (.cells #[.slice A1 n1 c1, .slice A2 n2 c2, .slice A3 n3 c3] TDfa)) := (Below.refl _ _).alloc (Nat.le_refl _) _
  have HB2 := Lib.hid (k2.trans (hb2.mono k2.size))
  have K2 := Lib.hid (Blk.new w1 TDfa #[.slice A1 n1 c1, .slice A2 n2 c2, .slice A3 n3 c3])
  have HD2 := Lib.hid (DfaAt.keep k1 (Keep.of hb2))
  have HC := subset_Class A1 A2 A3 c1 c2 c3 n1 n2 n3 d10 97 _ HD2.out
  rw [classE_in d10_ok (by omega) (by omega), show lastLe d10.cuts 97 d10.cuts.length = 1 by decide] at HC
  have HC := Lib.hid HC
  clear k1 k2 hb2
  go_wp2_with fail
  refine HC.out.mono ?_
  rintro e w3 ⟨rfl, k3⟩
  have HB3 := Lib.hid (HB2.out.trans (k3.mono HB2.out.size))
  have K3 := Lib.hid (K2.out.below k3 (by simp))
  have HD3 := Lib.hid (DfaAt.keep HD2.out (Keep.of k3))
  have hb4 : Below w3.heap.size w3 ((((((w3.alloc (.cells #[.int .i64 0, .int .i64 97, .int .i64 98] 3)).alloc (.cells #[.int .i64 1, .int .i64 2, .int .i64 1] 3)).alloc (.cells #[.int .i64 1, .int .i64 1, .int .i64 1] 3)).alloc (.cells #[.int .i64 1, .int .i64 1, .int .i64 1] 3)).alloc (.cells #[.slice (some ⟨w3.heap.size + 1, 0, none⟩) 3 3, .slice (some ⟨w3.heap.size + 1 + 1, 0, none⟩) 3 3, .slice (some ⟨w3.heap.size + 1 + 1 + 1, 0, none⟩) 3 3] 22)).alloc (.cells #[.bool false, .bool false, .bool true] 4)) :=
    ((((((Below.refl _ _).alloc (Nat.le_refl _) _).alloc (by simp) _).alloc (by simp; omega) _).alloc (by simp; omega) _).alloc (by simp; omega) _).alloc (by simp; omega) _
  have HS := Lib.hid (ref10_Same A1 A2 A3 _ _ _ c1 c2 c3 n1 n2 n3 3 3 3 3 3 3 d10 d10 _ (DfaAt.keep HD3.out (Keep.of hb4)) (d10_lit w3))
  rw [yes_t rfl] at HS
  have HB4 := Lib.hid (HB3.out.trans (hb4.mono HB3.out.size))
  obtain ⟨p0, p1, p2, _, _, _⟩ := Blk.three K3.out
  have hlt := K3.out.lt
  clear k3 hb4
  go_wp2_with fail
  refine HS.out.mono ?_
  rintro e w5 ⟨rfl, k5⟩
  have HB5 := Lib.hid (HB4.out.trans (k5.mono HB4.out.size))
  clear k5
  go_wp2
  go_ret
  exact ⟨rfl, HB5.out⟩
end Go.Proofs.YtilhicefhhgecaaGreatDoor

namespace Pv
open Go Go.RowKit
theorem walkE_out {d : Dfa} (h : d.Ok) {s : Int} {l : List Int} (hl : l.length ≤ 1024) (hs : ¬ (0 ≤ s ∧ s < (d.next.length : Int)) ∨ beyond l) : d.walkE s l = (0, 2) := by
  unfold Dfa.walkE
  rw [if_pos (Dfa.okB_yes h), if_neg (show ¬ 1024 < l.length by omega)]
  by_cases h1 : s < 0 ∨ (d.next.length : Int) ≤ s
  · rw [if_pos h1]
  · rw [if_neg h1, if_pos]
    rcases hs with hs | hs
    · exact absurd ⟨by omega, by omega⟩ hs
    · exact hs
end Pv
namespace Go.Proofs.YtilhicefhhgecaaGreatDoor
open Go.RowKit Pv
end Go.Proofs.YtilhicefhhgecaaGreatDoor

namespace Go.Proofs.YtilhicefhhgecaaGreatDoor
open Go.RowKit Pv
theorem dfa_none (w : World) : DfaAt w none none none 0 0 0 ⟨[], [], []⟩ := ⟨At.none _ _, At.none _ _, At.none _ _, Lib.hid rfl, Lib.hid rfl, Lib.hid rfl⟩
theorem d4_lit (w : World) : DfaAt (((((w.alloc (.cells #[.int .i64 0] 3)).alloc (.cells #[.int .i64 1] 3)).alloc (.cells #[.int .i64 1] 3)).alloc (.cells #[.slice (some ⟨w.heap.size + 1, 0, none⟩) 1 1, .slice (some ⟨w.heap.size + 1 + 1, 0, none⟩) 1 1] 22)).alloc (.cells #[.bool false, .bool false] 4))
    (some ⟨w.heap.size, 0, none⟩) (some ⟨w.heap.size + 1 + 1 + 1, 0, none⟩) (some ⟨w.heap.size + 1 + 1 + 1 + 1, 0, none⟩) 1 2 2 d4 := by
  have b0 := ((((blk_at (W := w) (n := w.heap.size) 3 #[.int .i64 0] (by simp)).alloc (.cells #[.int .i64 1] 3)).alloc (.cells #[.int .i64 1] 3)).alloc (.cells #[.slice (some ⟨w.heap.size + 1, 0, none⟩) 1 1, .slice (some ⟨w.heap.size + 1 + 1, 0, none⟩) 1 1] 22)).alloc (.cells #[.bool false, .bool false] 4)
  have b1 := (((blk_at (W := (w.alloc (.cells #[.int .i64 0] 3))) (n := w.heap.size + 1) 3 #[.int .i64 1] (by simp)).alloc (.cells #[.int .i64 1] 3)).alloc (.cells #[.slice (some ⟨w.heap.size + 1, 0, none⟩) 1 1, .slice (some ⟨w.heap.size + 1 + 1, 0, none⟩) 1 1] 22)).alloc (.cells #[.bool false, .bool false] 4)
  have b2 := ((blk_at (W := ((w.alloc (.cells #[.int .i64 0] 3)).alloc (.cells #[.int .i64 1] 3))) (n := w.heap.size + 1 + 1) 3 #[.int .i64 1] (by simp)).alloc (.cells #[.slice (some ⟨w.heap.size + 1, 0, none⟩) 1 1, .slice (some ⟨w.heap.size + 1 + 1, 0, none⟩) 1 1] 22)).alloc (.cells #[.bool false, .bool false] 4)
  have b3 := (blk_at (W := (((w.alloc (.cells #[.int .i64 0] 3)).alloc (.cells #[.int .i64 1] 3)).alloc (.cells #[.int .i64 1] 3))) (n := w.heap.size + 1 + 1 + 1) 22 #[.slice (some ⟨w.heap.size + 1, 0, none⟩) 1 1, .slice (some ⟨w.heap.size + 1 + 1, 0, none⟩) 1 1] (by simp)).alloc (.cells #[.bool false, .bool false] 4)
  have b4 := blk_at (W := ((((w.alloc (.cells #[.int .i64 0] 3)).alloc (.cells #[.int .i64 1] 3)).alloc (.cells #[.int .i64 1] 3)).alloc (.cells #[.slice (some ⟨w.heap.size + 1, 0, none⟩) 1 1, .slice (some ⟨w.heap.size + 1 + 1, 0, none⟩) 1 1] 22))) (n := w.heap.size + 1 + 1 + 1 + 1) 4 #[.bool false, .bool false] (by simp)
  refine ⟨(isInts_blk (n := 1) b0 rfl rfl (by decide) (by omega)).at, At.ofBlk b3 ((Rel.one (isInts_blk (n := 1) b1 rfl rfl (by decide) (by omega))).app (Rel.one (isInts_blk (n := 1) b2 rfl rfl (by decide) (by omega)))) (by decide), At.ofBlk b4 (rel_bools [false, false]) (by decide), Lib.hid rfl, Lib.hid rfl, Lib.hid rfl⟩

set_option maxHeartbeats 8000000 in
set_option maxRecDepth 100000 in
theorem law_SubsetNames (w : World) (B : Nat) (hT : TabU B w) (hB : B ≤ w.heap.size) : Calls Tryz.prog 3 #[] w fun e w' => e = .returned (.bool true) ∧ Below w.heap.size w w' := by
  have HO := Lib.hid (law10_of ⟨#[91, 93]⟩ noX d4 w B tells4 d4_out d4_ok hT hB)
  have HP := Lib.hid (fun (w' : World) (hb : Below w.heap.size w w') => pattern_Parse ⟨#[40, 97, 124, 98, 41, 42, 97, 40, 97, 124, 98, 41, 123, 54, 125]⟩ t13 w' B tells13 tells13.plain (hT.then hb hB) (Nat.le_trans hB hb.size))
  have HAL := Lib.hid (fun (w' : World) (hb : Below w.heap.size w w') => law10_alive w' B (hT.then hb hB) (Nat.le_trans hB hb.size))
  obtain ⟨nt, hnt⟩ : ∃ nt, t13.flat.length = nt := ⟨_, rfl⟩
  have HN := Lib.hid hnt
  have hn : nt ≤ 64 := by rw [← hnt]; exact tells13.known.size
  clear hT hB hnt
  go_enter Tryz.func3, Tryz.ntmps3
  go_wp2_with fail
  refine HO.out.mono ?_
  rintro e w1 ⟨A1, n1, c1, A2, n2, c2, A3, n3, c3, rfl, k1, k2⟩
  have hb2 : Below w1.heap.size w1 (w1.alloc (.cells #[.slice A1 n1 c1, .slice A2 n2 c2, .slice A3 n3 c3] TDfa)) := (Below.refl _ _).alloc (Nat.le_refl _) _
  have HB2 := Lib.hid (k2.trans (hb2.mono k2.size))
  have K2 := Lib.hid (Blk.new w1 TDfa #[.slice A1 n1 c1, .slice A2 n2 c2, .slice A3 n3 c3])
  have HD2 := Lib.hid (DfaAt.keep k1 (Keep.of hb2))
  clear k1 k2 hb2
  go_wp2_with fail
  refine (HP.out _ HB2.out).mono ?_
  rintro e w3 ⟨A, c, rfl, k1, k3⟩
  have HB3 := Lib.hid (HB2.out.trans (k3.mono HB2.out.size))
  have K3 := Lib.hid (K2.out.below k3 K2.out.lt)
  have HD3 := Lib.hid (DfaAt.keep HD2.out (Keep.of k3))
  have HAT := Lib.hid (rx_at k1 (by rw [HN.out]; omega) tells13.sets)
  rw [HN.out]
  have HBU := Lib.hid (auto_Build A nt c t13.flat w3 HAT.out HN)
  clear k1 k3
  go_wp2_with fail
  refine HBU.out.mono ?_
  intro e w4 hpb
  obtain ⟨k4, r, A4, n4, c4, hbr, rfl, hau, hl4⟩ := hpb.read
  obtain rfl := known_build tells13.known hbr
  have HB4 := Lib.hid (HB3.out.trans (k4.mono HB3.out.size))
  have K4 := Lib.hid (K3.out.below k4 K3.out.lt)
  have HD4 := Lib.hid (DfaAt.keep HD3.out (Keep.of k4))
  have HL4 := Lib.hid hl4
  have HOUT := out13
  obtain ⟨acc, hacc⟩ : ∃ acc : Int, (((leadT t13 [[]] 0).2 : Nat) : Int) = acc := ⟨_, rfl⟩
  rw [hacc] at HOUT
  have HOUT := Lib.hid HOUT
  simp only [hacc]
  have hb5 : Below w4.heap.size w4 (w4.alloc (.cells #[.slice A4 n4 c4, .int .i64 acc] TAuto)) := (Below.refl _ _).alloc (Nat.le_refl _) _
  have HB5 := Lib.hid (HB4.out.trans (hb5.mono HB4.out.size))
  have K5 := Lib.hid (K4.out.below hb5 K4.out.lt)
  have HD5 := Lib.hid (DfaAt.keep HD4.out (Keep.of hb5))
  have HSU := Lib.hid (subset_Build A4 c4 n4 acc (leadT t13 [[]] 0).1 _ (AtAu.keep hau (Keep.of hb5)) HL4)
  clear hpb k4 hbr hau hl4 hb5 hacc
  go_wp2_with fail
  refine HSU.out.mono ?_
  intro e w6 hsu
  obtain ⟨D', code, B1, m1, d1, B2, m2, d2, B3, m3, d3, rfl, hat, hout, k6⟩ := hsu.opens
  obtain ⟨e1, e2⟩ := hout.one HOUT.out
  subst e1; subst e2
  have HB6 := Lib.hid (HB5.out.trans (k6.mono HB5.out.size))
  have K6 := Lib.hid (K5.out.below k6 K5.out.lt)
  have HD6 := Lib.hid (DfaAt.keep HD5.out (Keep.of k6))
  have hb7 : Below w6.heap.size w6 (w6.alloc (.cells #[.slice B1 m1 d1, .slice B2 m2 d2, .slice B3 m3 d3] TDfa)) := (Below.refl _ _).alloc (Nat.le_refl _) _
  have HB7 := Lib.hid (HB6.out.trans (hb7.mono HB6.out.size))
  have K7 := Lib.hid (K6.out.below hb7 K6.out.lt)
  have HD7 := Lib.hid (DfaAt.keep HD6.out (Keep.of hb7))
  have HWK := subset_Walk A1 A2 A3 none c1 c2 c3 0 n1 n2 n3 0 d4 2 [] _ HD7.out At.nil (Lib.hid rfl)
  rw [walkE_out d4_ok (by simp) (.inl (by decide))] at HWK
  have HWK := Lib.hid HWK
  obtain ⟨p0, p1, p2, _, _, _⟩ := Blk.three K7.out
  clear hsu hat hout k6 hb7
  go_wp2_with fail
  refine HWK.out.mono ?_
  rintro e w8 ⟨rfl, k⟩
  have HB8 := Lib.hid (HB7.out.trans (k.mono HB7.out.size))
  have K8 := Lib.hid (K7.out.below k K7.out.lt)
  have HD8 := Lib.hid (DfaAt.keep HD7.out (Keep.of k))
  clear k p0 p1 p2
  go_wp2_with fail
  refine (HAL.out _ HB8.out).mono ?_
  rintro e w9 ⟨rfl, k⟩
  have HB9 := Lib.hid (HB8.out.trans (k.mono HB8.out.size))
  have K9 := Lib.hid (K8.out.below k K8.out.lt)
  have HD9 := Lib.hid (DfaAt.keep HD8.out (Keep.of k))
  have hb10 : Below w9.heap.size w9 (((((w9.alloc (.cells #[.int .i64 0] 3)).alloc (.cells #[.int .i64 1] 3)).alloc (.cells #[.int .i64 1] 3)).alloc (.cells #[.slice (some ⟨w9.heap.size + 1, 0, none⟩) 1 1, .slice (some ⟨w9.heap.size + 1 + 1, 0, none⟩) 1 1] 22)).alloc (.cells #[.bool false, .bool false] 4)) := ((((((Below.refl _ _).alloc (Nat.le_refl _) _).alloc (by simp <;> omega) _).alloc (by simp <;> omega) _).alloc (by simp <;> omega) _).alloc (by simp <;> omega) _)
  have HB10 := Lib.hid (HB9.out.trans (hb10.mono HB9.out.size))
  have HS := Lib.hid (ref10_Same A1 A2 A3 _ _ _ c1 c2 c3 n1 n2 n3 1 2 2 1 2 2 d4 d4 _ (DfaAt.keep HD9.out (Keep.of hb10)) (d4_lit w9))
  rw [yes_t rfl] at HS
  have HCK := Lib.hid (fun W => subset_Check none none none 0 0 0 0 0 0 ⟨[], [], []⟩ W (dfa_none W))
  rw [show (⟨[], [], []⟩ : Dfa).checkE = 8 by unfold Dfa.checkE; rw [Dfa.okB_no (fun h => absurd h.n1 (by simp))]; simp] at HCK
  obtain ⟨p0, p1, p2, _, _, _⟩ := Blk.three K9.out
  have hlt := K9.out.lt
  clear k hb10
  go_wp2_with fail
  refine HS.out.mono ?_
  rintro e w11 ⟨rfl, k⟩
  have HB11 := Lib.hid (HB10.out.trans (k.mono HB10.out.size))
  clear k
  go_wp2_with fail
  refine (HCK.out _).mono ?_
  rintro e w12 ⟨rfl, k⟩
  have HB12 := Lib.hid (HB11.out.trans (k.mono HB11.out.size))
  clear k
  go_wp2
  go_ret
  exact ⟨rfl, HB12.out⟩
end Go.Proofs.YtilhicefhhgecaaGreatDoor
