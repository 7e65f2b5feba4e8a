/- Walks: alive of the subset's chapter. PUT1 -/
import Derived.Test.YtcmmmgblkbbdnaaGreatDoorL9bg
import Derived.Test.YtcmmmgblkbbdnaaGreatDoorHcg
import Derived.Test.YtcmmmgblkbbdnaaGreatDoorZlg
import Derived.Test.YtcmmmgblkbbdnaaGreatDoorZng
import Derived.Test.YtcmmmgblkbbdnaaGreatDoorWfg
import Derived.Test.YtcmmmgblkbbdnaaGreatDoorGng
import Derived.Test.YtcmmmgblkbbdnaaGreatDoorQvg
import Derived.Test.YtcmmmgblkbbdnaaGreatDoorRbg
namespace Pv
open Go Go.RowKit
theorem rel_ints : ∀ {l : List Int}, (∀ x, x ∈ l → -9223372036854775808 ≤ x ∧ x ≤ 9223372036854775807) → Rel RI (l.map (Value.int .i64)) l := fun {l} h => ⟨by simp, fun i u x hu hx => by
  rw [List.getElem?_map, hx] at hu
  obtain rfl := Option.some.inj hu
  exact ⟨rfl, h x (mem_of_get hx)⟩⟩
theorem rel_bools (l : List Bool) : Rel RB (l.map Value.bool) l := ⟨by simp, fun i u x hu hx => by
  rw [List.getElem?_map, hx] at hu
  obtain rfl := Option.some.inj hu
  rfl⟩
/-- A row of ints in a block. -/
theorem isInts_blk {w : World} {g n : Nat} {t : TypeId} {l : List Int} {cs : Array Value} (h : Blk w g t cs) (hc : cs.toList = l.map (Value.int .i64)) (hn : l.length = n) (hl : ∀ x, x ∈ l → -9223372036854775808 ≤ x ∧ x ≤ 9223372036854775807) (hz : n ≤ 1000) : IsInts w (.slice (some ⟨g, 0, none⟩) n n) l := by
  subst hn
  exact ⟨_, _, rfl, At.ofBlk h (by rw [hc]; exact rel_ints hl) (by omega), Nat.le_refl _⟩
theorem IsInts.at {w : World} {A : Option Addr} {n c : Nat} {l : List Int} (h : IsInts w (.slice A n c) l) : At w A RI l := by
  obtain ⟨A', c', e, h, _⟩ := h
  injection e with e1 _ _
  subst e1
  exact h
end Pv
namespace Go.Proofs.YtcmmmgblkbbdnaaGreatDoor
open Go.RowKit Pv
def d10 : Dfa := ⟨[0, 97, 98], [[1, 2, 1], [1, 1, 1], [1, 1, 1]], [false, false, true]⟩
theorem d10_ok : d10.Ok := okC_is (by decide +kernel)
theorem d10_out : Out (leadT (chX 97) [[]] 0).1 (((leadT (chX 97) [[]] 0).2 : Nat) : Int) d10 0 := subB_is tells7.known (by decide +kernel)
theorem d10_lit (w : World) : DfaAt ((((((w.alloc (.cells #[.int .i64 0, .int .i64 97, .int .i64 98] 3)).alloc (.cells #[.int .i64 1, .int .i64 2, .int .i64 1] 3)).alloc (.cells #[.int .i64 1, .int .i64 1, .int .i64 1] 3)).alloc (.cells #[.int .i64 1, .int .i64 1, .int .i64 1] 3)).alloc (.cells #[.slice (some ⟨w.heap.size + 1, 0, none⟩) 3 3, .slice (some ⟨w.heap.size + 1 + 1, 0, none⟩) 3 3, .slice (some ⟨w.heap.size + 1 + 1 + 1, 0, none⟩) 3 3] 27)).alloc (.cells #[.bool false, .bool false, .bool true] 4))
    (some ⟨w.heap.size, 0, none⟩) (some ⟨w.heap.size + 1 + 1 + 1 + 1, 0, none⟩) (some ⟨w.heap.size + 1 + 1 + 1 + 1 + 1, 0, none⟩) 3 3 3 d10 := by
  have b0 := (((((blk_at (W := w) 3 #[.int .i64 0, .int .i64 97, .int .i64 98] rfl).alloc (.cells #[.int .i64 1, .int .i64 2, .int .i64 1] 3)).alloc (.cells #[.int .i64 1, .int .i64 1, .int .i64 1] 3)).alloc (.cells #[.int .i64 1, .int .i64 1, .int .i64 1] 3)).alloc (.cells #[.slice (some ⟨w.heap.size + 1, 0, none⟩) 3 3, .slice (some ⟨w.heap.size + 1 + 1, 0, none⟩) 3 3, .slice (some ⟨w.heap.size + 1 + 1 + 1, 0, none⟩) 3 3] 27)).alloc (.cells #[.bool false, .bool false, .bool true] 4)
  have b1 := ((((blk_at (W := (w.alloc (.cells #[.int .i64 0, .int .i64 97, .int .i64 98] 3))) (n := w.heap.size + 1) 3 #[.int .i64 1, .int .i64 2, .int .i64 1] (by simp)).alloc (.cells #[.int .i64 1, .int .i64 1, .int .i64 1] 3)).alloc (.cells #[.int .i64 1, .int .i64 1, .int .i64 1] 3)).alloc (.cells #[.slice (some ⟨w.heap.size + 1, 0, none⟩) 3 3, .slice (some ⟨w.heap.size + 1 + 1, 0, none⟩) 3 3, .slice (some ⟨w.heap.size + 1 + 1 + 1, 0, none⟩) 3 3] 27)).alloc (.cells #[.bool false, .bool false, .bool true] 4)
  have b2 := (((blk_at (W := ((w.alloc (.cells #[.int .i64 0, .int .i64 97, .int .i64 98] 3)).alloc (.cells #[.int .i64 1, .int .i64 2, .int .i64 1] 3))) (n := w.heap.size + 1 + 1) 3 #[.int .i64 1, .int .i64 1, .int .i64 1] (by simp)).alloc (.cells #[.int .i64 1, .int .i64 1, .int .i64 1] 3)).alloc (.cells #[.slice (some ⟨w.heap.size + 1, 0, none⟩) 3 3, .slice (some ⟨w.heap.size + 1 + 1, 0, none⟩) 3 3, .slice (some ⟨w.heap.size + 1 + 1 + 1, 0, none⟩) 3 3] 27)).alloc (.cells #[.bool false, .bool false, .bool true] 4)
  have b3 := ((blk_at (W := (((w.alloc (.cells #[.int .i64 0, .int .i64 97, .int .i64 98] 3)).alloc (.cells #[.int .i64 1, .int .i64 2, .int .i64 1] 3)).alloc (.cells #[.int .i64 1, .int .i64 1, .int .i64 1] 3))) (n := w.heap.size + 1 + 1 + 1) 3 #[.int .i64 1, .int .i64 1, .int .i64 1] (by simp)).alloc (.cells #[.slice (some ⟨w.heap.size + 1, 0, none⟩) 3 3, .slice (some ⟨w.heap.size + 1 + 1, 0, none⟩) 3 3, .slice (some ⟨w.heap.size + 1 + 1 + 1, 0, none⟩) 3 3] 27)).alloc (.cells #[.bool false, .bool false, .bool true] 4)
  have b4 := (blk_at (W := ((((w.alloc (.cells #[.int .i64 0, .int .i64 97, .int .i64 98] 3)).alloc (.cells #[.int .i64 1, .int .i64 2, .int .i64 1] 3)).alloc (.cells #[.int .i64 1, .int .i64 1, .int .i64 1] 3)).alloc (.cells #[.int .i64 1, .int .i64 1, .int .i64 1] 3))) (n := w.heap.size + 1 + 1 + 1 + 1) 27 #[.slice (some ⟨w.heap.size + 1, 0, none⟩) 3 3, .slice (some ⟨w.heap.size + 1 + 1, 0, none⟩) 3 3, .slice (some ⟨w.heap.size + 1 + 1 + 1, 0, none⟩) 3 3] (by simp)).alloc (.cells #[.bool false, .bool false, .bool true] 4)
  have b5 := blk_at (W := (((((w.alloc (.cells #[.int .i64 0, .int .i64 97, .int .i64 98] 3)).alloc (.cells #[.int .i64 1, .int .i64 2, .int .i64 1] 3)).alloc (.cells #[.int .i64 1, .int .i64 1, .int .i64 1] 3)).alloc (.cells #[.int .i64 1, .int .i64 1, .int .i64 1] 3)).alloc (.cells #[.slice (some ⟨w.heap.size + 1, 0, none⟩) 3 3, .slice (some ⟨w.heap.size + 1 + 1, 0, none⟩) 3 3, .slice (some ⟨w.heap.size + 1 + 1 + 1, 0, none⟩) 3 3] 27))) (n := w.heap.size + 1 + 1 + 1 + 1 + 1) 4 #[.bool false, .bool false, .bool true] (by simp)
  refine ⟨(isInts_blk (n := 3) b0 rfl rfl (by decide) (by omega)).at, At.ofBlk b4 ((Rel.one (isInts_blk (n := 3) b1 rfl rfl (by decide) (by omega))).app ((Rel.one (isInts_blk (n := 3) b2 rfl rfl (by decide) (by omega))).app (Rel.one (isInts_blk (n := 3) b3 rfl rfl (by decide) (by omega))))) (by decide), At.ofBlk b5 (rel_bools [false, false, true]) (by decide), Lib.hid rfl, Lib.hid rfl, Lib.hid rfl⟩

set_option maxHeartbeats 2000000 in
set_option maxRecDepth 100000 in
theorem law10_alive (w : World) (B : Nat) (hT : TabU B w) (hB : B ≤ w.heap.size) : Calls Tryz.prog 36 #[] w fun e w' => e = .returned (.bool true) ∧ Below w.heap.size w w' := by
  have HO := Lib.hid (law10_of ⟨#[97]⟩ (chX 97) d10 w B tells7 d10_out d10_ok hT hB)
  clear hT hB
  go_enter Tryz.func36, Tryz.ntmps36
  go_wp2_with fail
  refine HO.out.mono ?_
  rintro e w1 ⟨A1, n1, c1, A2, n2, c2, A3, n3, c3, rfl, k1, k2⟩
  have hb2 : Below w1.heap.size w1 (w1.alloc (.cells #[.slice A1 n1 c1, .slice A2 n2 c2, .slice A3 n3 c3] TDfa)) := (Below.refl _ _).alloc (Nat.le_refl _) _
  have HB2 := Lib.hid (k2.trans (hb2.mono k2.size))
  have K2 := Lib.hid (Blk.new w1 TDfa #[.slice A1 n1 c1, .slice A2 n2 c2, .slice A3 n3 c3])
  have HD2 := Lib.hid (DfaAt.keep k1 (Keep.of hb2))
  have HC := subset_Class A1 A2 A3 c1 c2 c3 n1 n2 n3 d10 97 _ HD2.out
  rw [classE_in d10_ok (by omega) (by omega), show lastLe d10.cuts 97 d10.cuts.length = 1 by decide] at HC
  have HC := Lib.hid HC
  clear k1 k2 hb2
  go_wp2_with fail
  refine HC.out.mono ?_
  rintro e w3 ⟨rfl, k3⟩
  have HB3 := Lib.hid (HB2.out.trans (k3.mono HB2.out.size))
  have K3 := Lib.hid (K2.out.below k3 (by simp))
  have HD3 := Lib.hid (DfaAt.keep HD2.out (Keep.of k3))
  have hb4 : Below w3.heap.size w3 ((((((w3.alloc (.cells #[.int .i64 0, .int .i64 97, .int .i64 98] 3)).alloc (.cells #[.int .i64 1, .int .i64 2, .int .i64 1] 3)).alloc (.cells #[.int .i64 1, .int .i64 1, .int .i64 1] 3)).alloc (.cells #[.int .i64 1, .int .i64 1, .int .i64 1] 3)).alloc (.cells #[.slice (some ⟨w3.heap.size + 1, 0, none⟩) 3 3, .slice (some ⟨w3.heap.size + 1 + 1, 0, none⟩) 3 3, .slice (some ⟨w3.heap.size + 1 + 1 + 1, 0, none⟩) 3 3] 27)).alloc (.cells #[.bool false, .bool false, .bool true] 4)) :=
    ((((((Below.refl _ _).alloc (Nat.le_refl _) _).alloc (by simp) _).alloc (by simp; omega) _).alloc (by simp; omega) _).alloc (by simp; omega) _).alloc (by simp; omega) _
  have HS := Lib.hid (ref10_Same A1 A2 A3 _ _ _ c1 c2 c3 n1 n2 n3 3 3 3 3 3 3 d10 d10 _ (DfaAt.keep HD3.out (Keep.of hb4)) (d10_lit w3))
  rw [yes_t rfl] at HS
  have HB4 := Lib.hid (HB3.out.trans (hb4.mono HB3.out.size))
  obtain ⟨p0, p1, p2, _, _, _⟩ := Blk.three K3.out
  have hlt := K3.out.lt
  clear k3 hb4
  go_wp2_with fail
  refine HS.out.mono ?_
  rintro e w5 ⟨rfl, k5⟩
  have HB5 := Lib.hid (HB4.out.trans (k5.mono HB4.out.size))
  clear k5
  go_wp2
  go_ret
  exact ⟨rfl, HB5.out⟩
end Go.Proofs.YtcmmmgblkbbdnaaGreatDoor

namespace Pv
open Go Go.RowKit
theorem runE_ok {d : Dfa} (h : d.Ok) {pts : List Int} (hl : pts.length ≤ 1024) : (beyond pts ∧ d.runE pts = (false, 2)) ∨ (¬ beyond pts ∧ d.runE pts = (d.accept.getD (d.to 0 pts) false, 0)) := by
  have hn := h.n1
  by_cases hb : beyond pts
  · have hw : d.walkE 0 pts = (0, 2) := by
      unfold Dfa.walkE
      rw [if_pos (Dfa.okB_yes h), if_neg (show ¬ 1024 < pts.length by omega), if_neg (show ¬ ((0 : Int) < 0 ∨ (d.next.length : Int) ≤ 0) by omega), if_pos hb]
    refine .inl ⟨hb, ?_⟩
    unfold Dfa.runE
    rw [hw]
    rfl
  · have hw : d.walkE 0 pts = (((d.to 0 pts : Nat) : Int), 0) := by
      unfold Dfa.walkE
      rw [if_pos (Dfa.okB_yes h), if_neg (show ¬ 1024 < pts.length by omega), if_neg (show ¬ ((0 : Int) < 0 ∨ (d.next.length : Int) ≤ 0) by omega), if_neg hb]
      rfl
    refine .inr ⟨hb, ?_⟩
    unfold Dfa.runE
    rw [hw]
    simp
end Pv
namespace Go.Proofs.YtcmmmgblkbbdnaaGreatDoor
open Go.RowKit Pv
set_option maxHeartbeats 2000000 in
set_option maxRecDepth 100000 in
theorem law10_beyond (A : Option Addr) (c n : Nat) (l : List Int) (w : World) (h : At w A RI l) (HL : Hid (l.length = n)) :
    Calls Tryz.prog 43 #[.slice A n c] w fun e w' => e = .returned (.bool (yes (beyond l))) ∧ w = w' := by
  have hn : n ≤ 140737488355328 := by have := h.1; rwa [HL.out] at this
  have HA := Lib.hid h
  clear h
  go_enter Tryz.func43, Tryz.ntmps43
  go_wp2
  go_loop [3] (fun iv => ∃ k : Nat, iv = .int .i64 k ∧ k ≤ n ∧ Hid (∀ (i : Nat) x, i < k → l[i]? = some x → 0 ≤ x ∧ x ≤ 1114111)) (fun iv => n - (intOf iv).toNat)
  case atStart => exact ⟨0, rfl, by omega, Lib.hid (by intros; omega)⟩
  case round =>
    obtain ⟨k, rfl, hk, HK⟩ := hrel
    by_cases hlt : k < n
    · obtain ⟨b, off, u, x, rfl, hb, c1, ⟨rfl, x1, x2⟩, HX⟩ := HA.out.gt HL hlt
      by_cases hx : x < 0
      · have HY : Hid (yes (beyond l) = true) := Lib.hid (yes_t ⟨x, mem_of_get HX.out, .inl hx⟩)
        go_wp2
        go_ret
        exact ⟨ret_bool HY.out.symm, rfl⟩
      · by_cases hx2 : 1114111 < x
        · have HY : Hid (yes (beyond l) = true) := Lib.hid (yes_t ⟨x, mem_of_get HX.out, .inr hx2⟩)
          have h0 : 0 ≤ x := by omega
          clear hx
          go_wp2
          go_ret
          exact ⟨ret_bool HY.out.symm, rfl⟩
        · have h0 : 0 ≤ x := by omega
          have h1 : x ≤ 1114111 := by omega
          clear hx hx2
          go_wp2
          go_round
          case rel => exact ⟨k + 1, by go_num, by omega, Lib.hid (fun i y hi hy => by
            by_cases e : i = k
            · subst e; obtain rfl := Option.some.inj (HX.out.symm.trans hy); exact ⟨h0, h1⟩
            · exact HK.out i y (by omega) hy)⟩
          case measure => simp [intOf]; omega
    · obtain rfl : k = n := by omega
      have HY : Hid (yes (beyond l) = false) := Lib.hid (yes_f fun ⟨x, hx, h⟩ => by
        obtain ⟨i, hi⟩ := List.getElem?_of_mem hx
        have := HK.out i x (by have := lt_of_get hi; rwa [HL.out] at this) hi
        omega)
      go_wp2
      go_ret
      exact ⟨ret_bool HY.out.symm, rfl⟩

set_option maxHeartbeats 4000000 in
set_option maxRecDepth 100000 in
theorem law_SubsetAccepts (A B : Option Addr) (n c nl cl : Nat) (acc : Int) (a : Au) (l : List Int) (w : World) (B0 : Nat) (ha : AtAu w A a) (HA : Hid (a.length = n)) (hp : At w B RI l) (HL : Hid (l.length = nl)) (hT : TabU B0 w) (hB : B0 ≤ w.heap.size) :
    Calls Tryz.prog 9 #[.agg #[.slice A n c, .int .i64 acc], .slice B nl cl] w fun e w' => e = .returned (.bool true) ∧ Below w.heap.size w w' := by
  have hW : Below w.heap.size w (w.alloc (.cells #[.slice A n c, .int .i64 acc] TAuto)) := (Below.refl _ _).alloc (Nat.le_refl _) _
  have HW := Lib.hid hW
  have K0 := Lib.hid (Blk.new w TAuto #[.slice A n c, .int .i64 acc])
  have HAL := Lib.hid (law10_alive (w.alloc (.cells #[.slice A n c, .int .i64 acc] TAuto)) B0 (hT.then hW hB) (by simp; omega))
  have HAT := Lib.hid ha; have HLP := Lib.hid hp
  have HGR := Lib.hid (fun W (hb : Below w.heap.size w W) => ref09_Great A c n 40 acc a W (AtAu.keep ha (Keep.of hb)) HA (by omega))
  have hnl : nl ≤ 140737488355328 := by have := hp.1; rwa [HL.out] at this
  clear ha hp hT hB hW
  by_cases h8 : nl ≤ 30
  case neg =>
    have e1 : (30 : Int) < (nl : Int) := by omega
    go_enter Tryz.func9, Tryz.ntmps9
    go_wp2_with fail
    refine HAL.out.mono ?_
    rintro e w1 ⟨rfl, k⟩
    have HB1 := Lib.hid (HW.out.trans (k.mono HW.out.size))
    have K1 := Lib.hid (K0.out.below k (by simp))
    obtain ⟨p0, p1, _, _⟩ := Blk.two K1.out
    clear k
    go_wp2_with fail
    refine (HGR.out _ HB1.out).mono ?_
    rintro e w2 ⟨g, rfl, hg, k⟩
    have HB2 := Lib.hid (HB1.out.trans (k.mono HB1.out.size))
    clear hg k
    cases g
    all_goals
      go_wp2
      go_ret
      exact ⟨rfl, HB2.out⟩
  have e1 : (nl : Int) ≤ 30 := by omega
  go_enter Tryz.func9, Tryz.ntmps9
  go_wp2_with fail
  refine HAL.out.mono ?_
  rintro e w1 ⟨rfl, k⟩
  have HB1 := Lib.hid (HW.out.trans (k.mono HW.out.size))
  have K1 := Lib.hid (K0.out.below k (by simp))
  obtain ⟨p0, p1, _, _⟩ := Blk.two K1.out
  clear k
  go_wp2_with fail
  refine (HGR.out _ HB1.out).mono ?_
  rintro e w2 ⟨g, rfl, hg, k⟩
  have HB2 := Lib.hid (HB1.out.trans (k.mono HB1.out.size))
  have K2 := Lib.hid (K1.out.below k K1.out.lt)
  clear hg k p0 p1
  cases g with
  | true =>
    go_wp2
    go_ret
    exact ⟨rfl, HB2.out⟩
  | false =>
    obtain ⟨p0, p1, _, _⟩ := Blk.two K2.out
    have HSU := Lib.hid (subset_Build A c n acc a w2 (AtAu.keep HAT.out (Keep.of HB2.out)) HA)
    go_wp2_with fail
    refine HSU.out.mono ?_
    intro e w4 hsu
    obtain ⟨D, code, B1, m1, d1, B2, m2, d2, B3, m3, d3, rfl, hat, hout, k4⟩ := hsu.opens
    have HB4 := Lib.hid (HB2.out.trans (k4.mono HB2.out.size))
    have K4 := Lib.hid (K2.out.below k4 K2.out.lt)
    have hb5 : Below w4.heap.size w4 (w4.alloc (.cells #[.slice B1 m1 d1, .slice B2 m2 d2, .slice B3 m3 d3] TDfa)) := (Below.refl _ _).alloc (Nat.le_refl _) _
    have HB5 := Lib.hid (HB4.out.trans (hb5.mono HB4.out.size))
    have K5 := Lib.hid (K4.out.below hb5 K4.out.lt)
    have D5 := Lib.hid (Blk.new w4 TDfa #[.slice B1 m1 d1, .slice B2 m2 d2, .slice B3 m3 d3])
    have HD5 := Lib.hid (DfaAt.keep hat (Keep.of hb5))
    clear hsu k4 hb5 p0 p1
    cases hout with
    | bad h =>
      obtain rfl : m1 = 0 := HD5.out.hc.out.symm
      obtain rfl : m2 = 0 := HD5.out.hn.out.symm
      clear hat
      cases h
      all_goals
        go_wp2
        go_ret
        exact ⟨rfl, HB5.out⟩
    | made hf hm =>
      have hout := Out.made hf hm
      have HOK := Lib.hid hout.ok
      have HLG := Lib.hid (fun (hb : ∀ p, p ∈ l → 0 ≤ p ∧ p ≤ 1114111) => hout.lang hb)
      have HRN := runE_ok hout.ok (pts := l) (by rw [HL.out]; omega)
      obtain ⟨r1, r2⟩ := runB_ok (l := l) hf.ok (by rw [HL.out]; omega)
      generalize (⟨plcL (allSets a), _, _⟩ : Dfa) = D at *
      have HRU := subset_Run B1 B2 B3 B d1 d2 d3 cl m1 m2 m3 nl D l _ HD5.out (At.keep HLP.out (Keep.of HB5.out)) HL
      have HAR := Lib.hid (fun W (hb : Below w.heap.size w W) => auto_Run A c n acc a B cl nl l W (AtAu.keep HAT.out (Keep.of hb)) HA (At.keep HLP.out (Keep.of hb)) HL)
      rw [r1, r2] at HAR
      have HCK := Lib.hid (fun W (hb : Below (w4.alloc (.cells #[.slice B1 m1 d1, .slice B2 m2 d2, .slice B3 m3 d3] TDfa)).heap.size (w4.alloc (.cells #[.slice B1 m1 d1, .slice B2 m2 d2, .slice B3 m3 d3] TDfa)) W) => subset_Check B1 B2 B3 d1 d2 d3 m1 m2 m3 D W (DfaAt.keep HD5.out (Keep.of hb)))
      rw [Dfa.checkE_yes (Dfa.okB_yes HOK.out)] at HCK
      have HBY := Lib.hid (fun W (hb : Below w.heap.size w W) => law10_beyond B cl nl l W (At.keep HLP.out (Keep.of hb)) HL)
      obtain ⟨q, hq⟩ : ∃ q, decide (acc ∈ stL a.length (runA a l)) = q := ⟨_, rfl⟩
      rw [hq] at HAR HLG
      clear hat hf hm hout r1 r2 hq
      obtain ⟨f0, f1, f2, _, _, _⟩ := Blk.three D5.out
      obtain ⟨p0, p1, _, _⟩ := Blk.two K5.out
      have HN : Hid (¬ beyond l → ∀ p, p ∈ l → 0 ≤ p ∧ p ≤ 1114111) := Lib.hid (fun hn p hp => by
        by_cases h : p < 0 ∨ 1114111 < p
        · exact absurd ⟨p, hp, h⟩ hn
        · omega)
      rcases HRN with ⟨hby, hre⟩ | ⟨hby, hre⟩
      all_goals
        rw [hre] at HRU
        have HRU := Lib.hid HRU
      · rw [yes_t hby] at HBY
        clear hby hre
        go_wp2_with fail
        refine HRU.out.mono ?_
        rintro e w6 ⟨rfl, k6⟩
        have HB6 := Lib.hid (HB5.out.trans (k6.mono HB5.out.size))
        have K6 := Lib.hid (K5.out.below k6 K5.out.lt)
        have D6 := Lib.hid (D5.out.below k6 D5.out.lt)
        have X6 := Lib.hid k6
        clear k6 f0 f1 f2 p0 p1
        obtain ⟨p0, p1, _, _⟩ := Blk.two K6.out
        go_wp2_with fail
        refine (HAR.out _ HB6.out).mono ?_
        rintro e w7 ⟨rfl, k7⟩
        have HB7 := Lib.hid (HB6.out.trans (k7.mono HB6.out.size))
        have D7 := Lib.hid (D6.out.below k7 D6.out.lt)
        have X7 := Lib.hid (X6.out.trans (k7.mono X6.out.size))
        obtain ⟨f0, f1, f2, _, _, _⟩ := Blk.three D7.out
        clear k7 p0 p1
        go_wp2_with fail
        refine (HCK.out _ X7.out).mono ?_
        rintro e w8 ⟨rfl, k8⟩
        have HB8 := Lib.hid (HB7.out.trans (k8.mono HB7.out.size))
        clear k8 f0 f1 f2
        go_wp2_with fail
        refine (HBY.out _ HB8.out).mono ?_
        rintro e w9 ⟨rfl, rfl⟩
        cases q
        all_goals
          go_wp2
          go_ret
          exact ⟨rfl, HB8.out⟩
      · have HE := Lib.hid (HLG.out (HN.out hby))
        obtain ⟨q2, hq2⟩ : ∃ q2, D.accept.getD (D.to 0 l) false = q2 := ⟨_, rfl⟩
        rw [hq2] at HRU HE
        obtain rfl : q2 = q := HE.out
        clear hby hre hq2 HE HLG
        go_wp2_with fail
        refine HRU.out.mono ?_
        rintro e w6 ⟨rfl, k6⟩
        have HB6 := Lib.hid (HB5.out.trans (k6.mono HB5.out.size))
        have K6 := Lib.hid (K5.out.below k6 K5.out.lt)
        have D6 := Lib.hid (D5.out.below k6 D5.out.lt)
        have X6 := Lib.hid k6
        clear k6 f0 f1 f2 p0 p1
        obtain ⟨p0, p1, _, _⟩ := Blk.two K6.out
        go_wp2_with fail
        refine (HAR.out _ HB6.out).mono ?_
        rintro e w7 ⟨rfl, k7⟩
        have HB7 := Lib.hid (HB6.out.trans (k7.mono HB6.out.size))
        have D7 := Lib.hid (D6.out.below k7 D6.out.lt)
        have X7 := Lib.hid (X6.out.trans (k7.mono X6.out.size))
        obtain ⟨f0, f1, f2, _, _, _⟩ := Blk.three D7.out
        clear k7 p0 p1
        go_wp2_with fail
        refine (HCK.out _ X7.out).mono ?_
        rintro e w8 ⟨rfl, k8⟩
        have HB8 := Lib.hid (HB7.out.trans (k8.mono HB7.out.size))
        clear k8 f0 f1 f2
        cases q2
        all_goals
          go_wp2
          go_ret
          exact ⟨rfl, HB8.out⟩
end Go.Proofs.YtcmmmgblkbbdnaaGreatDoor

namespace Pv
open Go Go.RowKit
theorem walkE_bad {d : Dfa} (h : ¬ d.Ok) (s : Int) (l : List Int) : d.walkE s l = (0, 8) := by
  unfold Dfa.walkE
  rw [if_neg (by rw [Dfa.okB_no h]; simp)]
theorem walkE_out {d : Dfa} (h : d.Ok) {s : Int} {l : List Int} (hl : l.length ≤ 1024) (hs : ¬ (0 ≤ s ∧ s < (d.next.length : Int)) ∨ beyond l) : d.walkE s l = (0, 2) := by
  unfold Dfa.walkE
  rw [if_pos (Dfa.okB_yes h), if_neg (show ¬ 1024 < l.length by omega)]
  by_cases h1 : s < 0 ∨ (d.next.length : Int) ≤ s
  · rw [if_pos h1]
  · rw [if_neg h1, if_pos]
    rcases hs with hs | hs
    · exact absurd ⟨by omega, by omega⟩ hs
    · exact hs
theorem walkE_in {d : Dfa} (h : d.Ok) {s : Int} {l : List Int} (hl : l.length ≤ 1024) (h0 : 0 ≤ s) (h1 : s < (d.next.length : Int)) (hb : ¬ beyond l) : d.walkE s l = (((d.to s.toNat l : Nat) : Int), 0) := by
  unfold Dfa.walkE
  rw [if_pos (Dfa.okB_yes h), if_neg (show ¬ 1024 < l.length by omega), if_neg (show ¬ (s < 0 ∨ (d.next.length : Int) ≤ s) by omega), if_neg hb]
theorem beyond_app {a b : List Int} : beyond (a ++ b) ↔ beyond a ∨ beyond b := by
  constructor
  · rintro ⟨p, hp, h⟩
    rcases List.mem_append.1 hp with hp | hp
    · exact .inl ⟨p, hp, h⟩
    · exact .inr ⟨p, hp, h⟩
  · rintro (⟨p, hp, h⟩ | ⟨p, hp, h⟩)
    · exact ⟨p, by simp [hp], h⟩
    · exact ⟨p, by simp [hp], h⟩
theorem beyond_one {n : Int} : beyond [n] ↔ n < 0 ∨ 1114111 < n := ⟨fun ⟨p, hp, h⟩ => by simp at hp; subst hp; exact h, fun h => ⟨n, by simp, h⟩⟩
/-- By two rows as by one. -/
theorem walk_two {d : Dfa} {s : Int} {a b : List Int} (ha : a.length ≤ 30) (hb : b.length ≤ 30) :
    (((d.walkE s a).2 ≠ 0 ∨ (d.walkE (d.walkE s a).1 b).2 ≠ 0) ∧ (d.walkE s (a ++ b)).2 ≠ 0) ∨
    (d.Ok ∧ (0 ≤ s ∧ s < (d.next.length : Int)) ∧ (d.walkE s a).2 = 0 ∧ (d.walkE (d.walkE s a).1 b).2 = 0 ∧ (d.walkE s (a ++ b)).2 = 0 ∧ (d.walkE s (a ++ b)).1 = (d.walkE (d.walkE s a).1 b).1) := by
  by_cases hk : d.Ok
  case neg => rw [walkE_bad hk, walkE_bad hk, walkE_bad hk]; exact .inl ⟨.inl (by simp), by simp⟩
  have hl : (a ++ b).length ≤ 1024 := by simp; omega
  by_cases hs : 0 ≤ s ∧ s < (d.next.length : Int)
  case neg => rw [walkE_out hk (by omega) (.inl hs), walkE_out hk hl (.inl hs)]; exact .inl ⟨.inl (by simp), by simp⟩
  by_cases h1 : beyond a
  · rw [walkE_out hk (by omega) (.inr h1), walkE_out hk hl (.inr (beyond_app.2 (.inl h1)))]; exact .inl ⟨.inl (by simp), by simp⟩
  have e1 := walkE_in hk (l := a) (by omega) hs.1 hs.2 h1
  have hlt : d.to s.toNat a < d.next.length := hk.to_lt a (by omega)
  rw [e1]
  by_cases h2 : beyond b
  · rw [walkE_out hk (l := b) (by omega) (.inr h2), walkE_out hk hl (.inr (beyond_app.2 (.inr h2)))]; exact .inl ⟨.inr (by simp), by simp⟩
  rw [walkE_in hk (l := b) (by omega) (by simp) (by simp only; omega) h2, walkE_in hk hl hs.1 hs.2 (fun h => by rcases beyond_app.1 h with h | h <;> contradiction)]
  refine .inr ⟨hk, hs, rfl, rfl, rfl, ?_⟩
  simp only
  rw [Dfa.to_app]
  simp
end Pv
namespace Go.Proofs.YtcmmmgblkbbdnaaGreatDoor
open Go.RowKit Pv
theorem own_noint {W : World} {N : Nat} (h : W.heap.size = N) : (W.alloc (.cells #[] 3)).ownsRow N 3 1 (.slice (some ⟨N, 0, none⟩) 0 0) 0 [] := by
  subst h
  exact ⟨by simp, .inr ⟨W.heap.size, 0, #[], rfl, Nat.le_refl _, by show (W.heap.push _)[W.heap.size]? = _; simp, Nat.le_refl _, by simp only [maxLen]; omega, by simp, by simp⟩⟩
/-- One number in new memory. -/
theorem one_int {W : World} {x : Int} (h : -9223372036854775808 ≤ x ∧ x ≤ 9223372036854775807) : At (W.alloc (.cells #[.int .i64 x] 3)) (some ⟨W.heap.size, 0, none⟩) RI [x] :=
  At.ofBlk (Blk.new _ _ _) (Rel.one ⟨rfl, h⟩) (by simp)

set_option maxHeartbeats 8000000 in
set_option maxRecDepth 100000 in
theorem law_SubsetWalks (A1 A2 A3 PA PB : Option Addr) (c1 c2 c3 n1 n2 n3 na ca nb cb : Nat) (s n : Int) (d : Dfa) (a b : List Int) (w : World) (B0 : Nat) (H : DfaAt w A1 A2 A3 n1 n2 n3 d) (hpa : At w PA RI a) (HLA : Hid (a.length = na)) (hpb : At w PB RI b) (HLB : Hid (b.length = nb)) (hn : -9223372036854775808 ≤ n ∧ n ≤ 9223372036854775807) (hT : TabU B0 w) (hB : B0 ≤ w.heap.size) :
    Calls Tryz.prog 8 #[.agg #[.slice A1 n1 c1, .slice A2 n2 c2, .slice A3 n3 c3], .int .i64 s, .slice PA na ca, .slice PB nb cb, .int .i64 n] w fun e w' => e = .returned (.bool true) ∧ Below w.heap.size w w' := by
  obtain ⟨i0, hi0, hz0, hs0, hb0⟩ := info_parts info_int9
  have hW : Below w.heap.size w (w.alloc (.cells #[.slice A1 n1 c1, .slice A2 n2 c2, .slice A3 n3 c3] TDfa)) := (Below.refl _ _).alloc (Nat.le_refl _) _
  have HW := Lib.hid hW
  have K0 := Lib.hid (Blk.new w TDfa #[.slice A1 n1 c1, .slice A2 n2 c2, .slice A3 n3 c3])
  have HAL := Lib.hid (law10_alive _ B0 (hT.then hW hB) (by simp; omega))
  have HD := Lib.hid H; have HPA := Lib.hid hpa; have HPB := Lib.hid hpb; have HN := Lib.hid hn
  have HGA := Lib.hid (fun W (hb : Below w.heap.size w W) => ref10_Great A1 A2 A3 c1 c2 c3 n1 n2 n3 d 40 40 W (H.keep (Keep.of hb)) (by omega) (by omega))
  have hna : na ≤ 140737488355328 := by have := hpa.1; rwa [HLA.out] at this
  have hnb : nb ≤ 140737488355328 := by have := hpb.1; rwa [HLB.out] at this
  clear H hpa hpb hT hB hW hn
  by_cases h8 : na ≤ 30 ∧ nb ≤ 30
  case neg =>
    rcases (show 30 < na ∨ (na ≤ 30 ∧ 30 < nb) by omega) with h | ⟨h, h'⟩
    · have e1 : (30 : Int) < (na : Int) := by omega
      clear h h8
      go_enter Tryz.func8, Tryz.ntmps8
      go_wp2_with fail
      refine HAL.out.mono ?_
      rintro e w1 ⟨rfl, k⟩
      have HB1 := Lib.hid (HW.out.trans (k.mono HW.out.size))
      have K1 := Lib.hid (K0.out.below k (by simp))
      obtain ⟨p0, p1, p2, _, _, _⟩ := Blk.three K1.out
      clear k
      go_wp2_with fail
      refine (HGA.out _ HB1.out).mono ?_
      rintro e w2 ⟨g, rfl, hg, k⟩
      have HB2 := Lib.hid (HB1.out.trans (k.mono HB1.out.size))
      clear hg k
      cases g
      all_goals
        go_wp2
        go_ret
        exact ⟨rfl, HB2.out⟩
    · have e1 : (na : Int) ≤ 30 := by omega
      have e2 : (30 : Int) < (nb : Int) := by omega
      clear h h' h8
      go_enter Tryz.func8, Tryz.ntmps8
      go_wp2_with fail
      refine HAL.out.mono ?_
      rintro e w1 ⟨rfl, k⟩
      have HB1 := Lib.hid (HW.out.trans (k.mono HW.out.size))
      have K1 := Lib.hid (K0.out.below k (by simp))
      obtain ⟨p0, p1, p2, _, _, _⟩ := Blk.three K1.out
      clear k
      go_wp2_with fail
      refine (HGA.out _ HB1.out).mono ?_
      rintro e w2 ⟨g, rfl, hg, k⟩
      have HB2 := Lib.hid (HB1.out.trans (k.mono HB1.out.size))
      clear hg k
      cases g
      all_goals
        go_wp2
        go_ret
        exact ⟨rfl, HB2.out⟩
  obtain ⟨h1, h2⟩ := h8
  have e1 : (na : Int) ≤ 30 := by omega
  have e2 : (nb : Int) ≤ 30 := by omega
  go_enter Tryz.func8, Tryz.ntmps8
  go_wp2_with fail
  refine HAL.out.mono ?_
  rintro e w1 ⟨rfl, k⟩
  have HB1 := Lib.hid (HW.out.trans (k.mono HW.out.size))
  have K1 := Lib.hid (K0.out.below k (by simp))
  obtain ⟨p0, p1, p2, _, _, _⟩ := Blk.three K1.out
  clear k
  go_wp2_with fail
  refine (HGA.out _ HB1.out).mono ?_
  rintro e w2 ⟨g, rfl, hg, k⟩
  have HB2 := Lib.hid (HB1.out.trans (k.mono HB1.out.size))
  have K2 := Lib.hid (K1.out.below k K1.out.lt)
  clear hg k p0 p1 p2
  cases g with
  | true =>
    go_wp2
    go_ret
    exact ⟨rfl, HB2.out⟩
  | false =>
    have PE := Lib.hid (own_noint (W := w2) rfl)
    have hb3 : Below w2.heap.size w2 (w2.alloc (.cells #[] 3)) := (Below.refl _ _).alloc (Nat.le_refl _) _
    have HB3 := Lib.hid (HB2.out.trans (hb3.mono HB2.out.size))
    have X3 := Lib.hid hb3
    obtain ⟨usa, hra, hsa⟩ := At.src (At.keep HPA.out (Keep.of HB3.out)) (fun _ _ h => h.one)
    rw [HLA.out] at hsa
    have SA := Lib.hid hsa; have RA := Lib.hid hra
    have hz3 : w2.heap.size ≤ (w2.alloc (.cells #[] 3)).heap.size := by simp
    have Q1 : Hid (0 + na ≤ maxLen) := Lib.hid (by simp only [maxLen]; omega)
    have Z1 : Hid ((0 + na) * 8 ≤ 140737488355328) := Lib.hid (by omega)
    clear hb3 hra hsa
    go_wp2_with (first
    | (at_builtin
       refine wpList_append_src _ rfl (.tmp 43) (.tmp 44) 27 rfl w2.heap.size 3 i0 (.int .i64 0) 1 8 Tryz.underlying27 hi0 hz0 hs0 hb0 rfl (by decide) (some ⟨w2.heap.size, 0, none⟩) 0 0 _ rfl PE.out PA na ca _ rfl SA.out Q1.out Z1.out hz3 ?_
       go_must (intro Aa caa wa own9 gr9 _
                simp only [Nat.zero_add, List.nil_append] at own9
                have OA := Lib.hid own9
                have X4 := Lib.hid (X3.out.grown gr9 hz3 (fun k hk => (PE.out.lt k hk).1))
                have HB4 := Lib.hid (HB2.out.trans (X4.out.mono HB2.out.size))
                obtain ⟨usb, hrb, hsb⟩ := At.src (At.keep HPB.out (Keep.of HB4.out)) (fun _ _ h => h.one)
                rw [HLB.out] at hsb
                have SB := Lib.hid hsb
                have RB := Lib.hid hrb
                have hz4 : w2.heap.size ≤ wa.heap.size := X4.out.size
                have Q2 : Hid (na + nb ≤ maxLen) := Lib.hid (by simp only [maxLen]; omega)
                have Z2 : Hid ((na + nb) * 8 ≤ 140737488355328) := Lib.hid (by omega)
                clear own9 gr9 hrb hsb))
    | (at_builtin
       refine wpList_append_src _ rfl (.tmp 45) (.tmp 46) 27 rfl w2.heap.size 3 i0 (.int .i64 0) 1 8 Tryz.underlying27 hi0 hz0 hs0 hb0 rfl (by decide) Aa caa na _ rfl OA.out PB nb cb _ rfl SB.out Q2.out Z2.out hz4 ?_
       go_must (intro Ab cab wb own9 gr9 _
                have X5 := Lib.hid (X4.out.grown gr9 hz4 (fun k hk => (OA.out.lt k hk).1))
                have HB5 := Lib.hid (HB2.out.trans (X5.out.mono HB2.out.size))
                have K5 := Lib.hid (K2.out.below X5.out K2.out.lt)
                have HAB := Lib.hid ((At.of_own (R := RI) (xs := a ++ b) own9 (RA.out.app RB.out) (by rw [List.length_append, HLA.out, HLB.out]; omega)).2.2)
                have HLAB : Hid ((a ++ b).length = na + nb) := Lib.hid (by rw [List.length_append, HLA.out, HLB.out])
                obtain ⟨p0, p1, p2, _, _, _⟩ := Blk.three K5.out
                clear own9 gr9)))
    obtain ⟨rab, hrab⟩ : ∃ r, d.walkE s (a ++ b) = r := ⟨_, rfl⟩
    obtain ⟨ra, hra⟩ : ∃ r, d.walkE s a = r := ⟨_, rfl⟩
    obtain ⟨rb, hrb⟩ : ∃ r, d.walkE ra.1 b = r := ⟨_, rfl⟩
    have HTWO := walk_two (d := d) (s := s) (a := a) (b := b) (by rw [HLA.out]; omega) (by rw [HLB.out]; omega)
    rw [hrab, hra, hrb] at HTWO
    have HTWO := Lib.hid HTWO
    have HWA := subset_Walk A1 A2 A3 Ab c1 c2 c3 cab n1 n2 n3 (na + nb) d s (a ++ b) wb (HD.out.keep (Keep.of HB5.out)) HAB.out HLAB
    rw [hrab] at HWA
    have HWA := Lib.hid HWA
    have HWB := fun W (hb : Below w.heap.size w W) => subset_Walk A1 A2 A3 PA c1 c2 c3 ca n1 n2 n3 na d s a W (HD.out.keep (Keep.of hb)) (At.keep HPA.out (Keep.of hb)) HLA
    rw [hra] at HWB
    have HWB := Lib.hid HWB
    have HWC := fun W (hb : Below w.heap.size w W) => subset_Walk A1 A2 A3 PB c1 c2 c3 cb n1 n2 n3 nb d ra.1 b W (HD.out.keep (Keep.of hb)) (At.keep HPB.out (Keep.of hb)) HLB
    rw [hrb] at HWC
    have HWC := Lib.hid HWC
    obtain ⟨x1, x2⟩ := rab
    obtain ⟨y1, y2⟩ := ra
    obtain ⟨z1, z2⟩ := rb
    simp only at HWA HWB HWC HTWO
    clear hrab hra hrb
    go_wp2_with fail
    refine HWA.out.mono ?_
    rintro e w6 ⟨rfl, k⟩
    have HB6 := Lib.hid (HB5.out.trans (k.mono HB5.out.size))
    have K6 := Lib.hid (K5.out.below k K5.out.lt)
    clear k p0 p1 p2
    obtain ⟨p0, p1, p2, _, _, _⟩ := Blk.three K6.out
    go_wp2_with fail
    refine (HWB.out _ HB6.out).mono ?_
    rintro e w7 ⟨rfl, k⟩
    have HB7 := Lib.hid (HB6.out.trans (k.mono HB6.out.size))
    have K7 := Lib.hid (K6.out.below k K6.out.lt)
    clear k p0 p1 p2
    obtain ⟨p0, p1, p2, _, _, _⟩ := Blk.three K7.out
    go_wp2_with fail
    refine (HWC.out _ HB7.out).mono ?_
    rintro e w8 ⟨rfl, k⟩
    have HB8 := Lib.hid (HB7.out.trans (k.mono HB7.out.size))
    have K8 := Lib.hid (K7.out.below k K7.out.lt)
    clear k p0 p1 p2
    rcases HTWO.out with ⟨hq, hx⟩ | ⟨hok, hsr, q1, q2, q3, q4⟩
    · have t3 : (x2 != 0) = true := by simpa using hx
      clear HTWO hx
      by_cases hy : y2 = 0
      · have hz : z2 ≠ 0 := by rcases hq with h | h <;> first | exact absurd hy h | exact h
        have t2 : (z2 != 0) = true := by simpa using hz
        subst hy
        clear hq hz
        go_wp2
        go_ret
        exact ⟨rfl, HB8.out⟩
      · have t1 : (y2 != 0) = true := by simpa using hy
        clear hq hy
        go_wp2
        go_ret
        exact ⟨rfl, HB8.out⟩
    · subst q1; subst q2; subst q3; subst q4
      have t1 : (x1 != x1) = false := by simp
      have HOK := Lib.hid hok
      obtain ⟨hs0', hs1'⟩ := hsr
      have HS1 : Hid (s < (d.next.length : Int)) := Lib.hid hs1'
      clear hok HTWO hs1'
      by_cases hnr : 0 ≤ n ∧ n ≤ 1114111
      case neg =>
        have HC : (d.classE n) = (0, 2) := by
          unfold Dfa.classE
          rw [if_pos (Dfa.okB_yes HOK.out), if_pos (by omega)]
        have HCL := subset_Class A1 A2 A3 c1 c2 c3 n1 n2 n3 d n w8 (HD.out.keep (Keep.of HB8.out))
        rw [HC] at HCL
        have HCL := Lib.hid HCL
        obtain ⟨p0, p1, p2, _, _, _⟩ := Blk.three K8.out
        clear HC
        go_wp2_with fail
        refine HCL.out.mono ?_
        rintro e w9 ⟨rfl, k⟩
        have HB9 := Lib.hid (HB8.out.trans (k.mono HB8.out.size))
        clear k p0 p1 p2
        by_cases hn0 : n < 0
        · go_wp2
          go_ret
          exact ⟨rfl, HB9.out⟩
        · have hn1 : 1114111 < n := by omega
          have hn2 : 0 ≤ n := by omega
          clear hn0 hnr
          go_wp2
          go_ret
          exact ⟨rfl, HB9.out⟩
      obtain ⟨hn0, hn1⟩ := hnr
      have HC : (d.classE n) = (((lastLe d.cuts n d.cuts.length : Nat) : Int), 0) := by
        unfold Dfa.classE
        rw [if_pos (Dfa.okB_yes HOK.out), if_neg (by omega)]
      have HCL := subset_Class A1 A2 A3 c1 c2 c3 n1 n2 n3 d n w8 (HD.out.keep (Keep.of HB8.out))
      rw [HC] at HCL
      obtain ⟨q, hq, hqn, hmx⟩ := HOK.out.cls_cut hn0
      have hcl := HOK.out.cls_lt n
      obtain ⟨c, hc⟩ : ∃ c, lastLe d.cuts n d.cuts.length = c := ⟨_, rfl⟩
      have hc' : d.cls n = c := hc
      rw [hc] at HCL
      rw [hc'] at hq hmx hcl
      have hqp := HOK.out.cut_pnt (mem_of_get hq)
      have HCL := Lib.hid HCL
      have HST : Hid (d.step s.toNat n = d.step s.toNat q) := Lib.hid (by rw [Dfa.step_go, Dfa.step_go, hc', HOK.out.cls_at hq])
      have HW1 : Hid (d.walkE s [n] = (((d.step s.toNat n : Nat) : Int), 0)) := Lib.hid (walkE_in HOK.out (l := [n]) (by simp) hs0' HS1.out (fun h => by rcases beyond_one.1 h with h | h <;> omega))
      have HW2 : Hid (d.walkE s [q] = (((d.step s.toNat q : Nat) : Int), 0)) := Lib.hid (walkE_in HOK.out (l := [q]) (by simp) hs0' HS1.out (fun h => by unfold Pnt at hqp; rcases beyond_one.1 h with h | h <;> omega))
      have HQ := Lib.hid hq
      have HMX := Lib.hid hmx
      rw [HD.out.hc.out] at hcl
      obtain ⟨p0, p1, p2, _, _, _⟩ := Blk.three K8.out
      have hq0 : 0 ≤ q := by unfold Pnt at hqp; omega
      have hq9 : q ≤ 1114111 := by unfold Pnt at hqp; omega
      have HR : Hid (-9223372036854775808 ≤ q ∧ q ≤ 9223372036854775807) := Lib.hid ⟨by omega, by omega⟩
      have hn2 : n1 ≤ 256 := by have := HOK.out.c2; rwa [HD.out.hc.out] at this
      clear HC hq hmx hqp hc hc'
      go_wp2_with fail
      refine HCL.out.mono ?_
      rintro e w9 ⟨rfl, k⟩
      have HB9 := Lib.hid (HB8.out.trans (k.mono HB8.out.size))
      have K9 := Lib.hid (K8.out.below k K8.out.lt)
      have hb10 : Below w9.heap.size w9 (w9.alloc (.cells #[.int .i64 n] 3)) := (Below.refl _ _).alloc (Nat.le_refl _) _
      have HB10 := Lib.hid (HB9.out.trans (hb10.mono HB9.out.size))
      have K10 := Lib.hid (K9.out.below hb10 K9.out.lt)
      have HWN := subset_Walk A1 A2 A3 _ c1 c2 c3 1 n1 n2 n3 1 d s [n] _ (HD.out.keep (Keep.of HB10.out)) (one_int (W := w9) HN.out) (Lib.hid rfl)
      rw [HW1.out] at HWN
      have HWN := Lib.hid HWN
      clear k hb10 p0 p1 p2
      obtain ⟨p0, p1, p2, _, _, _⟩ := Blk.three K9.out
      go_wp2_with fail
      refine HWN.out.mono ?_
      rintro e w11 ⟨rfl, k⟩
      have HB11 := Lib.hid (HB10.out.trans (k.mono HB10.out.size))
      have K11 := Lib.hid (K10.out.below k K10.out.lt)
      clear k p0 p1 p2
      obtain ⟨p0, p1, p2, _, _, _⟩ := Blk.three K11.out
      obtain ⟨ub, uo, e1', hub, hu1⟩ : ∃ ub uo, A1 = some ⟨ub, uo, none⟩ ∧ ub < w11.heap.size ∧ w11.cell? ⟨ub, uo + c, none⟩ = some (.int .i64 q) := by
        obtain ⟨b', off, u, x, e, hb, hc1, ⟨rfl, _⟩, hx⟩ := (At.keep HD.out.c (Keep.of HB11.out)).gt HD.out.hc hcl
        rw [HQ.out] at hx
        have hxx := hx.out
        obtain rfl := Option.some.inj hxx
        exact ⟨b', off, e, hb, hc1⟩
      subst e1'
      have HD11 := Lib.hid (HD.out.keep (Keep.of HB11.out))
      have i1 : (0 : Int) ≤ (c : Int) := by omega
      have i2 : (c : Int) < (n1 : Int) := by omega
      have HS : Hid (w11.drew.cell? ⟨w.heap.size, 0, none⟩ = some (.slice (some ⟨ub, uo, none⟩) n1 c1) ∧ w11.drew.cell? ⟨w.heap.size, 1, none⟩ = some (.slice A2 n2 c2) ∧ w11.drew.cell? ⟨w.heap.size, 2, none⟩ = some (.slice A3 n3 c3) ∧ w11.drew.cell? ⟨ub, uo + c, none⟩ = some (.int .i64 q)) := Lib.hid ⟨p0, p1, p2, hu1⟩
      have hb12 : Below w11.heap.size w11 (w11.drew.alloc (.cells #[.int .i64 q] 3)) := ((Below.refl _ _).drew).alloc (Nat.le_refl _) _
      have HB12 := Lib.hid (HB11.out.trans (hb12.mono HB11.out.size))
      have K12 := Lib.hid (K11.out.below hb12 K11.out.lt)
      have C12 := Lib.hid (((Keep.of hb12).cell ub (uo + c) hub).trans hu1)
      have hub12 : ub < (w11.drew.alloc (.cells #[.int .i64 q] 3)).heap.size := Nat.lt_of_lt_of_le hub hb12.size
      have HWQ := subset_Walk (some ⟨ub, uo, none⟩) A2 A3 _ c1 c2 c3 1 n1 n2 n3 1 d s [q] _ (HD.out.keep (Keep.of HB12.out)) (one_int (W := w11.drew) HR.out) (Lib.hid rfl)
      rw [HW2.out, ← HST.out] at HWQ
      have HWQ := Lib.hid HWQ
      have HP12 := Lib.hid (Blk.three K12.out)
      clear hb12 hub hu1 p0 p1 p2
      go_wp2
      refine wp_region_T 13 (fun W => W.cell? ⟨w.heap.size, 0, none⟩ = some (.slice (some ⟨ub, uo, none⟩) n1 c1) ∧ W.cell? ⟨w.heap.size, 1, none⟩ = some (.slice A2 n2 c2) ∧ W.cell? ⟨w.heap.size, 2, none⟩ = some (.slice A3 n3 c3) ∧ W.cell? ⟨ub, uo + c, none⟩ = some (.int .i64 q)) (by kernel_rfl) ?_
      refine wpAnyT_take (i := 0) (v := ?_) rfl (by kernel_rfl) (by kernel_rfl) (by kernel_rfl) (by kernel_rfl) (by kernel_rfl) (fun _ _ _ h => h) (.inl ⟨rfl, ?_⟩) HS.out ?_
      rotate_left
      · intro W__ hW__
        obtain ⟨h1, h2, h3, h4⟩ := hW__
        go_simp
        (try with_reducible rfl)
      try simp only [Act.put]
      refine wpAnyT_take (i := 1) (v := ?_) rfl (by kernel_rfl) (by kernel_rfl) (by kernel_rfl) (by kernel_rfl) (by kernel_rfl) (fun _ _ _ h => h) (.inl ⟨rfl, ?_⟩) HS.out ?_
      rotate_left
      · intro W__ hW__
        obtain ⟨h1, h2, h3, h4⟩ := hW__
        go_simp
        (try with_reducible rfl)
      try simp only [Act.put]
      refine wpAnyT_take (i := 2) (v := ?_) rfl (by kernel_rfl) (by kernel_rfl) (by kernel_rfl) (by kernel_rfl) (by kernel_rfl) (fun _ _ _ h => h) (.inl ⟨rfl, ?_⟩) HS.out ?_
      rotate_left
      · intro W__ hW__
        obtain ⟨h1, h2, h3, h4⟩ := hW__
        go_simp
        (try with_reducible rfl)
      try simp only [Act.put]
      refine wpAnyT_take (i := 3) (v := ?_) rfl (by kernel_rfl) (by kernel_rfl) (by kernel_rfl) (by kernel_rfl) (by kernel_rfl) (fun _ _ _ h => h) (.inl ⟨rfl, ?_⟩) HS.out ?_
      rotate_left
      · intro W__ hW__
        obtain ⟨h1, h2, h3, h4⟩ := hW__
        go_simp
        (try with_reducible rfl)
      try simp only [Act.put]
      refine wpAnyT_take (i := 4) (v := ?_) rfl (by kernel_rfl) (by kernel_rfl) (by kernel_rfl) (by kernel_rfl) (by kernel_rfl) (fun _ _ _ h => h) (.inl ⟨rfl, ?_⟩) HS.out ?_
      rotate_left
      · intro W__ hW__
        obtain ⟨h1, h2, h3, h4⟩ := hW__
        go_simp
        (try with_reducible rfl)
      try simp only [Act.put]
      refine wpAnyT_take (i := 5) (v := ?_) rfl (by kernel_rfl) (by kernel_rfl) (by kernel_rfl) (by kernel_rfl) (by kernel_rfl) (fun _ _ _ h => h) (.inl ⟨rfl, ?_⟩) HS.out ?_
      rotate_left
      · intro W__ hW__
        obtain ⟨h1, h2, h3, h4⟩ := hW__
        go_simp
        (try with_reducible rfl)
      try simp only [Act.put]
      refine wpAnyT_take (i := 6) (v := ?_) rfl (by kernel_rfl) (by kernel_rfl) (by kernel_rfl) (by kernel_rfl) (by kernel_rfl) (fun _ _ _ h => h) (.inl ⟨rfl, ?_⟩) HS.out ?_
      rotate_left
      · intro W__ hW__
        obtain ⟨h1, h2, h3, h4⟩ := hW__
        go_simp
        (try with_reducible rfl)
      try simp only [Act.put]
      refine wpAnyT_one (i := 7) rfl (by kernel_rfl) rfl fun K__ hK__ => ?_
      unfold Oper.wp
      go_simp
      refine hK__ _ _ (⟨HP12.out.1, HP12.out.2.1, HP12.out.2.2.1, C12.out⟩) ?_
      clear hK__
      refine wpAnyT_one (i := 8) rfl (by kernel_rfl) rfl fun K__ hK__ => ?_
      unfold Oper.wp
      go_simp
      refine HWQ.out.mono ?_
      rintro e w13 ⟨rfl, k⟩
      have HB13 := Lib.hid (HB12.out.trans (k.mono HB12.out.size))
      have K13 := Lib.hid (K12.out.below k K12.out.lt)
      have C13 := Lib.hid (((Keep.of k).cell ub (uo + c) hub12).trans C12.out)
      obtain ⟨p0, p1, p2, _, _, _⟩ := Blk.three K13.out
      have HS13 := Lib.hid (And.intro p0 (And.intro p1 (And.intro p2 C13.out)))
      clear k p0 p1 p2
      refine hK__ _ _ HS13.out ?_
      clear hK__
      refine wpAnyT_take (i := 9) (v := ?_) rfl (by kernel_rfl) (by kernel_rfl) (by kernel_rfl) (by kernel_rfl) (by kernel_rfl) (fun _ _ _ h => h) (.inl ⟨rfl, ?_⟩) HS13.out ?_
      rotate_left
      · intro W__ hW__
        obtain ⟨h1, h2, h3, h4⟩ := hW__
        go_simp
        (try with_reducible rfl)
      try simp only [Act.put]
      refine wpAnyT_take (i := 10) (v := ?_) rfl (by kernel_rfl) (by kernel_rfl) (by kernel_rfl) (by kernel_rfl) (by kernel_rfl) (fun _ _ _ h => h) (.inl ⟨rfl, ?_⟩) HS13.out ?_
      rotate_left
      · intro W__ hW__
        obtain ⟨h1, h2, h3, h4⟩ := hW__
        go_simp
        (try with_reducible rfl)
      try simp only [Act.put]
      refine wpAnyT_take (i := 11) (v := ?_) rfl (by kernel_rfl) (by kernel_rfl) (by kernel_rfl) (by kernel_rfl) (by kernel_rfl) (fun _ _ _ h => h) (.inl ⟨rfl, ?_⟩) HS13.out ?_
      rotate_left
      · intro W__ hW__
        obtain ⟨h1, h2, h3, h4⟩ := hW__
        go_simp
        (try with_reducible rfl)
      try simp only [Act.put]
      refine wpAnyT_take (i := 12) (v := ?_) rfl (by kernel_rfl) (by kernel_rfl) (by kernel_rfl) (by kernel_rfl) (by kernel_rfl) (fun _ _ _ h => h) (.inl ⟨rfl, ?_⟩) HS13.out ?_
      rotate_left
      · intro W__ hW__
        obtain ⟨h1, h2, h3, h4⟩ := hW__
        go_simp
        (try with_reducible rfl)
      try simp only [Act.put]
      refine wpAnyT_end (i := 13) rfl (by kernel_rfl) rfl (by kernel_rfl) fun K__ hK__ => ?_
      unfold Oper.wp
      go_simp
      refine hK__ _ _ ?_
      clear hK__
      refine wpAnyT_done (by kernel_rfl) ?_ _
      obtain ⟨p0, p1, p2, p3⟩ := HS13.out
      have t9 : ((((d.step s.toNat n : Nat) : Int)) == ((d.step s.toNat n : Nat) : Int)) = true := by simp
      by_cases hlast : c + 1 = n1
      · have t8 : ((c : Int) + 1 == (n1 : Int)) = true := by simp; omega
        clear hlast
        go_wp2
        go_ret
        exact ⟨rfl, HB13.out⟩
      · have t8 : ((c : Int) + 1 == (n1 : Int)) = false := by simp; omega
        obtain ⟨b', off, u, x, e, hb, hc1, ⟨rfl, _⟩, hx⟩ := (At.keep HD.out.c (Keep.of HB13.out)).gt HD.out.hc (k := c + 1) (by omega)
        injection e with e
        injection e with e1 e2
        subst e1; subst e2
        have hxn : n < x := by
          rcases Int.lt_or_le n x with h | h
          · exact h
          · have := HMX.out (c + 1) x hx.out h; omega
        have i3 : (c : Int) + 1 < (n1 : Int) := by omega
        have i4 : (0 : Int) ≤ (c : Int) + 1 := by omega
        clear hlast hx
        go_wp2
        go_ret
        exact ⟨rfl, HB13.out⟩
end Go.Proofs.YtcmmmgblkbbdnaaGreatDoor
