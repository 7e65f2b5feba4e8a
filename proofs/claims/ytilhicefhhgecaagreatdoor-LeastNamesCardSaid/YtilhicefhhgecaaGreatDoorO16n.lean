/- Walks: the least automaton of a pattern's text (laws of the least chapter): of, alive. PUT1 -/
import Derived.Test.YtilhicefhhgecaaGreatDoorL10en
import Derived.Test.YtilhicefhhgecaaGreatDoorIbn
import Derived.Test.YtilhicefhhgecaaGreatDoorO15n
namespace Go.Proofs.YtilhicefhhgecaaGreatDoor
open Go.RowKit Pv
theorem comp_is {T : Tr} {D0 D : Dfa} {k : Nat} (h : Known T) (hb : subB T D0 = true) (hl : leastC D0 k = some D) : CR T.flat D 0 := by
  obtain ⟨_, rfl⟩ := leastC_is hl
  exact .made (r := ((leadT T [[]] 0).1, (((leadT T [[]] 0).2 : Nat) : Int), 0)) (.inr ⟨h.pat, T, h.ok, rfl, .inr ⟨h.few, rfl⟩⟩) rfl (subB_is h hb)

set_option maxHeartbeats 2000000 in
set_option maxRecDepth 100000 in
theorem law11_of (t : ByteArray) (T : Tr) (D : Dfa) (w : World) (B : Nat) (h : Tells (bsl t) T) (hD : CR T.flat D 0) (hok : D.Ok) (hT : TabU B w) (hB : B ≤ w.heap.size) :
    Calls Tryz.prog 20 #[.string t] w (DfaB w D true) := by
  have hW : Below w.heap.size w (w.alloc (.cells #[.slice none 0 0, .slice none 0 0, .slice none 0 0] TDfa)) := (Below.refl _ _).alloc (Nat.le_refl _) _
  have HW := Lib.hid hW
  have K0 := Lib.hid (Blk.new w TDfa #[.slice none 0 0, .slice none 0 0, .slice none 0 0])
  have HP := Lib.hid (pattern_Parse t T _ B h h.plain (hT.then hW hB) (by simp; omega))
  have HT := Lib.hid h
  have HD := Lib.hid hD; have HOK := Lib.hid hok
  obtain ⟨nt, hnt⟩ : ∃ nt, T.flat.length = nt := ⟨_, rfl⟩
  have HN := Lib.hid hnt
  have hn : nt ≤ 64 := by rw [← hnt]; exact h.known.size
  clear h hT hB hnt hW hD hok
  go_enter Tryz.func20, Tryz.ntmps20
  go_wp2_with fail
  refine HP.out.mono ?_
  rintro e w1 ⟨A1, c1, rfl, k1, k2⟩
  have HB1 := Lib.hid (HW.out.trans (k2.mono HW.out.size))
  have K1 := Lib.hid (K0.out.below k2 (by simp))
  have HAT := Lib.hid (rx_at k1 (by rw [HN.out]; omega) HT.out.sets)
  rw [HN.out]
  clear k1 k2
  have HBU := Lib.hid (least_Compile A1 nt c1 T.flat w1 HAT.out HN)
  go_wp2_with fail
  refine HBU.out.mono ?_
  rintro e w4 ⟨D', code, B1, m1, d1, B2, m2, d2, B3, m3, d3, rfl, hat, hout, k4⟩
  obtain ⟨e1, e2⟩ := hout.one HD.out
  subst e1; subst e2
  have HB4 := Lib.hid (HB1.out.trans (k4.mono HB1.out.size))
  have K4 := Lib.hid (K1.out.below k4 K1.out.lt)
  have hb5 : Below w4.heap.size w4 (w4.alloc (.cells #[.slice B1 m1 d1, .slice B2 m2 d2, .slice B3 m3 d3] TDfa)) := (Below.refl _ _).alloc (Nat.le_refl _) _
  have HB5 := Lib.hid (HB4.out.trans (hb5.mono HB4.out.size))
  have K5 := Lib.hid (K4.out.below hb5 K4.out.lt)
  have HD5 := Lib.hid (DfaAt.keep hat (Keep.of hb5))
  obtain ⟨p0, p1, p2, f0, f1, f2⟩ := Blk.three K5.out
  have p9 := K5.out.lt
  clear hat hout k4 hb5
  go_wp2
  have K6 := Lib.hid (((K5.out.set 0 (.slice B1 m1 d1)).set 1 (.slice B2 m2 d2)).set 2 (.slice B3 m3 d3))
  obtain ⟨z0, z1, z2, _, _, _⟩ := Blk.three (a := .slice B1 m1 d1) (b := .slice B2 m2 d2) (c := .slice B3 m3 d3) K6.out
  have hne : w.heap.size ≤ w4.heap.size := HB4.out.size
  refine bodyPost_ret (v := .tuple #[.agg #[.slice B1 m1 d1, .slice B2 m2 d2, .slice B3 m3 d3], .bool true]) (by simp [results, Tryz.results20, go_sem, z0, z1, z2]) rfl ⟨B1, m1, d1, B2, m2, d2, B3, m3, d3, rfl, ?_, ((HB5.out.setCell (p := ⟨w.heap.size, 0, none⟩) (by simp) _).setCell (p := ⟨w.heap.size, 1, none⟩) (by simp) _).setCell (p := ⟨w.heap.size, 2, none⟩) (by simp) _⟩
  exact HD5.out.box HOK.out K5.out (((KeepBut.refl _ _).set 0 _).set 1 _ |>.set 2 _)

def d11 : Dfa := ⟨[0, 97, 99], [[1, 0, 1], [1, 1, 1]], [true, false]⟩
theorem d11_ok : d11.Ok := okC_is (by decide +kernel)
/-- What is built of both patterns ahead of the least one. -/
def d11a : Dfa := ⟨[0, 97, 98, 99], [[1, 2, 3, 1], [1, 1, 1, 1], [1, 2, 3, 1], [1, 2, 3, 1]], [true, false, true, true]⟩
theorem d11_10 : CR t10.flat d11 0 := comp_is (D0 := d11a) (k := 4) tells10.known (by decide +kernel) (by kernel_rfl)
theorem d11_11 : CR t11.flat d11 0 := comp_is (D0 := d11a) (k := 4) tells11.known (by decide +kernel) (by kernel_rfl)
theorem d11_lit (w : World) : DfaAt (((((w.alloc (.cells #[.int .i64 0, .int .i64 97, .int .i64 99] 3)).alloc (.cells #[.int .i64 1, .int .i64 0, .int .i64 1] 3)).alloc (.cells #[.int .i64 1, .int .i64 1, .int .i64 1] 3)).alloc (.cells #[.slice (some ⟨w.heap.size + 1, 0, none⟩) 3 3, .slice (some ⟨w.heap.size + 1 + 1, 0, none⟩) 3 3] 22)).alloc (.cells #[.bool true, .bool false] 4)) (some ⟨w.heap.size, 0, none⟩) (some ⟨w.heap.size + 1 + 1 + 1, 0, none⟩) (some ⟨w.heap.size + 1 + 1 + 1 + 1, 0, none⟩) 3 2 2 d11 := by
  have b0 := (((((blk_at (W := w) (n := w.heap.size) 3 #[.int .i64 0, .int .i64 97, .int .i64 99] (by simp)).alloc (.cells #[.int .i64 1, .int .i64 0, .int .i64 1] 3)).alloc (.cells #[.int .i64 1, .int .i64 1, .int .i64 1] 3)).alloc (.cells #[.slice (some ⟨w.heap.size + 1, 0, none⟩) 3 3, .slice (some ⟨w.heap.size + 1 + 1, 0, none⟩) 3 3] 22)).alloc (.cells #[.bool true, .bool false] 4))
  have b1 := ((((blk_at (W := (w.alloc (.cells #[.int .i64 0, .int .i64 97, .int .i64 99] 3))) (n := w.heap.size + 1) 3 #[.int .i64 1, .int .i64 0, .int .i64 1] (by simp)).alloc (.cells #[.int .i64 1, .int .i64 1, .int .i64 1] 3)).alloc (.cells #[.slice (some ⟨w.heap.size + 1, 0, none⟩) 3 3, .slice (some ⟨w.heap.size + 1 + 1, 0, none⟩) 3 3] 22)).alloc (.cells #[.bool true, .bool false] 4))
  have b2 := (((blk_at (W := ((w.alloc (.cells #[.int .i64 0, .int .i64 97, .int .i64 99] 3)).alloc (.cells #[.int .i64 1, .int .i64 0, .int .i64 1] 3))) (n := w.heap.size + 1 + 1) 3 #[.int .i64 1, .int .i64 1, .int .i64 1] (by simp)).alloc (.cells #[.slice (some ⟨w.heap.size + 1, 0, none⟩) 3 3, .slice (some ⟨w.heap.size + 1 + 1, 0, none⟩) 3 3] 22)).alloc (.cells #[.bool true, .bool false] 4))
  have b3 := ((blk_at (W := (((w.alloc (.cells #[.int .i64 0, .int .i64 97, .int .i64 99] 3)).alloc (.cells #[.int .i64 1, .int .i64 0, .int .i64 1] 3)).alloc (.cells #[.int .i64 1, .int .i64 1, .int .i64 1] 3))) (n := w.heap.size + 1 + 1 + 1) 22 #[.slice (some ⟨w.heap.size + 1, 0, none⟩) 3 3, .slice (some ⟨w.heap.size + 1 + 1, 0, none⟩) 3 3] (by simp)).alloc (.cells #[.bool true, .bool false] 4))
  have b4 := (blk_at (W := ((((w.alloc (.cells #[.int .i64 0, .int .i64 97, .int .i64 99] 3)).alloc (.cells #[.int .i64 1, .int .i64 0, .int .i64 1] 3)).alloc (.cells #[.int .i64 1, .int .i64 1, .int .i64 1] 3)).alloc (.cells #[.slice (some ⟨w.heap.size + 1, 0, none⟩) 3 3, .slice (some ⟨w.heap.size + 1 + 1, 0, none⟩) 3 3] 22))) (n := w.heap.size + 1 + 1 + 1 + 1) 4 #[.bool true, .bool false] (by simp))
  refine ⟨(isInts_blk (n := 3) b0 rfl rfl (by decide) (by omega)).at, At.ofBlk b3 ((Rel.one (isInts_blk (n := 3) b1 rfl rfl (by decide) (by omega))).app (Rel.one (isInts_blk (n := 3) b2 rfl rfl (by decide) (by omega)))) (by decide), At.ofBlk b4 (rel_bools [true, false]) (by decide), Lib.hid rfl, Lib.hid rfl, Lib.hid rfl⟩

set_option maxHeartbeats 2000000 in
set_option maxRecDepth 100000 in
theorem law11_alive (w : World) (B : Nat) (hT : TabU B w) (hB : B ≤ w.heap.size) : Calls Tryz.prog 22 #[] w fun e w' => e = .returned (.bool true) ∧ Below w.heap.size w w' := by
  have HO := Lib.hid (law11_of ⟨#[40, 97, 124, 98, 41, 42]⟩ t10 d11 w B tells10 d11_10 d11_ok hT hB)
  have HO2 := Lib.hid (fun W (hb : Below w.heap.size w W) => law11_of ⟨#[40, 97, 42, 98, 42, 41, 42]⟩ t11 d11 W B tells11 d11_11 d11_ok (hT.then hb hB) (Nat.le_trans hB hb.size))
  clear hT hB
  go_enter Tryz.func22, Tryz.ntmps22
  go_wp2_with fail
  refine HO.out.mono ?_
  rintro e w1 ⟨A1, n1, c1, A2, n2, c2, A3, n3, c3, rfl, k1, k2⟩
  have hb2 : Below w1.heap.size w1 (w1.alloc (.cells #[.slice A1 n1 c1, .slice A2 n2 c2, .slice A3 n3 c3] TDfa)) := (Below.refl _ _).alloc (Nat.le_refl _) _
  have HB2 := Lib.hid (k2.trans (hb2.mono k2.size))
  have K2 := Lib.hid (Blk.new w1 TDfa #[.slice A1 n1 c1, .slice A2 n2 c2, .slice A3 n3 c3])
  have HD2 := Lib.hid (DfaAt.keep k1 (Keep.of hb2))
  clear k1 k2 hb2
  go_wp2_with fail
  refine (HO2.out _ HB2.out).mono ?_
  rintro e w3 ⟨B1, m1, d1, B2, m2, d2, B3, m3, d3, rfl, k1, k2⟩
  have hb4 : Below w3.heap.size w3 (w3.alloc (.cells #[.slice B1 m1 d1, .slice B2 m2 d2, .slice B3 m3 d3] TDfa)) := (Below.refl _ _).alloc (Nat.le_refl _) _
  have hb24 := k2.trans (hb4.mono k2.size)
  have HB4 := Lib.hid (HB2.out.trans (hb24.mono HB2.out.size))
  have K4 := Lib.hid (K2.out.below hb24 (by simp))
  have D4 := Lib.hid (Blk.new w3 TDfa #[.slice B1 m1 d1, .slice B2 m2 d2, .slice B3 m3 d3])
  have HD4 := Lib.hid (DfaAt.keep HD2.out (Keep.of hb24))
  have HE4 := Lib.hid (DfaAt.keep k1 (Keep.of hb4))
  have HS := ref10_Same A1 A2 A3 B1 B2 B3 c1 c2 c3 n1 n2 n3 d1 d2 d3 m1 m2 m3 d11 d11 _ HD4.out HE4.out
  rw [yes_t rfl] at HS
  have HS := Lib.hid HS
  obtain ⟨p0, p1, p2, _, _, _⟩ := Blk.three K4.out
  obtain ⟨q0, q1, q2, _, _, _⟩ := Blk.three D4.out
  clear k1 k2 hb4 hb24
  go_wp2_with fail
  refine HS.out.mono ?_
  rintro e w5 ⟨rfl, k5⟩
  have HB5 := Lib.hid (HB4.out.trans (k5.mono HB4.out.size))
  have K5 := Lib.hid (K4.out.below k5 K4.out.lt)
  have HD5 := Lib.hid (DfaAt.keep HD4.out (Keep.of k5))
  have hb6 : Below w5.heap.size w5 (((((w5.alloc (.cells #[.int .i64 0, .int .i64 97, .int .i64 99] 3)).alloc (.cells #[.int .i64 1, .int .i64 0, .int .i64 1] 3)).alloc (.cells #[.int .i64 1, .int .i64 1, .int .i64 1] 3)).alloc (.cells #[.slice (some ⟨w5.heap.size + 1, 0, none⟩) 3 3, .slice (some ⟨w5.heap.size + 1 + 1, 0, none⟩) 3 3] 22)).alloc (.cells #[.bool true, .bool false] 4)) := (((((Below.refl _ _).alloc (Nat.le_refl _) _).alloc (by simp) _).alloc (by simp; omega) _).alloc (by simp; omega) _).alloc (by simp; omega) _
  have HS6 := ref10_Same A1 A2 A3 _ _ _ c1 c2 c3 n1 n2 n3 3 2 2 3 2 2 d11 d11 _ (DfaAt.keep HD5.out (Keep.of hb6)) (d11_lit w5)
  rw [yes_t rfl] at HS6
  have HS6 := Lib.hid HS6
  have HB6 := Lib.hid (HB5.out.trans (hb6.mono HB5.out.size))
  clear p0 p1 p2 q0 q1 q2 k5 hb6
  obtain ⟨p0, p1, p2, _, _, _⟩ := Blk.three K5.out
  have hlt := K5.out.lt
  go_wp2_with fail
  refine HS6.out.mono ?_
  rintro e w7 ⟨rfl, k7⟩
  have HB7 := Lib.hid (HB6.out.trans (k7.mono HB6.out.size))
  clear k7
  go_wp2
  go_ret
  exact ⟨rfl, HB7.out⟩
end Go.Proofs.YtilhicefhhgecaaGreatDoor

namespace Go.Proofs.YtilhicefhhgecaaGreatDoor
open Go.RowKit Pv
def d6a : Dfa := ⟨[0, 97, 98], [[1, 2, 1], [1, 1, 1], [1, 2, 1]], [true, false, true]⟩
def d6 : Dfa := ⟨[0, 97, 98], [[1, 0, 1], [1, 1, 1]], [true, false]⟩
def d12 : Dfa := ⟨[0, 97, 98], [[1, 2, 1], [1, 1, 1], [1, 3, 1], [1, 1, 1]], [true, false, true, true]⟩
theorem d6_ok : d6.Ok := okC_is (by decide +kernel)
theorem d12_ok : d12.Ok := okC_is (by decide +kernel)
theorem d6_cr : CR t6.flat d6 0 := comp_is (D0 := d6a) (k := 3) tells6.known (by decide +kernel) (by kernel_rfl)
theorem d12_cr : CR t12.flat d12 0 := comp_is (D0 := d12) (k := 4) tells12.known (by decide +kernel) (by kernel_rfl)
theorem d612 : wordD d6 d12 = some [97, 97, 97] := (wordC_is _ _).trans (by kernel_rfl)
def dTwo : Dfa := ⟨[0, 5], [[1, 0], [0, 1]], [true, true]⟩
def dOne : Dfa := ⟨[0], [[0]], [true]⟩
theorem dTwo_ok : dTwo.Ok := okC_is (by decide +kernel)
theorem dTwo_least : leastD dTwo = dOne := (leastC_is (k := 2) (show leastC dTwo 2 = some dOne by kernel_rfl)).2
theorem none_bad : ¬ (⟨[], [], []⟩ : Dfa).Ok := fun h => absurd h.n1 (by simp)
end Go.Proofs.YtilhicefhhgecaaGreatDoor
