/- Walks: the least automaton of a pattern's text (laws of the least chapter): of, alive. PUT1 -/
import Derived.Test.YtcmmmgblkbbdnaaGreatDoorL10dg
import Derived.Test.YtcmmmgblkbbdnaaGreatDoorIbg
import Derived.Test.YtcmmmgblkbbdnaaGreatDoorRpg
import Derived.Test.YtcmmmgblkbbdnaaGreatDoorRows
import Derived.Lib.LaidIn
import Derived.Lib.LaidU8T
import Derived.Lib.SmallJoins
import Derived.ProofKit
import Derived.SizedLaws
import Derived.LaidLaws
import Derived.Handed
import Derived.OpenShut
import Derived.ChangeOld
import Derived.SevenTiedAt
import Derived.Test.YtcmmmgblkbbdnaaGreatDoorL9bg
import Derived.Test.YtcmmmgblkbbdnaaGreatDoorZlg
import Derived.Test.YtcmmmgblkbbdnaaGreatDoorTog
import Derived.WalkMore
import Derived.Test.YtcmmmgblkbbdnaaGreatDoorTig
import Derived.Test.YtcmmmgblkbbdnaaGreatDoorBag
import Derived.Test.YtcmmmgblkbbdnaaGreatDoorTbg
import Derived.Test.YtcmmmgblkbbdnaaGreatDoorLsg
import Derived.Test.YtcmmmgblkbbdnaaGreatDoorGng
import Derived.Test.YtcmmmgblkbbdnaaGreatDoorHdg
import Derived.Test.YtcmmmgblkbbdnaaGreatDoorHag
import Derived.Test.YtcmmmgblkbbdnaaGreatDoorWfg
import Derived.Test.YtcmmmgblkbbdnaaGreatDoorHgg
namespace Go.Proofs.YtcmmmgblkbbdnaaGreatDoor
open Go.RowKit Pv
theorem comp_is {T : Tr} {D0 D : Dfa} {k : Nat} (h : Known T) (hb : subB T D0 = true) (hl : leastC D0 k = some D) : CR T.flat D 0 := by
  obtain ⟨_, rfl⟩ := leastC_is hl
  exact .made (r := ((leadT T [[]] 0).1, (((leadT T [[]] 0).2 : Nat) : Int), 0)) (.inr ⟨h.pat, T, h.ok, rfl, .inr ⟨h.few, rfl⟩⟩) rfl (subB_is h hb)

set_option maxHeartbeats 2000000 in
set_option maxRecDepth 100000 in
theorem law11_of (t : ByteArray) (T : Tr) (D : Dfa) (w : World) (B : Nat) (h : Tells (bsl t) T) (hD : CR T.flat D 0) (hok : D.Ok) (hT : TabU B w) (hB : B ≤ w.heap.size) :
    Calls Tryz.prog 75 #[.string t] w (DfaB w D true) := by
  have hW : Below w.heap.size w (w.alloc (.cells #[.slice none 0 0, .slice none 0 0, .slice none 0 0] TDfa)) := (Below.refl _ _).alloc (Nat.le_refl _) _
  have HW := Lib.hid hW
  have K0 := Lib.hid (Blk.new w TDfa #[.slice none 0 0, .slice none 0 0, .slice none 0 0])
  have HP := Lib.hid (pattern_Parse t T _ B h h.plain (hT.then hW hB) (by simp; omega))
  have HT := Lib.hid h
  have HD := Lib.hid hD; have HOK := Lib.hid hok
  obtain ⟨nt, hnt⟩ : ∃ nt, T.flat.length = nt := ⟨_, rfl⟩
  have HN := Lib.hid hnt
  have hn : nt ≤ 64 := by rw [← hnt]; exact h.known.size
  clear h hT hB hnt hW hD hok
  go_enter Tryz.func75, Tryz.ntmps75
  go_wp2_with fail
  refine HP.out.mono ?_
  rintro e w1 ⟨A1, c1, rfl, k1, k2⟩
  have HB1 := Lib.hid (HW.out.trans (k2.mono HW.out.size))
  have K1 := Lib.hid (K0.out.below k2 (by simp))
  have HAT := Lib.hid (rx_at k1 (by rw [HN.out]; omega) HT.out.sets)
  rw [HN.out]
  clear k1 k2
  have HBU := Lib.hid (least_Compile A1 nt c1 T.flat w1 HAT.out HN)
  go_wp2_with fail
  refine HBU.out.mono ?_
  rintro e w4 ⟨D', code, B1, m1, d1, B2, m2, d2, B3, m3, d3, rfl, hat, hout, k4⟩
  obtain ⟨e1, e2⟩ := hout.one HD.out
  subst e1; subst e2
  have HB4 := Lib.hid (HB1.out.trans (k4.mono HB1.out.size))
  have K4 := Lib.hid (K1.out.below k4 K1.out.lt)
  have hb5 : Below w4.heap.size w4 (w4.alloc (.cells #[.slice B1 m1 d1, .slice B2 m2 d2, .slice B3 m3 d3] TDfa)) := (Below.refl _ _).alloc (Nat.le_refl _) _
  have HB5 := Lib.hid (HB4.out.trans (hb5.mono HB4.out.size))
  have K5 := Lib.hid (K4.out.below hb5 K4.out.lt)
  have HD5 := Lib.hid (DfaAt.keep hat (Keep.of hb5))
  obtain ⟨p0, p1, p2, f0, f1, f2⟩ := Blk.three K5.out
  have p9 := K5.out.lt
  clear hat hout k4 hb5
  go_wp2
  have K6 := Lib.hid (((K5.out.set 0 (.slice B1 m1 d1)).set 1 (.slice B2 m2 d2)).set 2 (.slice B3 m3 d3))
  obtain ⟨z0, z1, z2, _, _, _⟩ := Blk.three (a := .slice B1 m1 d1) (b := .slice B2 m2 d2) (c := .slice B3 m3 d3) K6.out
  have hne : w.heap.size ≤ w4.heap.size := HB4.out.size
  refine bodyPost_ret (v := .tuple #[.agg #[.slice B1 m1 d1, .slice B2 m2 d2, .slice B3 m3 d3], .bool true]) (by simp [results, Tryz.results75, go_sem, z0, z1, z2]) rfl ⟨B1, m1, d1, B2, m2, d2, B3, m3, d3, rfl, ?_, ((HB5.out.setCell (p := ⟨w.heap.size, 0, none⟩) (by simp) _).setCell (p := ⟨w.heap.size, 1, none⟩) (by simp) _).setCell (p := ⟨w.heap.size, 2, none⟩) (by simp) _⟩
  exact HD5.out.box HOK.out K5.out (((KeepBut.refl _ _).set 0 _).set 1 _ |>.set 2 _)

def d11 : Dfa := ⟨[0, 97, 99], [[1, 0, 1], [1, 1, 1]], [true, false]⟩
theorem d11_ok : d11.Ok := okC_is (by decide +kernel)
/-- What is built of both patterns ahead of the least one. -/
def d11a : Dfa := ⟨[0, 97, 98, 99], [[1, 2, 3, 1], [1, 1, 1, 1], [1, 2, 3, 1], [1, 2, 3, 1]], [true, false, true, true]⟩
theorem d11_10 : CR t10.flat d11 0 := comp_is (D0 := d11a) (k := 4) tells10.known (by decide +kernel) (by kernel_rfl)
theorem d11_11 : CR t11.flat d11 0 := comp_is (D0 := d11a) (k := 4) tells11.known (by decide +kernel) (by kernel_rfl)
theorem d11_lit (w : World) : DfaAt (((((w.alloc (.cells #[.int .i64 0, .int .i64 97, .int .i64 99] 3)).alloc (.cells #[.int .i64 1, .int .i64 0, .int .i64 1] 3)).alloc (.cells #[.int .i64 1, .int .i64 1, .int .i64 1] 3)).alloc (.cells #[.slice (some ⟨w.heap.size + 1, 0, none⟩) 3 3, .slice (some ⟨w.heap.size + 1 + 1, 0, none⟩) 3 3] 27)).alloc (.cells #[.bool true, .bool false] 4)) (some ⟨w.heap.size, 0, none⟩) (some ⟨w.heap.size + 1 + 1 + 1, 0, none⟩) (some ⟨w.heap.size + 1 + 1 + 1 + 1, 0, none⟩) 3 2 2 d11 := by
  have b0 := (((((blk_at (W := w) (n := w.heap.size) 3 #[.int .i64 0, .int .i64 97, .int .i64 99] (by simp)).alloc (.cells #[.int .i64 1, .int .i64 0, .int .i64 1] 3)).alloc (.cells #[.int .i64 1, .int .i64 1, .int .i64 1] 3)).alloc (.cells #[.slice (some ⟨w.heap.size + 1, 0, none⟩) 3 3, .slice (some ⟨w.heap.size + 1 + 1, 0, none⟩) 3 3] 27)).alloc (.cells #[.bool true, .bool false] 4))
  have b1 := ((((blk_at (W := (w.alloc (.cells #[.int .i64 0, .int .i64 97, .int .i64 99] 3))) (n := w.heap.size + 1) 3 #[.int .i64 1, .int .i64 0, .int .i64 1] (by simp)).alloc (.cells #[.int .i64 1, .int .i64 1, .int .i64 1] 3)).alloc (.cells #[.slice (some ⟨w.heap.size + 1, 0, none⟩) 3 3, .slice (some ⟨w.heap.size + 1 + 1, 0, none⟩) 3 3] 27)).alloc (.cells #[.bool true, .bool false] 4))
  have b2 := (((blk_at (W := ((w.alloc (.cells #[.int .i64 0, .int .i64 97, .int .i64 99] 3)).alloc (.cells #[.int .i64 1, .int .i64 0, .int .i64 1] 3))) (n := w.heap.size + 1 + 1) 3 #[.int .i64 1, .int .i64 1, .int .i64 1] (by simp)).alloc (.cells #[.slice (some ⟨w.heap.size + 1, 0, none⟩) 3 3, .slice (some ⟨w.heap.size + 1 + 1, 0, none⟩) 3 3] 27)).alloc (.cells #[.bool true, .bool false] 4))
  have b3 := ((blk_at (W := (((w.alloc (.cells #[.int .i64 0, .int .i64 97, .int .i64 99] 3)).alloc (.cells #[.int .i64 1, .int .i64 0, .int .i64 1] 3)).alloc (.cells #[.int .i64 1, .int .i64 1, .int .i64 1] 3))) (n := w.heap.size + 1 + 1 + 1) 27 #[.slice (some ⟨w.heap.size + 1, 0, none⟩) 3 3, .slice (some ⟨w.heap.size + 1 + 1, 0, none⟩) 3 3] (by simp)).alloc (.cells #[.bool true, .bool false] 4))
  have b4 := (blk_at (W := ((((w.alloc (.cells #[.int .i64 0, .int .i64 97, .int .i64 99] 3)).alloc (.cells #[.int .i64 1, .int .i64 0, .int .i64 1] 3)).alloc (.cells #[.int .i64 1, .int .i64 1, .int .i64 1] 3)).alloc (.cells #[.slice (some ⟨w.heap.size + 1, 0, none⟩) 3 3, .slice (some ⟨w.heap.size + 1 + 1, 0, none⟩) 3 3] 27))) (n := w.heap.size + 1 + 1 + 1 + 1) 4 #[.bool true, .bool false] (by simp))
  refine ⟨(isInts_blk (n := 3) b0 rfl rfl (by decide) (by omega)).at, At.ofBlk b3 ((Rel.one (isInts_blk (n := 3) b1 rfl rfl (by decide) (by omega))).app (Rel.one (isInts_blk (n := 3) b2 rfl rfl (by decide) (by omega)))) (by decide), At.ofBlk b4 (rel_bools [true, false]) (by decide), Lib.hid rfl, Lib.hid rfl, Lib.hid rfl⟩

set_option maxHeartbeats 2000000 in
set_option maxRecDepth 100000 in
theorem law11_alive (w : World) (B : Nat) (hT : TabU B w) (hB : B ≤ w.heap.size) : Calls Tryz.prog 44 #[] w fun e w' => e = .returned (.bool true) ∧ Below w.heap.size w w' := by
  have HO := Lib.hid (law11_of ⟨#[40, 97, 124, 98, 41, 42]⟩ t10 d11 w B tells10 d11_10 d11_ok hT hB)
  have HO2 := Lib.hid (fun W (hb : Below w.heap.size w W) => law11_of ⟨#[40, 97, 42, 98, 42, 41, 42]⟩ t11 d11 W B tells11 d11_11 d11_ok (hT.then hb hB) (Nat.le_trans hB hb.size))
  clear hT hB
  go_enter Tryz.func44, Tryz.ntmps44
  go_wp2_with fail
  refine HO.out.mono ?_
  rintro e w1 ⟨A1, n1, c1, A2, n2, c2, A3, n3, c3, rfl, k1, k2⟩
  have hb2 : Below w1.heap.size w1 (w1.alloc (.cells #[.slice A1 n1 c1, .slice A2 n2 c2, .slice A3 n3 c3] TDfa)) := (Below.refl _ _).alloc (Nat.le_refl _) _
  have HB2 := Lib.hid (k2.trans (hb2.mono k2.size))
  have K2 := Lib.hid (Blk.new w1 TDfa #[.slice A1 n1 c1, .slice A2 n2 c2, .slice A3 n3 c3])
  have HD2 := Lib.hid (DfaAt.keep k1 (Keep.of hb2))
  clear k1 k2 hb2
  go_wp2_with fail
  refine (HO2.out _ HB2.out).mono ?_
  rintro e w3 ⟨B1, m1, d1, B2, m2, d2, B3, m3, d3, rfl, k1, k2⟩
  have hb4 : Below w3.heap.size w3 (w3.alloc (.cells #[.slice B1 m1 d1, .slice B2 m2 d2, .slice B3 m3 d3] TDfa)) := (Below.refl _ _).alloc (Nat.le_refl _) _
  have hb24 := k2.trans (hb4.mono k2.size)
  have HB4 := Lib.hid (HB2.out.trans (hb24.mono HB2.out.size))
  have K4 := Lib.hid (K2.out.below hb24 (by simp))
  have D4 := Lib.hid (Blk.new w3 TDfa #[.slice B1 m1 d1, .slice B2 m2 d2, .slice B3 m3 d3])
  have HD4 := Lib.hid (DfaAt.keep HD2.out (Keep.of hb24))
  have HE4 := Lib.hid (DfaAt.keep k1 (Keep.of hb4))
  have HS := ref10_Same A1 A2 A3 B1 B2 B3 c1 c2 c3 n1 n2 n3 d1 d2 d3 m1 m2 m3 d11 d11 _ HD4.out HE4.out
  rw [yes_t rfl] at HS
  have HS := Lib.hid HS
  obtain ⟨p0, p1, p2, _, _, _⟩ := Blk.three K4.out
  obtain ⟨q0, q1, q2, _, _, _⟩ := Blk.three D4.out
  clear k1 k2 hb4 hb24
  go_wp2_with fail
  refine HS.out.mono ?_
  rintro e w5 ⟨rfl, k5⟩
  have HB5 := Lib.hid (HB4.out.trans (k5.mono HB4.out.size))
  have K5 := Lib.hid (K4.out.below k5 K4.out.lt)
  have HD5 := Lib.hid (DfaAt.keep HD4.out (Keep.of k5))
  have hb6 : Below w5.heap.size w5 (((((w5.alloc (.cells #[.int .i64 0, .int .i64 97, .int .i64 99] 3)).alloc (.cells #[.int .i64 1, .int .i64 0, .int .i64 1] 3)).alloc (.cells #[.int .i64 1, .int .i64 1, .int .i64 1] 3)).alloc (.cells #[.slice (some ⟨w5.heap.size + 1, 0, none⟩) 3 3, .slice (some ⟨w5.heap.size + 1 + 1, 0, none⟩) 3 3] 27)).alloc (.cells #[.bool true, .bool false] 4)) := (((((Below.refl _ _).alloc (Nat.le_refl _) _).alloc (by simp) _).alloc (by simp; omega) _).alloc (by simp; omega) _).alloc (by simp; omega) _
  have HS6 := ref10_Same A1 A2 A3 _ _ _ c1 c2 c3 n1 n2 n3 3 2 2 3 2 2 d11 d11 _ (DfaAt.keep HD5.out (Keep.of hb6)) (d11_lit w5)
  rw [yes_t rfl] at HS6
  have HS6 := Lib.hid HS6
  have HB6 := Lib.hid (HB5.out.trans (hb6.mono HB5.out.size))
  clear p0 p1 p2 q0 q1 q2 k5 hb6
  obtain ⟨p0, p1, p2, _, _, _⟩ := Blk.three K5.out
  have hlt := K5.out.lt
  go_wp2_with fail
  refine HS6.out.mono ?_
  rintro e w7 ⟨rfl, k7⟩
  have HB7 := Lib.hid (HB6.out.trans (k7.mono HB6.out.size))
  clear k7
  go_wp2
  go_ret
  exact ⟨rfl, HB7.out⟩
end Go.Proofs.YtcmmmgblkbbdnaaGreatDoor

namespace Go.Proofs.YtcmmmgblkbbdnaaGreatDoor
open Go.ChangeShapes Go.WideShapes Go.ChangeAt Go.RowKit Pv

def tab32 : List Int := [0, 1, 28, 2, 29, 14, 24, 3, 30, 22, 20, 15, 25, 17, 4, 8, 31, 27, 13, 23, 21, 19, 16, 7, 26, 12, 18, 6, 11, 5, 10, 9]
def tab64 : List Int := [0, 1, 56, 2, 57, 49, 28, 3, 61, 58, 42, 50, 38, 29, 17, 4, 62, 47, 59, 36, 45, 43, 51, 22, 53, 39, 33, 30, 24, 18, 12, 5, 63, 55, 48, 27, 60, 41, 37, 16, 46, 35, 44, 21, 52, 32, 23, 11, 54, 26, 40, 15, 34, 20, 31, 10, 25, 14, 19, 9, 13, 8, 7, 6]
/-- The settled world, all of it laid. -/
noncomputable def laidWorld (os : Os) : World :=
  let w0 := World.holding Tryz.prog os ⟨#[], #[], []⟩
  let put (h : Array Obj) (g : Nat) (cs : Array Value) : Array Obj := h.modify g fun
    | .cells _ t frozen => .cells cs t frozen
    | o => o
  let h1 := put w0.heap 0 (Lib.firstTab.map fun z => Value.int .u8 z).toArray
  let h2 := put h1 1 ((List.range 16).flatMap fun i => [Value.int .u8 (Lib.accLo i), Value.int .u8 (Lib.accHi i)]).toArray
  let h3 := put h2 5 (Lib.pow10Tab.map fun z => Value.int .u64 z).toArray
  let h4 := put h3 6 (tab32.map fun z => Value.int .u8 z).toArray
  let h5 := put h4 7 (tab64.map fun z => Value.int .u8 z).toArray
  let h6 := put h5 3 #[.iface 272 (.pointer (some ⟨13, 0, none⟩))]
  let h7 := put h6 2 #[.iface 272 (.pointer (some ⟨14, 0, none⟩))]
  let h8 := h7.push (.cells #[.string ⟨#[118, 97, 108, 117, 101, 32, 111, 117, 116, 32, 111, 102, 32, 114, 97, 110, 103, 101]⟩] 274 (0, 0))
  let h9 := h8.push (.cells #[.string ⟨#[105, 110, 118, 97, 108, 105, 100, 32, 115, 121, 110, 116, 97, 120]⟩] 274 (0, 0))
  { w0 with heap := h9 }
theorem laid_met (os : Os) (args : Array Value) : laidMet Tryz.prog Rows.tongueNamesRow.laid ((laidWorld os).forCall (fun _ _ => 0) ⟨#[], args, []⟩).memory :=
  (LaidIn.of_run [6, 7, 5, 1, 3, 13, 2, 14, 0] 8 (by kernel_rfl) (by kernel_rfl) (by kernel_rfl) (by kernel_rfl)).met

theorem first_is : (Rows.laid_unicode_utf8_first : DataW Unit) = Lib.firstData := by kernel_rfl
theorem accept_is : (Rows.laid_unicode_utf8_acceptRanges : DataW Unit) = Lib.acceptData := by kernel_rfl
/-- From the row's condition to what the walks ask. -/
theorem tabs_of_laid {W : World} (h : laidMet Tryz.prog Rows.tongueNamesRow.laid W) : TabU W.heap.size W := by
  have r2 := Lib.laidMet.reads h (.tail _ (.tail _ (.tail _ (.head _))))
  have r3 := Lib.laidMet.reads h (.tail _ (.tail _ (.tail _ (.tail _ (.tail _ (.tail _ (.head _)))))))
  rw [accept_is] at r2
  rw [first_is] at r3
  have hU : Lib.Utf8Tabs (Tryz.lays196_ren.g 3) (Tryz.lays196_ren.g 4) W :=
    utf8Tabs_of_readsT (ρ := Tryz.lays196_ren) (U8Types.of196 Tryz.lays196) ⟨by kernel_rfl, by kernel_rfl, by kernel_rfl, by kernel_rfl, by kernel_rfl, by kernel_rfl, by kernel_rfl⟩ r3 r2
  intro w' hb
  refine ⟨fun c hc => ?_, fun i hi => ⟨?_, ?_⟩⟩
  · exact (hb.cell (World.block_lt_of_cell? _ _ (hU.1 c hc))).trans (hU.1 c hc)
  · exact (hb.cell (World.block_lt_of_cell? _ _ (hU.2 i hi).1)).trans (hU.2 i hi).1
  · exact (hb.cell (World.block_lt_of_cell? _ _ (hU.2 i hi).2)).trans (hU.2 i hi).2
end Go.Proofs.YtcmmmgblkbbdnaaGreatDoor

namespace Go.Proofs.YtcmmmgblkbbdnaaGreatDoor
open Go.RowKit Pv
theorem pnts_of {l : List Int} (h : ¬ beyond l) : Pnts l := fun p hp => by
  by_cases h1 : p < 0 ∨ 1114111 < p
  · exact absurd ⟨p, hp, h1⟩ h
  · exact ⟨by omega, by omega⟩

end Go.Proofs.YtcmmmgblkbbdnaaGreatDoor

namespace Go.Proofs.YtcmmmgblkbbdnaaGreatDoor
open Go.RowKit Pv
/-- All three accept alike. -/
theorem runs_all {a : Au} {acc : Int} {D0 : Dfa} {l : List Int} (ho : Out a acc D0 0) (hf : AuOk a acc) (hl : l.length ≤ 1024) :
    (D0.runE l = (false, 2) ∧ (leastD D0).runE l = (false, 2)) ∨ (D0.runE l = (runB a acc l, 0) ∧ (leastD D0).runE l = (runB a acc l, 0)) := by
  have hok := ho.ok
  rcases runE_ok hok hl with ⟨hb, h1⟩ | ⟨hb, h1⟩
  · rcases runE_ok (leastD_ok hok) hl with ⟨_, h2⟩ | ⟨hn, _⟩
    · exact .inl ⟨h1, h2⟩
    · exact absurd hb hn
  · rcases runE_ok (leastD_ok hok) hl with ⟨hn, _⟩ | ⟨_, h2⟩
    · exact absurd hn hb
    · have hp := pnts_of hb
      have h3 := least_res hok l hp
      unfold Dfa.acc at h3
      have h4 := ho.lang (pts := l) hp
      obtain ⟨e1, _⟩ := runB_ok (l := l) hf hl
      refine .inr ⟨?_, ?_⟩
      · rw [h1, h4, e1]
      · rw [h2, ← h3, h4, e1]
theorem least_len (d : Dfa) (h : d.Ok) : (leastD d).next.length ≤ d.next.length := by rw [(leastD_len d).1]; exact (metL_ok h).len
end Go.Proofs.YtcmmmgblkbbdnaaGreatDoor

namespace Pv
open Go Go.RowKit
theorem apart_ok {d o : Dfa} (h : d.Ok) (k : o.Ok) : apW d o = wordD d o ∧ apE d o = 0 := by
  unfold apW apE
  rw [yes_t ⟨h, k⟩]
  exact ⟨rfl, rfl⟩
theorem apart_bad {d o : Dfa} (h : ¬ (d.Ok ∧ o.Ok)) : apW d o = none ∧ apE d o = 8 := by
  unfold apW apE
  rw [yes_f h]
  exact ⟨rfl, rfl⟩
end Pv
namespace Go.Proofs.YtcmmmgblkbbdnaaGreatDoor
open Go.RowKit Pv
/-- What Least answers: an automaton, a code. -/
def LeastA (d D : Dfa) (code : Int) : Prop := (¬ d.Ok ∧ D = ⟨[], [], []⟩ ∧ code = 8) ∨ (d.Ok ∧ D = leastD d ∧ code = 0)
theorem LeastR.read {d : Dfa} {w w' : World} {e : Ending} (h : LeastR d w e w') :
    ∃ D code A1 n1 c1 A2 n2 c2 A3 n3 c3, e = .returned (.tuple #[.agg #[.slice A1 n1 c1, .slice A2 n2 c2, .slice A3 n3 c3], .int .i64 code]) ∧ DfaAt w' A1 A2 A3 n1 n2 n3 D ∧ LeastA d D code ∧ Below w.heap.size w w' := by
  obtain ⟨h, hb⟩ := h
  rcases h with ⟨hn, rfl⟩ | ⟨hok, v1, v2, v3, rfl, hres⟩
  · exact ⟨_, 8, none, 0, 0, none, 0, 0, none, 0, 0, rfl, DfaAt.none _, .inl ⟨hn, rfl, rfl⟩, hb⟩
  · obtain ⟨B1, d1, rfl, _⟩ := hres.c
    obtain ⟨B2, d2, _, rfl, _, _⟩ := hres.r
    obtain ⟨B3, d3, _, rfl, _, _⟩ := hres.t
    exact ⟨leastD d, 0, B1, _, d1, B2, _, d2, B3, _, d3, rfl, Res.atL hok hres, .inr ⟨hok, rfl, rfl⟩, hb⟩

end Go.Proofs.YtcmmmgblkbbdnaaGreatDoor

namespace Pv
open Go Go.RowKit
end Pv
namespace Go.Proofs.YtcmmmgblkbbdnaaGreatDoor
open Go.RowKit Pv
/-- What tells two apart, told of runs. -/
theorem word_len {d o : Dfa} (hd : d.Ok) (ho : o.Ok) {u : List Int} (h : wordD d o = some u) : u.length ≤ d.next.length * o.next.length :=
  (wordF_ok hd ho _ _ _ (PrOk.one hd ho) (by intro x hx; simp at hx; subst hx; simp) (by intro p hp y hy; simp at hp; subst hp; simp at hy) u h).1
theorem not_beyond {l : List Int} (h : Pnts l) : ¬ beyond l := fun ⟨p, hp, hq⟩ => by have := h p hp; unfold Pnt at this; omega
theorem run_pnts {d : Dfa} (h : d.Ok) {l : List Int} (hl : l.length ≤ 1024) (hp : Pnts l) : d.runE l = (d.acc (d.to 0 l), 0) := by
  rcases runE_ok h hl with ⟨hb, _⟩ | ⟨_, h1⟩
  · exact absurd hb (not_beyond hp)
  · rw [h1]; rfl
/-- Runs of two, side by side. -/
theorem runs_two {d o : Dfa} (hd : d.Ok) (ho : o.Ok) {l : List Int} (hl : l.length ≤ 1024) : (d.runE l = (false, 2) ∧ o.runE l = (false, 2)) ∨ (Pnts l ∧ d.runE l = (d.acc (d.to 0 l), 0) ∧ o.runE l = (o.acc (o.to 0 l), 0)) := by
  rcases runE_ok hd hl with ⟨hb, h1⟩ | ⟨hb, h1⟩
  · rcases runE_ok ho hl with ⟨_, h2⟩ | ⟨hn, _⟩
    · exact .inl ⟨h1, h2⟩
    · exact absurd hb hn
  · rcases runE_ok ho hl with ⟨hn, _⟩ | ⟨_, h2⟩
    · exact absurd hn hb
    · exact .inr ⟨pnts_of hb, h1, h2⟩
end Go.Proofs.YtcmmmgblkbbdnaaGreatDoor

namespace Go.Proofs.YtcmmmgblkbbdnaaGreatDoor
open Go.RowKit Pv
set_option maxHeartbeats 8000000 in
set_option maxRecDepth 100000 in
theorem law_LeastOne (A1 A2 A3 B1 B2 B3 B : Option Addr) (c1 c2 c3 n1 n2 n3 d1 d2 d3 m1 m2 m3 nl cl : Nat) (d o : Dfa) (l : List Int) (w : World) (B0 : Nat) (H : DfaAt w A1 A2 A3 n1 n2 n3 d) (K : DfaAt w B1 B2 B3 m1 m2 m3 o) (hp : At w B RI l) (HL : Hid (l.length = nl)) (hT : TabU B0 w) (hB : B0 ≤ w.heap.size) :
    Calls Tryz.prog 13 #[.agg #[.slice A1 n1 c1, .slice A2 n2 c2, .slice A3 n3 c3], .agg #[.slice B1 m1 d1, .slice B2 m2 d2, .slice B3 m3 d3], .slice B nl cl] w fun e w' => e = .returned (.bool true) ∧ Below w.heap.size w w' := by
  have hW : Below w.heap.size w ((w.alloc (.cells #[.slice A1 n1 c1, .slice A2 n2 c2, .slice A3 n3 c3] TDfa)).alloc (.cells #[.slice B1 m1 d1, .slice B2 m2 d2, .slice B3 m3 d3] TDfa)) := ((Below.refl _ _).alloc (Nat.le_refl _) _).alloc (by simp) _
  have BK := blk2 w #[.slice A1 n1 c1, .slice A2 n2 c2, .slice A3 n3 c3] #[.slice B1 m1 d1, .slice B2 m2 d2, .slice B3 m3 d3] TDfa TDfa
  have HW := Lib.hid hW
  have KA0 := Lib.hid BK.1; have KB0 := Lib.hid BK.2
  have HAL := Lib.hid (law11_alive _ B0 (hT.then hW hB) (by simp; omega))
  have HD := Lib.hid H; have HO := Lib.hid K; have HLP := Lib.hid hp
  have HGA := Lib.hid (fun W (hb : Below w.heap.size w W) => ref10_Great A1 A2 A3 c1 c2 c3 n1 n2 n3 d 12 12 W (H.keep (Keep.of hb)) (by omega) (by omega))
  have HGB := Lib.hid (fun W (hb : Below w.heap.size w W) => ref10_Great B1 B2 B3 d1 d2 d3 m1 m2 m3 o 12 12 W (K.keep (Keep.of hb)) (by omega) (by omega))
  have hnl : nl ≤ 140737488355328 := by have := hp.1; rwa [HL.out] at this
  clear H K hp hT hB hW BK
  by_cases h8 : nl ≤ 8
  case neg =>
    have e1 : (8 : Int) < (nl : Int) := by omega
    go_enter Tryz.func13, Tryz.ntmps13
    go_wp2_with fail
    refine HAL.out.mono ?_
    rintro e w1 ⟨rfl, k⟩
    have HB1 := Lib.hid (HW.out.trans (k.mono HW.out.size))
    have KA1 := Lib.hid (KA0.out.below k (by simp; omega)); have KB1 := Lib.hid (KB0.out.below k (by simp))
    obtain ⟨p0, p1, p2, _, _, _⟩ := Blk.three KA1.out
    clear k
    go_wp2_with fail
    refine (HGA.out _ HB1.out).mono ?_
    rintro e w2 ⟨g, rfl, hg, k⟩
    have HB2 := Lib.hid (HB1.out.trans (k.mono HB1.out.size))
    have KA2 := Lib.hid (KA1.out.below k KA1.out.lt); have KB2 := Lib.hid (KB1.out.below k KB1.out.lt)
    have HGG := Lib.hid hg
    clear hg k p0 p1 p2
    cases g with
    | true =>
      go_wp2
      go_ret
      exact ⟨rfl, HB2.out⟩
    | false =>
      obtain ⟨p0, p1, p2, _, _, _⟩ := Blk.three KB2.out
      go_wp2_with fail
      refine (HGB.out _ HB2.out).mono ?_
      rintro e w3 ⟨g, rfl, hg, k⟩
      have HB3 := Lib.hid (HB2.out.trans (k.mono HB2.out.size))
      have KA3 := Lib.hid (KA2.out.below k KA2.out.lt); have KB3 := Lib.hid (KB2.out.below k KB2.out.lt)
      have HGH := Lib.hid hg
      clear hg k p0 p1 p2
      cases g
      all_goals
        go_wp2
        go_ret
        exact ⟨rfl, HB3.out⟩
  have e1 : (nl : Int) ≤ 8 := by omega
  go_enter Tryz.func13, Tryz.ntmps13
  go_wp2_with fail
  refine HAL.out.mono ?_
  rintro e w1 ⟨rfl, k⟩
  have HB1 := Lib.hid (HW.out.trans (k.mono HW.out.size))
  have KA1 := Lib.hid (KA0.out.below k (by simp; omega)); have KB1 := Lib.hid (KB0.out.below k (by simp))
  obtain ⟨p0, p1, p2, _, _, _⟩ := Blk.three KA1.out
  clear k
  go_wp2_with fail
  refine (HGA.out _ HB1.out).mono ?_
  rintro e w2 ⟨g, rfl, hg, k⟩
  have HB2 := Lib.hid (HB1.out.trans (k.mono HB1.out.size))
  have KA2 := Lib.hid (KA1.out.below k KA1.out.lt); have KB2 := Lib.hid (KB1.out.below k KB1.out.lt)
  have HGG := Lib.hid hg
  clear hg k p0 p1 p2
  cases g with
  | true =>
    go_wp2
    go_ret
    exact ⟨rfl, HB2.out⟩
  | false =>
    obtain ⟨p0, p1, p2, _, _, _⟩ := Blk.three KB2.out
    go_wp2_with fail
    refine (HGB.out _ HB2.out).mono ?_
    rintro e w3 ⟨g, rfl, hg, k⟩
    have HB3 := Lib.hid (HB2.out.trans (k.mono HB2.out.size))
    have KA3 := Lib.hid (KA2.out.below k KA2.out.lt); have KB3 := Lib.hid (KB2.out.below k KB2.out.lt)
    have HGH := Lib.hid hg
    clear hg k p0 p1 p2
    cases g with
    | true =>
      go_wp2
      go_ret
      exact ⟨rfl, HB3.out⟩
    | false =>
      obtain ⟨p0, p1, p2, _, _, _⟩ := Blk.three KA3.out
      have HLE4 := Lib.hid (least_Least A1 A2 A3 c1 c2 c3 n1 n2 n3 d w3 (HD.out.keep (Keep.of HB3.out)))
      go_wp2_with fail
      refine HLE4.out.mono ?_
      intro e w4 hle
      obtain ⟨ED, ec, E1, eq1, ef1, E2, eq2, ef2, E3, eq3, ef3, rfl, hat, hla, k⟩ := hle.read
      have HBm4 := Lib.hid (HB3.out.trans (k.mono HB3.out.size))
      have KAm4 := Lib.hid (KA3.out.below k KA3.out.lt)
      have KBm4 := Lib.hid (KB3.out.below k KB3.out.lt)
      have hb4 : Below w4.heap.size w4 (w4.alloc (.cells #[.slice E1 eq1 ef1, .slice E2 eq2 ef2, .slice E3 eq3 ef3] TDfa)) := (Below.refl _ _).alloc (Nat.le_refl _) _
      have HB4 := Lib.hid (HBm4.out.trans (hb4.mono HBm4.out.size))
      have KA4 := Lib.hid (KAm4.out.below hb4 KAm4.out.lt)
      have KB4 := Lib.hid (KBm4.out.below hb4 KBm4.out.lt)
      have KE4 := Lib.hid (Blk.new w4 TDfa #[.slice E1 eq1 ef1, .slice E2 eq2 ef2, .slice E3 eq3 ef3])
      have HE4 := Lib.hid (DfaAt.keep hat (Keep.of hb4))
      have HLA4 := Lib.hid hla
      clear hle hat hla k hb4 p0 p1 p2
      obtain ⟨p0, p1, p2, _, _, _⟩ := Blk.three KB4.out
      have HLE5 := Lib.hid (least_Least B1 B2 B3 d1 d2 d3 m1 m2 m3 o _ (HO.out.keep (Keep.of HB4.out)))
      go_wp2_with fail
      refine HLE5.out.mono ?_
      intro e w5 hle
      obtain ⟨FD, fc, F1, fq1, ff1, F2, fq2, ff2, F3, fq3, ff3, rfl, hat, hla, k⟩ := hle.read
      have HBm5 := Lib.hid (HB4.out.trans (k.mono HB4.out.size))
      have KAm5 := Lib.hid (KA4.out.below k KA4.out.lt)
      have KBm5 := Lib.hid (KB4.out.below k KB4.out.lt)
      have KEm5 := Lib.hid (KE4.out.below k KE4.out.lt)
      have HEm5 := Lib.hid (DfaAt.keep HE4.out (Keep.of k))
      have hb5 : Below w5.heap.size w5 (w5.alloc (.cells #[.slice F1 fq1 ff1, .slice F2 fq2 ff2, .slice F3 fq3 ff3] TDfa)) := (Below.refl _ _).alloc (Nat.le_refl _) _
      have HB5 := Lib.hid (HBm5.out.trans (hb5.mono HBm5.out.size))
      have KA5 := Lib.hid (KAm5.out.below hb5 KAm5.out.lt)
      have KB5 := Lib.hid (KBm5.out.below hb5 KBm5.out.lt)
      have KE5 := Lib.hid (KEm5.out.below hb5 KEm5.out.lt)
      have HE5 := Lib.hid (DfaAt.keep HEm5.out (Keep.of hb5))
      have KF5 := Lib.hid (Blk.new w5 TDfa #[.slice F1 fq1 ff1, .slice F2 fq2 ff2, .slice F3 fq3 ff3])
      have HF5 := Lib.hid (DfaAt.keep hat (Keep.of hb5))
      have HLA5 := Lib.hid hla
      clear hle hat hla k hb5 p0 p1 p2
      obtain ⟨p0, p1, p2, _, _, _⟩ := Blk.three KA5.out
      obtain ⟨z0, z1, z2, _, _, _⟩ := Blk.three KB5.out
      have HAP := Lib.hid (least_Apart A1 A2 A3 B1 B2 B3 c1 c2 c3 n1 n2 n3 d1 d2 d3 m1 m2 m3 d o _ (HD.out.keep (Keep.of HB5.out)) (HO.out.keep (Keep.of HB5.out)))
      go_wp2_with fail
      refine HAP.out.mono ?_
      rintro e w6 ⟨v, rfl, hv, k⟩
      have HB6 := Lib.hid (HB5.out.trans (k.mono HB5.out.size))
      have KA6 := Lib.hid (KA5.out.below k KA5.out.lt); have KB6 := Lib.hid (KB5.out.below k KB5.out.lt); have KE6 := Lib.hid (KE5.out.below k KE5.out.lt); have KF6 := Lib.hid (KF5.out.below k KF5.out.lt)
      have HE6 := Lib.hid (DfaAt.keep HE5.out (Keep.of k)); have HF6 := Lib.hid (DfaAt.keep HF5.out (Keep.of k))
      have HV := Lib.hid hv
      obtain ⟨V, vc, hvv, _⟩ := hv
      subst hvv
      clear k p0 p1 p2 z0 z1 z2
      by_cases hko : d.Ok ∧ o.Ok
      case neg =>
        have HNE : Hid (ec ≠ 0 ∨ fc ≠ 0) := Lib.hid (by
          rcases HLA4.out with ⟨_, _, h1⟩ | ⟨h1, _, _⟩
          · exact .inl (by rw [h1]; decide)
          · rcases HLA5.out with ⟨_, _, h2⟩ | ⟨h2, _, _⟩
            · exact .inr (by rw [h2]; decide)
            · exact absurd ⟨h1, h2⟩ hko)
        obtain ⟨a1, a2⟩ := apart_bad hko
        rw [a1, a2]
        simp only [Option.getD_none, List.length_nil, Option.isSome_none]
        clear hko a1 a2
        by_cases y1 : ec = 0
        · have y2 : fc ≠ 0 := by rcases HNE.out with h | h <;> first | exact absurd y1 h | exact h
          have t2 : (fc != 0) = true := by simpa using y2
          subst y1
          clear y2 HNE
          go_wp2
          go_ret
          exact ⟨rfl, HB6.out⟩
        · have t1 : (ec != 0) = true := by simpa using y1
          clear y1 HNE
          go_wp2
          go_ret
          exact ⟨rfl, HB6.out⟩
      obtain ⟨hd, ho⟩ := hko
      have HOD := Lib.hid hd; have HOO := Lib.hid ho
      obtain ⟨a1, a2⟩ := apart_ok hd ho
      have HX : Hid (ED = leastD d ∧ ec = 0) := Lib.hid (HLA4.out.elim (fun h => absurd hd h.1) (fun h => ⟨h.2.1, h.2.2⟩))
      have HY : Hid (FD = leastD o ∧ fc = 0) := Lib.hid (HLA5.out.elim (fun h => absurd ho h.1) (fun h => ⟨h.2.1, h.2.2⟩))
      obtain ⟨x1, x2⟩ := HX.out
      obtain ⟨y1, y2⟩ := HY.out
      subst x1; subst x2; subst y1; subst y2
      have HN1 : Hid (12 * 12 = 144 ∧ d.next.length ≤ 12 ∧ o.next.length ≤ 12) := Lib.hid ⟨rfl, (HGG.out (by simp)).1, (HGH.out (by simp)).1⟩
      rw [a1] at HV
      rw [a1, a2]
      clear HX HY HLA4 HLA5 HGG HGH a1 a2
      have HAP2 := least_Apart A1 A2 A3 E1 E2 E3 c1 c2 c3 n1 n2 n3 ef1 ef2 ef3 eq1 eq2 eq3 d (leastD d) w6 (HD.out.keep (Keep.of HB6.out)) HE6.out
      have HAP2 := Lib.hid HAP2
      have HAE : Hid ((apW d (leastD d)).isSome = false ∧ apE d (leastD d) = 0) := Lib.hid (by
        obtain ⟨g1, g2⟩ := apart_ok HOD.out (leastD_ok HOD.out)
        rw [g1, g2, (word_iff HOD.out (leastD_ok HOD.out)).2 (least_least_eq HOD.out).symm]
        exact ⟨rfl, rfl⟩)
      obtain ⟨p0, p1, p2, _, _, _⟩ := Blk.three KA6.out
      obtain ⟨z0, z1, z2, _, _, _⟩ := Blk.three KE6.out
      clear hd ho
      cases hw : wordD d o with
      | none =>
        have HSE := Lib.hid ((word_iff HOD.out HOO.out).1 hw)
        have HRS := Lib.hid (word_none HOD.out HOO.out hw)
        rw [hw] at HV
        simp only [Option.isSome_none, Option.getD_none, List.length_nil]
        clear hw
        go_wp2_with fail
        refine HAP2.out.mono ?_
        rintro e w7 ⟨v2, rfl, hv2, k⟩
        rw [HAE.out.1, HAE.out.2]
        have HB7 := Lib.hid (HB6.out.trans (k.mono HB6.out.size))
        have X7 := Lib.hid k
        have KA7 := Lib.hid (KA6.out.below k KA6.out.lt); have KB7 := Lib.hid (KB6.out.below k KB6.out.lt); have KE7 := Lib.hid (KE6.out.below k KE6.out.lt); have KF7 := Lib.hid (KF6.out.below k KF6.out.lt)
        have HSM := ref10_Same E1 E2 E3 F1 F2 F3 ef1 ef2 ef3 eq1 eq2 eq3 ff1 ff2 ff3 fq1 fq2 fq3 (leastD d) (leastD o) w7 (DfaAt.keep HE6.out (Keep.of k)) (DfaAt.keep HF6.out (Keep.of k))
        rw [yes_t HSE.out] at HSM
        have HSM := Lib.hid HSM
        clear k p0 p1 p2 z0 z1 z2 hv2
        obtain ⟨p0, p1, p2, _, _, _⟩ := Blk.three KE7.out
        obtain ⟨z0, z1, z2, _, _, _⟩ := Blk.three KF7.out
        go_wp2_with fail
        refine HSM.out.mono ?_
        rintro e w8 ⟨rfl, k⟩
        have HB8 := Lib.hid (HB7.out.trans (k.mono HB7.out.size))
        have X8 := Lib.hid (X7.out.trans (k.mono X7.out.size))
        have KA8 := Lib.hid (KA7.out.below k KA7.out.lt); have KB8 := Lib.hid (KB7.out.below k KB7.out.lt)
        clear k p0 p1 p2 z0 z1 z2
        obtain ⟨p0, p1, p2, _, _, _⟩ := Blk.three KA8.out
        have HR2 := runs_two HOD.out HOO.out (l := l) (by rw [HL.out]; omega)
        have HRA := subset_Run A1 A2 A3 B c1 c2 c3 cl n1 n2 n3 nl d l w8 (HD.out.keep (Keep.of HB8.out)) (At.keep HLP.out (Keep.of HB8.out)) HL
        have HRB := fun W (hb : Below w.heap.size w W) => subset_Run B1 B2 B3 B d1 d2 d3 cl m1 m2 m3 nl o l W (HO.out.keep (Keep.of hb)) (At.keep HLP.out (Keep.of hb)) HL
        have HEQ : ∃ r : Bool × Int, d.runE l = r ∧ o.runE l = r := by
          rcases HR2 with ⟨h1, h2⟩ | ⟨hp, h1, h2⟩
          · exact ⟨_, h1, h2⟩
          · exact ⟨_, h1, by rw [h2]; have := HRS.out l hp; unfold Dfa.acc at *; rw [this]⟩
        obtain ⟨⟨r1, r2⟩, h1, h2⟩ := HEQ
        rw [h1] at HRA
        rw [h2] at HRB
        have HRA := Lib.hid HRA
        have HRB := Lib.hid HRB
        clear HR2 h1 h2
        go_wp2_with fail
        refine HRA.out.mono ?_
        rintro e w9 ⟨rfl, k⟩
        have HB9 := Lib.hid (HB8.out.trans (k.mono HB8.out.size))
        have KB9 := Lib.hid (KB8.out.below k KB8.out.lt)
        clear k p0 p1 p2
        obtain ⟨p0, p1, p2, _, _, _⟩ := Blk.three KB9.out
        go_wp2_with fail
        refine (HRB.out _ HB9.out).mono ?_
        rintro e w10 ⟨rfl, k⟩
        have HB10 := Lib.hid (HB9.out.trans (k.mono HB9.out.size))
        clear k p0 p1 p2
        have t1 : (r2 == r2) = true := by simp
        cases r1
        all_goals
          simp only
          go_wp2
          go_ret
          exact ⟨rfl, HB10.out⟩
      | some u =>
        have HSE : Hid (¬ leastD d = leastD o) := Lib.hid (fun h => by rw [(word_iff HOD.out HOO.out).2 h] at hw; cases hw)
        have HWS := Lib.hid (word_some HOD.out HOO.out hw)
        have HUL : Hid (u.length ≤ 144) := Lib.hid (Nat.le_trans (word_len HOD.out HOO.out hw) (by rw [← HN1.out.1]; exact Nat.mul_le_mul HN1.out.2.1 HN1.out.2.2))
        rw [hw] at HV
        simp only [Option.getD_some] at HV
        simp only [Option.isSome_some, Option.getD_some]
        obtain ⟨un, hun⟩ : ∃ un, u.length = un := ⟨_, rfl⟩
        have HUN := Lib.hid hun
        rw [hun]
        clear hw hun
        go_wp2_with fail
        refine HAP2.out.mono ?_
        rintro e w7 ⟨v2, rfl, hv2, k⟩
        rw [HAE.out.1, HAE.out.2]
        have HB7 := Lib.hid (HB6.out.trans (k.mono HB6.out.size))
        have X7 := Lib.hid k
        have KA7 := Lib.hid (KA6.out.below k KA6.out.lt); have KB7 := Lib.hid (KB6.out.below k KB6.out.lt); have KE7 := Lib.hid (KE6.out.below k KE6.out.lt); have KF7 := Lib.hid (KF6.out.below k KF6.out.lt)
        have HSM := ref10_Same E1 E2 E3 F1 F2 F3 ef1 ef2 ef3 eq1 eq2 eq3 ff1 ff2 ff3 fq1 fq2 fq3 (leastD d) (leastD o) w7 (DfaAt.keep HE6.out (Keep.of k)) (DfaAt.keep HF6.out (Keep.of k))
        rw [yes_f HSE.out] at HSM
        have HSM := Lib.hid HSM
        clear k p0 p1 p2 z0 z1 z2 hv2
        obtain ⟨p0, p1, p2, _, _, _⟩ := Blk.three KE7.out
        obtain ⟨z0, z1, z2, _, _, _⟩ := Blk.three KF7.out
        go_wp2_with fail
        refine HSM.out.mono ?_
        rintro e w8 ⟨rfl, k⟩
        have HB8 := Lib.hid (HB7.out.trans (k.mono HB7.out.size))
        have X8 := Lib.hid (X7.out.trans (k.mono X7.out.size))
        have KA8 := Lib.hid (KA7.out.below k KA7.out.lt); have KB8 := Lib.hid (KB7.out.below k KB7.out.lt)
        clear k p0 p1 p2 z0 z1 z2
        obtain ⟨p0, p1, p2, _, _, _⟩ := Blk.three KA8.out
        have HUP : ∃ V', V' = V ∧ At w8 V RI u := by
          obtain ⟨V', c', e, h, _⟩ := HV.out.at' (fun x hx => by have := HWS.out.1 x hx; unfold Pnt at this; omega) (by have := HUL.out; omega)
          injection e with e1 _ _
          subst e1
          exact ⟨_, rfl, h.keep (Keep.of X8.out)⟩
        obtain ⟨_, _, hup⟩ := HUP
        have HRA := subset_Run A1 A2 A3 V c1 c2 c3 vc n1 n2 n3 un d u w8 (HD.out.keep (Keep.of HB8.out)) hup HUN
        have HRB := fun W (hb : Below w.heap.size w W) (hk : Below w8.heap.size w8 W) => subset_Run B1 B2 B3 V d1 d2 d3 vc m1 m2 m3 un o u W (HO.out.keep (Keep.of hb)) (hup.keep (Keep.of hk)) HUN
        rw [run_pnts HOD.out (by have := HUL.out; omega) HWS.out.1] at HRA
        rw [run_pnts HOO.out (by have := HUL.out; omega) HWS.out.1] at HRB
        have HRA := Lib.hid HRA
        have HRB := Lib.hid HRB
        have HNQ := Lib.hid HWS.out.2.1
        obtain ⟨r1, hr1⟩ : ∃ r1, d.acc (d.to 0 u) = r1 := ⟨_, rfl⟩
        obtain ⟨r2, hr2⟩ : ∃ r2, o.acc (o.to 0 u) = r2 := ⟨_, rfl⟩
        rw [hr1] at HRA HNQ
        rw [hr2] at HRB HNQ
        clear hup hr1 hr2
        go_wp2_with fail
        refine HRA.out.mono ?_
        rintro e w9 ⟨rfl, k⟩
        have HB9 := Lib.hid (HB8.out.trans (k.mono HB8.out.size))
        have KB9 := Lib.hid (KB8.out.below k KB8.out.lt)
        have X9 := Lib.hid k
        clear k p0 p1 p2
        obtain ⟨p0, p1, p2, _, _, _⟩ := Blk.three KB9.out
        go_wp2_with fail
        refine (HRB.out _ HB9.out X9.out).mono ?_
        rintro e w10 ⟨rfl, k⟩
        have HB10 := Lib.hid (HB9.out.trans (k.mono HB9.out.size))
        clear k p0 p1 p2
        cases r1 <;> cases r2
        case false.false => exact absurd rfl HNQ.out
        case true.true => exact absurd rfl HNQ.out
        all_goals
          go_wp2
          go_ret
          exact ⟨rfl, HB10.out⟩

end Go.Proofs.YtcmmmgblkbbdnaaGreatDoor
