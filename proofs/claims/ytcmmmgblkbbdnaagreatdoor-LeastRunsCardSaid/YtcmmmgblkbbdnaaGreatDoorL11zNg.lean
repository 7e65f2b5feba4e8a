/- Walks: the least automaton of a pattern's text (laws of the least chapter): of, alive. PUT1 -/
import Derived.Test.YtcmmmgblkbbdnaaGreatDoorL10dg
import Derived.Test.YtcmmmgblkbbdnaaGreatDoorIbg
import Derived.Test.YtcmmmgblkbbdnaaGreatDoorRpg
import Derived.Test.YtcmmmgblkbbdnaaGreatDoorRows
import Derived.Lib.LaidIn
import Derived.Lib.LaidU8T
import Derived.Lib.SmallJoins
import Derived.ProofKit
import Derived.SizedLaws
import Derived.LaidLaws
import Derived.Handed
import Derived.OpenShut
import Derived.ChangeOld
import Derived.SevenTiedAt
import Derived.Test.YtcmmmgblkbbdnaaGreatDoorL9bg
import Derived.Test.YtcmmmgblkbbdnaaGreatDoorZlg
import Derived.Test.YtcmmmgblkbbdnaaGreatDoorTog
import Derived.WalkMore
import Derived.Test.YtcmmmgblkbbdnaaGreatDoorTig
import Derived.Test.YtcmmmgblkbbdnaaGreatDoorBag
import Derived.Test.YtcmmmgblkbbdnaaGreatDoorTbg
import Derived.Test.YtcmmmgblkbbdnaaGreatDoorLsg
import Derived.Test.YtcmmmgblkbbdnaaGreatDoorGng
import Derived.Test.YtcmmmgblkbbdnaaGreatDoorHdg
import Derived.Test.YtcmmmgblkbbdnaaGreatDoorHag
import Derived.Test.YtcmmmgblkbbdnaaGreatDoorWfg
import Derived.Test.YtcmmmgblkbbdnaaGreatDoorHgg
namespace Go.Proofs.YtcmmmgblkbbdnaaGreatDoor
open Go.RowKit Pv
theorem comp_is {T : Tr} {D0 D : Dfa} {k : Nat} (h : Known T) (hb : subB T D0 = true) (hl : leastC D0 k = some D) : CR T.flat D 0 := by
  obtain ⟨_, rfl⟩ := leastC_is hl
  exact .made (r := ((leadT T [[]] 0).1, (((leadT T [[]] 0).2 : Nat) : Int), 0)) (.inr ⟨h.pat, T, h.ok, rfl, .inr ⟨h.few, rfl⟩⟩) rfl (subB_is h hb)

set_option maxHeartbeats 2000000 in
set_option maxRecDepth 100000 in
theorem law11_of (t : ByteArray) (T : Tr) (D : Dfa) (w : World) (B : Nat) (h : Tells (bsl t) T) (hD : CR T.flat D 0) (hok : D.Ok) (hT : TabU B w) (hB : B ≤ w.heap.size) :
    Calls Tryz.prog 75 #[.string t] w (DfaB w D true) := by
  have hW : Below w.heap.size w (w.alloc (.cells #[.slice none 0 0, .slice none 0 0, .slice none 0 0] TDfa)) := (Below.refl _ _).alloc (Nat.le_refl _) _
  have HW := Lib.hid hW
  have K0 := Lib.hid (Blk.new w TDfa #[.slice none 0 0, .slice none 0 0, .slice none 0 0])
  have HP := Lib.hid (pattern_Parse t T _ B h h.plain (hT.then hW hB) (by simp; omega))
  have HT := Lib.hid h
  have HD := Lib.hid hD; have HOK := Lib.hid hok
  obtain ⟨nt, hnt⟩ : ∃ nt, T.flat.length = nt := ⟨_, rfl⟩
  have HN := Lib.hid hnt
  have hn : nt ≤ 64 := by rw [← hnt]; exact h.known.size
  clear h hT hB hnt hW hD hok
  go_enter Tryz.func75, Tryz.ntmps75
  go_wp2_with fail
  refine HP.out.mono ?_
  rintro e w1 ⟨A1, c1, rfl, k1, k2⟩
  have HB1 := Lib.hid (HW.out.trans (k2.mono HW.out.size))
  have K1 := Lib.hid (K0.out.below k2 (by simp))
  have HAT := Lib.hid (rx_at k1 (by rw [HN.out]; omega) HT.out.sets)
  rw [HN.out]
  clear k1 k2
  have HBU := Lib.hid (least_Compile A1 nt c1 T.flat w1 HAT.out HN)
  go_wp2_with fail
  refine HBU.out.mono ?_
  rintro e w4 ⟨D', code, B1, m1, d1, B2, m2, d2, B3, m3, d3, rfl, hat, hout, k4⟩
  obtain ⟨e1, e2⟩ := hout.one HD.out
  subst e1; subst e2
  have HB4 := Lib.hid (HB1.out.trans (k4.mono HB1.out.size))
  have K4 := Lib.hid (K1.out.below k4 K1.out.lt)
  have hb5 : Below w4.heap.size w4 (w4.alloc (.cells #[.slice B1 m1 d1, .slice B2 m2 d2, .slice B3 m3 d3] TDfa)) := (Below.refl _ _).alloc (Nat.le_refl _) _
  have HB5 := Lib.hid (HB4.out.trans (hb5.mono HB4.out.size))
  have K5 := Lib.hid (K4.out.below hb5 K4.out.lt)
  have HD5 := Lib.hid (DfaAt.keep hat (Keep.of hb5))
  obtain ⟨p0, p1, p2, f0, f1, f2⟩ := Blk.three K5.out
  have p9 := K5.out.lt
  clear hat hout k4 hb5
  go_wp2
  have K6 := Lib.hid (((K5.out.set 0 (.slice B1 m1 d1)).set 1 (.slice B2 m2 d2)).set 2 (.slice B3 m3 d3))
  obtain ⟨z0, z1, z2, _, _, _⟩ := Blk.three (a := .slice B1 m1 d1) (b := .slice B2 m2 d2) (c := .slice B3 m3 d3) K6.out
  have hne : w.heap.size ≤ w4.heap.size := HB4.out.size
  refine bodyPost_ret (v := .tuple #[.agg #[.slice B1 m1 d1, .slice B2 m2 d2, .slice B3 m3 d3], .bool true]) (by simp [results, Tryz.results75, go_sem, z0, z1, z2]) rfl ⟨B1, m1, d1, B2, m2, d2, B3, m3, d3, rfl, ?_, ((HB5.out.setCell (p := ⟨w.heap.size, 0, none⟩) (by simp) _).setCell (p := ⟨w.heap.size, 1, none⟩) (by simp) _).setCell (p := ⟨w.heap.size, 2, none⟩) (by simp) _⟩
  exact HD5.out.box HOK.out K5.out (((KeepBut.refl _ _).set 0 _).set 1 _ |>.set 2 _)

def d11 : Dfa := ⟨[0, 97, 99], [[1, 0, 1], [1, 1, 1]], [true, false]⟩
theorem d11_ok : d11.Ok := okC_is (by decide +kernel)
/-- What is built of both patterns ahead of the least one. -/
def d11a : Dfa := ⟨[0, 97, 98, 99], [[1, 2, 3, 1], [1, 1, 1, 1], [1, 2, 3, 1], [1, 2, 3, 1]], [true, false, true, true]⟩
theorem d11_10 : CR t10.flat d11 0 := comp_is (D0 := d11a) (k := 4) tells10.known (by decide +kernel) (by kernel_rfl)
theorem d11_11 : CR t11.flat d11 0 := comp_is (D0 := d11a) (k := 4) tells11.known (by decide +kernel) (by kernel_rfl)
theorem d11_lit (w : World) : DfaAt (((((w.alloc (.cells #[.int .i64 0, .int .i64 97, .int .i64 99] 3)).alloc (.cells #[.int .i64 1, .int .i64 0, .int .i64 1] 3)).alloc (.cells #[.int .i64 1, .int .i64 1, .int .i64 1] 3)).alloc (.cells #[.slice (some ⟨w.heap.size + 1, 0, none⟩) 3 3, .slice (some ⟨w.heap.size + 1 + 1, 0, none⟩) 3 3] 27)).alloc (.cells #[.bool true, .bool false] 4)) (some ⟨w.heap.size, 0, none⟩) (some ⟨w.heap.size + 1 + 1 + 1, 0, none⟩) (some ⟨w.heap.size + 1 + 1 + 1 + 1, 0, none⟩) 3 2 2 d11 := by
  have b0 := (((((blk_at (W := w) (n := w.heap.size) 3 #[.int .i64 0, .int .i64 97, .int .i64 99] (by simp)).alloc (.cells #[.int .i64 1, .int .i64 0, .int .i64 1] 3)).alloc (.cells #[.int .i64 1, .int .i64 1, .int .i64 1] 3)).alloc (.cells #[.slice (some ⟨w.heap.size + 1, 0, none⟩) 3 3, .slice (some ⟨w.heap.size + 1 + 1, 0, none⟩) 3 3] 27)).alloc (.cells #[.bool true, .bool false] 4))
  have b1 := ((((blk_at (W := (w.alloc (.cells #[.int .i64 0, .int .i64 97, .int .i64 99] 3))) (n := w.heap.size + 1) 3 #[.int .i64 1, .int .i64 0, .int .i64 1] (by simp)).alloc (.cells #[.int .i64 1, .int .i64 1, .int .i64 1] 3)).alloc (.cells #[.slice (some ⟨w.heap.size + 1, 0, none⟩) 3 3, .slice (some ⟨w.heap.size + 1 + 1, 0, none⟩) 3 3] 27)).alloc (.cells #[.bool true, .bool false] 4))
  have b2 := (((blk_at (W := ((w.alloc (.cells #[.int .i64 0, .int .i64 97, .int .i64 99] 3)).alloc (.cells #[.int .i64 1, .int .i64 0, .int .i64 1] 3))) (n := w.heap.size + 1 + 1) 3 #[.int .i64 1, .int .i64 1, .int .i64 1] (by simp)).alloc (.cells #[.slice (some ⟨w.heap.size + 1, 0, none⟩) 3 3, .slice (some ⟨w.heap.size + 1 + 1, 0, none⟩) 3 3] 27)).alloc (.cells #[.bool true, .bool false] 4))
  have b3 := ((blk_at (W := (((w.alloc (.cells #[.int .i64 0, .int .i64 97, .int .i64 99] 3)).alloc (.cells #[.int .i64 1, .int .i64 0, .int .i64 1] 3)).alloc (.cells #[.int .i64 1, .int .i64 1, .int .i64 1] 3))) (n := w.heap.size + 1 + 1 + 1) 27 #[.slice (some ⟨w.heap.size + 1, 0, none⟩) 3 3, .slice (some ⟨w.heap.size + 1 + 1, 0, none⟩) 3 3] (by simp)).alloc (.cells #[.bool true, .bool false] 4))
  have b4 := (blk_at (W := ((((w.alloc (.cells #[.int .i64 0, .int .i64 97, .int .i64 99] 3)).alloc (.cells #[.int .i64 1, .int .i64 0, .int .i64 1] 3)).alloc (.cells #[.int .i64 1, .int .i64 1, .int .i64 1] 3)).alloc (.cells #[.slice (some ⟨w.heap.size + 1, 0, none⟩) 3 3, .slice (some ⟨w.heap.size + 1 + 1, 0, none⟩) 3 3] 27))) (n := w.heap.size + 1 + 1 + 1 + 1) 4 #[.bool true, .bool false] (by simp))
  refine ⟨(isInts_blk (n := 3) b0 rfl rfl (by decide) (by omega)).at, At.ofBlk b3 ((Rel.one (isInts_blk (n := 3) b1 rfl rfl (by decide) (by omega))).app (Rel.one (isInts_blk (n := 3) b2 rfl rfl (by decide) (by omega)))) (by decide), At.ofBlk b4 (rel_bools [true, false]) (by decide), Lib.hid rfl, Lib.hid rfl, Lib.hid rfl⟩

set_option maxHeartbeats 2000000 in
set_option maxRecDepth 100000 in
theorem law11_alive (w : World) (B : Nat) (hT : TabU B w) (hB : B ≤ w.heap.size) : Calls Tryz.prog 44 #[] w fun e w' => e = .returned (.bool true) ∧ Below w.heap.size w w' := by
  have HO := Lib.hid (law11_of ⟨#[40, 97, 124, 98, 41, 42]⟩ t10 d11 w B tells10 d11_10 d11_ok hT hB)
  have HO2 := Lib.hid (fun W (hb : Below w.heap.size w W) => law11_of ⟨#[40, 97, 42, 98, 42, 41, 42]⟩ t11 d11 W B tells11 d11_11 d11_ok (hT.then hb hB) (Nat.le_trans hB hb.size))
  clear hT hB
  go_enter Tryz.func44, Tryz.ntmps44
  go_wp2_with fail
  refine HO.out.mono ?_
  rintro e w1 ⟨A1, n1, c1, A2, n2, c2, A3, n3, c3, rfl, k1, k2⟩
  have hb2 : Below w1.heap.size w1 (w1.alloc (.cells #[.slice A1 n1 c1, .slice A2 n2 c2, .slice A3 n3 c3] TDfa)) := (Below.refl _ _).alloc (Nat.le_refl _) _
  have HB2 := Lib.hid (k2.trans (hb2.mono k2.size))
  have K2 := Lib.hid (Blk.new w1 TDfa #[.slice A1 n1 c1, .slice A2 n2 c2, .slice A3 n3 c3])
  have HD2 := Lib.hid (DfaAt.keep k1 (Keep.of hb2))
  clear k1 k2 hb2
  go_wp2_with fail
  refine (HO2.out _ HB2.out).mono ?_
  rintro e w3 ⟨B1, m1, d1, B2, m2, d2, B3, m3, d3, rfl, k1, k2⟩
  have hb4 : Below w3.heap.size w3 (w3.alloc (.cells #[.slice B1 m1 d1, .slice B2 m2 d2, .slice B3 m3 d3] TDfa)) := (Below.refl _ _).alloc (Nat.le_refl _) _
  have hb24 := k2.trans (hb4.mono k2.size)
  have HB4 := Lib.hid (HB2.out.trans (hb24.mono HB2.out.size))
  have K4 := Lib.hid (K2.out.below hb24 (by simp))
  have D4 := Lib.hid (Blk.new w3 TDfa #[.slice B1 m1 d1, .slice B2 m2 d2, .slice B3 m3 d3])
  have HD4 := Lib.hid (DfaAt.keep HD2.out (Keep.of hb24))
  have HE4 := Lib.hid (DfaAt.keep k1 (Keep.of hb4))
  have HS := ref10_Same A1 A2 A3 B1 B2 B3 c1 c2 c3 n1 n2 n3 d1 d2 d3 m1 m2 m3 d11 d11 _ HD4.out HE4.out
  rw [yes_t rfl] at HS
  have HS := Lib.hid HS
  obtain ⟨p0, p1, p2, _, _, _⟩ := Blk.three K4.out
  obtain ⟨q0, q1, q2, _, _, _⟩ := Blk.three D4.out
  clear k1 k2 hb4 hb24
  go_wp2_with fail
  refine HS.out.mono ?_
  rintro e w5 ⟨rfl, k5⟩
  have HB5 := Lib.hid (HB4.out.trans (k5.mono HB4.out.size))
  have K5 := Lib.hid (K4.out.below k5 K4.out.lt)
  have HD5 := Lib.hid (DfaAt.keep HD4.out (Keep.of k5))
  have hb6 : Below w5.heap.size w5 (((((w5.alloc (.cells #[.int .i64 0, .int .i64 97, .int .i64 99] 3)).alloc (.cells #[.int .i64 1, .int .i64 0, .int .i64 1] 3)).alloc (.cells #[.int .i64 1, .int .i64 1, .int .i64 1] 3)).alloc (.cells #[.slice (some ⟨w5.heap.size + 1, 0, none⟩) 3 3, .slice (some ⟨w5.heap.size + 1 + 1, 0, none⟩) 3 3] 27)).alloc (.cells #[.bool true, .bool false] 4)) := (((((Below.refl _ _).alloc (Nat.le_refl _) _).alloc (by simp) _).alloc (by simp; omega) _).alloc (by simp; omega) _).alloc (by simp; omega) _
  have HS6 := ref10_Same A1 A2 A3 _ _ _ c1 c2 c3 n1 n2 n3 3 2 2 3 2 2 d11 d11 _ (DfaAt.keep HD5.out (Keep.of hb6)) (d11_lit w5)
  rw [yes_t rfl] at HS6
  have HS6 := Lib.hid HS6
  have HB6 := Lib.hid (HB5.out.trans (hb6.mono HB5.out.size))
  clear p0 p1 p2 q0 q1 q2 k5 hb6
  obtain ⟨p0, p1, p2, _, _, _⟩ := Blk.three K5.out
  have hlt := K5.out.lt
  go_wp2_with fail
  refine HS6.out.mono ?_
  rintro e w7 ⟨rfl, k7⟩
  have HB7 := Lib.hid (HB6.out.trans (k7.mono HB6.out.size))
  clear k7
  go_wp2
  go_ret
  exact ⟨rfl, HB7.out⟩
end Go.Proofs.YtcmmmgblkbbdnaaGreatDoor

namespace Go.Proofs.YtcmmmgblkbbdnaaGreatDoor
open Go.ChangeShapes Go.WideShapes Go.ChangeAt Go.RowKit Pv

def tab32 : List Int := [0, 1, 28, 2, 29, 14, 24, 3, 30, 22, 20, 15, 25, 17, 4, 8, 31, 27, 13, 23, 21, 19, 16, 7, 26, 12, 18, 6, 11, 5, 10, 9]
def tab64 : List Int := [0, 1, 56, 2, 57, 49, 28, 3, 61, 58, 42, 50, 38, 29, 17, 4, 62, 47, 59, 36, 45, 43, 51, 22, 53, 39, 33, 30, 24, 18, 12, 5, 63, 55, 48, 27, 60, 41, 37, 16, 46, 35, 44, 21, 52, 32, 23, 11, 54, 26, 40, 15, 34, 20, 31, 10, 25, 14, 19, 9, 13, 8, 7, 6]
/-- The settled world, all of it laid. -/
noncomputable def laidWorld (os : Os) : World :=
  let w0 := World.holding Tryz.prog os ⟨#[], #[], []⟩
  let put (h : Array Obj) (g : Nat) (cs : Array Value) : Array Obj := h.modify g fun
    | .cells _ t frozen => .cells cs t frozen
    | o => o
  let h1 := put w0.heap 0 (Lib.firstTab.map fun z => Value.int .u8 z).toArray
  let h2 := put h1 1 ((List.range 16).flatMap fun i => [Value.int .u8 (Lib.accLo i), Value.int .u8 (Lib.accHi i)]).toArray
  let h3 := put h2 5 (Lib.pow10Tab.map fun z => Value.int .u64 z).toArray
  let h4 := put h3 6 (tab32.map fun z => Value.int .u8 z).toArray
  let h5 := put h4 7 (tab64.map fun z => Value.int .u8 z).toArray
  let h6 := put h5 3 #[.iface 272 (.pointer (some ⟨13, 0, none⟩))]
  let h7 := put h6 2 #[.iface 272 (.pointer (some ⟨14, 0, none⟩))]
  let h8 := h7.push (.cells #[.string ⟨#[118, 97, 108, 117, 101, 32, 111, 117, 116, 32, 111, 102, 32, 114, 97, 110, 103, 101]⟩] 274 (0, 0))
  let h9 := h8.push (.cells #[.string ⟨#[105, 110, 118, 97, 108, 105, 100, 32, 115, 121, 110, 116, 97, 120]⟩] 274 (0, 0))
  { w0 with heap := h9 }
theorem laid_met (os : Os) (args : Array Value) : laidMet Tryz.prog Rows.tongueNamesRow.laid ((laidWorld os).forCall (fun _ _ => 0) ⟨#[], args, []⟩).memory :=
  (LaidIn.of_run [6, 7, 5, 1, 3, 13, 2, 14, 0] 8 (by kernel_rfl) (by kernel_rfl) (by kernel_rfl) (by kernel_rfl)).met

theorem first_is : (Rows.laid_unicode_utf8_first : DataW Unit) = Lib.firstData := by kernel_rfl
theorem accept_is : (Rows.laid_unicode_utf8_acceptRanges : DataW Unit) = Lib.acceptData := by kernel_rfl
/-- From the row's condition to what the walks ask. -/
theorem tabs_of_laid {W : World} (h : laidMet Tryz.prog Rows.tongueNamesRow.laid W) : TabU W.heap.size W := by
  have r2 := Lib.laidMet.reads h (.tail _ (.tail _ (.tail _ (.head _))))
  have r3 := Lib.laidMet.reads h (.tail _ (.tail _ (.tail _ (.tail _ (.tail _ (.tail _ (.head _)))))))
  rw [accept_is] at r2
  rw [first_is] at r3
  have hU : Lib.Utf8Tabs (Tryz.lays196_ren.g 3) (Tryz.lays196_ren.g 4) W :=
    utf8Tabs_of_readsT (ρ := Tryz.lays196_ren) (U8Types.of196 Tryz.lays196) ⟨by kernel_rfl, by kernel_rfl, by kernel_rfl, by kernel_rfl, by kernel_rfl, by kernel_rfl, by kernel_rfl⟩ r3 r2
  intro w' hb
  refine ⟨fun c hc => ?_, fun i hi => ⟨?_, ?_⟩⟩
  · exact (hb.cell (World.block_lt_of_cell? _ _ (hU.1 c hc))).trans (hU.1 c hc)
  · exact (hb.cell (World.block_lt_of_cell? _ _ (hU.2 i hi).1)).trans (hU.2 i hi).1
  · exact (hb.cell (World.block_lt_of_cell? _ _ (hU.2 i hi).2)).trans (hU.2 i hi).2
end Go.Proofs.YtcmmmgblkbbdnaaGreatDoor

namespace Go.Proofs.YtcmmmgblkbbdnaaGreatDoor
open Go.RowKit Pv
theorem pnts_of {l : List Int} (h : ¬ beyond l) : Pnts l := fun p hp => by
  by_cases h1 : p < 0 ∨ 1114111 < p
  · exact absurd ⟨p, hp, h1⟩ h
  · exact ⟨by omega, by omega⟩

end Go.Proofs.YtcmmmgblkbbdnaaGreatDoor

namespace Go.Proofs.YtcmmmgblkbbdnaaGreatDoor
open Go.RowKit Pv
/-- All three accept alike. -/
theorem runs_all {a : Au} {acc : Int} {D0 : Dfa} {l : List Int} (ho : Out a acc D0 0) (hf : AuOk a acc) (hl : l.length ≤ 1024) :
    (D0.runE l = (false, 2) ∧ (leastD D0).runE l = (false, 2)) ∨ (D0.runE l = (runB a acc l, 0) ∧ (leastD D0).runE l = (runB a acc l, 0)) := by
  have hok := ho.ok
  rcases runE_ok hok hl with ⟨hb, h1⟩ | ⟨hb, h1⟩
  · rcases runE_ok (leastD_ok hok) hl with ⟨_, h2⟩ | ⟨hn, _⟩
    · exact .inl ⟨h1, h2⟩
    · exact absurd hb hn
  · rcases runE_ok (leastD_ok hok) hl with ⟨hn, _⟩ | ⟨_, h2⟩
    · exact absurd hn hb
    · have hp := pnts_of hb
      have h3 := least_res hok l hp
      unfold Dfa.acc at h3
      have h4 := ho.lang (pts := l) hp
      obtain ⟨e1, _⟩ := runB_ok (l := l) hf hl
      refine .inr ⟨?_, ?_⟩
      · rw [h1, h4, e1]
      · rw [h2, ← h3, h4, e1]
theorem least_len (d : Dfa) (h : d.Ok) : (leastD d).next.length ≤ d.next.length := by rw [(leastD_len d).1]; exact (metL_ok h).len
set_option maxHeartbeats 8000000 in
set_option maxRecDepth 100000 in
theorem law_LeastRuns (A B : Option Addr) (nt ct nl cl : Nat) (t : List Rx) (l : List Int) (w : World) (B0 : Nat) (ht : AtRx w A t) (HT : Hid (t.length = nt)) (hp : At w B RI l) (HL : Hid (l.length = nl)) (hT : TabU B0 w) (hB : B0 ≤ w.heap.size) :
    Calls Tryz.prog 10 #[.slice A nt ct, .slice B nl cl] w fun e w' => e = .returned (.bool true) ∧ Below w.heap.size w w' := by
  have HAL := Lib.hid (law11_alive w B0 hT hB)
  have HGR := Lib.hid (fun W (hb : Below w.heap.size w W) => ref07_Great A ct nt 24 t W (AtRx.keep ht (Keep.of hb)) HT (by omega))
  have HAT := Lib.hid ht; have HLP := Lib.hid hp
  have hnl : nl ≤ 140737488355328 := by have := hp.1; rwa [HL.out] at this
  have hnt : nt ≤ 140737488355328 := by have := ht.1; rwa [HT.out] at this
  clear ht hp hT hB
  by_cases h8 : nl ≤ 30
  case neg =>
    have e1 : (30 : Int) < (nl : Int) := by omega
    go_enter Tryz.func10, Tryz.ntmps10
    go_wp2_with fail
    refine HAL.out.mono ?_
    rintro e w1 ⟨rfl, k⟩
    have HB1 := Lib.hid k
    clear k
    go_wp2_with fail
    refine (HGR.out _ HB1.out).mono ?_
    rintro e w' ⟨g, rfl, hg, rfl⟩
    clear hg
    cases g
    all_goals
      go_wp2
      go_ret
      exact ⟨rfl, HB1.out⟩
  have e1 : (nl : Int) ≤ 30 := by omega
  go_enter Tryz.func10, Tryz.ntmps10
  go_wp2_with fail
  refine HAL.out.mono ?_
  rintro e w1 ⟨rfl, k⟩
  have HB1 := Lib.hid k
  clear k
  go_wp2_with fail
  refine (HGR.out _ HB1.out).mono ?_
  rintro e w' ⟨g, rfl, hg, rfl⟩
  clear hg
  cases g with
  | true =>
    go_wp2
    go_ret
    exact ⟨rfl, HB1.out⟩
  | false =>
    have HR1 := Lib.hid (AtRx.keep HAT.out (Keep.of HB1.out))
    go_wp2
    go_loop [6] (fun iv => ∃ k : Nat, iv = .int .i64 k ∧ k ≤ nt) (fun iv => nt - (intOf iv).toNat)
    case atStart => exact ⟨0, rfl, by omega⟩
    case round =>
      obtain ⟨k, rfl, hk⟩ := hrel
      by_cases hlt : k < nt
      · obtain ⟨b, off, kd, B', cs, m, l', many, least, most, rfl, ⟨y0, y1, y2, y3, y4, y5⟩, hs, HM, hm, _, _, _, _, HX⟩ := HR1.out.g5 HT hlt
        have hml : m ≤ 140737488355328 := by have := hs.1; rwa [HM.out] at this
        clear hs
        by_cases h60 : 8 < m
        · go_wp2
          go_ret
          exact ⟨rfl, HB1.out⟩
        · go_wp2
          go_round
          case rel => exact ⟨k + 1, by go_num, by omega⟩
          case measure => simp [intOf]; omega
      · have HBU := Lib.hid (auto_Build A nt ct t w1 HR1.out HT)
        go_wp2_with fail
        refine HBU.out.mono ?_
        intro e w2 hpb
        obtain ⟨k2, ⟨a, acc, ce⟩, A2, n2, c2, hbr, rfl, hau, hl2⟩ := hpb.read
        simp only at hau hl2
        have HB2 := Lib.hid (HB1.out.trans (k2.mono HB1.out.size))
        have hb3 : Below w2.heap.size w2 (w2.alloc (.cells #[.slice A2 n2 c2, .int .i64 acc] TAuto)) := (Below.refl _ _).alloc (Nat.le_refl _) _
        have HB3 := Lib.hid (HB2.out.trans (hb3.mono HB2.out.size))
        have KA3 := Lib.hid (Blk.new w2 TAuto #[.slice A2 n2 c2, .int .i64 acc])
        have HA3 := Lib.hid (AtAu.keep hau (Keep.of hb3))
        have HL2 := Lib.hid hl2
        have HSU := Lib.hid (subset_Build A2 c2 n2 acc a _ HA3.out HL2)
        have HBR := Lib.hid hbr
        clear hpb k2 hbr hau hl2 hb3
        simp only
        go_wp2_with fail
        refine HSU.out.mono ?_
        intro e w4 hsu
        obtain ⟨D, cf, B1, m1, d1, B2, m2, d2, B3, m3, d3, rfl, hat, hout, k4⟩ := hsu.opens
        have HB4 := Lib.hid (HB3.out.trans (k4.mono HB3.out.size))
        have KA4 := Lib.hid (KA3.out.below k4 KA3.out.lt)
        have HA4 := Lib.hid (AtAu.keep HA3.out (Keep.of k4))
        have hb5 : Below w4.heap.size w4 (w4.alloc (.cells #[.slice B1 m1 d1, .slice B2 m2 d2, .slice B3 m3 d3] TDfa)) := (Below.refl _ _).alloc (Nat.le_refl _) _
        have HB5 := Lib.hid (HB4.out.trans (hb5.mono HB4.out.size))
        have KA5 := Lib.hid (KA4.out.below hb5 KA4.out.lt)
        have HA5 := Lib.hid (AtAu.keep HA4.out (Keep.of hb5))
        have KD5 := Lib.hid (Blk.new w4 TDfa #[.slice B1 m1 d1, .slice B2 m2 d2, .slice B3 m3 d3])
        have HD5 := Lib.hid (DfaAt.keep hat (Keep.of hb5))
        have HOU := Lib.hid hout
        have HCP := Lib.hid (least_Compile A nt ct t _ (AtRx.keep HAT.out (Keep.of HB5.out)) HT)
        clear hsu hat hout k4 hb5
        go_wp2_with fail
        refine HCP.out.mono ?_
        rintro e w6 ⟨X, cg, E1, q1, f1, E2, q2, f2, E3, q3, f3, rfl, hat, hcr, k6⟩
        have HB6 := Lib.hid (HB5.out.trans (k6.mono HB5.out.size))
        have KA6 := Lib.hid (KA5.out.below k6 KA5.out.lt)
        have HA6 := Lib.hid (AtAu.keep HA5.out (Keep.of k6))
        have KD6 := Lib.hid (KD5.out.below k6 KD5.out.lt)
        have HD6 := Lib.hid (DfaAt.keep HD5.out (Keep.of k6))
        have hb7 : Below w6.heap.size w6 (w6.alloc (.cells #[.slice E1 q1 f1, .slice E2 q2 f2, .slice E3 q3 f3] TDfa)) := (Below.refl _ _).alloc (Nat.le_refl _) _
        have HB7 := Lib.hid (HB6.out.trans (hb7.mono HB6.out.size))
        have KA7 := Lib.hid (KA6.out.below hb7 KA6.out.lt)
        have HA7 := Lib.hid (AtAu.keep HA6.out (Keep.of hb7))
        have KD7 := Lib.hid (KD6.out.below hb7 KD6.out.lt)
        have HD7 := Lib.hid (DfaAt.keep HD6.out (Keep.of hb7))
        have KX7 := Lib.hid (Blk.new w6 TDfa #[.slice E1 q1 f1, .slice E2 q2 f2, .slice E3 q3 f3])
        have HX7 := Lib.hid (DfaAt.keep hat (Keep.of hb7))
        have HCR := Lib.hid hcr
        clear hat hcr k6 hb7
        by_cases hce : ce = 0
        case neg =>
          have HE : Hid (cg = ce) := Lib.hid ((HCR.out.one (.auto (r := (a, acc, ce)) HBR.out hce)).2)
          have heq := HE.out
          subst heq
          have t1 : (cg == 0) = false := by simpa using hce
          have t2 : (cg != 0) = true := by simpa using hce
          clear HE hce
          go_wp2
          go_ret
          exact ⟨rfl, HB7.out⟩
        subst hce
        by_cases hcf : cf = 0
        case neg =>
          have HE : Hid (cg = cf) := Lib.hid ((HCR.out.one (.sub (r := (a, acc, 0)) HBR.out rfl HOU.out hcf)).2)
          have heq := HE.out
          subst heq
          have t1 : (cg == 0) = false := by simpa using hcf
          have t2 : (cg != 0) = true := by simpa using hcf
          clear HE hcf
          go_wp2
          go_ret
          exact ⟨rfl, HB7.out⟩
        subst hcf
        have HE := HCR.out.one (.made (r := (a, acc, 0)) HBR.out rfl HOU.out)
        obtain ⟨g1, g2⟩ := HE
        subst g1; subst g2
        have HOK := HOU.out.ok
        have hauok : AuOk a acc := by
          have h := HOU.out
          generalize hz : (0 : Int) = z at h
          cases h with
          | bad h => exfalso; cases h <;> omega
          | made h _ => exact h.ok
        obtain ⟨r1, r2⟩ := runB_ok (l := l) hauok (by rw [HL.out]; omega)
        have HAR := Lib.hid (auto_Run A2 c2 n2 acc a B cl nl l _ HA7.out HL2 (At.keep HLP.out (Keep.of HB7.out)) HL)
        rw [r2] at HAR
        have HRN := runs_all HOU.out hauok (l := l) (by rw [HL.out]; omega)
        have HLE := Lib.hid (least_len D HOK)
        have hq : q2 ≤ m2 := by have := HLE.out; rw [HX7.out.hn.out, HD7.out.hn.out] at this; exact this
        obtain ⟨p, hpp⟩ : ∃ p, runB a acc l = p := ⟨_, rfl⟩
        rw [hpp] at HAR HRN
        have HR2 := Lib.hid (fun W (hb : Below (w6.alloc (.cells #[.slice E1 q1 f1, .slice E2 q2 f2, .slice E3 q3 f3] TDfa)).heap.size (w6.alloc (.cells #[.slice E1 q1 f1, .slice E2 q2 f2, .slice E3 q3 f3] TDfa)) W) => subset_Run B1 B2 B3 B d1 d2 d3 cl m1 m2 m3 nl D l W (DfaAt.keep HD7.out (Keep.of hb)) (At.keep HLP.out (Keep.of (HB7.out.trans (hb.mono HB7.out.size)))) HL)
        have HR3 := Lib.hid (fun W (hb : Below (w6.alloc (.cells #[.slice E1 q1 f1, .slice E2 q2 f2, .slice E3 q3 f3] TDfa)).heap.size (w6.alloc (.cells #[.slice E1 q1 f1, .slice E2 q2 f2, .slice E3 q3 f3] TDfa)) W) => subset_Run E1 E2 E3 B f1 f2 f3 cl q1 q2 q3 nl (leastD D) l W (DfaAt.keep HX7.out (Keep.of hb)) (At.keep HLP.out (Keep.of (HB7.out.trans (hb.mono HB7.out.size)))) HL)
        clear HOK hauok r1 r2 hpp
        obtain ⟨u0, u1, _, _⟩ := Blk.two KA7.out
        have hd : decide (m2 < q2) = false := decide_eq_false (by omega)
        rcases HRN with ⟨h1, h2⟩ | ⟨h1, h2⟩
        all_goals
          rw [h1] at HR2
          rw [h2] at HR3
          clear h1 h2
          go_wp2_with fail
          refine HAR.out.mono ?_
          rintro e w8 ⟨rfl, k8⟩
          have HB8 := Lib.hid (HB7.out.trans (k8.mono HB7.out.size))
          have X8 := Lib.hid k8
          have KD8 := Lib.hid (KD7.out.below k8 KD7.out.lt)
          have KX8 := Lib.hid (KX7.out.below k8 KX7.out.lt)
          clear k8 u0 u1
          obtain ⟨v0, v1, v2, _, _, _⟩ := Blk.three KD8.out
          go_wp2_with fail
          refine (HR2.out _ X8.out).mono ?_
          rintro e w9 ⟨rfl, k9⟩
          have HB9 := Lib.hid (HB8.out.trans (k9.mono HB8.out.size))
          have X9 := Lib.hid (X8.out.trans (k9.mono X8.out.size))
          have KD9 := Lib.hid (KD8.out.below k9 KD8.out.lt)
          have KX9 := Lib.hid (KX8.out.below k9 KX8.out.lt)
          clear k9 v0 v1 v2
          obtain ⟨v0, v1, v2, _, _, _⟩ := Blk.three KX9.out
          go_wp2_with fail
          refine (HR3.out _ X9.out).mono ?_
          rintro e w10 ⟨rfl, k10⟩
          have HB10 := Lib.hid (HB9.out.trans (k10.mono HB9.out.size))
          have KD10 := Lib.hid (KD9.out.below k10 KD9.out.lt)
          have KX10 := Lib.hid (KX9.out.below k10 KX9.out.lt)
          clear k10 v0 v1 v2
          obtain ⟨v0, v1, v2, _, _, _⟩ := Blk.three KX10.out
          obtain ⟨z0, z1, z2, _, _, _⟩ := Blk.three KD10.out
          cases p
          all_goals
            go_wp2
            go_ret
            exact ⟨rfl, HB10.out⟩
end Go.Proofs.YtcmmmgblkbbdnaaGreatDoor

namespace Pv
open Go Go.RowKit
theorem apart_ok {d o : Dfa} (h : d.Ok) (k : o.Ok) : apW d o = wordD d o ∧ apE d o = 0 := by
  unfold apW apE
  rw [yes_t ⟨h, k⟩]
  exact ⟨rfl, rfl⟩
theorem apart_bad {d o : Dfa} (h : ¬ (d.Ok ∧ o.Ok)) : apW d o = none ∧ apE d o = 8 := by
  unfold apW apE
  rw [yes_f h]
  exact ⟨rfl, rfl⟩
end Pv
namespace Go.Proofs.YtcmmmgblkbbdnaaGreatDoor
open Go.RowKit Pv
/-- What Least answers: an automaton, a code. -/
def LeastA (d D : Dfa) (code : Int) : Prop := (¬ d.Ok ∧ D = ⟨[], [], []⟩ ∧ code = 8) ∨ (d.Ok ∧ D = leastD d ∧ code = 0)
theorem LeastR.read {d : Dfa} {w w' : World} {e : Ending} (h : LeastR d w e w') :
    ∃ D code A1 n1 c1 A2 n2 c2 A3 n3 c3, e = .returned (.tuple #[.agg #[.slice A1 n1 c1, .slice A2 n2 c2, .slice A3 n3 c3], .int .i64 code]) ∧ DfaAt w' A1 A2 A3 n1 n2 n3 D ∧ LeastA d D code ∧ Below w.heap.size w w' := by
  obtain ⟨h, hb⟩ := h
  rcases h with ⟨hn, rfl⟩ | ⟨hok, v1, v2, v3, rfl, hres⟩
  · exact ⟨_, 8, none, 0, 0, none, 0, 0, none, 0, 0, rfl, DfaAt.none _, .inl ⟨hn, rfl, rfl⟩, hb⟩
  · obtain ⟨B1, d1, rfl, _⟩ := hres.c
    obtain ⟨B2, d2, _, rfl, _, _⟩ := hres.r
    obtain ⟨B3, d3, _, rfl, _, _⟩ := hres.t
    exact ⟨leastD d, 0, B1, _, d1, B2, _, d2, B3, _, d3, rfl, Res.atL hok hres, .inr ⟨hok, rfl, rfl⟩, hb⟩

end Go.Proofs.YtcmmmgblkbbdnaaGreatDoor

namespace Pv
open Go Go.RowKit
end Pv
namespace Go.Proofs.YtcmmmgblkbbdnaaGreatDoor
open Go.RowKit Pv
/-- What tells two apart, told of runs. -/
theorem word_len {d o : Dfa} (hd : d.Ok) (ho : o.Ok) {u : List Int} (h : wordD d o = some u) : u.length ≤ d.next.length * o.next.length :=
  (wordF_ok hd ho _ _ _ (PrOk.one hd ho) (by intro x hx; simp at hx; subst hx; simp) (by intro p hp y hy; simp at hp; subst hp; simp at hy) u h).1
theorem not_beyond {l : List Int} (h : Pnts l) : ¬ beyond l := fun ⟨p, hp, hq⟩ => by have := h p hp; unfold Pnt at this; omega
theorem run_pnts {d : Dfa} (h : d.Ok) {l : List Int} (hl : l.length ≤ 1024) (hp : Pnts l) : d.runE l = (d.acc (d.to 0 l), 0) := by
  rcases runE_ok h hl with ⟨hb, _⟩ | ⟨_, h1⟩
  · exact absurd hb (not_beyond hp)
  · rw [h1]; rfl
/-- Runs of two, side by side. -/
theorem runs_two {d o : Dfa} (hd : d.Ok) (ho : o.Ok) {l : List Int} (hl : l.length ≤ 1024) : (d.runE l = (false, 2) ∧ o.runE l = (false, 2)) ∨ (Pnts l ∧ d.runE l = (d.acc (d.to 0 l), 0) ∧ o.runE l = (o.acc (o.to 0 l), 0)) := by
  rcases runE_ok hd hl with ⟨hb, h1⟩ | ⟨hb, h1⟩
  · rcases runE_ok ho hl with ⟨_, h2⟩ | ⟨hn, _⟩
    · exact .inl ⟨h1, h2⟩
    · exact absurd hb hn
  · rcases runE_ok ho hl with ⟨hn, _⟩ | ⟨_, h2⟩
    · exact absurd hn hb
    · exact .inr ⟨pnts_of hb, h1, h2⟩
end Go.Proofs.YtcmmmgblkbbdnaaGreatDoor

namespace Go.Proofs.YtcmmmgblkbbdnaaGreatDoor
open Go.RowKit Pv
end Go.Proofs.YtcmmmgblkbbdnaaGreatDoor
