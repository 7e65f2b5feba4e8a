/- The tables and the sentinels as laid: a world that has them; what the walks ask of them. -/
import Derived.Test.YtilhicefhhgecaaGreatDoorRpq
import Derived.Test.YtilhicefhhgecaaGreatDoorRows
import Derived.Lib.LaidIn
import Derived.Lib.ItoaNum
import Derived.Lib.LaidU8T
import Derived.Lib.SmallJoins
import Derived.ProofKit
import Derived.SizedLaws
import Derived.LaidLaws
import Derived.Handed
import Derived.OpenShut
import Derived.ChangeOld
import Derived.SevenTiedAt
namespace Go.Proofs.YtilhicefhhgecaaGreatDoor
open Go.ChangeShapes Go.WideShapes Go.ChangeAt Go.RowKit Pv

def tab32 : List Int := [0, 1, 28, 2, 29, 14, 24, 3, 30, 22, 20, 15, 25, 17, 4, 8, 31, 27, 13, 23, 21, 19, 16, 7, 26, 12, 18, 6, 11, 5, 10, 9]
def tab64 : List Int := [0, 1, 56, 2, 57, 49, 28, 3, 61, 58, 42, 50, 38, 29, 17, 4, 62, 47, 59, 36, 45, 43, 51, 22, 53, 39, 33, 30, 24, 18, 12, 5, 63, 55, 48, 27, 60, 41, 37, 16, 46, 35, 44, 21, 52, 32, 23, 11, 54, 26, 40, 15, 34, 20, 31, 10, 25, 14, 19, 9, 13, 8, 7, 6]
/-- The settled world, all of it laid. -/
noncomputable def laidWorld (os : Os) : World :=
  let w0 := World.holding Tryz.prog os ⟨#[], #[], []⟩
  let put (h : Array Obj) (g : Nat) (cs : Array Value) : Array Obj := h.modify g fun
    | .cells _ t frozen => .cells cs t frozen
    | o => o
  let h1 := put w0.heap 0 (Lib.firstTab.map fun z => Value.int .u8 z).toArray
  let h2 := put h1 1 ((List.range 16).flatMap fun i => [Value.int .u8 (Lib.accLo i), Value.int .u8 (Lib.accHi i)]).toArray
  let h3 := put h2 3 (Lib.pow10Tab.map fun z => Value.int .u64 z).toArray
  let h4 := put h3 6 (tab32.map fun z => Value.int .u8 z).toArray
  let h5 := put h4 7 (tab64.map fun z => Value.int .u8 z).toArray
  let h6 := put h5 5 #[.iface 314 (.pointer (some ⟨13, 0, none⟩))]
  let h7 := put h6 4 #[.iface 314 (.pointer (some ⟨14, 0, none⟩))]
  let h8 := h7.push (.cells #[.string ⟨#[118, 97, 108, 117, 101, 32, 111, 117, 116, 32, 111, 102, 32, 114, 97, 110, 103, 101]⟩] 316 (0, 0))
  let h9 := h8.push (.cells #[.string ⟨#[105, 110, 118, 97, 108, 105, 100, 32, 115, 121, 110, 116, 97, 120]⟩] 316 (0, 0))
  { w0 with heap := h9 }
theorem laid_met (os : Os) (args : Array Value) : laidMet Tryz.prog Rows.subsetNamesRow.laid ((laidWorld os).forCall (fun _ _ => 0) ⟨#[], args, []⟩).memory :=
  (LaidIn.of_run [6, 7, 3, 1, 5, 13, 4, 14, 0] 8 (by kernel_rfl) (by kernel_rfl) (by kernel_rfl) (by kernel_rfl)).met

theorem first_is : (Rows.laid_unicode_utf8_first : DataW Unit) = Lib.firstData := by kernel_rfl
theorem accept_is : (Rows.laid_unicode_utf8_acceptRanges : DataW Unit) = Lib.acceptData := by kernel_rfl
/-- From the row's condition to what the walks ask. -/
theorem tabs_of_laid {W : World} (h : laidMet Tryz.prog Rows.subsetNamesRow.laid W) : TabU W.heap.size W := by
  have r2 := Lib.laidMet.reads h (.tail _ (.tail _ (.tail _ (.head _))))
  have r3 := Lib.laidMet.reads h (.tail _ (.tail _ (.tail _ (.tail _ (.tail _ (.tail _ (.head _)))))))
  rw [accept_is] at r2
  rw [first_is] at r3
  have hU : Lib.Utf8Tabs (Tryz.lays196_ren.g 3) (Tryz.lays196_ren.g 4) W :=
    utf8Tabs_of_readsT (ρ := Tryz.lays196_ren) (U8Types.of196 Tryz.lays196) ⟨by kernel_rfl, by kernel_rfl, by kernel_rfl, by kernel_rfl, by kernel_rfl, by kernel_rfl, by kernel_rfl⟩ r3 r2
  intro w' hb
  refine ⟨fun c hc => ?_, fun i hi => ⟨?_, ?_⟩⟩
  · exact (hb.cell (World.block_lt_of_cell? _ _ (hU.1 c hc))).trans (hU.1 c hc)
  · exact (hb.cell (World.block_lt_of_cell? _ _ (hU.2 i hi).1)).trans (hU.2 i hi).1
  · exact (hb.cell (World.block_lt_of_cell? _ _ (hU.2 i hi).2)).trans (hU.2 i hi).2
end Go.Proofs.YtilhicefhhgecaaGreatDoor
