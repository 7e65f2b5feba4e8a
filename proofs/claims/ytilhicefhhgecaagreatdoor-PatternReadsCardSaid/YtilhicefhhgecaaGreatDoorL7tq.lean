/- From the row's condition to what the patterns' chapter asks of Go's library. -/
import Derived.Test.YtilhicefhhgecaaGreatDoorLtq
import Derived.Test.YtilhicefhhgecaaGreatDoorL7hq
import Derived.Stop.LaidErr
namespace Go.Proofs.YtilhicefhhgecaaGreatDoor
open Go.ChangeShapes Go.WideShapes Go.ChangeAt Go.RowKit Pv
theorem gP : Tryz.prog.globalNamed "internal/strconv.uint64pow10" = some 3 := by kernel_rfl
theorem gB : Tryz.prog.globalNamed "math/bits.deBruijn64tab" = some 7 := by kernel_rfl
theorem gS : Tryz.prog.globalNamed "strconv.ErrSyntax" = some 4 := by kernel_rfl
theorem gPy : (Tryz.prog.globals[3]?).map (·.type) = some 288 := by kernel_rfl
theorem uP : Tryz.prog.underlying 288 = some (.array 20 87) := by kernel_rfl
theorem uW : Tryz.prog.underlying 87 = some (.int .u64) := by kernel_rfl
theorem cW : Tryz.prog.cellsOf 87 = 1 := by kernel_rfl
theorem cA : Tryz.prog.cellsOf 288 = 20 := by kernel_rfl
theorem gBy : (Tryz.prog.globals[7]?).map (·.type) = some 318 := by kernel_rfl
theorem uB : Tryz.prog.underlying 318 = some (.array 64 5) := by kernel_rfl
theorem uV : Tryz.prog.underlying 5 = some (.int .u8) := by kernel_rfl
theorem cU8 : Tryz.prog.cellsOf 5 = 1 := by kernel_rfl
theorem cB64 : Tryz.prog.cellsOf 318 = 64 := by kernel_rfl
theorem bits_is : (Rows.laid_math_bits_deBruijn64tab : DataW Unit) = Lib.tabData .u8 tab64 := by kernel_rfl
theorem pow_is : (Rows.laid_internal_strconv_uint64pow10 : DataW Unit) = Lib.tabData .u64 Lib.pow10Tab := by kernel_rfl
theorem star : "*" ++ "errors.errorString" = "*errors.errorString" := by decide
theorem row_es (u : TypeId) (h : Tryz.prog.typeName? 3 u = some "*errors.errorString") : u = 314 :=
  typeName_ptr_named (nm := "errors.errorString") (by rw [star]; kernel_rfl) (by kernel_rfl) (by decide) u (by rw [star]; exact h)
theorem tabs7_of_laid {W : World} (h : laidMet Tryz.prog Rows.subsetNamesRow.laid W) : T7 W.heap.size W := by
  have hU := tabs_of_laid h
  have r1 := Lib.laidMet.reads h (.tail _ (.head _))
  have r2 := Lib.laidMet.reads h (.tail _ (.tail _ (.head _)))
  rw [bits_is] at r1
  rw [pow_is] at r2
  have hP : Lib.TabIs Tryz.prog W "internal/strconv.uint64pow10" .u64 Lib.pow10Tab := by
    obtain ⟨g', t', cs, fuel, p, hg', ht', hvar, hd⟩ := r2
    obtain rfl := Option.some.inj (gP.symm.trans hg')
    obtain rfl := Option.some.inj (gPy.symm.trans ht')
    unfold Lib.TabIs
    rw [hvar, ← Lib.cells_of_tab uP uW cW cA hd]
  have hB : W.cell? ⟨7, 15, none⟩ = some (.int .u8 4) := by
    obtain ⟨g', t', cs, fuel, p, hg', ht', hvar, hd⟩ := r1
    obtain rfl := Option.some.inj (gB.symm.trans hg')
    obtain rfl := Option.some.inj (gBy.symm.trans ht')
    have h1 := World.var?_cell gB hvar 15
    rw [h1, ← Array.getElem?_toList, Lib.cells_of_tab uB uV cU8 cB64 hd]
    rfl
  have hE : ∃ te pe, W.cell? ⟨Tryz.laysc172_ren.g 15, 0, none⟩ = some (.iface te pe) := by
    have hL : laidMet Tryz.prog [("math/bits.deBruijn32tab", Rows.laid_math_bits_deBruijn32tab), ("math/bits.deBruijn64tab", Rows.laid_math_bits_deBruijn64tab), ("internal/strconv.uint64pow10", Rows.laid_internal_strconv_uint64pow10), ("unicode/utf8.acceptRanges", Rows.laid_unicode_utf8_acceptRanges), ("strconv.ErrRange", Rows.laid_strconv_ErrRange), ("strconv.ErrSyntax", Rows.laid_strconv_ErrSyntax), ("unicode/utf8.first", Rows.laid_unicode_utf8_first)] W := h
    obtain ⟨a, s, hv, _⟩ := laid_sentinel (g := 4) hL.tail.tail.tail.tail.tail gS (by kernel_rfl) Tryz.underlying167 row_es Tryz.underlying314 Tryz.underlying316 rfl rfl Tryz.underlying9 (by kernel_rfl) (by kernel_rfl)
    exact ⟨_, _, World.var?_cell gS hv 0⟩
  obtain ⟨te, pe, hE⟩ := hE
  refine ⟨fun w' hb => ⟨hU w' hb, te, pe, ?_⟩, fun w' hb => ⟨?_, Go.Joins.tab_stays gP hP hb (Nat.le_refl _)⟩⟩
  · exact (hb.cell (World.block_lt_of_cell? _ _ hE)).trans hE
  · exact (hb.cell (World.block_lt_of_cell? _ _ hB)).trans hB
end Go.Proofs.YtilhicefhhgecaaGreatDoor
