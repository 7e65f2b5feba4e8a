/- Walks: a number's text, by the document. PUT1 -/
import Derived.Test.YtilhicefhhgecaaGreatDoorTaq
import Derived.Test.YtilhicefhhgecaaGreatDoorMemq
import Derived.Test.YtilhicefhhgecaaGreatDoorChecked
import Derived.WalkKit
import Derived.WalkSpells
import Derived.WalkLawsBesides
import Derived.Deep.QuietTactic
import Derived.BigQuiet
import Derived.Lib.Hide
import Derived.Outline
import Derived.Test.YtilhicefhhgecaaGreatDoorUtq
import Derived.Shelf.Strings.Builder1
import Derived.Shelf.Strings.Builder2
import Derived.Shelf.Strings.OnBuilder
import Derived.Shelf.Strings.Trim
import Derived.Shelf.Small.Utf8
import Derived.Shelf.Small.Bits
import Derived.Shelf.Small.Strs
import Derived.Shelf.Small.Wraps
import Derived.Shelf.Strings.BuilderF
import Derived.Shelf.Strings.BuilderK
import Derived.Shelf.Utf8.AppendRune
import Derived.Shelf.Utf8.AppendRunePlain
import Derived.Shelf.Strings.Builder2Cap
import Derived.Shelf.Strconv.Atoi
import Derived.Shelf.Strconv.Itoa0
import Derived.Shelf.Strconv.Itoa1
import Derived.Shelf.LaysM
import Derived.Shelf.Strconv.Itoa2
import Derived.Shelf.Strconv.Itoa3
import Derived.Shelf.Strconv.Itoa4
import Derived.Shelf.Strconv.AtoiErrFast
import Derived.Shelf.Strconv.ParseIntEmpty
import Derived.Shelf.Strconv.AtoiFail
import Derived.Shelf.Strconv.Clone
import Derived.Shelf.Strconv.SyntaxError
import Derived.Shelf.LaysC
import Derived.Shelf.Strconv.ToError
import Derived.Shelf.Strconv.AtoiErr
import Derived.Shelf.Strconv.Lower
import Derived.Shelf.Strconv.ParseUint10
import Derived.Shelf.Strconv.ParseUint10Empty
import Derived.Shelf.Strconv.ParseUint10Any
import Derived.Shelf.Strconv.RangeError
import Derived.Shelf.Strconv.ToErrorRange
import Derived.Shelf.Strconv.ParseUintEmpty
import Derived.Shelf.Strconv.ParseUint10b64
import Derived.Shelf.Strconv.ParseUint10b32
import Derived.Shelf.Strconv.ParseUint10b16
import Derived.Shelf.Strconv.ParseUint10b8
import Derived.Shelf.Strconv.ParseUint10At
import Derived.Shelf.Strings.Search1
import Derived.Shelf.Sort.Plain
import Derived.Shelf.Strings.Prefix
import Derived.Shelf.Unicode.Decode
import Derived.Shelf.Strings.Runes
import Derived.Shelf.Strings.AsciiSet
import Derived.Shelf.Unicode.DecodeSlow
import Derived.Shelf.Unicode.DecodeAny
import Derived.Shelf.Unicode.DecodeLast
import Derived.Shelf.Strings.BuilderCap
import Derived.Shelf.Slices.Turned
import Derived.Shelf.Slices.Reverse
import Derived.Ground.Names2Prog
import Derived.Shelf.Slices.Clone
import Derived.Shelf.Slices.CompactI
import Derived.Shelf.Slices.SearchI
import Derived.Shelf.Slices.Cells
import Derived.Shelf.Slices.In.SortNone
import Derived.Shelf.Slices.Empties
import Derived.Ground.SlgnProg
import Derived.Shelf.SlicesE.Reverse
import Derived.Shelf.SlicesE.Equal
import Derived.Shelf.SlicesE.Compact
import Derived.Shelf.SlicesE.Clone
import Derived.Ground.SlgfProg
import Derived.Shelf.SlicesE.IndexFunc
import Derived.Shelf.SlicesE.DeleteFunc
import Derived.Test.YtilhicefhhgecaaGreatDoorSlq
import Derived.Laws.Bits64b
import Derived.Laws.BitsAllLaws
namespace Pv
open Go Go.RowKit
def markB : ByteArray := ⟨#[46, 91, 93, 40, 41, 42, 43, 63, 123, 125, 124, 92, 45, 94]⟩
theorem markB_at : ∀ d : Nat, ∀ h : d < markB.size, markB[d]'h = marksL.getD d 0
  | 0, _ | 1, _ | 2, _ | 3, _ | 4, _ | 5, _ | 6, _ | 7, _ | 8, _ | 9, _ | 10, _ | 11, _ | 12, _ | 13, _ => rfl
  | n + 14, h => by have h1 : markB.size = 14 := rfl; omega
theorem isMark_iff (n : Nat) : isMark n = true ↔ ∃ k, k < 14 ∧ (marksL.getD k 0).toNat = n := by
  unfold isMark
  rw [List.any_eq_true]
  constructor
  · rintro ⟨b, hb, he⟩
    obtain ⟨k, hk⟩ := List.getElem?_of_mem hb
    exact ⟨k, lt_of_get hk, by rw [List.getD_eq_getElem?_getD, hk]; simpa using he⟩
  · rintro ⟨k, hk, he⟩
    refine ⟨marksL.getD k 0, ?_, by simpa using he⟩
    rw [List.getD_eq_getElem?_getD, List.getElem?_eq_getElem (show k < marksL.length from hk)]
    exact List.getElem_mem _
theorem mark_test (k : Nat) (x : Int) (h : k < markB.size) : (wrap64 (((⟨#[46, 91, 93, 40, 41, 42, 43, 63, 123, 125, 124, 92, 45, 94]⟩ : ByteArray)[k]'h).toNat : Int) == x) = decide (((marksL.getD k 0).toNat : Int) = x) := by
  have h1 := markB_at k h
  have h2 : ((⟨#[46, 91, 93, 40, 41, 42, 43, 63, 123, 125, 124, 92, 45, 94]⟩ : ByteArray)[k]'h) = marksL.getD k 0 := h1
  rw [h2]
  have h3 := (marksL.getD k 0).toNat_lt
  have h4 : wrap64 ((marksL.getD k 0).toNat : Int) = ((marksL.getD k 0).toNat : Int) := by unfold wrap64; omega
  rw [h4]
  rfl
end Pv
namespace Go.Proofs.YtilhicefhhgecaaGreatDoor
open Go.RowKit Pv

set_option maxHeartbeats 1000000 in
set_option maxRecDepth 100000 in
theorem ref07_mark (n : Nat) (w : World) (hn : (n : Int) ≤ 1114111) : Calls Tryz.prog 188 #[.int .i64 n] w fun e w' => e = .returned (.bool (isMark n)) ∧ w' = w := by
  obtain ⟨x, hx⟩ : ∃ x : Int, x = n := ⟨_, rfl⟩
  obtain ⟨r, hr⟩ : ∃ r, isMark n = r := ⟨_, rfl⟩
  rw [← hx] at hn ⊢
  rw [hr]
  have HX := Lib.hid hx; have HR := Lib.hid hr
  have h0 : 0 ≤ x := by omega
  clear hx hr
  go_enter Tryz.func188, Tryz.ntmps188
  go_wp2
  go_loopw [3] (fun iv wr => ∃ k : Nat, iv = .int .i64 k ∧ (k : Int) ≤ 14 ∧ wr = w ∧ Hid (∀ j, j < k → (marksL.getD j 0).toNat ≠ n)) (fun iv _ => 14 - (intOf iv).toNat)
  case atStart => exact ⟨0, rfl, by omega, rfl, Lib.hid (by intros; omega)⟩
  case round =>
    obtain ⟨k, rfl, hk, rfl, HN⟩ := hrel
    by_cases hlt : (k : Int) < 14
    · have hks : k < markB.size := by show k < 14; omega
      have HB := Lib.hid (mark_test k x hks)
      go_wp2
      · rename_i hh
        have HT := Lib.hid (show true = r by rw [← HR.out, (isMark_iff n).2 ⟨k, by omega, by have h2 := of_decide_eq_true (HB.out.symm.trans hh); have := HX.out; omega⟩])
        go_ret
        exact ⟨ret_bool HT.out, rfl⟩
      · go_roundw
        case rel =>
          rename_i hh
          refine ⟨k + 1, by go_num, by omega, by first | rfl | trivial, Lib.hid fun j hj he => ?_⟩
          by_cases hjk : j = k
          · subst hjk
            have h2 := (HB.out.trans (decide_eq_true (by rw [HX.out]; omega))).symm.trans hh
            cases h2
          · exact HN.out j (by omega) he
        case measure => simp [intOf]; omega
    · have HT := Lib.hid (show false = r by
        rw [← HR.out]
        cases h : isMark n with
        | false => rfl
        | true => obtain ⟨j, hj, he⟩ := (isMark_iff n).1 h; exact absurd he (HN.out j (by omega)))
      go_wp2
      go_ret
      exact ⟨ret_bool HT.out, rfl⟩

end Go.Proofs.YtilhicefhhgecaaGreatDoor
