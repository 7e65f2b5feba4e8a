/- Walks: json.Quote, serve.quote; the document's quoted. -/
import Derived.Test.YtjbfkceficokbaaDoorJc
namespace Pv
open Go Go.RowKit
/-- A text quoted; of what is none, two quotes. -/
def jq (l : List UInt8) : List UInt8 := if Lib.validD l then quoteL l else [34, 34]
theorem jq_len (l : List UInt8) : (jq l).length ≤ 6 * l.length + 2 := by
  unfold jq
  split
  · exact quoteL_len l
  · simp
theorem ret_si {k : IntKind} {a b : ByteArray} {c d : Int} (h : a = b) (h' : c = d) : Ending.returned (.tuple #[.string a, .int k c]) = Ending.returned (.tuple #[.string b, .int k d]) := by rw [h, h']
theorem ret_s {a b : ByteArray} (h : a = b) : Ending.returned (.string a) = Ending.returned (.string b) := by rw [h]
/-- What json.Quote tells. -/
def QPost (l : List UInt8) (w : World) (e : Ending) (w' : World) : Prop :=
  Below w.heap.size w w' ∧ ((Lib.validD l = true ∧ e = .returned (.tuple #[.string (mkS (quoteL l)), .int .i64 0])) ∨ (Lib.validD l = false ∧ ∃ q, e = .returned (.tuple #[.string q, .int .i64 10])))
end Pv
namespace Go.Proofs.YtjbfkceficokbaaDoor
open Go.RowKit Pv

set_option maxHeartbeats 400000 in
set_option maxRecDepth 100000 in
theorem json_Quote (s : ByteArray) (w : World) (B : Nat) (hs : s.size ≤ 16384) (hT : TabsB B w) :
    Calls Tryd.prog 28 #[.string s] w (QPost (bsl s) w) := by
  have HC := text_Check s w B (by omega) hT
  have hl : ¬ 16384 < (bsl s).length := by rw [bsl_len]; omega
  unfold chk at HC
  rw [if_neg hl] at HC
  have HQ := Lib.hid (fun W : World => json_quote s W (by omega))
  clear hl hT hs
  cases hv : Lib.validD (bsl s)
  case true =>
    rw [hv] at HC
    have HCC := Lib.hid HC
    have HV := Lib.hid hv
    clear HC hv
    go_enter Tryd.func28, Tryd.ntmps28
    go_wp2_with fail
    refine HCC.out.mono ?_
    rintro e w1 ⟨rfl, hb1⟩
    have B1 := Lib.hid hb1
    clear hb1
    go_wp2_with fail
    refine (HQ.out _).mono ?_
    rintro e w2 ⟨rfl, hb2⟩
    have B2 := Lib.hid (B1.out.trans (hb2.mono B1.out.size))
    clear hb2
    go_wp2
    go_ret2
    exact ⟨B2.out, .inl ⟨HV.out, rfl⟩⟩
  case false =>
    rw [hv] at HC
    have HCC := Lib.hid HC
    have HV := Lib.hid hv
    clear HC hv
    go_enter Tryd.func28, Tryd.ntmps28
    go_wp2_with fail
    refine HCC.out.mono ?_
    rintro e w1 ⟨rfl, hb1⟩
    have B1 := Lib.hid hb1
    clear hb1
    go_wp2
    go_ret2
    exact ⟨B1.out, .inr ⟨HV.out, _, rfl⟩⟩

set_option maxHeartbeats 400000 in
set_option maxRecDepth 100000 in
theorem serve_quote (s : ByteArray) (w : World) (B : Nat) (hs : s.size ≤ 16384) (hT : TabsB B w) :
    Calls Tryd.prog 20 #[.string s] w fun e w' => e = .returned (.string (mkS (jq (bsl s)))) ∧ Below w.heap.size w w' := by
  have HC := Lib.hid (json_Quote s w B hs hT)
  have HJ : Hid (jq (bsl s) = if Lib.validD (bsl s) = true then quoteL (bsl s) else [34, 34]) := Lib.hid rfl
  generalize jq (bsl s) = r at *
  clear hT
  go_enter Tryd.func20, Tryd.ntmps20
  go_wp2_with fail
  refine HC.out.mono ?_
  rintro e w1 ⟨hb1, ⟨hv, rfl⟩ | ⟨hv, q, rfl⟩⟩
  · have B1 := Lib.hid hb1
    have HR := Lib.hid (show quoteL (bsl s) = r by rw [HJ.out, if_pos hv])
    clear hb1 hv
    go_wp2
    go_ret
    exact ⟨ret_s (by rw [HR.out]), B1.out⟩
  · have B1 := Lib.hid hb1
    have HR := Lib.hid (show [34, 34] = r by rw [HJ.out, if_neg (by rw [hv]; simp)])
    clear hb1 hv
    go_wp2
    go_ret
    exact ⟨ret_s (by rw [← HR.out]; rfl), B1.out⟩

set_option maxHeartbeats 400000 in
set_option maxRecDepth 100000 in
theorem ref31_quoted (s : ByteArray) (w : World) (hs : s.size ≤ 16384) :
    Calls Tryd.prog 23 #[.string s] w fun e w' => e = .returned (.string (mkS (jq (bsl s)))) ∧ Below w.heap.size w w' := by
  have HP := ref01_Points s w (by omega)
  have HQ := Lib.hid (fun W : World => ref04_Quoted s W (by omega))
  have HQ0 := Lib.hid (fun W : World => ref04_Quoted { data := #[] } W (by decide))
  have HJ : Hid (jq (bsl s) = if Lib.validD (bsl s) = true then quoteL (bsl s) else [34, 34]) := Lib.hid rfl
  generalize jq (bsl s) = r at *
  clear hs
  cases hv : Lib.validD (bsl s)
  case true =>
    rw [hv] at HP
    have HPP := Lib.hid HP
    have HR := Lib.hid (show quoteL (bsl s) = r by rw [HJ.out, if_pos hv])
    clear HP hv HJ
    go_enter Tryd.func23, Tryd.ntmps23
    go_wp2_with fail
    refine HPP.out.mono ?_
    rintro e w1 ⟨hb1, v, rfl⟩
    have B1 := Lib.hid hb1
    clear hb1
    go_wp2_with fail
    refine (HQ.out _).mono ?_
    rintro e w2 ⟨rfl, hb2⟩
    have B2 := Lib.hid (B1.out.trans (hb2.mono B1.out.size))
    clear hb2
    go_wp2
    go_ret
    exact ⟨ret_s (by rw [HR.out]), B2.out⟩
  case false =>
    rw [hv] at HP
    have HPP := Lib.hid HP
    have HR := Lib.hid (show quoteL [] = r by rw [HJ.out, if_neg (by rw [hv]; simp)]; rfl)
    clear HP hv HJ
    go_enter Tryd.func23, Tryd.ntmps23
    go_wp2_with fail
    refine HPP.out.mono ?_
    rintro e w1 ⟨hb1, v, rfl⟩
    have B1 := Lib.hid hb1
    clear hb1
    go_wp2_with fail
    refine (HQ0.out _).mono ?_
    rintro e w2 ⟨rfl, hb2⟩
    have B2 := Lib.hid (B1.out.trans (hb2.mono B1.out.size))
    clear hb2
    go_wp2
    go_ret
    exact ⟨ret_s (by rw [← HR.out]), B2.out⟩
end Go.Proofs.YtjbfkceficokbaaDoor
