/- Walks: the law PatternTells. PUT1 -/
import Derived.Test.YtjnjbcigbnjmkaaDoorYm
import Derived.Test.YtjnjbcigbnjmkaaDoorYn
import Derived.Test.YtjnjbcigbnjmkaaDoorYp
namespace Go.Proofs.YtjnjbcigbnjmkaaDoor
open Go.RowKit Pv

theorem OwnRx.at2 {w : World} {base n c : Nat} {B : Option Addr} {t : List Rx} (h : OwnRx w base (.slice B n c) t) (hn : t.length ≤ 1000) (hs : ∀ (i : Nat) x, t[i]? = some x → x.set.length ≤ 60) : AtRx w B t := by
  obtain ⟨A, c', e, h1, h2⟩ := OwnK.sl (h.monoR fun f x hx h => (ORx.rx h (by obtain ⟨i, hi⟩ := List.getElem?_of_mem hx; have := hs i x hi; omega) : RRx w f x)) (by omega)
  injection e with e1 e2 e3
  subst e1
  exact h1

set_option maxHeartbeats 2000000 in
set_option maxRecDepth 100000 in
theorem law_PatternTells (tA uA : Option Addr) (nt ct nu cu : Nat) (t u : List Rx) (x : Int) (w : World) (ht : AtRx w tA t) (HT : Hid (t.length = nt)) (hu : AtRx w uA u) (HU : Hid (u.length = nu)) (hT : TabsP w.heap.size w) :
    Calls Tryd.prog 3 #[.slice tA nt ct, .slice uA nu cu, .int .i64 x] w fun e w' => e = .returned (.bool true) ∧ Below w.heap.size w w' := by
  have HG := Lib.hid (ref07_Great tA ct nt 80 t w ht HT (by omega))
  have HG2 := Lib.hid (ref07_Great uA cu nu 80 u w hu HU (by omega))
  have HAT := Lib.hid ht; have HAU := Lib.hid hu; have HTB := Lib.hid hT
  clear ht hu hT
  go_enter Tryd.func3, Tryd.ntmps3
  go_wp2_with fail
  refine HG.out.mono ?_
  rintro e w' ⟨g, rfl, hg, rfl⟩
  have HQ := Lib.hid hg
  clear hg
  cases g
  case true =>
    go_wp2
    go_ret
    exact ⟨rfl, Below.refl _ _⟩
  have hq := (HQ.out rfl).1
  rw [HT.out] at hq
  have HS := Lib.hid (HQ.out rfl).2
  clear HQ
  go_wp2_with fail
  refine HG2.out.mono ?_
  rintro e w' ⟨g, rfl, _, rfl⟩
  cases g
  case true =>
    go_wp2
    go_ret
    exact ⟨rfl, Below.refl _ _⟩
  have HTW := Lib.hid (ref07_Twin tA ct nt t w HAT.out HT (by omega) HS)
  clear HG HG2
  go_wp2_with fail
  refine HTW.out.mono ?_
  rintro e w1 ⟨B, cB, rfl, own, hb1⟩
  have OW := Lib.hid (OwnRx.at2 own (by rw [HT.out]; omega) HS.out)
  have B1 := Lib.hid hb1
  have HC1 := Lib.hid (pattern_Text B cB nt t w1 OW.out HT ((HTB.out.next hb1).up hb1.size))
  clear own hb1
  go_wp2_with fail
  refine HC1.out.mono ?_
  rintro e w2 ⟨rfl, hb2⟩
  have B12 := Lib.hid hb2
  have B2 := Lib.hid (B1.out.trans (hb2.mono B1.out.size))
  have HC2 := Lib.hid (ref07_Text tA ct nt t w2 (HAT.out.keep (Keep.of B2.out)) HT)
  clear hb2
  go_wp2_with fail
  refine HC2.out.mono ?_
  rintro e w3 ⟨rfl, hb3⟩
  have B13 := Lib.hid (B12.out.trans (hb3.mono B12.out.size))
  have B3 := Lib.hid (B2.out.trans (hb3.mono B2.out.size))
  have HC3 := Lib.hid (pattern_End B cB nt x t w3 (OW.out.keep (Keep.of B13.out)) HT)
  clear hb3
  go_wp2_with fail
  refine HC3.out.mono ?_
  rintro e w4 ⟨rfl, hb4⟩
  have B14 := Lib.hid (B13.out.trans (hb4.mono B13.out.size))
  have B4 := Lib.hid (B3.out.trans (hb4.mono B3.out.size))
  have HC4 := Lib.hid (ref07_End tA ct nt x t w4 (HAT.out.keep (Keep.of B4.out)) HT)
  clear hb4
  go_wp2_with fail
  refine HC4.out.mono ?_
  rintro e w5 ⟨rfl, hb5⟩
  have B15 := Lib.hid (B14.out.trans (hb5.mono B14.out.size))
  have B5 := Lib.hid (B4.out.trans (hb5.mono B4.out.size))
  have HC5 := Lib.hid (pattern_Check B cB nt t w5 (OW.out.keep (Keep.of B15.out)) HT)
  clear hb5
  generalize mkS (textL t) = s at *
  generalize endN t x = r1 at *
  generalize endE t x = r2 at *
  generalize hr3 : patE t = r3 at *
  have HR3 := Lib.hid hr3
  clear hr3
  have e2 : (r1 == r1) = true := by simp
  have e3 : (r2 == r2) = true := by simp
  have e4 : (r3 == r3) = true := by simp
  go_wp2_with fail
  refine HC5.out.mono ?_
  rintro e w6 ⟨rfl, hb6⟩
  have B16 := Lib.hid (B15.out.trans (hb6.mono B15.out.size))
  have B6 := Lib.hid (B5.out.trans (hb6.mono B5.out.size))
  have HC6 := Lib.hid (ref07_Check tA ct nt t w6 (HAT.out.keep (Keep.of B6.out)) HT)
  rw [HR3.out] at HC6
  clear hb6
  go_wp2_with fail
  refine HC6.out.mono ?_
  rintro e w7 ⟨rfl, hb7⟩
  have B17 := Lib.hid (B16.out.trans (hb7.mono B16.out.size))
  have B7 := Lib.hid (B6.out.trans (hb7.mono B6.out.size))
  have HC7 := Lib.hid (pattern_Same B uA cB cu nt nu t u w7 (OW.out.keep (Keep.of B17.out)) (HAU.out.keep (Keep.of B7.out)) HT HU)
  clear hb7
  go_wp2_with fail
  refine HC7.out.mono ?_
  rintro e w8 ⟨rfl, hb8⟩
  have B18 := Lib.hid (B17.out.trans (hb8.mono B17.out.size))
  have B8 := Lib.hid (B7.out.trans (hb8.mono B7.out.size))
  have HC8 := Lib.hid (ref07_Same tA uA ct cu nt nu t u w8 (HAT.out.keep (Keep.of B8.out)) (HAU.out.keep (Keep.of B8.out)) HT HU)
  clear hb8
  generalize decide (t = u) = r4 at *
  have e5 : (r4 == r4) = true := by simp
  go_wp2_with fail
  refine HC8.out.mono ?_
  rintro e w9 ⟨rfl, hb9⟩
  have B19 := Lib.hid (B18.out.trans (hb9.mono B18.out.size))
  have B9 := Lib.hid (B8.out.trans (hb9.mono B8.out.size))
  have HC9 := Lib.hid (pattern_Same B tA cB ct nt nt t t w9 (OW.out.keep (Keep.of B19.out)) (HAT.out.keep (Keep.of B9.out)) HT HT)
  rw [decide_eq_true (p := t = t) rfl] at HC9
  clear hb9
  go_wp2_with fail
  refine HC9.out.mono ?_
  rintro e wa ⟨rfl, hba⟩
  have B1a := Lib.hid (B19.out.trans (hba.mono B19.out.size))
  have Ba := Lib.hid (B9.out.trans (hba.mono B9.out.size))
  have HCa := Lib.hid (ref07_Same B tA cB ct nt nt t t wa (OW.out.keep (Keep.of B1a.out)) (HAT.out.keep (Keep.of Ba.out)) HT HT)
  rw [decide_eq_true (p := t = t) rfl] at HCa
  clear hba
  go_wp2_with fail
  refine HCa.out.mono ?_
  rintro e wb ⟨rfl, hbb⟩
  have Bb := Lib.hid (Ba.out.trans (hbb.mono Ba.out.size))
  clear hbb
  go_wp2
  go_ret
  exact ⟨rfl, Bb.out⟩
end Go.Proofs.YtjnjbcigbnjmkaaDoor
