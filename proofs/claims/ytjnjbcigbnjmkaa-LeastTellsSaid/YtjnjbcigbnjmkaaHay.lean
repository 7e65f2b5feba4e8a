/- Walks: the least automaton, by the document and by the program. PUT1 -/
import Derived.Test.YtjnjbcigbnjmkaaGzy
import Derived.Test.YtjnjbcigbnjmkaaWiy
import Derived.Test.YtjnjbcigbnjmkaaWhy
namespace Go.Proofs.Ytjnjbcigbnjmkaa
open Go.RowKit Pv

/-- How it ends. -/
def LeastR (d : Dfa) (w : World) (e : Ending) (w' : World) : Prop :=
  ((¬ d.Ok ∧ e = .returned (.tuple #[zDfa, .int .i64 8])) ∨ (d.Ok ∧ ∃ v1 v2 v3, e = .returned (.tuple #[.agg #[v1, v2, v3], .int .i64 0]) ∧ Res w' w.heap.size v1 v2 v3 (leastD d).cuts (leastD d).next (leastD d).accept)) ∧ Below w.heap.size w w'

set_option maxHeartbeats 2000000 in
set_option maxRecDepth 100000 in
theorem ref11_Least (A1 A2 A3 : Option Addr) (c1 c2 c3 n1 n n3 : Nat) (d : Dfa) (w : World) (H : DfaAt w A1 A2 A3 n1 n n3 d) :
    Calls Try.prog 46 #[.agg #[.slice A1 n1 c1, .slice A2 n c2, .slice A3 n3 c3]] w (LeastR d w) := by
  have HD := Lib.hid H
  have HB0 := Lib.hid (((Below.refl w.heap.size w).alloc (Nat.le_refl _) (.cells #[.slice A1 n1 c1, .slice A2 n c2, .slice A3 n3 c3] TDfa)).alloc (by simp) (.cells #[.slice none 0 0, .slice none 0 0, .slice none 0 0] TDfa))
  have KK := blk2 w #[.slice A1 n1 c1, .slice A2 n c2, .slice A3 n3 c3] #[.slice none 0 0, .slice none 0 0, .slice none 0 0] TDfa TDfa
  have KA := Lib.hid KK.1; have KO := Lib.hid KK.2
  have HMY := Lib.hid (ref10_May A1 A2 A3 c1 c2 c3 n1 n n3 d _ (H.keep (Keep.of HB0.out)))
  clear H KK
  by_cases hok : d.Ok
  case neg =>
    rw [Dfa.okB_no hok] at HMY
    have HNO := Lib.hid hok
    clear hok
    go_enter Try.func46, Try.ntmps46
    go_wp2_with fail
    refine HMY.out.mono ?_
    rintro e w1 ⟨rfl, hb1⟩
    have HB1 := Lib.hid (HB0.out.trans (hb1.mono HB0.out.size))
    have KO1 := Lib.hid (KO.out.below hb1 KO.out.lt)
    obtain ⟨t0, t1, t2, f0, f1, f2⟩ := Blk.three KO1.out
    have hN := KO1.out.lt
    clear hb1
    go_wp2
    obtain ⟨y0, y1, y2, _, _, _⟩ := Blk.three (Blk.set3 (u0 := .slice none 0 0) (u1 := .slice none 0 0) (u2 := .slice none 0 0) KO1.out)
    exact bodyPost_ret (v := .tuple #[zDfa, .int .i64 8]) (by simp [results, Try.results46, go_sem, y0, y1, y2]) rfl ⟨.inl ⟨HNO.out, rfl⟩, below3 HB1.out (by simp)⟩
  rw [Dfa.okB_yes hok] at HMY
  have HOK := Lib.hid hok
  clear hok
  go_enter Try.func46, Try.ntmps46
  go_wp2_with fail
  refine HMY.out.mono ?_
  rintro e w1 ⟨rfl, hb1⟩
  have HB1 := Lib.hid (HB0.out.trans (hb1.mono HB0.out.size))
  have KA1 := Lib.hid (KA.out.below hb1 KA.out.lt); have KO1 := Lib.hid (KO.out.below hb1 KO.out.lt)
  obtain ⟨p0, p1, p2, _, _, _⟩ := Blk.three KA1.out
  have hN0 := KA1.out.lt
  have HMK := Lib.hid (ref11_Made A1 A2 A3 c1 c2 c3 n1 n n3 d w1 (HD.out.keep (Keep.of HB1.out)) HOK.out)
  clear hb1 HMY HB0 KA KO
  go_wp2_with fail
  refine HMK.out.mono ?_
  rintro e w2 ⟨v1, v2, v3, rfl, hres, hb2⟩
  have HB2 := Lib.hid (HB1.out.trans (hb2.mono HB1.out.size))
  have KO2 := Lib.hid (KO1.out.below hb2 KO1.out.lt)
  have HRS := Lib.hid (Res.lower hres HB1.out.size)
  obtain ⟨B1, d1, e1, _⟩ := hres.c
  obtain ⟨B2, d2, _, e2, _, _⟩ := hres.r
  obtain ⟨B3, d3, _, e3, _, _⟩ := hres.t
  obtain ⟨m1, hm1⟩ : ∃ m, (leastD d).cuts.length = m := ⟨_, rfl⟩
  obtain ⟨m2, hm2⟩ : ∃ m, (leastD d).next.length = m := ⟨_, rfl⟩
  obtain ⟨m3, hm3⟩ : ∃ m, (leastD d).accept.length = m := ⟨_, rfl⟩
  rw [hm1] at e1; rw [hm2] at e2; rw [hm3] at e3
  subst e1; subst e2; subst e3
  obtain ⟨t0, t1, t2, f0, f1, f2⟩ := Blk.three KO2.out
  have hN := KO2.out.lt
  clear hb2 hres hm1 hm2 hm3 p0 p1 p2
  go_wp2
  obtain ⟨y0, y1, y2, _, _, _⟩ := Blk.three (Blk.set3 (u0 := .slice B1 m1 d1) (u1 := .slice B2 m2 d2) (u2 := .slice B3 m3 d3) KO2.out)
  exact bodyPost_ret (v := .tuple #[.agg #[.slice B1 m1 d1, .slice B2 m2 d2, .slice B3 m3 d3], .int .i64 0]) (by simp [results, Try.results46, go_sem, y0, y1, y2]) rfl ⟨.inr ⟨HOK.out, _, _, _, rfl, Res.far3 HRS.out KO2.out⟩, below3 HB2.out (by simp)⟩

set_option maxHeartbeats 2000000 in
set_option maxRecDepth 100000 in
theorem least_Least (A1 A2 A3 : Option Addr) (c1 c2 c3 n1 n n3 : Nat) (d : Dfa) (w : World) (H : DfaAt w A1 A2 A3 n1 n n3 d) :
    Calls Try.prog 45 #[.agg #[.slice A1 n1 c1, .slice A2 n c2, .slice A3 n3 c3]] w (LeastR d w) := by
  have HD := Lib.hid H
  have HB0 := Lib.hid (((Below.refl w.heap.size w).alloc (Nat.le_refl _) (.cells #[.slice A1 n1 c1, .slice A2 n c2, .slice A3 n3 c3] TDfa)).alloc (by simp) (.cells #[.slice none 0 0, .slice none 0 0, .slice none 0 0] TDfa))
  have KK := blk2 w #[.slice A1 n1 c1, .slice A2 n c2, .slice A3 n3 c3] #[.slice none 0 0, .slice none 0 0, .slice none 0 0] TDfa TDfa
  have KA := Lib.hid KK.1; have KO := Lib.hid KK.2
  have HMY := Lib.hid (subset_Check A1 A2 A3 c1 c2 c3 n1 n n3 d _ (H.keep (Keep.of HB0.out)))
  clear H KK
  by_cases hok : d.Ok
  case neg =>
    rw [Dfa.checkE_no (Dfa.okB_no hok)] at HMY
    have HNO := Lib.hid hok
    clear hok
    go_enter Try.func45, Try.ntmps45
    go_wp2_with fail
    refine HMY.out.mono ?_
    rintro e w1 ⟨rfl, hb1⟩
    have HB1 := Lib.hid (HB0.out.trans (hb1.mono HB0.out.size))
    have KO1 := Lib.hid (KO.out.below hb1 KO.out.lt)
    obtain ⟨t0, t1, t2, f0, f1, f2⟩ := Blk.three KO1.out
    have hN := KO1.out.lt
    clear hb1
    go_wp2
    obtain ⟨y0, y1, y2, _, _, _⟩ := Blk.three (Blk.set3 (u0 := .slice none 0 0) (u1 := .slice none 0 0) (u2 := .slice none 0 0) KO1.out)
    exact bodyPost_ret (v := .tuple #[zDfa, .int .i64 8]) (by simp [results, Try.results45, go_sem, y0, y1, y2]) rfl ⟨.inl ⟨HNO.out, rfl⟩, below3 HB1.out (by simp)⟩
  rw [Dfa.checkE_yes (Dfa.okB_yes hok)] at HMY
  have HOK := Lib.hid hok
  clear hok
  go_enter Try.func45, Try.ntmps45
  go_wp2_with fail
  refine HMY.out.mono ?_
  rintro e w1 ⟨rfl, hb1⟩
  have HB1 := Lib.hid (HB0.out.trans (hb1.mono HB0.out.size))
  have KA1 := Lib.hid (KA.out.below hb1 KA.out.lt); have KO1 := Lib.hid (KO.out.below hb1 KO.out.lt)
  obtain ⟨p0, p1, p2, _, _, _⟩ := Blk.three KA1.out
  have hN0 := KA1.out.lt
  have HMK := Lib.hid (least_least A1 A2 A3 c1 c2 c3 n1 n n3 d w1 (HD.out.keep (Keep.of HB1.out)) HOK.out)
  clear hb1 HMY HB0 KA KO
  go_wp2_with fail
  refine HMK.out.mono ?_
  rintro e w2 ⟨v1, v2, v3, rfl, hres, hb2⟩
  have HB2 := Lib.hid (HB1.out.trans (hb2.mono HB1.out.size))
  have KO2 := Lib.hid (KO1.out.below hb2 KO1.out.lt)
  have HRS := Lib.hid (Res.lower hres HB1.out.size)
  obtain ⟨B1, d1, e1, _⟩ := hres.c
  obtain ⟨B2, d2, _, e2, _, _⟩ := hres.r
  obtain ⟨B3, d3, _, e3, _, _⟩ := hres.t
  obtain ⟨m1, hm1⟩ : ∃ m, (leastD d).cuts.length = m := ⟨_, rfl⟩
  obtain ⟨m2, hm2⟩ : ∃ m, (leastD d).next.length = m := ⟨_, rfl⟩
  obtain ⟨m3, hm3⟩ : ∃ m, (leastD d).accept.length = m := ⟨_, rfl⟩
  rw [hm1] at e1; rw [hm2] at e2; rw [hm3] at e3
  subst e1; subst e2; subst e3
  obtain ⟨t0, t1, t2, f0, f1, f2⟩ := Blk.three KO2.out
  have hN := KO2.out.lt
  clear hb2 hres hm1 hm2 hm3 p0 p1 p2
  go_wp2
  obtain ⟨y0, y1, y2, _, _, _⟩ := Blk.three (Blk.set3 (u0 := .slice B1 m1 d1) (u1 := .slice B2 m2 d2) (u2 := .slice B3 m3 d3) KO2.out)
  exact bodyPost_ret (v := .tuple #[.agg #[.slice B1 m1 d1, .slice B2 m2 d2, .slice B3 m3 d3], .int .i64 0]) (by simp [results, Try.results45, go_sem, y0, y1, y2]) rfl ⟨.inr ⟨HOK.out, _, _, _, rfl, Res.far3 HRS.out KO2.out⟩, below3 HB2.out (by simp)⟩
end Go.Proofs.Ytjnjbcigbnjmkaa
