/- Walks: compiling a pattern, by the document and by the program. PUT1 -/
import Derived.Test.YtilhicefhhgecaaGreatDoorIan
import Derived.Test.YtilhicefhhgecaaGreatDoorHan
namespace Pv
open Go Go.RowKit
theorem Dfa.Ok.cut_bd {d : Dfa} (h : d.Ok) {x : Int} (hx : x ∈ d.cuts) : 0 ≤ x ∧ x ≤ 1114111 := by
  obtain ⟨i, hi⟩ := List.getElem?_of_mem hx
  cases i with
  | zero => rw [h.c0] at hi; obtain rfl := Option.some.inj hi; omega
  | succ i =>
    have hlt := lt_of_get hi
    have e : d.cuts[i]? = some (d.cuts[i]'(by omega)) := List.getElem?_eq_getElem _
    obtain ⟨h1, h2⟩ := h.up i _ _ e hi
    exact ⟨by have := h.strict 0 0 h.c0 (i + 1) x (by omega) hi; omega, h2⟩
end Pv
namespace Go.Proofs.YtilhicefhhgecaaGreatDoor
open Go.RowKit Pv
theorem leastD_lim {d : Dfa} (h : d.Ok) : (∀ x, x ∈ (leastD d).cuts → 0 ≤ x ∧ x ≤ 1114111) ∧ (leastD d).cuts.length ≤ 256 ∧ (leastD d).next.length ≤ 64 ∧ (leastD d).accept.length ≤ 64 ∧ ∀ r, r ∈ (leastD d).next → r.length ≤ 256 ∧ ∀ y, y ∈ r → 0 ≤ y ∧ y ≤ 64 := by
  have hm := (metL_ok h).len
  have hcl : (clsN d (metL d) d.cuts.length).length ≤ d.cuts.length := by
    unfold clsN
    have := List.length_filter_le (fun c => yes (TurnsC d (metL d) c)) (List.range d.cuts.length)
    simpa using this
  refine ⟨fun x hx => ?_, by show (List.map _ _).length ≤ _; rw [List.length_map]; have := h.c2; omega, by show (List.map _ _).length ≤ _; rw [List.length_map]; have := h.n2; omega, by show (List.map _ _).length ≤ _; rw [List.length_map]; have := h.n2; omega, fun r hr => ?_⟩
  · obtain ⟨c, hc, rfl⟩ := List.mem_map.1 hx
    have hc2 := clsN_lt hc
    refine h.cut_bd ?_
    rw [List.getD_eq_getElem?_getD, List.getElem?_eq_getElem hc2]
    exact List.getElem_mem hc2
  · obtain ⟨s, _, rfl⟩ := List.mem_map.1 hr
    refine ⟨by unfold rowN; rw [List.length_map]; have := h.c2; omega, fun y hy => ?_⟩
    obtain ⟨c, _, rfl⟩ := List.mem_map.1 hy
    have := List.idxOf_le_length (a := rep d (d.go s c)) (l := metL d)
    have := h.n2
    omega
theorem Res.atL {w : World} {b : Nat} {A1 A2 A3 : Option Addr} {k1 c1 k2 c2 k3 c3 : Nat} {d : Dfa} (hok : d.Ok) (h : Res w b (.slice A1 k1 c1) (.slice A2 k2 c2) (.slice A3 k3 c3) (leastD d).cuts (leastD d).next (leastD d).accept) : DfaAt w A1 A2 A3 k1 k2 k3 (leastD d) := by
  obtain ⟨b1, b2, b3, b4, b5⟩ := leastD_lim hok
  obtain ⟨E1, f1, e1, hc, _⟩ := h.c.at' (fun x hx => by have := b1 x hx; omega) (by omega)
  obtain ⟨E2, f2, e2, hn, _⟩ := h.r.lists (fun l hl => ⟨fun y hy => by have := (b5 l hl).2 y hy; omega, by have := (b5 l hl).1; omega⟩) (by omega)
  obtain ⟨E3, f3, e3, ha, _⟩ := h.t.sl (by omega)
  injection e1 with g1 g2 g3; injection e2 with g4 g5 g6; injection e3 with g7 g8 g9
  subst g1; subst g4; subst g7
  exact ⟨hc, hn, ha, Lib.hid g2.symm, Lib.hid g5.symm, Lib.hid g8.symm⟩
/-- How compiling ends. -/
def CompP (t : List Rx) (w : World) (e : Ending) (w' : World) : Prop :=
  ∃ D code A1 n1 c1 A2 n2 c2 A3 n3 c3, e = .returned (.tuple #[.agg #[.slice A1 n1 c1, .slice A2 n2 c2, .slice A3 n3 c3], .int .i64 code]) ∧ DfaAt w' A1 A2 A3 n1 n2 n3 D ∧ CR t D code ∧ Below w.heap.size w w'
theorem DfaAt.none (w : World) : DfaAt w none none none 0 0 0 ⟨[], [], []⟩ := ⟨At.none _ _, At.none _ _, At.none _ _, Lib.hid rfl, Lib.hid rfl, Lib.hid rfl⟩

set_option maxHeartbeats 2000000 in
set_option maxRecDepth 100000 in
theorem least_Compile (tA : Option Addr) (nt ct : Nat) (t : List Rx) (w : World) (ht : AtRx w tA t) (HT : Hid (t.length = nt)) :
    Calls Tryz.prog 25 #[.slice tA nt ct] w (CompP t w) := by
  have hB0 : Below w.heap.size w (w.alloc (.cells #[.slice none 0 0, .slice none 0 0, .slice none 0 0] TDfa)) := (Below.refl _ _).alloc (Nat.le_refl _) _
  have KO := Lib.hid (Blk.new w TDfa #[.slice none 0 0, .slice none 0 0, .slice none 0 0])
  have HBD := Lib.hid (auto_Build tA nt ct t _ (AtRx.keep ht (Keep.of hB0)) HT)
  have HB0 := Lib.hid hB0
  clear ht hB0
  go_enter Tryz.func25, Tryz.ntmps25
  go_wp2_with fail
  refine HBD.out.mono ?_
  intro e w1 hpb
  obtain ⟨hb1, ⟨a, acc, code⟩, hbr, A', n', c', rfl, au⟩ := hpb.one
  simp only at au ⊢
  have HR := Lib.hid hbr
  obtain ⟨hr1, hr2⟩ := hbr.few
  simp only at hr1 hr2
  have hl1 : a.length = n' := au.len.symm
  have hat : AtAu w1 A' a := au.reads (by omega) (by omega)
  have HLA := Lib.hid hl1
  have hba := (Below.refl w1.heap.size w1).alloc (Nat.le_refl _) (.cells #[.slice A' n' c', .int .i64 acc] TAuto)
  have HAA := Lib.hid (hat.keep (Keep.of hba))
  have HB1 := Lib.hid ((HB0.out.trans (hb1.mono HB0.out.size)).trans (hba.mono (Nat.le_trans HB0.out.size hb1.size)))
  have KO1 := Lib.hid ((KO.out.below hb1 KO.out.lt).alloc (.cells #[.slice A' n' c', .int .i64 acc] TAuto))
  have KK := Lib.hid (KO.out.below hb1 KO.out.lt)
  have HBB := Lib.hid (HB0.out.trans (hb1.mono HB0.out.size))
  have hsz := KK.out.lt
  clear hpb hb1 hbr au hl1 hat hba HBD HB0 KO hr1 hr2
  by_cases hcode : code = 0
  case neg =>
    have HNE := Lib.hid hcode
    have h1 : (code == 0) = false := by simpa using hcode
    have h2 : (code != 0) = true := by simpa using hcode
    obtain ⟨t0, t1, t2, f0, f1, f2⟩ := Blk.three KK.out
    clear hcode
    go_wp2
    obtain ⟨y0, y1, y2, _, _, _⟩ := Blk.three ((Blk.set3 (u0 := .slice none 0 0) (u1 := .slice none 0 0) (u2 := .slice none 0 0) KK.out).alloc (Obj.cells #[.slice A' n' c', .int .i64 acc] TAuto))
    exact bodyPost_ret (v := .tuple #[.agg #[.slice none 0 0, .slice none 0 0, .slice none 0 0], .int .i64 code]) (by simp [results, Tryz.results25, go_sem, y0, y1, y2]) rfl ⟨⟨[], [], []⟩, code, none, 0, 0, none, 0, 0, none, 0, 0, rfl, DfaAt.none _, .auto HR.out HNE.out, (below3 HBB.out (Nat.le_refl _)).alloc (by simpa using HBB.out.size) _⟩
  subst hcode
  have HSB := Lib.hid (subset_Build A' c' n' acc a _ HAA.out HLA)
  clear KK HBB
  go_wp2_with fail
  refine HSB.out.mono ?_
  intro e w3 h3
  obtain ⟨D, code, A1, n1, c1, A2, n2, c2, A3, n3, c3, rfl, hd, ho, hb3⟩ := h3.opens
  have hba := (Below.refl w3.heap.size w3).alloc (Nat.le_refl _) (.cells #[.slice A1 n1 c1, .slice A2 n2 c2, .slice A3 n3 c3] TDfa)
  have HB3 := Lib.hid ((HB1.out.trans (hb3.mono HB1.out.size)).trans (hba.mono (Nat.le_trans HB1.out.size hb3.size)))
  have KO3 := Lib.hid ((KO1.out.below hb3 KO1.out.lt).alloc (.cells #[.slice A1 n1 c1, .slice A2 n2 c2, .slice A3 n3 c3] TDfa))
  have HD3 := Lib.hid (hd.keep (Keep.of hba))
  have HO := Lib.hid ho
  have KK := Lib.hid (KO1.out.below hb3 KO1.out.lt)
  have HBB := Lib.hid (HB1.out.trans (hb3.mono HB1.out.size))
  have hsz3 := (KO1.out.below hb3 KO1.out.lt).lt
  clear h3 hd ho hb3 hba HSB HB1 KO1 HAA hsz
  by_cases hcode : code = 0
  case neg =>
    have HNE := Lib.hid hcode
    have h1 : (code == 0) = false := by simpa using hcode
    have h2 : (code != 0) = true := by simpa using hcode
    obtain ⟨t0, t1, t2, f0, f1, f2⟩ := Blk.three KK.out
    clear hcode
    go_wp2
    obtain ⟨y0, y1, y2, _, _, _⟩ := Blk.three ((Blk.set3 (u0 := .slice none 0 0) (u1 := .slice none 0 0) (u2 := .slice none 0 0) KK.out).alloc (Obj.cells #[.slice A1 n1 c1, .slice A2 n2 c2, .slice A3 n3 c3] TDfa))
    exact bodyPost_ret (v := .tuple #[.agg #[.slice none 0 0, .slice none 0 0, .slice none 0 0], .int .i64 code]) (by simp [results, Tryz.results25, go_sem, y0, y1, y2]) rfl ⟨⟨[], [], []⟩, code, none, 0, 0, none, 0, 0, none, 0, 0, rfl, DfaAt.none _, .sub HR.out rfl HO.out HNE.out, (below3 HBB.out (Nat.le_refl _)).alloc (by simpa using HBB.out.size) _⟩
  subst hcode
  clear KK HBB
  have HOK := Lib.hid (Out.ok HO.out)
  have HML := Lib.hid (least_least A1 A2 A3 c1 c2 c3 n1 n2 n3 D _ HD3.out HOK.out)
  go_wp2_with fail
  refine HML.out.mono ?_
  rintro e w5 ⟨v1, v2, v3, rfl, hres, hb5⟩
  have HB5 := Lib.hid (HB3.out.trans (hb5.mono HB3.out.size))
  have KO5 := Lib.hid (KO3.out.below hb5 KO3.out.lt)
  have HRS := Lib.hid (Res.lower hres HB3.out.size)
  obtain ⟨B1, d1, e1, _⟩ := hres.c
  obtain ⟨B2, d2, _, e2, _, _⟩ := hres.r
  obtain ⟨B3, d3, _, e3, _, _⟩ := hres.t
  obtain ⟨m1, hm1⟩ : ∃ m, (leastD D).cuts.length = m := ⟨_, rfl⟩
  obtain ⟨m2, hm2⟩ : ∃ m, (leastD D).next.length = m := ⟨_, rfl⟩
  obtain ⟨m3, hm3⟩ : ∃ m, (leastD D).accept.length = m := ⟨_, rfl⟩
  rw [hm1] at e1; rw [hm2] at e2; rw [hm3] at e3
  subst e1; subst e2; subst e3
  obtain ⟨t0, t1, t2, f0, f1, f2⟩ := Blk.three KO5.out
  have hN := KO5.out.lt
  clear hb5 hres hm1 hm2 hm3
  go_wp2
  obtain ⟨y0, y1, y2, _, _, _⟩ := Blk.three (Blk.set3 (u0 := .slice B1 m1 d1) (u1 := .slice B2 m2 d2) (u2 := .slice B3 m3 d3) KO5.out)
  exact bodyPost_ret (v := .tuple #[.agg #[.slice B1 m1 d1, .slice B2 m2 d2, .slice B3 m3 d3], .int .i64 0]) (by simp [results, Tryz.results25, go_sem, y0, y1, y2]) rfl ⟨leastD D, 0, B1, m1, d1, B2, m2, d2, B3, m3, d3, rfl, Res.atL HOK.out (Res.far3 HRS.out KO5.out), .made HR.out rfl HO.out, below3 HB5.out (Nat.le_refl _)⟩
end Go.Proofs.YtilhicefhhgecaaGreatDoor
