/- Walks: table.Set. PUT1 -/
import Derived.Test.YtbdkedjgfihamaaGreatDoorV36u
namespace Go.Proofs.YtbdkedjgfihamaaGreatDoor
open Go.RowKit Pv Go.Maps
abbrev zTab : Value := .agg #[.string ⟨#[]⟩, .int .i64 0, .slice none 0 0, .slice none 0 0]
/-- What Set says. -/
def setE (t : Tab) (r : Rec) : Int := if tabB t then if oneR r then if hasR t.rows r.id then if clsR t.uniques t.rows r then 271 else 0 else 270 else 8 else 8
theorem BookO.row {w W : World} {bb : Nat} {V : Option Addr} {un vc g rn : Nat} {t : Tab} (h : BookO w W bb V un vc g rn t) : ∃ cur, Blk W g TRe cur ∧ cur.size = rn * 2 := by
  obtain ⟨_, us, hown, _⟩ := h.rows.slice
  rcases hown.2 with ⟨hv, _⟩ | ⟨g', cap, cur, hv, hg, hh, _, _, hsz, _⟩
  · simp at hv
  · simp only [Value.slice.injEq, Option.some.injEq, Addr.mk.injEq, and_true, true_and] at hv
    obtain ⟨rfl, rfl⟩ := hv
    exact ⟨cur, hh, hsz⟩
theorem BookO.give {w W0 W : World} {bb : Nat} {V : Option Addr} {un vc g rn : Nat} {t : Tab} (h : BookO W0 W bb V un vc g rn t) {b : Nat} {z0 z1 z2 z3 : Value} (hb : Blk W b TTb #[z0, z1, z2, z3]) (hl : w.heap.size ≤ W0.heap.size) (v0 v1 v2 v3 : Value) :
    Own (set4 W b v0 v1 v2 v3) w.heap.size TSt RStr (.slice V un vc) t.uniques ∧ OwnK (set4 W b v0 v1 v2 v3) w.heap.size TRe 2 (ORec (set4 W b v0 v1 v2 v3) w.heap.size TCe) (.slice (some ⟨g, 0, none⟩) rn rn) t.rows := by
  have a1 := hb.set 0 v0; have a2 := a1.set 1 v1; have a3 := a2.set 2 v2
  refine ⟨Own.lowerS ((((h.own.setFar hb (by decide) _ _).setFar a1 (by decide) _ _).setFar a2 (by decide) _ _).setFar a3 (by decide) _ _) hl, ?_⟩
  exact (OwnK.lower ((((h.rows.setFar hb (by decide) _ _).setFar a1 (by decide) _ _).setFar a2 (by decide) _ _).setFar a3 (by decide) _ _) hl).monoR fun _ _ _ ho => (((((ho.far hb (by decide)).far a1 (by decide)).far a2 (by decide)).far a3 (by decide))).lower hl
/-- A table of the call's own, as a value. -/
def TabV (w W : World) (v : Value) (t : Tab) : Prop := ∃ V un vc g rn rc, v = .agg #[.string t.name, .int .i64 t.most, .slice V un vc, .slice g rn rc] ∧ Own W w.heap.size TSt RStr (.slice V un vc) t.uniques ∧ OwnK W w.heap.size TRe 2 (ORec W w.heap.size TCe) (.slice g rn rc) t.rows
set_option maxHeartbeats 8000000 in
set_option maxRecDepth 100000 in
theorem table_Set (B : Nat) (U : Option Addr) (un uc : Nat) (R : Option Addr) (rn rc : Nat) (t : Tab) (D : Option Addr) (c m : Nat) (r : Rec) (w : World) (ht : TabAt w U un R rn t) (huc : un ≤ uc) (hrc : rn ≤ rc) (hun : un ≤ 100000) (hrb : RowsB t.rows) (h : AtCel w D r.data) (HL : Hid (r.data.length = m)) (hmc : m ≤ c) (hri : r.id.size ≤ 140737488355328) (hs : CelsB r.data) (hT : TabS B w) (hB : B ≤ w.heap.size) :
    Calls Tryz.prog 53 #[.agg #[.string t.name, .int .i64 t.most, .slice U un uc, .slice R rn rc], .agg #[.string r.id, .slice D m c]] w fun e w' =>
      ((setE t r ≠ 0 ∧ e = .returned (.tuple #[zTab, .int .i64 (setE t r)])) ∨ (setE t r = 0 ∧ ∃ v, e = .returned (.tuple #[v, .int .i64 0]) ∧ TabV w w' v { t with rows := setR t.rows r })) ∧ Below w.heap.size w w' := by
  have hk0 : Below w.heap.size w (((w.alloc (.cells #[.string t.name, .int .i64 t.most, .slice U un uc, .slice R rn rc] TTb)).alloc (.cells #[.string r.id, .slice D m c] TRe)).alloc (.cells #[.string ⟨#[]⟩, .int .i64 0, .slice none 0 0, .slice none 0 0] TTb)) := (((Below.refl _ _).alloc (Nat.le_refl _) _).alloc (by simp) _).alloc (by simp; omega) _
  obtain ⟨b0, b1, b2⟩ := blk3 w #[.string t.name, .int .i64 t.most, .slice U un uc, .slice R rn rc] #[.string r.id, .slice D m c] #[.string ⟨#[]⟩, .int .i64 0, .slice none 0 0, .slice none 0 0] TTb TRe TTb
  have HB0 := Lib.hid b0; have HB1 := Lib.hid b1; have HB2 := Lib.hid b2; have HK0 := Lib.hid hk0
  have hB0 : B ≤ (((w.alloc (.cells #[.string t.name, .int .i64 t.most, .slice U un uc, .slice R rn rc] TTb)).alloc (.cells #[.string r.id, .slice D m c] TRe)).alloc (.cells #[.string ⟨#[]⟩, .int .i64 0, .slice none 0 0, .slice none 0 0] TTb)).heap.size := by have := hk0.size; omega
  have hT0 := hT.next (hk0.mono hB)
  by_cases hok : TabOk t
  case neg =>
    have htb : tabB t = false := by cases h : tabB t with | false => rfl | true => exact absurd ((tabB_iff t).1 h) hok
    have HC := Lib.hid (table_begun_no B U un uc R rn rc t _ (ht.keep (Keep.of hk0)) huc hrc hun hrb hT0 hB0 (Lib.hid hok))
    have HTB := Lib.hid htb
    clear ht hrb h hs hT hk0 b0 b1 b2 hT0 hok htb
    go_enter Tryz.func53, Tryz.ntmps53
    go_wp2_with fail
    refine HC.out.mono ?_
    rintro e w1 ⟨rfl, k⟩
    have HX := Lib.hid (HB2.out.below k HB2.out.lt)
    have HF := Lib.hid (HK0.out.trans (k.mono HK0.out.size))
    clear k
    have q0 := HX.out.cell 0; have q1 := HX.out.cell 1; have q2 := HX.out.cell 2; have q3 := HX.out.cell 3
    have f0 := HX.out.frozen 0; have f1 := HX.out.frozen 1; have f2 := HX.out.frozen 2; have f3 := HX.out.frozen 3; have ql := HX.out.lt
    have HRS := Lib.hid (set4_blk HX.out (.string ⟨#[]⟩) (.int .i64 0) (.slice none 0 0) (.slice none 0 0))
    have HE : Hid (setE t r = 8) := Lib.hid (by unfold setE; rw [HTB.out]; rfl)
    go_wp2
    have k0 := HRS.out.blk.cell 0; have k1 := HRS.out.blk.cell 1; have k2 := HRS.out.blk.cell 2; have k3 := HRS.out.blk.cell 3
    simp at k0 k1 k2 k3
    refine bodyPost_ret (v := .tuple #[zTab, .int .i64 8]) (by simp [results, Tryz.results53, go_sem, k0, k1, k2, k3]) rfl ⟨.inl ⟨by rw [HE.out]; decide, by rw [HE.out]⟩, HRS.out.below HF.out (by omega)⟩
  have htb := (tabB_iff t).2 hok
  have HC := Lib.hid (table_begun_yes B U un uc R rn rc t _ (ht.keep (Keep.of hk0)) huc hrc hun hrb hT0 hB0 (Lib.hid hok))
  have HTB := Lib.hid htb
  have HOK := Lib.hid hok
  have HTS := Lib.hid hT0; have HBB := Lib.hid hB0; have HRB := Lib.hid hrb; have HCS := Lib.hid hs
  have HA : Hid (AtCel (((w.alloc (.cells #[.string t.name, .int .i64 t.most, .slice U un uc, .slice R rn rc] TTb)).alloc (.cells #[.string r.id, .slice D m c] TRe)).alloc (.cells #[.string ⟨#[]⟩, .int .i64 0, .slice none 0 0, .slice none 0 0] TTb)) D r.data) := Lib.hid (AtK.keep (R := RCel) h (Keep.of hk0))
  have hnm := ht.name; have hmo := ht.most; have hul := ht.un; have hrl := ht.rn
  have hrn : rn ≤ 64 := by have h1 := hok.few; have h2 := hok.m2; rw [ht.rn.out] at h1; omega
  have HDL : Hid (∀ x, x ∈ t.rows → x.data.length ≤ 100000) := Lib.hid fun x hx => by
    have h1 := hok.one x hx
    unfold oneR at h1
    simp only [Bool.and_eq_true] at h1
    have := ((mayV_iff _).1 h1.1.1).few
    omega
  clear ht hrb h hs hT hk0 b0 b1 b2 hT0 hok htb hB0
  go_enter Tryz.func53, Tryz.ntmps53
  go_wp2_with fail
  refine HC.out.mono ?_
  rintro e w1 ⟨bb, V, vc, g, rfl, k⟩
  have HBO := Lib.hid k
  have HX1 := Lib.hid (HB2.out.below k.k HB2.out.lt); have HY1 := Lib.hid (HB1.out.below k.k HB1.out.lt)
  have HF1 := Lib.hid (HK0.out.trans (k.k.mono HK0.out.size))
  have p0 := HY1.out.cell 0; have p1 := HY1.out.cell 1; have pl := HY1.out.lt
  have H1 := Lib.hid (table_one B D c m r w1 (AtK.keep HA.out (Keep.of k.k)) HL HCS.out (HTS.out.next (k.k.mono HBB.out)) (by have := k.k.size; have := HBB.out; omega))
  clear k
  cases hone : oneR r with
  | false =>
    rw [hone] at H1
    have HON := Lib.hid hone
    clear hone
    go_wp2_with fail
    refine H1.out.mono ?_
    rintro e w2 ⟨rfl, k⟩
    have HX := Lib.hid (HX1.out.below k HX1.out.lt)
    have HF := Lib.hid (HF1.out.trans (k.mono HF1.out.size))
    clear k
    have q0 := HX.out.cell 0; have q1 := HX.out.cell 1; have q2 := HX.out.cell 2; have q3 := HX.out.cell 3
    have f0 := HX.out.frozen 0; have f1 := HX.out.frozen 1; have f2 := HX.out.frozen 2; have f3 := HX.out.frozen 3; have ql := HX.out.lt
    have HRS := Lib.hid (set4_blk HX.out (.string ⟨#[]⟩) (.int .i64 0) (.slice none 0 0) (.slice none 0 0))
    have HE : Hid (setE t r = 8) := Lib.hid (by unfold setE; rw [HTB.out, HON.out]; rfl)
    go_wp2
    have k0 := HRS.out.blk.cell 0; have k1 := HRS.out.blk.cell 1; have k2 := HRS.out.blk.cell 2; have k3 := HRS.out.blk.cell 3
    simp at k0 k1 k2 k3
    refine bodyPost_ret (v := .tuple #[zTab, .int .i64 8]) (by simp [results, Tryz.results53, go_sem, k0, k1, k2, k3]) rfl ⟨.inl ⟨by rw [HE.out]; decide, by rw [HE.out]⟩, HRS.out.below HF.out (by omega)⟩
  | true =>
    rw [hone] at H1
    have HON := Lib.hid hone
    clear hone
    go_wp2_with fail
    refine H1.out.mono ?_
    rintro e w2 ⟨rfl, k⟩
    have HBO2 := Lib.hid (HBO.out.next k)
    have HX2 := Lib.hid (HX1.out.below k HX1.out.lt); have HY2 := Lib.hid (HY1.out.below k HY1.out.lt)
    have HF2 := Lib.hid (HF1.out.trans (k.mono HF1.out.size))
    clear k p0 p1 pl
    have p0 := HY2.out.cell 0; have p1 := HY2.out.cell 1; have pl := HY2.out.lt
    have HFI := Lib.hid (book_find bb V un vc (some ⟨g, 0, none⟩) rn rn t r.id w2 (HBO2.out.at_ hnm hmo hun (by omega) HDL.out) (by omega) HOK.out.rise)
    obtain ⟨i, hi⟩ : ∃ i, atR t.rows r.id = i := ⟨_, rfl⟩
    rw [hi] at HFI
    have HI := Lib.hid hi
    clear hi
    cases hd : hasR t.rows r.id with
    | false =>
      rw [hd] at HFI
      have HD := Lib.hid hd
      clear hd
      go_wp2_with fail
      refine HFI.out.mono ?_
      rintro e w3 ⟨rfl, k⟩
      have HX := Lib.hid (HX2.out.below k HX2.out.lt)
      have HF := Lib.hid (HF2.out.trans (k.mono HF2.out.size))
      clear k
      have q0 := HX.out.cell 0; have q1 := HX.out.cell 1; have q2 := HX.out.cell 2; have q3 := HX.out.cell 3
      have f0 := HX.out.frozen 0; have f1 := HX.out.frozen 1; have f2 := HX.out.frozen 2; have f3 := HX.out.frozen 3; have ql := HX.out.lt
      have HRS := Lib.hid (set4_blk HX.out (.string ⟨#[]⟩) (.int .i64 0) (.slice none 0 0) (.slice none 0 0))
      have HE : Hid (setE t r = 270) := Lib.hid (by unfold setE; rw [HTB.out, HON.out, HD.out]; rfl)
      go_wp2
      have k0 := HRS.out.blk.cell 0; have k1 := HRS.out.blk.cell 1; have k2 := HRS.out.blk.cell 2; have k3 := HRS.out.blk.cell 3
      simp at k0 k1 k2 k3
      refine bodyPost_ret (v := .tuple #[zTab, .int .i64 270]) (by simp [results, Tryz.results53, go_sem, k0, k1, k2, k3]) rfl ⟨.inl ⟨by rw [HE.out]; decide, by rw [HE.out]⟩, HRS.out.below HF.out (by omega)⟩
    | true =>
      rw [hd] at HFI
      have HD := Lib.hid hd
      clear hd
      go_wp2_with fail
      refine HFI.out.mono ?_
      rintro e w3 ⟨rfl, k⟩
      have HBO3 := Lib.hid (HBO2.out.next k)
      have HX3 := Lib.hid (HX2.out.below k HX2.out.lt); have HY3 := Lib.hid (HY2.out.below k HY2.out.lt)
      have HF3 := Lib.hid (HF2.out.trans (k.mono HF2.out.size))
      have HCL := Lib.hid (book_clash B bb V un vc (some ⟨g, 0, none⟩) rn rn t D c m r w3 (HBO3.out.at_ hnm hmo hun (by omega) HDL.out) hun (by omega) HRB.out (AtK.keep HA.out (Keep.of HBO3.out.k)) HL hmc HCS.out (HTS.out.next (HBO3.out.k.mono HBB.out)) (by have := HBO3.out.k.size; have := HBB.out; omega))
      clear k p0 p1 pl
      have p0 := HY3.out.cell 0; have p1 := HY3.out.cell 1; have pl := HY3.out.lt
      cases hc : clsR t.uniques t.rows r with
      | true =>
        rw [hc] at HCL
        have HCC := Lib.hid hc
        clear hc
        go_wp2_with fail
        refine HCL.out.mono ?_
        rintro e w4 ⟨rfl, k⟩
        have HX := Lib.hid (HX3.out.below k HX3.out.lt)
        have HF := Lib.hid (HF3.out.trans (k.mono HF3.out.size))
        clear k
        have q0 := HX.out.cell 0; have q1 := HX.out.cell 1; have q2 := HX.out.cell 2; have q3 := HX.out.cell 3
        have f0 := HX.out.frozen 0; have f1 := HX.out.frozen 1; have f2 := HX.out.frozen 2; have f3 := HX.out.frozen 3; have ql := HX.out.lt
        have HRS := Lib.hid (set4_blk HX.out (.string ⟨#[]⟩) (.int .i64 0) (.slice none 0 0) (.slice none 0 0))
        have HE : Hid (setE t r = 271) := Lib.hid (by unfold setE; rw [HTB.out, HON.out, HD.out, HCC.out]; rfl)
        go_wp2
        have k0 := HRS.out.blk.cell 0; have k1 := HRS.out.blk.cell 1; have k2 := HRS.out.blk.cell 2; have k3 := HRS.out.blk.cell 3
        simp at k0 k1 k2 k3
        refine bodyPost_ret (v := .tuple #[zTab, .int .i64 271]) (by simp [results, Tryz.results53, go_sem, k0, k1, k2, k3]) rfl ⟨.inl ⟨by rw [HE.out]; decide, by rw [HE.out]⟩, HRS.out.below HF.out (by omega)⟩
      | false =>
        rw [hc] at HCL
        have HCC := Lib.hid hc
        clear hc
        have hm : m ≤ 100000 := by
          have h1 := HON.out
          unfold oneR at h1
          simp only [Bool.and_eq_true] at h1
          have := ((mayV_iff _).1 h1.1.1).few
          rw [HL.out] at this
          omega
        obtain ⟨y, hy, hyid⟩ := atR_has HOK.out.rise HD.out
        rw [HI.out] at hy
        have hin : i < rn := by have := lt_of_get hy; rwa [hrl.out] at this
        have HSR := Lib.hid (setR_place HOK.out.rise hy hyid)
        clear hy hyid
        have i1 : (i : Int) < (rn : Int) := by omega
        have i2 : (0 : Int) ≤ (i : Int) := by omega
        go_wp2_with fail
        refine HCL.out.mono ?_
        rintro e w4 ⟨rfl, k⟩
        have hbo4 := HBO3.out.next k
        have HBO4 := Lib.hid (hbo4.next (below_drewN (Below.refl w4.heap.size w4) 1))
        have HX4 := Lib.hid (HX3.out.below k HX3.out.lt); have HY4 := Lib.hid (HY3.out.below k HY3.out.lt)
        have HF4 := Lib.hid (HF3.out.trans (k.mono HF3.out.size))
        have HTW := Lib.hid (rec_twin D c m r w4.drew (AtK.keep HA.out (Keep.of HBO4.out.k)) HL hm)
        have s1 : w4.cell? ⟨bb, 3, none⟩ = some (.slice (some ⟨g, 0, none⟩) rn rn) := hbo4.blk.cell 3
        have s2 := hbo4.blk.lt
        clear k p0 p1 pl
        have p0 : w4.cell? ⟨w.heap.size + 1, 0, none⟩ = some (.string r.id) := HY4.out.cell 0
        have p1 : w4.cell? ⟨w.heap.size + 1, 1, none⟩ = some (.slice D m c) := HY4.out.cell 1
        have pl := HY4.out.lt
        clear hbo4
        go_wp2
        go_region_with (go_at_call 70; refine HTW.out.mono ?_; rintro e w5 ⟨gg, rfl, k1, k2⟩; have HBO5 := Lib.hid (HBO4.out.next k2); have HO5 := Lib.hid (OwnK.lower k1 HBO4.out.k.size); obtain ⟨cur, hcur, hcs⟩ := HBO5.out.row; have f1 : w5.cell? ⟨bb, 3, none⟩ = some (.slice (some ⟨g, 0, none⟩) rn rn) := HBO5.out.blk.cell 3; obtain ⟨z0, hz0⟩ : ∃ z, cur[i * 2]? = some z := ⟨_, Array.getElem?_eq_getElem (by omega)⟩; obtain ⟨z1, hz1⟩ : ∃ z, cur[i * 2 + 1]? = some z := ⟨_, Array.getElem?_eq_getElem (by omega)⟩; have f2 := (hcur.cell (i * 2)).trans hz0; have f3 := (hcur.cell (i * 2 + 1)).trans hz1; have f4 := hcur.frozen (i * 2); have f5 := hcur.frozen (i * 2 + 1); have f6 := hcur.lt; have f7 := HBO5.out.blk.lt; have HX5 := Lib.hid (Blk.below (show Blk w4.drew _ _ _ from HX4.out) k2 (show w.heap.size + 1 + 1 < w4.drew.heap.size from HX4.out.lt)); have HF5 := Lib.hid (HF4.out.trans (Below.mono ((below_drewN (Below.refl w4.heap.size w4) 1).trans k2) HF4.out.size)); have HCU := Lib.hid hcur; clear k1 k2 hz0 hz1 hcur hcs)
        all_goals
          have HBOE : Hid (BookO _ ((w5.setCell ⟨g, i * 2, none⟩ (.string r.id)).setCell ⟨g, i * 2 + 1, none⟩ (.slice (some ⟨gg, 0, none⟩) m m)) bb V un vc g rn { t with rows := t.rows.set i r }) := Lib.hid (BookO.put HBO5.out hin (x := r) (f := fun j => if j = 0 then .string r.id else .slice (some ⟨gg, 0, none⟩) m m) ⟨⟨rfl, hri⟩, HO5.out⟩)
          have hne : w.heap.size + 1 + 1 ≠ g := fun e => (HX5.out.ne HCU.out (by decide)) e
          have HXE := Lib.hid ((HX5.out.far (p := ⟨g, i * 2, none⟩) hne (.string r.id)).far (p := ⟨g, i * 2 + 1, none⟩) hne (.slice (some ⟨gg, 0, none⟩) m m))
          have HFE := Lib.hid (((HF5.out).setCell (p := ⟨g, i * 2, none⟩) (Nat.le_trans HK0.out.size (by obtain ⟨_, us, hown, _⟩ := HBO5.out.rows.slice; exact (hown.lt g rfl).1)) (.string r.id)).setCell (p := ⟨g, i * 2 + 1, none⟩) (Nat.le_trans HK0.out.size (by obtain ⟨_, us, hown, _⟩ := HBO5.out.rows.slice; exact (hown.lt g rfl).1)) (.slice (some ⟨gg, 0, none⟩) m m))
          have e0 := HBOE.out.blk.cell 0; have e1 := HBOE.out.blk.cell 1; have e2 := HBOE.out.blk.cell 2; have e3 := HBOE.out.blk.cell 3; have el := HBOE.out.blk.lt
          dsimp only at e0 e1 e2 e3
          have q0 := HXE.out.cell 0; have q1 := HXE.out.cell 1; have q2 := HXE.out.cell 2; have q3 := HXE.out.cell 3
          have f0 := HXE.out.frozen 0; have f1 := HXE.out.frozen 1; have f2 := HXE.out.frozen 2; have f3 := HXE.out.frozen 3; have ql := HXE.out.lt
          have HRS := Lib.hid (set4_blk HXE.out (.string t.name) (.int .i64 t.most) (.slice V un vc) (.slice (some ⟨g, 0, none⟩) rn rn))
          have HGV := Lib.hid (HBOE.out.give (w := w) HXE.out HK0.out.size (.string t.name) (.int .i64 t.most) (.slice V un vc) (.slice (some ⟨g, 0, none⟩) rn rn))
          have HE : Hid (setE t r = 0) := Lib.hid (by unfold setE; rw [HTB.out, HON.out, HD.out, HCC.out]; rfl)
          have HRW := HSR
          clear s1 s2 p0 p1 pl f4 f5 f6 f7 hne
          go_wp2
          have k0 := HRS.out.blk.cell 0; have k1 := HRS.out.blk.cell 1; have k2 := HRS.out.blk.cell 2; have k3 := HRS.out.blk.cell 3
          simp at k0 k1 k2 k3
          refine bodyPost_ret (v := .tuple #[.agg #[.string t.name, .int .i64 t.most, .slice V un vc, .slice (some ⟨g, 0, none⟩) rn rn], .int .i64 0]) (by simp [results, Tryz.results53, go_sem, k0, k1, k2, k3]) rfl ⟨.inr ⟨HE.out, _, rfl, ⟨V, un, vc, some ⟨g, 0, none⟩, rn, rn, rfl, HGV.out.1, by rw [HRW.out]; exact HGV.out.2⟩⟩, HRS.out.below HFE.out (by omega)⟩
end Go.Proofs.YtbdkedjgfihamaaGreatDoor

namespace Pv
open Go Go.RowKit
theorem AtTab.g4 {w : World} {A : Option Addr} {v : List Tab} {n i : Nat} (h : AtTab w A v) (HL : Hid (v.length = n)) (hi : i < n) :
    ∃ b off x U un uc R rn rc, A = some ⟨b, off, none⟩ ∧ b < w.heap.size ∧ w.cell? ⟨b, off + i * 4, none⟩ = some (.string x.name) ∧ w.cell? ⟨b, off + i * 4 + 1, none⟩ = some (.int .i64 x.most) ∧ w.cell? ⟨b, off + i * 4 + 2, none⟩ = some (.slice U un uc) ∧ w.cell? ⟨b, off + i * 4 + 3, none⟩ = some (.slice R rn rc) ∧ TabAt w U un R rn x ∧ un ≤ uc ∧ rn ≤ rc ∧ Hid (v[i]? = some x) := by
  obtain ⟨b, off, f, x, e, hb, hc, hR, hx⟩ := AtK.gt h HL hi
  obtain ⟨U, un, uc, R, rn, rc, f0, f1, f2, f3, g1, g2, ht⟩ := hR.opens
  have c0 := hc 0 (by omega); have c1 := hc 1 (by omega); have c2 := hc 2 (by omega); have c3 := hc 3 (by omega)
  rw [f0] at c0; rw [f1] at c1; rw [f2] at c2; rw [f3] at c3
  exact ⟨b, off, x, U, un, uc, R, rn, rc, e, hb, c0, c1, c2, c3, ht, g1, g2, hx⟩
/-- The first table of a name, or none. -/
def FindP (l : List Tab) (nm : ByteArray) (i : Int) : Prop := (i = -1 ∧ ∀ t, t ∈ l → ¬ t.name = nm) ∨ ∃ (k : Nat) (t : Tab), i = k ∧ l[k]? = some t ∧ t.name = nm ∧ ∀ x, x ∈ l.take k → ¬ x.name = nm
end Pv
namespace Go.Proofs.YtbdkedjgfihamaaGreatDoor
open Go.RowKit Pv Go.Maps
set_option maxHeartbeats 2000000 in
set_option maxRecDepth 100000 in
theorem name_test (nb : Nat) (U R : Option Addr) (un uc rn rc : Nat) (t : Tab) (nm : ByteArray) (w : World) (h : w.cell? ⟨nb, 0, none⟩ = some (.string nm)) (hl : nb < w.heap.size) :
    Calls Tryz.prog 42 #[.agg #[.string t.name, .int .i64 t.most, .slice U un uc, .slice R rn rc], .pointer (some ⟨nb, 0, none⟩)] w fun e w' => e = .returned (.bool (decide (t.name = nm))) ∧ Below w.heap.size w w' := by
  obtain ⟨tn, tm, tu, tr⟩ := t
  have hk : Below w.heap.size w (w.alloc (.cells #[.string tn, .int .i64 tm, .slice U un uc, .slice R rn rc] TTb)) := (Below.refl _ _).alloc (Nat.le_refl _) _
  have HK := Lib.hid hk
  have p0 := (hk.cell (p := ⟨nb, 0, none⟩) hl).trans h
  dsimp only
  by_cases he : tn = nm
  · subst he
    have t1 : (tn.toList == tn.toList) = true := by simp
    have HD := Lib.hid (show decide (tn = tn) = true by simp)
    rw [HD.out]
    clear hk
    go_enter Tryz.func42, Tryz.ntmps42
    go_wp2
    go_ret
    exact ⟨rfl, HK.out⟩
  · have t1 : (tn.toList == nm.toList) = false := by rw [beq_eq_false_iff_ne]; exact fun h => he (toList_inj h)
    rw [decide_eq_false he]
    clear hk he
    go_enter Tryz.func42, Tryz.ntmps42
    go_wp2
    go_ret
    exact ⟨rfl, HK.out⟩
set_option maxHeartbeats 4000000 in
set_option maxRecDepth 100000 in
theorem idx_tabs (nb : Nat) (A : Option Addr) (c n : Nat) (l : List Tab) (nm : ByteArray) (w : World) (h : AtTab w A l) (HL : Hid (l.length = n)) (hn : n ≤ 100000) (hc : w.cell? ⟨nb, 0, none⟩ = some (.string nm)) (hl : nb < w.heap.size) :
    Calls Tryz.prog 41 #[.slice A n c, .func (.func 42) #[] #[.pointer (some ⟨nb, 0, none⟩)]] w fun e w' => (∃ i, e = .returned (.int .i64 i) ∧ FindP l nm i) ∧ Below w.heap.size w w' := by
  have HA : Hid (AtTab w A l) := Lib.hid h
  have HT := Lib.hid (fun (U R : Option Addr) (un uc rn rc : Nat) (t : Tab) (W : World) (k : Below w.heap.size w W) => name_test nb U R un uc rn rc t nm W ((k.cell (p := ⟨nb, 0, none⟩) hl).trans hc) (Nat.lt_of_lt_of_le hl k.size))
  clear h hc hl
  go_enter Tryz.func41, Tryz.ntmps41
  go_wp2
  go_loopw [8] (fun iv W => ∃ i : Nat, iv = .int .i64 i ∧ i ≤ n ∧ Hid (Below w.heap.size w W) ∧ Hid (∀ x, x ∈ l.take i → ¬ x.name = nm)) (fun iv _ => n - (intOf iv).toNat)
  case atStart => exact ⟨0, rfl, by omega, Lib.hid (Below.refl _ _), Lib.hid (by simp)⟩
  case round =>
    obtain ⟨i, rfl, hi, HB, HNO⟩ := hrel
    by_cases hlt : i < n
    · obtain ⟨b1, o1, x, U, un, uc, R, rn, rc, rfl, lb1, c0, c1, c2, c3, _, _, _, HX⟩ := AtTab.g4 (AtTab.keep HA.out (Keep.of HB.out)) HL hlt
      have HTT := Lib.hid (HT.out U R un uc rn rc x wr HB.out)
      have i1 : (i : Int) < (n : Int) := by omega
      have i2 : (0 : Int) ≤ (i : Int) := by omega
      by_cases he : x.name = nm
      · rw [decide_eq_true he] at HTT
        have HV := Lib.hid he
        clear he
        go_wp2_with fail
        refine HTT.out.mono ?_
        rintro e w1 ⟨rfl, k⟩
        have HB1 := Lib.hid (HB.out.trans (k.mono HB.out.size))
        clear k
        go_wp2
        go_ret
        exact ⟨⟨_, rfl, .inr ⟨i, x, rfl, HX.out, HV.out, HNO.out⟩⟩, HB1.out⟩
      · rw [decide_eq_false he] at HTT
        have HK := Lib.hid he
        clear he
        go_wp2_with fail
        refine HTT.out.mono ?_
        rintro e w1 ⟨rfl, k⟩
        have HB1 := Lib.hid (HB.out.trans (k.mono HB.out.size))
        clear k
        go_wp2
        go_roundw
        case rel =>
          refine ⟨i + 1, by go_num, by omega, HB1, Lib.hid fun z hz => ?_⟩
          rw [take_snoc HX.out] at hz
          rcases List.mem_append.1 hz with hz | hz
          · exact HNO.out z hz
          · obtain rfl := List.mem_singleton.1 hz
            exact HK.out
        case measure => simp [intOf]; omega
    · have HV := Lib.hid (show ∀ x, x ∈ l → ¬ x.name = nm by
        have h1 := HNO.out
        rwa [List.take_of_length_le (by rw [HL.out]; omega)] at h1)
      have i1 : ¬ (i : Int) < (n : Int) := by omega
      go_wp2
      go_ret
      exact ⟨⟨_, rfl, .inl ⟨rfl, HV.out⟩⟩, HB.out⟩
abbrev TSto : TypeId := 25
set_option maxHeartbeats 4000000 in
set_option maxRecDepth 100000 in
theorem undo_Find (T L : Option Addr) (tn tc ln lc : Nat) (l : List Tab) (nm : ByteArray) (w : World) (h : AtTab w T l) (HL : Hid (l.length = tn)) (hn : tn ≤ 100000) :
    Calls Tryz.prog 12 #[.agg #[.slice T tn tc, .slice L ln lc], .string nm] w fun e w' => (∃ i, FindP l nm i ∧ e = .returned (.tuple #[.int .i64 (if i < 0 then 0 else i), .bool (decide (0 ≤ i))])) ∧ Below w.heap.size w w' := by
  have hk : Below w.heap.size w ((w.alloc (.cells #[.slice T tn tc, .slice L ln lc] TSto)).alloc (.cells #[.string nm] TSt)) := ((Below.refl _ _).alloc (Nat.le_refl _) _).alloc (by simp) _
  have b1 := blkV2 w TSto TSt #[.slice T tn tc, .slice L ln lc] #[.string nm]
  have HC := Lib.hid (idx_tabs (w.heap.size + 1) T tc tn l nm _ (AtTab.keep h (Keep.of hk)) HL hn (b1.cell 0) b1.lt)
  have HK := Lib.hid hk
  clear h hk b1
  go_enter Tryz.func12, Tryz.ntmps12
  go_wp2_with fail
  refine HC.out.mono ?_
  rintro e w1 ⟨⟨i, rfl, hi⟩, k⟩
  have HF := Lib.hid (HK.out.trans (k.mono HK.out.size))
  have HI := Lib.hid hi
  clear k
  rcases hi with ⟨rfl, _⟩ | ⟨q, t, rfl, _⟩
  · go_wp2
    go_ret2
    exact ⟨⟨-1, HI.out, rfl⟩, HF.out⟩
  · have i1 : ¬ ((q : Nat) : Int) < 0 := by omega
    have i2 : (0 : Int) ≤ (q : Int) := by omega
    go_wp2
    go_ret2
    exact ⟨⟨q, HI.out, by simp; omega⟩, HF.out⟩
end Go.Proofs.YtbdkedjgfihamaaGreatDoor
