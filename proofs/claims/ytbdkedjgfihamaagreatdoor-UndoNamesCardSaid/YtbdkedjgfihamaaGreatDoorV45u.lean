/- Walks: table.Drop. PUT1 -/
import Derived.Test.YtbdkedjgfihamaaGreatDoorV43u
namespace Go.Proofs.YtbdkedjgfihamaaGreatDoor
open Go.RowKit Pv Go.Maps
/-- What Drop says. -/
def dropB (t : Tab) (id : ByteArray) : Int := if tabB t then if hasR t.rows id then 0 else 270 else 8
set_option maxHeartbeats 8000000 in
set_option maxRecDepth 100000 in
theorem table_Drop (B : Nat) (U : Option Addr) (un uc : Nat) (R : Option Addr) (rn rc : Nat) (t : Tab) (id : ByteArray) (w : World) (ht : TabAt w U un R rn t) (huc : un ≤ uc) (hrc : rn ≤ rc) (hun : un ≤ 100000) (hrb : RowsB t.rows) (hT : TabS B w) (hB : B ≤ w.heap.size) :
    Calls Tryz.prog 39 #[.agg #[.string t.name, .int .i64 t.most, .slice U un uc, .slice R rn rc], .string id] w fun e w' =>
      ((dropB t id ≠ 0 ∧ e = .returned (.tuple #[zTab, .int .i64 (dropB t id)])) ∨ (dropB t id = 0 ∧ ∃ v, e = .returned (.tuple #[v, .int .i64 0]) ∧ TabV w w' v (t.drop id))) ∧ Below w.heap.size w w' := by
  have hk0 : Below w.heap.size w ((w.alloc (.cells #[.string t.name, .int .i64 t.most, .slice U un uc, .slice R rn rc] TTb)).alloc (.cells #[.string ⟨#[]⟩, .int .i64 0, .slice none 0 0, .slice none 0 0] TTb)) := ((Below.refl _ _).alloc (Nat.le_refl _) _).alloc (by simp) _
  have b2 := blkV2 w TTb TTb #[.string t.name, .int .i64 t.most, .slice U un uc, .slice R rn rc] #[.string ⟨#[]⟩, .int .i64 0, .slice none 0 0, .slice none 0 0]
  have HB2 := Lib.hid b2; have HK0 := Lib.hid hk0
  have hB0 : B ≤ ((w.alloc (.cells #[.string t.name, .int .i64 t.most, .slice U un uc, .slice R rn rc] TTb)).alloc (.cells #[.string ⟨#[]⟩, .int .i64 0, .slice none 0 0, .slice none 0 0] TTb)).heap.size := by have := hk0.size; omega
  have hT0 := hT.next (hk0.mono hB)
  by_cases hok : TabOk t
  case neg =>
    have htb : tabB t = false := by cases h : tabB t with | false => rfl | true => exact absurd ((tabB_iff t).1 h) hok
    have HC := Lib.hid (table_begun_no B U un uc R rn rc t _ (ht.keep (Keep.of hk0)) huc hrc hun hrb hT0 hB0 (Lib.hid hok))
    have HTB := Lib.hid htb
    clear ht hrb hT hk0 b2 hT0 hok htb
    go_enter Tryz.func39, Tryz.ntmps39
    go_wp2_with fail
    refine HC.out.mono ?_
    rintro e w1 ⟨rfl, k⟩
    have HX := Lib.hid (HB2.out.below k HB2.out.lt)
    have HF := Lib.hid (HK0.out.trans (k.mono HK0.out.size))
    clear k
    have q0 := HX.out.cell 0; have q1 := HX.out.cell 1; have q2 := HX.out.cell 2; have q3 := HX.out.cell 3
    have f0 := HX.out.frozen 0; have f1 := HX.out.frozen 1; have f2 := HX.out.frozen 2; have f3 := HX.out.frozen 3; have ql := HX.out.lt
    have HRS := Lib.hid (set4_blk HX.out (.string ⟨#[]⟩) (.int .i64 0) (.slice none 0 0) (.slice none 0 0))
    have HE : Hid (dropB t id = 8) := Lib.hid (by unfold dropB; rw [HTB.out]; rfl)
    go_wp2
    have k0 := HRS.out.blk.cell 0; have k1 := HRS.out.blk.cell 1; have k2 := HRS.out.blk.cell 2; have k3 := HRS.out.blk.cell 3
    simp at k0 k1 k2 k3
    refine bodyPost_ret (v := .tuple #[zTab, .int .i64 8]) (by simp [results, Tryz.results39, go_sem, k0, k1, k2, k3]) rfl ⟨.inl ⟨by rw [HE.out]; decide, by rw [HE.out]⟩, HRS.out.below HF.out (by omega)⟩
  have htb := (tabB_iff t).2 hok
  have HC := Lib.hid (table_begun_yes B U un uc R rn rc t _ (ht.keep (Keep.of hk0)) huc hrc hun hrb hT0 hB0 (Lib.hid hok))
  have HTB := Lib.hid htb
  have HOK := Lib.hid hok
  have hnm := ht.name; have hmo := ht.most; have hul := ht.un; have hrl := ht.rn
  have hrn : rn ≤ 64 := by have h1 := hok.few; have h2 := hok.m2; rw [ht.rn.out] at h1; omega
  have HDL : Hid (∀ x, x ∈ t.rows → x.data.length ≤ 100000) := Lib.hid fun x hx => by
    have h1 := hok.one x hx
    unfold oneR at h1
    simp only [Bool.and_eq_true] at h1
    have := ((mayV_iff _).1 h1.1.1).few
    omega
  clear ht hrb hT hk0 b2 hT0 hok htb hB0
  go_enter Tryz.func39, Tryz.ntmps39
  go_wp2_with fail
  refine HC.out.mono ?_
  rintro e w1 ⟨bb, V, vc, g, rfl, k⟩
  have HBO1 := Lib.hid k
  have HX1 := Lib.hid (HB2.out.below k.k HB2.out.lt)
  have HF1 := Lib.hid (HK0.out.trans (k.k.mono HK0.out.size))
  clear k
  have HFI := Lib.hid (book_find bb V un vc (some ⟨g, 0, none⟩) rn rn t id w1 (HBO1.out.at_ hnm hmo hun (by omega) HDL.out) (by omega) HOK.out.rise)
  obtain ⟨i, hi⟩ : ∃ i, atR t.rows id = i := ⟨_, rfl⟩
  rw [hi] at HFI
  have HI := Lib.hid hi
  clear hi
  cases hd : hasR t.rows id with
  | false =>
    rw [hd] at HFI
    have HD := Lib.hid hd
    clear hd
    go_wp2_with fail
    refine HFI.out.mono ?_
    rintro e w3 ⟨rfl, k⟩
    have HX := Lib.hid (HX1.out.below k HX1.out.lt)
    have HF := Lib.hid (HF1.out.trans (k.mono HF1.out.size))
    clear k
    have q0 := HX.out.cell 0; have q1 := HX.out.cell 1; have q2 := HX.out.cell 2; have q3 := HX.out.cell 3
    have f0 := HX.out.frozen 0; have f1 := HX.out.frozen 1; have f2 := HX.out.frozen 2; have f3 := HX.out.frozen 3; have ql := HX.out.lt
    have HRS := Lib.hid (set4_blk HX.out (.string ⟨#[]⟩) (.int .i64 0) (.slice none 0 0) (.slice none 0 0))
    have HE : Hid (dropB t id = 270) := Lib.hid (by unfold dropB; rw [HTB.out, HD.out]; rfl)
    go_wp2
    have k0 := HRS.out.blk.cell 0; have k1 := HRS.out.blk.cell 1; have k2 := HRS.out.blk.cell 2; have k3 := HRS.out.blk.cell 3
    simp at k0 k1 k2 k3
    refine bodyPost_ret (v := .tuple #[zTab, .int .i64 270]) (by simp [results, Tryz.results39, go_sem, k0, k1, k2, k3]) rfl ⟨.inl ⟨by rw [HE.out]; decide, by rw [HE.out]⟩, HRS.out.below HF.out (by omega)⟩
  | true =>
    rw [hd] at HFI
    have HD := Lib.hid hd
    clear hd
    obtain ⟨y, hy, hyid⟩ := atR_has HOK.out.rise HD.out
    rw [HI.out] at hy
    have hin : i < rn := by have := lt_of_get hy; rwa [hrl.out] at this
    have HSR : Hid (delR t.rows id = t.rows.eraseIdx i) := Lib.hid (by rw [delR_eq HOK.out.rise HD.out, HI.out])
    clear hy hyid
    go_wp2_with fail
    refine HFI.out.mono ?_
    rintro e w3 ⟨rfl, k⟩
    have HBO3 := Lib.hid (HBO1.out.next k)
    have HX3 := Lib.hid (HX1.out.below k HX1.out.lt)
    have HF3 := Lib.hid (HF1.out.trans (k.mono HF1.out.size))
    clear k
    obtain ⟨cur, hcur, hcs, hmx, hge, hown, hrl2⟩ := HBO3.out.rowU
    have HDE := Lib.hid (recs_delete_own g i rn _ cur w3 hcur hcs hin (by omega) hge hrl2.oneR)
    have HRL := Lib.hid hrl2
    have HGG := Lib.hid (show w.heap.size ≤ g from Nat.le_trans HK0.out.size hge)
    have HNG : Hid (w.heap.size + 1 ≠ g) := Lib.hid (fun e => (HX3.out.ne hcur (by decide)) e)
    have s1 : w3.cell? ⟨bb, 3, none⟩ = some (.slice (some ⟨g, 0, none⟩) rn rn) := HBO3.out.blk.cell 3
    have s2 := HBO3.out.blk.lt
    clear hcur hcs hmx hge hown hrl2
    go_wp2_with fail
    refine HDE.out.mono ?_
    rintro e w4 ⟨rfl, ho, hgr⟩
    obtain ⟨hbg, hbk⟩ := HBO3.out.grow ho (HRL.out.del (by rw [hrl.out]; exact hin)) (by rw [List.length_eraseIdx_of_lt (by rw [hrl.out]; exact hin), hrl.out]) hgr
    have HBG := Lib.hid hbg
    have HX4 := Lib.hid (HX3.out.grown hgr (by simpa using HNG.out))
    have HF4 := Lib.hid (HF3.out.grown hgr HF3.out.size (fun k hk => by obtain rfl := Option.some.inj hk; exact HGG.out))
    have p3 := hbk.cell 3; have p4 := hbk.frozen 3; have p5 := hbk.lt
    have hbb : w.heap.size + 1 ≠ bb := fun e => (HX4.out.ne hbk (by decide)) e
    have HXE := Lib.hid (HX4.out.far (p := ⟨bb, 3, none⟩) hbb (.slice (some ⟨g, 0, none⟩) (rn - 1) rn))
    have HFE := Lib.hid (HF4.out.setCell (p := ⟨bb, 3, none⟩) (Nat.le_trans HK0.out.size HBG.out.ge) (.slice (some ⟨g, 0, none⟩) (rn - 1) rn))
    have e0 := HBG.out.blk.cell 0; have e1 := HBG.out.blk.cell 1; have e2 := HBG.out.blk.cell 2; have e3 := HBG.out.blk.cell 3; have el := HBG.out.blk.lt
    dsimp only at e0 e1 e2 e3
    have q0 := HXE.out.cell 0; have q1 := HXE.out.cell 1; have q2 := HXE.out.cell 2; have q3 := HXE.out.cell 3
    have f0 := HXE.out.frozen 0; have f1 := HXE.out.frozen 1; have f2 := HXE.out.frozen 2; have f3 := HXE.out.frozen 3; have ql := HXE.out.lt
    have HRS := Lib.hid (set4_blk HXE.out (.string t.name) (.int .i64 t.most) (.slice V un vc) (.slice (some ⟨g, 0, none⟩) (rn - 1) rn))
    have HGV := Lib.hid (HBG.out.give (w := w) HXE.out HK0.out.size (.string t.name) (.int .i64 t.most) (.slice V un vc) (.slice (some ⟨g, 0, none⟩) (rn - 1) rn))
    have HE : Hid (dropB t id = 0) := Lib.hid (by unfold dropB; rw [HTB.out, HD.out]; rfl)
    have HTD : Hid (t.drop id = { t with rows := t.rows.eraseIdx i }) := Lib.hid (by show ({ t with rows := delR t.rows id } : Tab) = _; rw [HSR.out])
    clear s1 s2 hbb hbg hbk ho hgr
    go_wp2
    have k0 := HRS.out.blk.cell 0; have k1 := HRS.out.blk.cell 1; have k2 := HRS.out.blk.cell 2; have k3 := HRS.out.blk.cell 3
    simp at k0 k1 k2 k3
    refine bodyPost_ret (v := .tuple #[.agg #[.string t.name, .int .i64 t.most, .slice V un vc, .slice (some ⟨g, 0, none⟩) (rn - 1) rn], .int .i64 0]) (by simp [results, Tryz.results39, go_sem, k0, k1, k2, k3]) rfl ⟨.inr ⟨HE.out, _, rfl, by rw [HTD.out]; exact HGV.out⟩, HRS.out.below HFE.out (by omega)⟩
end Go.Proofs.YtbdkedjgfihamaaGreatDoor

namespace Go.Proofs.YtbdkedjgfihamaaGreatDoor
open Go.RowKit Pv Go.Maps
/-- What Put says. -/
def putB (t : Tab) (r : Rec) : Int := if tabB t then if oneR r then if hasR t.rows r.id || clsR t.uniques t.rows r then 271 else if (t.rows.length : Int) = t.most then 272 else 0 else 8 else 8
set_option maxHeartbeats 8000000 in
set_option maxRecDepth 100000 in
theorem table_Put (B : Nat) (U : Option Addr) (un uc : Nat) (R : Option Addr) (rn rc : Nat) (t : Tab) (D : Option Addr) (c m : Nat) (r : Rec) (w : World) (ht : TabAt w U un R rn t) (huc : un ≤ uc) (hrc : rn ≤ rc) (hun : un ≤ 100000) (hrb : RowsB t.rows) (h : AtCel w D r.data) (HL : Hid (r.data.length = m)) (hmc : m ≤ c) (hri : r.id.size ≤ 140737488355328) (hs : CelsB r.data) (hT : TabS B w) (hB : B ≤ w.heap.size) :
    Calls Tryz.prog 35 #[.agg #[.string t.name, .int .i64 t.most, .slice U un uc, .slice R rn rc], .agg #[.string r.id, .slice D m c]] w fun e w' =>
      ((putB t r ≠ 0 ∧ e = .returned (.tuple #[zTab, .int .i64 (putB t r)])) ∨ (putB t r = 0 ∧ ∃ v, e = .returned (.tuple #[v, .int .i64 0]) ∧ TabV w w' v (t.put r))) ∧ Below w.heap.size w w' := by
  have hk0 : Below w.heap.size w (((w.alloc (.cells #[.string t.name, .int .i64 t.most, .slice U un uc, .slice R rn rc] TTb)).alloc (.cells #[.string r.id, .slice D m c] TRe)).alloc (.cells #[.string ⟨#[]⟩, .int .i64 0, .slice none 0 0, .slice none 0 0] TTb)) := (((Below.refl _ _).alloc (Nat.le_refl _) _).alloc (by simp) _).alloc (by simp; omega) _
  obtain ⟨b0, b1, b2⟩ := blk3 w #[.string t.name, .int .i64 t.most, .slice U un uc, .slice R rn rc] #[.string r.id, .slice D m c] #[.string ⟨#[]⟩, .int .i64 0, .slice none 0 0, .slice none 0 0] TTb TRe TTb
  have HB0 := Lib.hid b0; have HB1 := Lib.hid b1; have HB2 := Lib.hid b2; have HK0 := Lib.hid hk0
  have hB0 : B ≤ (((w.alloc (.cells #[.string t.name, .int .i64 t.most, .slice U un uc, .slice R rn rc] TTb)).alloc (.cells #[.string r.id, .slice D m c] TRe)).alloc (.cells #[.string ⟨#[]⟩, .int .i64 0, .slice none 0 0, .slice none 0 0] TTb)).heap.size := by have := hk0.size; omega
  have hT0 := hT.next (hk0.mono hB)
  by_cases hok : TabOk t
  case neg =>
    have htb : tabB t = false := by cases h : tabB t with | false => rfl | true => exact absurd ((tabB_iff t).1 h) hok
    have HC := Lib.hid (table_begun_no B U un uc R rn rc t _ (ht.keep (Keep.of hk0)) huc hrc hun hrb hT0 hB0 (Lib.hid hok))
    have HTB := Lib.hid htb
    clear ht hrb h hs hT hk0 b0 b1 b2 hT0 hok htb
    go_enter Tryz.func35, Tryz.ntmps35
    go_wp2_with fail
    refine HC.out.mono ?_
    rintro e w1 ⟨rfl, k⟩
    have HX := Lib.hid (HB2.out.below k HB2.out.lt)
    have HF := Lib.hid (HK0.out.trans (k.mono HK0.out.size))
    clear k
    have q0 := HX.out.cell 0; have q1 := HX.out.cell 1; have q2 := HX.out.cell 2; have q3 := HX.out.cell 3
    have f0 := HX.out.frozen 0; have f1 := HX.out.frozen 1; have f2 := HX.out.frozen 2; have f3 := HX.out.frozen 3; have ql := HX.out.lt
    have HRS := Lib.hid (set4_blk HX.out (.string ⟨#[]⟩) (.int .i64 0) (.slice none 0 0) (.slice none 0 0))
    have HE : Hid (putB t r = 8) := Lib.hid (by unfold putB; rw [HTB.out]; rfl)
    go_wp2
    have k0 := HRS.out.blk.cell 0; have k1 := HRS.out.blk.cell 1; have k2 := HRS.out.blk.cell 2; have k3 := HRS.out.blk.cell 3
    simp at k0 k1 k2 k3
    refine bodyPost_ret (v := .tuple #[zTab, .int .i64 8]) (by simp [results, Tryz.results35, go_sem, k0, k1, k2, k3]) rfl ⟨.inl ⟨by rw [HE.out]; decide, by rw [HE.out]⟩, HRS.out.below HF.out (by omega)⟩
  have htb := (tabB_iff t).2 hok
  have HC := Lib.hid (table_begun_yes B U un uc R rn rc t _ (ht.keep (Keep.of hk0)) huc hrc hun hrb hT0 hB0 (Lib.hid hok))
  have HTB := Lib.hid htb
  have HOK := Lib.hid hok
  have HTS := Lib.hid hT0; have HBB := Lib.hid hB0; have HRB := Lib.hid hrb; have HCS := Lib.hid hs
  have HA : Hid (AtCel (((w.alloc (.cells #[.string t.name, .int .i64 t.most, .slice U un uc, .slice R rn rc] TTb)).alloc (.cells #[.string r.id, .slice D m c] TRe)).alloc (.cells #[.string ⟨#[]⟩, .int .i64 0, .slice none 0 0, .slice none 0 0] TTb)) D r.data) := Lib.hid (AtK.keep (R := RCel) h (Keep.of hk0))
  have hnm := ht.name; have hmo := ht.most; have hul := ht.un; have hrl := ht.rn
  have hrn : rn ≤ 64 := by have h1 := hok.few; have h2 := hok.m2; rw [ht.rn.out] at h1; omega
  have HDL : Hid (∀ x, x ∈ t.rows → x.data.length ≤ 100000) := Lib.hid fun x hx => by
    have h1 := hok.one x hx
    unfold oneR at h1
    simp only [Bool.and_eq_true] at h1
    have := ((mayV_iff _).1 h1.1.1).few
    omega
  clear ht hrb h hs hT hk0 b0 b1 b2 hT0 hok htb hB0
  go_enter Tryz.func35, Tryz.ntmps35
  go_wp2_with fail
  refine HC.out.mono ?_
  rintro e w1 ⟨bb, V, vc, g, rfl, k⟩
  have HBO := Lib.hid k
  have HX1 := Lib.hid (HB2.out.below k.k HB2.out.lt); have HY1 := Lib.hid (HB1.out.below k.k HB1.out.lt)
  have HF1 := Lib.hid (HK0.out.trans (k.k.mono HK0.out.size))
  have p0 := HY1.out.cell 0; have p1 := HY1.out.cell 1; have pl := HY1.out.lt
  have H1 := Lib.hid (table_one B D c m r w1 (AtK.keep HA.out (Keep.of k.k)) HL HCS.out (HTS.out.next (k.k.mono HBB.out)) (by have := k.k.size; have := HBB.out; omega))
  clear k
  cases hone : oneR r with
  | false =>
    rw [hone] at H1
    have HON := Lib.hid hone
    clear hone
    go_wp2_with fail
    refine H1.out.mono ?_
    rintro e w2 ⟨rfl, k⟩
    have HX := Lib.hid (HX1.out.below k HX1.out.lt)
    have HF := Lib.hid (HF1.out.trans (k.mono HF1.out.size))
    clear k
    have q0 := HX.out.cell 0; have q1 := HX.out.cell 1; have q2 := HX.out.cell 2; have q3 := HX.out.cell 3
    have f0 := HX.out.frozen 0; have f1 := HX.out.frozen 1; have f2 := HX.out.frozen 2; have f3 := HX.out.frozen 3; have ql := HX.out.lt
    have HRS := Lib.hid (set4_blk HX.out (.string ⟨#[]⟩) (.int .i64 0) (.slice none 0 0) (.slice none 0 0))
    have HE : Hid (putB t r = 8) := Lib.hid (by unfold putB; rw [HTB.out, HON.out]; rfl)
    go_wp2
    have k0 := HRS.out.blk.cell 0; have k1 := HRS.out.blk.cell 1; have k2 := HRS.out.blk.cell 2; have k3 := HRS.out.blk.cell 3
    simp at k0 k1 k2 k3
    refine bodyPost_ret (v := .tuple #[zTab, .int .i64 8]) (by simp [results, Tryz.results35, go_sem, k0, k1, k2, k3]) rfl ⟨.inl ⟨by rw [HE.out]; decide, by rw [HE.out]⟩, HRS.out.below HF.out (by omega)⟩
  | true =>
    rw [hone] at H1
    have HON := Lib.hid hone
    clear hone
    go_wp2_with fail
    refine H1.out.mono ?_
    rintro e w2 ⟨rfl, k⟩
    have HBO2 := Lib.hid (HBO.out.next k)
    have HX2 := Lib.hid (HX1.out.below k HX1.out.lt); have HY2 := Lib.hid (HY1.out.below k HY1.out.lt)
    have HF2 := Lib.hid (HF1.out.trans (k.mono HF1.out.size))
    clear k p0 p1 pl
    have p0 := HY2.out.cell 0; have p1 := HY2.out.cell 1; have pl := HY2.out.lt
    have HFI := Lib.hid (book_find bb V un vc (some ⟨g, 0, none⟩) rn rn t r.id w2 (HBO2.out.at_ hnm hmo hun (by omega) HDL.out) (by omega) HOK.out.rise)
    obtain ⟨i, hi⟩ : ∃ i, atR t.rows r.id = i := ⟨_, rfl⟩
    rw [hi] at HFI
    have HI := Lib.hid hi
    clear hi
    cases hd : hasR t.rows r.id with
    | true =>
      rw [hd] at HFI
      have HD := Lib.hid hd
      clear hd
      go_wp2_with fail
      refine HFI.out.mono ?_
      rintro e w3 ⟨rfl, k⟩
      have HX := Lib.hid (HX2.out.below k HX2.out.lt)
      have HF := Lib.hid (HF2.out.trans (k.mono HF2.out.size))
      clear k
      have q0 := HX.out.cell 0; have q1 := HX.out.cell 1; have q2 := HX.out.cell 2; have q3 := HX.out.cell 3
      have f0 := HX.out.frozen 0; have f1 := HX.out.frozen 1; have f2 := HX.out.frozen 2; have f3 := HX.out.frozen 3; have ql := HX.out.lt
      have HRS := Lib.hid (set4_blk HX.out (.string ⟨#[]⟩) (.int .i64 0) (.slice none 0 0) (.slice none 0 0))
      have HE : Hid (putB t r = 271) := Lib.hid (by unfold putB; rw [HTB.out, HON.out, HD.out]; rfl)
      go_wp2
      have k0 := HRS.out.blk.cell 0; have k1 := HRS.out.blk.cell 1; have k2 := HRS.out.blk.cell 2; have k3 := HRS.out.blk.cell 3
      simp at k0 k1 k2 k3
      refine bodyPost_ret (v := .tuple #[zTab, .int .i64 271]) (by simp [results, Tryz.results35, go_sem, k0, k1, k2, k3]) rfl ⟨.inl ⟨by rw [HE.out]; decide, by rw [HE.out]⟩, HRS.out.below HF.out (by omega)⟩
    | false =>
      rw [hd] at HFI
      have HD := Lib.hid hd
      clear hd
      go_wp2_with fail
      refine HFI.out.mono ?_
      rintro e w3 ⟨rfl, k⟩
      have HBO3 := Lib.hid (HBO2.out.next k)
      have HX3 := Lib.hid (HX2.out.below k HX2.out.lt); have HY3 := Lib.hid (HY2.out.below k HY2.out.lt)
      have HF3 := Lib.hid (HF2.out.trans (k.mono HF2.out.size))
      have HCL := Lib.hid (book_clash B bb V un vc (some ⟨g, 0, none⟩) rn rn t D c m r w3 (HBO3.out.at_ hnm hmo hun (by omega) HDL.out) hun (by omega) HRB.out (AtK.keep HA.out (Keep.of HBO3.out.k)) HL hmc HCS.out (HTS.out.next (HBO3.out.k.mono HBB.out)) (by have := HBO3.out.k.size; have := HBB.out; omega))
      clear k p0 p1 pl
      have p0 := HY3.out.cell 0; have p1 := HY3.out.cell 1; have pl := HY3.out.lt
      cases hc : clsR t.uniques t.rows r with
      | true =>
        rw [hc] at HCL
        have HCC := Lib.hid hc
        clear hc
        go_wp2_with fail
        refine HCL.out.mono ?_
        rintro e w4 ⟨rfl, k⟩
        have HX := Lib.hid (HX3.out.below k HX3.out.lt)
        have HF := Lib.hid (HF3.out.trans (k.mono HF3.out.size))
        clear k
        have q0 := HX.out.cell 0; have q1 := HX.out.cell 1; have q2 := HX.out.cell 2; have q3 := HX.out.cell 3
        have f0 := HX.out.frozen 0; have f1 := HX.out.frozen 1; have f2 := HX.out.frozen 2; have f3 := HX.out.frozen 3; have ql := HX.out.lt
        have HRS := Lib.hid (set4_blk HX.out (.string ⟨#[]⟩) (.int .i64 0) (.slice none 0 0) (.slice none 0 0))
        have HE : Hid (putB t r = 271) := Lib.hid (by unfold putB; rw [HTB.out, HON.out, HD.out, HCC.out]; rfl)
        go_wp2
        have k0 := HRS.out.blk.cell 0; have k1 := HRS.out.blk.cell 1; have k2 := HRS.out.blk.cell 2; have k3 := HRS.out.blk.cell 3
        simp at k0 k1 k2 k3
        refine bodyPost_ret (v := .tuple #[zTab, .int .i64 271]) (by simp [results, Tryz.results35, go_sem, k0, k1, k2, k3]) rfl ⟨.inl ⟨by rw [HE.out]; decide, by rw [HE.out]⟩, HRS.out.below HF.out (by omega)⟩
      | false =>
        rw [hc] at HCL
        have HCC := Lib.hid hc
        clear hc
        have hm : m ≤ 100000 := by
          have h1 := HON.out
          unfold oneR at h1
          simp only [Bool.and_eq_true] at h1
          have := ((mayV_iff _).1 h1.1.1).few
          rw [HL.out] at this
          omega
        have hin : i ≤ rn := by have := atR_le t.rows r.id; rw [HI.out, hrl.out] at this; exact this
        have HSR : Hid (insR t.rows r = t.rows.take i ++ r :: t.rows.drop i) := Lib.hid (by rw [insR_eq, HI.out])
        by_cases hfull : (rn : Int) = t.most
        · have hfb : ((rn : Int) == t.most) = true := by simpa using hfull
          have HFU : Hid ((t.rows.length : Int) = t.most) := Lib.hid (by rw [hrl.out]; exact hfull)
          clear hfull
          go_wp2_with fail
          refine HCL.out.mono ?_
          rintro e w4 ⟨rfl, k⟩
          have HBO4 := Lib.hid (HBO3.out.next k)
          have HX := Lib.hid (HX3.out.below k HX3.out.lt)
          have HF := Lib.hid (HF3.out.trans (k.mono HF3.out.size))
          clear k p0 p1 pl
          have s1 : w4.cell? ⟨bb, 3, none⟩ = some (.slice (some ⟨g, 0, none⟩) rn rn) := HBO4.out.blk.cell 3
          have s3 : w4.cell? ⟨bb, 1, none⟩ = some (.int .i64 t.most) := HBO4.out.blk.cell 1
          have s2 := HBO4.out.blk.lt
          have q0 := HX.out.cell 0; have q1 := HX.out.cell 1; have q2 := HX.out.cell 2; have q3 := HX.out.cell 3
          have f0 := HX.out.frozen 0; have f1 := HX.out.frozen 1; have f2 := HX.out.frozen 2; have f3 := HX.out.frozen 3; have ql := HX.out.lt
          have HE : Hid (putB t r = 272) := Lib.hid (by unfold putB; rw [HTB.out, HON.out, HD.out, HCC.out, if_pos HFU.out]; rfl)
          go_wp2
          go_quiet (fail)
          have HRS := Lib.hid (set4_blk (w := w4.drewN nq) HX.out (.string ⟨#[]⟩) (.int .i64 0) (.slice none 0 0) (.slice none 0 0))
          go_wp2
          have k0 := HRS.out.blk.cell 0; have k1 := HRS.out.blk.cell 1; have k2 := HRS.out.blk.cell 2; have k3 := HRS.out.blk.cell 3
          simp at k0 k1 k2 k3
          refine bodyPost_ret (v := .tuple #[zTab, .int .i64 272]) (by simp [results, Tryz.results35, go_sem, k0, k1, k2, k3]) rfl ⟨.inl ⟨by rw [HE.out]; decide, by rw [HE.out]⟩, HRS.out.below (below_drewN HF.out nq) (by omega)⟩
        · have hfb : ((rn : Int) == t.most) = false := by simpa using hfull
          have HFU : Hid (¬ (t.rows.length : Int) = t.most) := Lib.hid (by rw [hrl.out]; exact hfull)
          clear hfull
          go_wp2_with fail
          refine HCL.out.mono ?_
          rintro e w4 ⟨rfl, k⟩
          have HBO4 := Lib.hid (HBO3.out.next k)
          have HX4 := Lib.hid (HX3.out.below k HX3.out.lt); have HY4 := Lib.hid (HY3.out.below k HY3.out.lt)
          have HF4 := Lib.hid (HF3.out.trans (k.mono HF3.out.size))
          clear k p0 p1 pl
          have s1 : w4.cell? ⟨bb, 3, none⟩ = some (.slice (some ⟨g, 0, none⟩) rn rn) := HBO4.out.blk.cell 3
          have s3 : w4.cell? ⟨bb, 1, none⟩ = some (.int .i64 t.most) := HBO4.out.blk.cell 1
          have s2 := HBO4.out.blk.lt
          go_wp2
          go_quiet (fail)
          have hbd : Below w4.heap.size w4 (w4.drewN nq).drew := below_drewN (below_drewN (Below.refl w4.heap.size w4) nq) 1
          have HBO5 := Lib.hid (HBO4.out.next hbd)
          have HTW := Lib.hid (rec_twin D c m r (w4.drewN nq).drew (AtK.keep (R := RCel) HA.out (Keep.of HBO5.out.k)) HL hm)
          have HX5 : Hid (Blk (w4.drewN nq).drew _ _ _) := Lib.hid (show Blk (w4.drewN nq).drew _ _ _ from HX4.out)
          have HF5 : Hid (Below w.heap.size w (w4.drewN nq).drew) := Lib.hid (HF4.out.trans (hbd.mono HF4.out.size))
          have p0 : w4.cell? ⟨w.heap.size + 1, 0, none⟩ = some (.string r.id) := HY4.out.cell 0
          have p1 : w4.cell? ⟨w.heap.size + 1, 1, none⟩ = some (.slice D m c) := HY4.out.cell 1
          have pl := HY4.out.lt
          clear hbd
          go_wp2
          go_region_with (first
            | (go_at_call 70; refine HTW.out.mono ?_; rintro e w5 ⟨gg, rfl, k1, k2⟩; have HBO6 := Lib.hid (HBO5.out.next k2); have HO6 := Lib.hid (OwnK.lower k1 HBO5.out.k.size); have hka : Below w5.heap.size w5 (w5.alloc (.cells #[.string r.id, .slice (some ⟨gg, 0, none⟩) m m] TRe)) := (Below.refl _ _).alloc (Nat.le_refl _) _; have HBO7 := Lib.hid (HBO6.out.next hka); have HO7 := Lib.hid (HO6.out.below hka); have HX7 := Lib.hid ((HX5.out.below k2 HX5.out.lt).alloc (.cells #[.string r.id, .slice (some ⟨gg, 0, none⟩) m m] TRe)); have HF7 := Lib.hid ((HF5.out.trans (k2.mono HF5.out.size)).trans (hka.mono (HF5.out.trans (k2.mono HF5.out.size)).size)); obtain ⟨cur, hcur, hcs, hmx, hge, hown, hrl2⟩ := HBO7.out.rowU; have HRL := Lib.hid hrl2; have HCU := Lib.hid hcur; have HGE := Lib.hid (show w.heap.size ≤ g from Nat.le_trans HK0.out.size hge); have HIN := Lib.hid (recs_insert g i rn w5.heap.size _ (.string r.id) (.slice (some ⟨gg, 0, none⟩) m m) cur.toList _ hown (Blk.new w5 TRe #[.string r.id, .slice (some ⟨gg, 0, none⟩) m m]) rfl rfl hin (by omega) hrl2.oneR); have y1 : w5.cell? ⟨bb, 3, none⟩ = some (.slice (some ⟨g, 0, none⟩) rn rn) := HBO6.out.blk.cell 3; have y2 := HBO6.out.blk.lt; clear k1 k2 hka hcur hcs hmx hge hown hrl2)
            | (go_at_call 69; refine HIN.out.mono ?_; rintro e w8 ⟨A8, c8, rfl, ho, hgr⟩; obtain ⟨hbg, hbk⟩ := HBO7.out.grow ho (HRL.out.ins (by rw [hrl.out]; exact hin) (x := r) (f := fun j => if j = 0 then .string r.id else .slice (some ⟨gg, 0, none⟩) m m) rfl rfl ⟨⟨rfl, hri⟩, HO7.out⟩) (by rw [List.length_append, List.length_cons, List.length_take, List.length_drop, hrl.out]; omega) hgr; have HBG := Lib.hid hbg; have HNG : w.heap.size + 1 + 1 ≠ g := fun e => (HX7.out.ne HCU.out (by decide)) e; have HX8 := Lib.hid (HX7.out.grown hgr (by simpa using HNG)); have HF8 := Lib.hid (HF7.out.grown hgr HF7.out.size (fun k hk => by obtain rfl := Option.some.inj hk; exact HGE.out)); have g3 := hbk.cell 3; have g4 := hbk.frozen 3; have g5 := hbk.lt; have hbb : w.heap.size + 1 + 1 ≠ bb := fun e => (HX8.out.ne hbk (by decide)) e; have HBB2 := Lib.hid hbb; clear ho hgr hbg hbk hbb HNG))
          all_goals
            have HXE := Lib.hid (HX8.out.far (p := ⟨bb, 3, none⟩) HBB2.out (.slice A8 (rn + 1) c8))
            have HFE := Lib.hid (HF8.out.setCell (p := ⟨bb, 3, none⟩) (Nat.le_trans HK0.out.size HBG.out.ge) (.slice A8 (rn + 1) c8))
            have e0 := HBG.out.blk.cell 0; have e1 := HBG.out.blk.cell 1; have e2 := HBG.out.blk.cell 2; have e3 := HBG.out.blk.cell 3; have el := HBG.out.blk.lt
            dsimp only at e0 e1 e2 e3
            have q0 := HXE.out.cell 0; have q1 := HXE.out.cell 1; have q2 := HXE.out.cell 2; have q3 := HXE.out.cell 3
            have f0 := HXE.out.frozen 0; have f1 := HXE.out.frozen 1; have f2 := HXE.out.frozen 2; have f3 := HXE.out.frozen 3; have ql := HXE.out.lt
            have HRS := Lib.hid (set4_blk HXE.out (.string t.name) (.int .i64 t.most) (.slice V un vc) (.slice A8 (rn + 1) c8))
            have HGV := Lib.hid (HBG.out.give (w := w) HXE.out HK0.out.size (.string t.name) (.int .i64 t.most) (.slice V un vc) (.slice A8 (rn + 1) c8))
            have HE : Hid (putB t r = 0) := Lib.hid (by unfold putB; rw [HTB.out, HON.out, HD.out, HCC.out, if_neg HFU.out]; rfl)
            have HTD : Hid (t.put r = { t with rows := t.rows.take i ++ r :: t.rows.drop i }) := Lib.hid (by show ({ t with rows := insR t.rows r } : Tab) = _; rw [HSR.out])
            clear s1 s2 s3 p0 p1 pl y1 y2 g3 g4 g5
            go_wp2
            have k0 := HRS.out.blk.cell 0; have k1 := HRS.out.blk.cell 1; have k2 := HRS.out.blk.cell 2; have k3 := HRS.out.blk.cell 3
            simp at k0 k1 k2 k3
            refine bodyPost_ret (v := .tuple #[.agg #[.string t.name, .int .i64 t.most, .slice V un vc, .slice A8 (rn + 1) c8], .int .i64 0]) (by simp [results, Tryz.results35, go_sem, k0, k1, k2, k3]) rfl ⟨.inr ⟨HE.out, _, rfl, by rw [HTD.out]; exact HGV.out⟩, HRS.out.below HFE.out (by omega)⟩
end Go.Proofs.YtbdkedjgfihamaaGreatDoor
