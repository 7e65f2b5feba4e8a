/- Walks: the chapter's verb by a number. PUT1 -/
import Derived.Test.YtbdkedjgfihamaaGreatDoorV71u
import Derived.Test.YtbdkedjgfihamaaGreatDoorQvu
namespace Go.Proofs.YtbdkedjgfihamaaGreatDoor
open Go.RowKit Pv Go.Maps
/-- What a verb gives. -/
def DoGot (w w' : World) (e : Ending) (s : Sto) : Prop := ∃ E T tn tc L ln lc s', e = .returned (.tuple #[.agg #[.slice T tn tc, .slice L ln lc], .int .i64 E]) ∧ StoV w' w.heap.size (.agg #[.slice T tn tc, .slice L ln lc]) s' ∧ StoBd s' ∧ (E = 0 → DoneP s s') ∧ Below w.heap.size w w'
theorem TurnPost.got {w w' : World} {e : Ending} {s : Sto} {p : Int} {id : ByteArray} {cE : Tab → Int} {cT : Tab → Tab} (h : TurnPost w w' e s p id cE cT) (hb : StoBd s) (hT : ∀ t, TabBd t → cE t = 0 → Turned t (cT t) id ∧ TabBd (cT t)) :
    ∃ E T tn tc L ln lc s', e = .returned (.tuple #[.agg #[.slice T tn tc, .slice L ln lc], .int .i64 E]) ∧ StoV w' w.heap.size (.agg #[.slice T tn tc, .slice L ln lc]) s' ∧ StoBd s' ∧ (E = 0 → DoneP s s') ∧ Below w.heap.size w w' := by
  obtain ⟨⟨E, hE, rfl⟩ | ⟨v, s', rfl, hv, hd⟩, k⟩ := h.done hb hT
  · exact ⟨E, _, _, _, _, _, _, noS, rfl, noS_v _ _, noS_bd, fun h => absurd h hE, k⟩
  · obtain ⟨T, tn, tc, L, ln, lc, rfl, h1, h2⟩ := hv
    exact ⟨0, T, tn, tc, L, ln, lc, s', rfl, ⟨_, _, _, _, _, _, rfl, h1, h2⟩, hd.bd, fun _ => hd, k⟩
set_option maxHeartbeats 4000000 in
set_option maxRecDepth 100000 in
theorem law_do (B : Nat) (v p : Int) (T L : Option Addr) (tn tc ln lc : Nat) (s : Sto) (D : Option Addr) (c m : Nat) (r : Rec) (w : World) (hv : 0 ≤ v ∧ v ≤ 255) (h : StoAt w T tn L ln s) (htc : tn ≤ tc) (hlc : ln ≤ lc) (hb : StoBd s) (hr : AtCel w D r.data) (HL : Hid (r.data.length = m)) (hmc : m ≤ c) (hri : r.id.size ≤ 100000) (hs : CelsB r.data) (hT : TabS B w) (hB : B ≤ w.heap.size) :
    Calls Tryz.prog 18 #[.int .u8 v, .agg #[.slice T tn tc, .slice L ln lc], .int .i64 p, .agg #[.string r.id, .slice D m c]] w fun e w' => DoGot w w' e s := by
  have hk0 : Below w.heap.size w (((w.alloc (.cells #[.slice T tn tc, .slice L ln lc] TSto)).alloc (.cells #[.string r.id, .slice D m c] TRe)).alloc (.cells #[.slice none 0 0, .slice none 0 0] TSto)) := (((Below.refl _ _).alloc (Nat.le_refl _) _).alloc (by simp) _).alloc (by simp; omega) _
  obtain ⟨b0, b1, b2⟩ := blk3 w #[.slice T tn tc, .slice L ln lc] #[.string r.id, .slice D m c] #[.slice none 0 0, .slice none 0 0] TSto TRe TSto
  have HP := Lib.hid (undo_Put B T L tn tc ln lc s p D c m r _ (h.keep (Keep.of hk0)) htc hlc hb (AtK.keep (R := RCel) hr (Keep.of hk0)) HL hmc (by omega) hs (hT.next (hk0.mono hB)) (Nat.le_trans hB hk0.size))
  have HQ := Lib.hid (undo_Set B T L tn tc ln lc s p D c m r _ (h.keep (Keep.of hk0)) htc hlc hb (AtK.keep (R := RCel) hr (Keep.of hk0)) HL hmc (by omega) hs (hT.next (hk0.mono hB)) (Nat.le_trans hB hk0.size))
  have HR := Lib.hid (undo_Drop B T L tn tc ln lc s p r.id _ (h.keep (Keep.of hk0)) htc hlc hb (by omega) (hT.next (hk0.mono hB)) (Nat.le_trans hB hk0.size))
  have HK0 := Lib.hid hk0; have HB2 := Lib.hid b2; have HBD := Lib.hid hb; have HS := Lib.hid hs
  have hm : v % 3 = 0 ∨ v % 3 = 1 ∨ v % 3 = 2 := by omega
  clear h hb hr hs hT hk0 b0 b1 b2
  rcases hm with hm | hm | hm
  · go_enter Tryz.func18, Tryz.ntmps18
    go_wp2_with fail
    refine HP.out.mono ?_
    rintro e w1 hres
    obtain ⟨E, T', tn', tc', L', ln', lc', s', rfl, hsv, hbd, hdn, k⟩ := hres.got HBD.out fun t hb h => put_done hb HS.out h
    have hka : Below w1.heap.size w1 (w1.alloc (.cells #[.slice T' tn' tc', .slice L' ln' lc'] TSto)) := (Below.refl _ _).alloc (Nat.le_refl _) _
    have hk := k.trans (hka.mono k.size)
    have HF := Lib.hid (HK0.out.trans (hk.mono HK0.out.size))
    have hb1 := HB2.out.below hk HB2.out.lt
    have q0 := hb1.cell 0; have q1 := hb1.cell 1; have f0 := hb1.frozen 0; have f1 := hb1.frozen 1; have ql := hb1.lt
    have HRS := Lib.hid (set2_blk hb1 (.slice T' tn' tc') (.slice L' ln' lc'))
    have HSV := Lib.hid (StoV.set2 (w := w) (hsv.below hka) hb1 HK0.out.size)
    have HBS := Lib.hid hbd; have HDN := Lib.hid hdn
    clear hres hsv hbd hdn k hka hk hb1
    go_wp2
    have k0 := HRS.out.blk.cell 0; have k1 := HRS.out.blk.cell 1
    simp at k0 k1
    refine bodyPost_ret (v := .tuple #[.agg #[.slice T' tn' tc', .slice L' ln' lc'], .int .i64 E]) (by simp [results, Tryz.results18, go_sem, k0, k1]) rfl ⟨E, _, _, _, _, _, _, s', rfl, HSV.out, HBS.out, HDN.out, HRS.out.below HF.out (by omega)⟩
  · go_enter Tryz.func18, Tryz.ntmps18
    go_wp2_with fail
    refine HQ.out.mono ?_
    rintro e w1 hres
    obtain ⟨E, T', tn', tc', L', ln', lc', s', rfl, hsv, hbd, hdn, k⟩ := hres.got HBD.out fun t hb h => set_done hb HS.out h
    have hka : Below w1.heap.size w1 (w1.alloc (.cells #[.slice T' tn' tc', .slice L' ln' lc'] TSto)) := (Below.refl _ _).alloc (Nat.le_refl _) _
    have hk := k.trans (hka.mono k.size)
    have HF := Lib.hid (HK0.out.trans (hk.mono HK0.out.size))
    have hb1 := HB2.out.below hk HB2.out.lt
    have q0 := hb1.cell 0; have q1 := hb1.cell 1; have f0 := hb1.frozen 0; have f1 := hb1.frozen 1; have ql := hb1.lt
    have HRS := Lib.hid (set2_blk hb1 (.slice T' tn' tc') (.slice L' ln' lc'))
    have HSV := Lib.hid (StoV.set2 (w := w) (hsv.below hka) hb1 HK0.out.size)
    have HBS := Lib.hid hbd; have HDN := Lib.hid hdn
    clear hres hsv hbd hdn k hka hk hb1
    go_wp2
    have k0 := HRS.out.blk.cell 0; have k1 := HRS.out.blk.cell 1
    simp at k0 k1
    refine bodyPost_ret (v := .tuple #[.agg #[.slice T' tn' tc', .slice L' ln' lc'], .int .i64 E]) (by simp [results, Tryz.results18, go_sem, k0, k1]) rfl ⟨E, _, _, _, _, _, _, s', rfl, HSV.out, HBS.out, HDN.out, HRS.out.below HF.out (by omega)⟩
  · go_enter Tryz.func18, Tryz.ntmps18
    go_wp2_with fail
    refine HR.out.mono ?_
    rintro e w1 hres
    obtain ⟨E, T', tn', tc', L', ln', lc', s', rfl, hsv, hbd, hdn, k⟩ := hres.got HBD.out fun t hb h => drop_done hb h
    have hka : Below w1.heap.size w1 (w1.alloc (.cells #[.slice T' tn' tc', .slice L' ln' lc'] TSto)) := (Below.refl _ _).alloc (Nat.le_refl _) _
    have hk := k.trans (hka.mono k.size)
    have HF := Lib.hid (HK0.out.trans (hk.mono HK0.out.size))
    have hb1 := HB2.out.below hk HB2.out.lt
    have q0 := hb1.cell 0; have q1 := hb1.cell 1; have f0 := hb1.frozen 0; have f1 := hb1.frozen 1; have ql := hb1.lt
    have HRS := Lib.hid (set2_blk hb1 (.slice T' tn' tc') (.slice L' ln' lc'))
    have HSV := Lib.hid (StoV.set2 (w := w) (hsv.below hka) hb1 HK0.out.size)
    have HBS := Lib.hid hbd; have HDN := Lib.hid hdn
    clear hres hsv hbd hdn k hka hk hb1
    go_wp2
    have k0 := HRS.out.blk.cell 0; have k1 := HRS.out.blk.cell 1
    simp at k0 k1
    refine bodyPost_ret (v := .tuple #[.agg #[.slice T' tn' tc', .slice L' ln' lc'], .int .i64 E]) (by simp [results, Tryz.results18, go_sem, k0, k1]) rfl ⟨E, _, _, _, _, _, _, s', rfl, HSV.out, HBS.out, HDN.out, HRS.out.below HF.out (by omega)⟩
theorem StoV.atX {W : World} {base tn tc ln lc : Nat} {T L : Option Addr} {s : Sto} (h : StoV W base (.agg #[.slice T tn tc, .slice L ln lc]) s) (hb : StoBd s) : StoAt W T tn L ln s ∧ tn ≤ tc ∧ ln ≤ lc := by
  obtain ⟨T', tn', tc', L', ln', lc', e, h1, h2, h3⟩ := h.at_ hb
  simp at e
  obtain ⟨⟨rfl, rfl, rfl⟩, rfl, rfl, rfl⟩ := e
  exact ⟨h1, h2, h3⟩
/-- What a store under way has of the one at the beginning. -/
structure Good (s now : Sto) : Prop where
  ok : StoOk now
  bd : StoBd now
  len : s.log.length ≤ now.log.length
  back : ∀ m, m ≤ s.log.length → backS now m = backS s m
theorem Good.refl {s : Sto} (h : StoOk s) (hb : StoBd s) : Good s s := ⟨h, hb, Nat.le_refl _, fun _ _ => rfl⟩
theorem Good.step {s now s' : Sto} (h : Good s now) (hd : DoneP now s') : Good s s' := ⟨hd.ok, hd.bd, by rw [hd.len]; have := h.len; omega, fun m hm => (hd.back m (Nat.le_trans hm h.len)).trans (h.back m hm)⟩
theorem Good.start {s now : Sto} (h : Good s now) : backE now s.log.length = 0 ∧ backT now s.log.length = s := by
  have h1 := backE_in h.ok (m := s.log.length) (by omega) (by have := h.len; omega)
  refine ⟨h1, ?_⟩
  rw [backT_in h1, Int.toNat_natCast, h.back _ (Nat.le_refl _)]
  exact backS_all s
theorem DoneP.prev {s s' : Sto} (h : DoneP s s') : backE s' s.log.length = 0 ∧ (backT s' s.log.length).log.length = s.log.length := by
  have h1 := backE_in h.ok (m := s.log.length) (by omega) (by have := h.len; omega)
  refine ⟨h1, ?_⟩
  rw [backT_in h1, Int.toNat_natCast]
  show (s'.log.take s.log.length).length = _
  rw [List.length_take, h.len]; omega
theorem Good.mark {s now : Sto} (h : Good s now) {m : Int} (hm : backE s m = 0) : backE now m = 0 ∧ backT now m = backT s m := by
  obtain ⟨_, h1, h2⟩ := backE_ok hm
  have h3 := backE_in h.ok h1 (by have := h.len; omega)
  refine ⟨h3, ?_⟩
  rw [backT_in h3, backT_in hm, h.back _ (by omega)]
end Go.Proofs.YtbdkedjgfihamaaGreatDoor

namespace Go.Proofs.YtbdkedjgfihamaaGreatDoor
open Go.RowKit Pv Go.Maps
set_option maxHeartbeats 8000000 in
set_option maxRecDepth 100000 in
theorem law_UndoBack (B : Nat) (T L VA PA RA : Option Addr) (tn tc ln lc vn vc pn pc rn rc : Nat) (s : Sto) (vs ps : List Int) (rs : List Rec) (mark : Int) (w : World) (h : StoAt w T tn L ln s) (htc : tn ≤ tc) (hlc : ln ≤ lc) (hva : At w VA RK8 vs) (HVL : Hid (vs.length = vn)) (hpa : At w PA RI ps) (HPL : Hid (ps.length = pn)) (hra : AtRec w RA rs) (HRL : Hid (rs.length = rn)) (hT : TabS B w) (hB : B ≤ w.heap.size) :
    Calls Tryz.prog 4 #[.agg #[.slice T tn tc, .slice L ln lc], .slice VA vn vc, .slice PA pn pc, .slice RA rn rc, .int .i64 mark] w fun e w' => e = .returned (.bool true) ∧ Below w.heap.size w w' := by
  have k0 : Below w.heap.size w (w.alloc (.cells #[.slice T tn tc, .slice L ln lc] TSto)) := (Below.refl _ _).alloc (Nat.le_refl _) _
  have HB0 := Lib.hid (Blk.new w TSto #[.slice T tn tc, .slice L ln lc])
  have HT := Lib.hid hT
  have hvl : vn ≤ 140737488355328 := by have := hva.1; rwa [HVL.out] at this
  have hpl : pn ≤ 140737488355328 := by have := hpa.1; rwa [HPL.out] at this
  have hrl : rn ≤ 140737488355328 := by have := hra.1; rwa [HRL.out] at this
  have HAL := Lib.hid (law_alive B _ (hT.next (k0.mono hB)) (Nat.le_trans hB k0.size))
  have HH := Lib.hid (h.keep (Keep.of k0))
  have HVA := Lib.hid hva; have HPA := Lib.hid hpa; have HRA := Lib.hid hra
  have HK0 := Lib.hid k0
  obtain ⟨g, hg⟩ : ∃ g, greatS s = g := ⟨_, rfl⟩
  have HGG := Lib.hid hg
  clear hT h k0 hg hva hpa hra
  go_enter Tryz.func4, Tryz.ntmps4
  go_wp2_with fail
  refine HAL.out.mono ?_
  rintro e w1 ⟨rfl, k⟩
  have HG := Lib.hid (ref28_Great T L tn tc ln lc s w1 (HH.out.keep (Keep.of k)))
  rw [HGG.out] at HG
  have HB1 := Lib.hid (HB0.out.below k HB0.out.lt); have HH1 := Lib.hid (HH.out.keep (Keep.of k)); have HK1 := Lib.hid (HK0.out.trans (k.mono HK0.out.size))
  have b0 := HB1.out.cell 0; have b1 := HB1.out.cell 1; have bl := HB1.out.lt
  clear k
  go_wp2_with fail
  refine HG.out.mono ?_
  rintro e w2 ⟨rfl, k⟩
  have HB2 := Lib.hid (HB1.out.below k HB1.out.lt); have HH2 := Lib.hid (HH1.out.keep (Keep.of k)); have HK2 := Lib.hid (HK1.out.trans (k.mono HK1.out.size))
  clear b0 b1 bl k
  have b0 := HB2.out.cell 0; have b1 := HB2.out.cell 1; have bl := HB2.out.lt
  cases g
  case true =>
    go_wp2
    go_ret
    exact ⟨rfl, HK2.out⟩
  have HBD := Lib.hid (greatS_f HGG.out)
  by_cases h8 : (8 : Int) < (vn : Int)
  · go_wp2
    go_ret
    exact ⟨rfl, HK2.out⟩
  by_cases hpv : (pn : Int) < (vn : Int)
  · go_wp2
    go_ret
    exact ⟨rfl, HK2.out⟩
  by_cases hrv : (rn : Int) < (vn : Int)
  · go_wp2
    go_ret
    exact ⟨rfl, HK2.out⟩
  have d8 : decide ((8 : Int) < (vn : Int)) = false := by simpa using h8
  have dp : decide (pn < vn) = false := by simp; omega
  have dr : decide (rn < vn) = false := by simp; omega
  have HQ8 := Lib.hid (show vn ≤ 8 ∧ vn ≤ pn ∧ vn ≤ rn by omega)
  clear h8 hpv hrv
  have HCK := Lib.hid (undo_Check B T L tn tc ln lc s _ HH2.out HBD.out (HT.out.next (HK2.out.mono hB)) (Nat.le_trans hB HK2.out.size))
  by_cases hok : StoOk s
  case neg =>
    rw [stoE_no hok] at HCK
    clear hok
    go_wp2_with fail
    refine HCK.out.mono ?_
    rintro e w3 ⟨rfl, k⟩
    have HK3 := Lib.hid (HK2.out.trans (k.mono HK2.out.size))
    clear k
    go_wp2
    go_ret
    exact ⟨rfl, HK3.out⟩
  rw [stoE_yes hok] at HCK
  have HOK := Lib.hid hok
  clear hok
  go_wp2_with fail
  refine HCK.out.mono ?_
  rintro e w3 ⟨rfl, k⟩
  have HB3 := Lib.hid (HB2.out.below k HB2.out.lt); have HH3 := Lib.hid (HH2.out.keep (Keep.of k)); have HK3 := Lib.hid (HK2.out.trans (k.mono HK2.out.size))
  clear b0 b1 bl k
  have b0 := HB3.out.cell 0; have b1 := HB3.out.cell 1; have bl := HB3.out.lt
  have hka : Below w3.heap.size w3 (w3.alloc (.cells #[.slice T tn tc, .slice L ln lc] TSto)) := (Below.refl _ _).alloc (Nat.le_refl _) _
  have HKA := Lib.hid hka
  have HST := Lib.hid (show StoAt (w3.alloc (.cells #[.slice T tn tc, .slice L ln lc] TSto)) T tn L ln s ∧ tn ≤ tc ∧ ln ≤ lc from ⟨HH3.out.keep (Keep.of hka), htc, hlc⟩)
  have HGD := Lib.hid (Good.refl HOK.out HBD.out)
  have HBN := Lib.hid (Blk.new w3 TSto #[.slice T tn tc, .slice L ln lc])
  clear hka
  go_wp2
  clear b0 b1 bl
  go_loopw [13] (fun i W => ∃ (q : Nat) (Tn : Option Addr) (tnn tcn : Nat) (Ln : Option Addr) (lnn lcn : Nat) (now : Sto), i = .int .i64 q ∧ q ≤ vn ∧ Hid (Below w3.heap.size w3 W) ∧ Hid (Blk W w3.heap.size TSto #[.slice Tn tnn tcn, .slice Ln lnn lcn]) ∧ Hid (StoAt W Tn tnn Ln lnn now ∧ tnn ≤ tcn ∧ lnn ≤ lcn) ∧ Hid (Good s now)) (fun i _ => vn - (intOf i).toNat)
  case atStart => exact ⟨0, T, tn, tc, L, ln, lc, s, rfl, by omega, HKA, HBN, HST, HGD⟩
  case round =>
    obtain ⟨q, Tn, tnn, tcn, Ln, lnn, lcn, now, rfl, hq, HBE, HBW, HSN, HGN⟩ := hrel
    have HKW := Lib.hid (HK3.out.trans (HBE.out.mono HK3.out.size))
    have hbs := HB3.out.below HBE.out HB3.out.lt
    have HBS := Lib.hid hbs
    have b0 := hbs.cell 0; have b1 := hbs.cell 1; have bl := hbs.lt
    have n0 := HBW.out.cell 0; have n1 := HBW.out.cell 1; have nl := HBW.out.lt
    have i1 : (0 : Int) ≤ (q : Int) := by omega
    have hlnb : lnn ≤ 64 := by have := HGN.out.ok.few; rw [HSN.out.1.ln.out] at this; exact this
    have hlnc : ln ≤ 64 := by have := HOK.out.few; rw [HH.out.ln.out] at this; exact this
    clear hbs
    by_cases hlt : q < vn
    · have hqr : q < rn := by have := HQ8.out; omega
      have hqp : q < pn := by have := HQ8.out; omega
      obtain ⟨br, or', r, D, m, c, hA1, lbr, r0, r1, hri, hD, HDL, hmc, HX⟩ := AtRec.g2 (AtRec.keep HRA.out (Keep.of HKW.out)) HRL hqr
      obtain ⟨ba, oa, ua, vb, hA2, lba, a0, hua, _⟩ := At.gt (At.keep HVA.out (Keep.of HKW.out)) HVL hlt
      obtain ⟨bp, op, up, vp, hA3, lbp, p0, hup, _⟩ := At.gt (At.keep HPA.out (Keep.of HKW.out)) HPL hqp
      obtain ⟨rfl, hvb⟩ := hua
      obtain ⟨rfl, _⟩ := hup
      have HA1 := Lib.hid hA1; have HA2 := Lib.hid hA2; have HA3 := Lib.hid hA3
      subst hA1; subst hA2; subst hA3
      have HD := Lib.hid hD
      have i2 : (q : Int) < (vn : Int) := by omega
      have i3 : (q : Int) < (rn : Int) := by omega
      have i4 : (q : Int) < (pn : Int) := by omega
      obtain ⟨g2, hg2⟩ : ∃ g, greatR r = g := ⟨_, rfl⟩
      have HG2 := Lib.hid hg2
      have HGR := Lib.hid (ref27_GreatRecord D m c r wr hD HDL)
      rw [hg2] at HGR
      clear hD hg2
      go_wp2_with fail
      refine HGR.out.mono ?_
      rintro e w5 ⟨rfl, k⟩
      have HK5 := Lib.hid (HKW.out.trans (k.mono HKW.out.size))
      cases g2
      case true =>
        clear k
        go_wp2
        go_ret
        exact ⟨rfl, HK5.out⟩
      have HBE5 := Lib.hid (HBE.out.trans (k.mono HBE.out.size))
      have HBW5 := Lib.hid (HBW.out.below k HBW.out.lt); have HBS5 := Lib.hid (HBS.out.below k HBS.out.lt)
      have HSN5 := Lib.hid (show StoAt w5 Tn tnn Ln lnn now ∧ tnn ≤ tcn ∧ lnn ≤ lcn from ⟨HSN.out.1.keep (Keep.of k), HSN.out.2⟩)
      have HD5 := Lib.hid (AtK.keep (R := RCel) HD.out (Keep.of k))
      have r0 := (k.cell (p := ⟨br, or' + q * 2, none⟩) lbr).trans r0; have r1 := (k.cell (p := ⟨br, or' + q * 2 + 1, none⟩) lbr).trans r1
      have a0 := (k.cell (p := ⟨ba, oa + q, none⟩) lba).trans a0; have p0 := (k.cell (p := ⟨bp, op + q, none⟩) lbp).trans p0
      have lbr := Nat.lt_of_lt_of_le lbr k.size; have lba := Nat.lt_of_lt_of_le lba k.size; have lbp := Nat.lt_of_lt_of_le lbp k.size
      clear k b0 b1 bl n0 n1 nl
      have n0 := HBW5.out.cell 0; have n1 := HBW5.out.cell 1; have nl := HBW5.out.lt
      obtain ⟨gr1, gr2, gr3⟩ := greatR_f HG2.out
      have HDO := Lib.hid (fun W (k : Below w5.heap.size w5 W) => law_do B vb vp Tn Ln tnn tcn lnn lcn now D c m r W hvb (HSN5.out.1.keep (Keep.of k)) HSN5.out.2.1 HSN5.out.2.2 HGN.out.bd (AtK.keep (R := RCel) HD5.out (Keep.of k)) HDL hmc (by omega) gr1 (HT.out.next ((HK5.out.trans (k.mono HK5.out.size)).mono hB)) (Nat.le_trans hB (HK5.out.trans (k.mono HK5.out.size)).size))
      simp at n0 n1
      have HSW := Lib.hid (fun (X : World) (k : Below w5.heap.size w5 X) => (show (fun Q => (Q.cell? ⟨w3.heap.size, 0, none⟩ = some (.slice Tn tnn tcn) ∧ Q.cell? ⟨w3.heap.size, 1, none⟩ = some (.slice Ln lnn lcn) ∧ Q.cell? ⟨ba, oa + q, none⟩ = some (.int .u8 vb) ∧ Q.cell? ⟨bp, op + q, none⟩ = some (.int .i64 vp) ∧ Q.cell? ⟨br, or' + q * 2, none⟩ = some (.string r.id) ∧ Q.cell? ⟨br, or' + q * 2 + 1, none⟩ = some (.slice D m c))) X from ⟨(k.cell (p := ⟨w3.heap.size, 0, none⟩) nl).trans n0, (k.cell (p := ⟨w3.heap.size, 1, none⟩) nl).trans n1, (k.cell (p := ⟨ba, oa + q, none⟩) lba).trans a0, (k.cell (p := ⟨bp, op + q, none⟩) lbp).trans p0, (k.cell (p := ⟨br, or' + q * 2, none⟩) lbr).trans r0, (k.cell (p := ⟨br, or' + q * 2 + 1, none⟩) lbr).trans r1⟩))
      have HSA := Lib.hid (HSW.out w5.drew (below_drewN (Below.refl _ _) 1))
      have HCA := Lib.hid (HDO.out w5.drew (below_drewN (Below.refl _ _) 1))
      have HKB : Hid (∀ o, Below w5.heap.size w5 (w5.alloc o).drew) := Lib.hid fun o => below_drewN ((Below.refl _ _).alloc (Nat.le_refl _) o) 1
      have HCB := Lib.hid (fun o => HDO.out (w5.alloc o).drew (HKB.out o))
      have HSB := Lib.hid (fun o => HSW.out (w5.alloc o).drew (HKB.out o))
      clear n0 n1 nl a0 p0 r0 r1 gr1 gr2 gr3 HDO
      go_upto_region 10 with fail
      go_cut [14, 15] (fun p14 e15 wx => ∃ (bx : Nat) (E : Int) (T' : Option Addr) (tn' tc' : Nat) (L' : Option Addr) (ln' lc' : Nat) (s' : Sto), p14 = .pointer (some ⟨bx, 0, none⟩) ∧ e15 = .int .i64 E ∧ Hid (Blk wx bx TSto #[.slice T' tn' tc', .slice L' ln' lc']) ∧ Hid (StoV wx w5.heap.size (.agg #[.slice T' tn' tc', .slice L' ln' lc']) s') ∧ Hid (StoBd s') ∧ Hid (E = 0 → DoneP now s') ∧ Hid (Below w5.heap.size w5 wx) ∧ w5.heap.size ≤ bx)
      case first =>
        refine wp_region_T 18 (fun Q => (Q.cell? ⟨w3.heap.size, 0, none⟩ = some (.slice Tn tnn tcn) ∧ Q.cell? ⟨w3.heap.size, 1, none⟩ = some (.slice Ln lnn lcn) ∧ Q.cell? ⟨ba, oa + q, none⟩ = some (.int .u8 vb) ∧ Q.cell? ⟨bp, op + q, none⟩ = some (.int .i64 vp) ∧ Q.cell? ⟨br, or' + q * 2, none⟩ = some (.string r.id) ∧ Q.cell? ⟨br, or' + q * 2 + 1, none⟩ = some (.slice D m c))) (by kernel_rfl) ?_
        refine wpAnyT_take (i := 0) (v := ?_) rfl (by kernel_rfl) (by kernel_rfl) (by kernel_rfl) (by kernel_rfl) (by kernel_rfl) (fun _ _ _ h => h) (.inl ⟨rfl, ?_⟩) HSA.out ?_
        rotate_left
        · intro W__ hW__
          obtain ⟨z1, z2, z3, z4, z5, z6⟩ := hW__
          go_simp
          (try with_reducible rfl)
        try simp only [Act.put]
        refine wpAnyT_take (i := 1) (v := ?_) rfl (by kernel_rfl) (by kernel_rfl) (by kernel_rfl) (by kernel_rfl) (by kernel_rfl) (fun _ _ _ h => h) (.inl ⟨rfl, ?_⟩) HSA.out ?_
        rotate_left
        · intro W__ hW__
          obtain ⟨z1, z2, z3, z4, z5, z6⟩ := hW__
          go_simp
          (try with_reducible rfl)
        try simp only [Act.put]
        refine wpAnyT_take (i := 2) (v := ?_) rfl (by kernel_rfl) (by kernel_rfl) (by kernel_rfl) (by kernel_rfl) (by kernel_rfl) (fun _ _ _ h => h) (.inl ⟨rfl, ?_⟩) HSA.out ?_
        rotate_left
        · intro W__ hW__
          obtain ⟨z1, z2, z3, z4, z5, z6⟩ := hW__
          go_simp
          (try with_reducible rfl)
        try simp only [Act.put]
        refine wpAnyT_take (i := 3) (v := ?_) rfl (by kernel_rfl) (by kernel_rfl) (by kernel_rfl) (by kernel_rfl) (by kernel_rfl) (fun _ _ _ h => h) (.inl ⟨rfl, ?_⟩) HSA.out ?_
        rotate_left
        · intro W__ hW__
          obtain ⟨z1, z2, z3, z4, z5, z6⟩ := hW__
          go_simp
          (try with_reducible rfl)
        try simp only [Act.put]
        refine wpAnyT_take (i := 4) (v := ?_) rfl (by kernel_rfl) (by kernel_rfl) (by kernel_rfl) (by kernel_rfl) (by kernel_rfl) (fun _ _ _ h => h) (.inl ⟨rfl, ?_⟩) HSA.out ?_
        rotate_left
        · intro W__ hW__
          obtain ⟨z1, z2, z3, z4, z5, z6⟩ := hW__
          go_simp
          (try with_reducible rfl)
        try simp only [Act.put]
        refine wpAnyT_take (i := 5) (v := ?_) rfl (by kernel_rfl) (by kernel_rfl) (by kernel_rfl) (by kernel_rfl) (by kernel_rfl) (fun _ _ _ h => h) (.inl ⟨rfl, ?_⟩) HSA.out ?_
        rotate_left
        · intro W__ hW__
          obtain ⟨z1, z2, z3, z4, z5, z6⟩ := hW__
          go_simp
          (try with_reducible rfl)
        try simp only [Act.put]
        refine wpAnyT_take (i := 6) (v := ?_) rfl (by kernel_rfl) (by kernel_rfl) (by kernel_rfl) (by kernel_rfl) (by kernel_rfl) (fun _ _ _ h => h) (.inl ⟨rfl, ?_⟩) HSA.out ?_
        rotate_left
        · intro W__ hW__
          obtain ⟨z1, z2, z3, z4, z5, z6⟩ := hW__
          go_simp
          (try with_reducible rfl)
        try simp only [Act.put]
        refine wpAnyT_take (i := 7) (v := ?_) rfl (by kernel_rfl) (by kernel_rfl) (by kernel_rfl) (by kernel_rfl) (by kernel_rfl) (fun _ _ _ h => h) (.inl ⟨rfl, ?_⟩) HSA.out ?_
        rotate_left
        · intro W__ hW__
          obtain ⟨z1, z2, z3, z4, z5, z6⟩ := hW__
          go_simp
          (try with_reducible rfl)
        try simp only [Act.put]
        refine wpAnyT_take (i := 8) (v := ?_) rfl (by kernel_rfl) (by kernel_rfl) (by kernel_rfl) (by kernel_rfl) (by kernel_rfl) (fun _ _ _ h => h) (.inl ⟨rfl, ?_⟩) HSA.out ?_
        rotate_left
        · intro W__ hW__
          obtain ⟨z1, z2, z3, z4, z5, z6⟩ := hW__
          go_simp
          (try with_reducible rfl)
        try simp only [Act.put]
        refine wpAnyT_take (i := 9) (v := ?_) rfl (by kernel_rfl) (by kernel_rfl) (by kernel_rfl) (by kernel_rfl) (by kernel_rfl) (fun _ _ _ h => h) (.inl ⟨rfl, ?_⟩) HSA.out ?_
        rotate_left
        · intro W__ hW__
          obtain ⟨z1, z2, z3, z4, z5, z6⟩ := hW__
          go_simp
          (try with_reducible rfl)
        try simp only [Act.put]
        refine wpAnyT_take (i := 10) (v := ?_) rfl (by kernel_rfl) (by kernel_rfl) (by kernel_rfl) (by kernel_rfl) (by kernel_rfl) (fun _ _ _ h => h) (.inl ⟨rfl, ?_⟩) HSA.out ?_
        rotate_left
        · intro W__ hW__
          obtain ⟨z1, z2, z3, z4, z5, z6⟩ := hW__
          go_simp
          (try with_reducible rfl)
        try simp only [Act.put]
        refine wpAnyT_take (i := 11) (v := ?_) rfl (by kernel_rfl) (by kernel_rfl) (by kernel_rfl) (by kernel_rfl) (by kernel_rfl) (fun _ _ _ h => h) (.inl ⟨rfl, ?_⟩) HSA.out ?_
        rotate_left
        · intro W__ hW__
          obtain ⟨z1, z2, z3, z4, z5, z6⟩ := hW__
          go_simp
          (try with_reducible rfl)
        try simp only [Act.put]
        refine wpAnyT_take (i := 12) (v := ?_) rfl (by kernel_rfl) (by kernel_rfl) (by kernel_rfl) (by kernel_rfl) (by kernel_rfl) (fun _ _ _ h => h) (.inl ⟨rfl, ?_⟩) HSA.out ?_
        rotate_left
        · intro W__ hW__
          obtain ⟨z1, z2, z3, z4, z5, z6⟩ := hW__
          go_simp
          (try with_reducible rfl)
        try simp only [Act.put]
        refine wpAnyT_two (i := 13) (j := 17) rfl rfl (by kernel_rfl) rfl rfl (fun K__ hK__ => ?_) (fun K__ hK__ => ?_)
        · unfold Oper.wp
          go_simp
          refine HCA.out.mono ?_
          rintro e w6 ⟨E, T', tn', tc', L', ln', lc', s', rfl, hsv, hbd, hdn, k⟩
          have hk6 : Below w5.heap.size w5 w6 := (below_drewN (Below.refl w5.heap.size w5) 1).trans k
          have HK6 := Lib.hid hk6; have HSV := Lib.hid hsv; have HBS6 := Lib.hid hbd; have HDN := Lib.hid hdn
          have HSC := Lib.hid (HSW.out w6 hk6)
          have HSD := Lib.hid (fun o => HSW.out (w6.alloc o) (hk6.alloc hk6.size o))
          clear hsv hbd hdn k hk6
          refine hK__ _ _ HSC.out ?_
          clear hK__
          try simp only [Act.put, List.setIfInBounds_toArray, List.set_cons_zero, List.set_cons_succ]
          refine wpAnyT_takeW (i := 14) (v := ?_) rfl (by decide) (by kernel_rfl) (by kernel_rfl) (by kernel_rfl) (fun _ _ _ h => h) (.inl ⟨rfl, ?_⟩) (fun _ => HSC.out) ?_
          rotate_left
          · intro W__ _
            go_simp
            (try with_reducible rfl)
          try simp only [Act.put]
          refine wpAnyT_takeW (i := 15) (v := ?_) rfl (by decide) (by kernel_rfl) (by kernel_rfl) (by kernel_rfl) (fun _ _ _ h => h) (.inl ⟨rfl, ?_⟩) (fun _ => HSC.out) ?_
          rotate_left
          · intro W__ _
            go_simp
            (try with_reducible rfl)
          try simp only [Act.put]
          refine wpAnyT_takeW (i := 16) (v := ?_) rfl (by decide) (by kernel_rfl) (by kernel_rfl) (by kernel_rfl) (fun _ _ _ h => h) (.inl ⟨rfl, ?_⟩) (fun _ => HSC.out) ?_
          rotate_left
          · intro W__ _
            go_simp
            (try with_reducible rfl)
          try simp only [Act.put]
          refine wpAnyT_one (i := 17) rfl (by kernel_rfl) rfl fun K__ hK__ => ?_
          unfold Oper.wp
          go_simp
          refine hK__ _ _ (HSD.out _) ?_
          clear hK__
          try simp only [Act.put, List.setIfInBounds_toArray, List.set_cons_zero, List.set_cons_succ]
          refine wpAnyT_end (i := 18) rfl (by kernel_rfl) rfl (by kernel_rfl) fun K__ hK__ => ?_
          unfold Oper.wp
          go_simp
          refine hK__ _ _ ?_
          clear hK__
          try simp only [Act.put, List.setIfInBounds_toArray, List.set_cons_zero, List.set_cons_succ]
          refine wpAnyT_end (i := 19) rfl (by kernel_rfl) rfl (by kernel_rfl) fun K__ hK__ => ?_
          unfold Oper.wp
          go_simp
          refine hK__ _ _ ?_
          clear hK__
          refine wpAnyT_done (by kernel_rfl) ?_ _
          go_wp2
          go_meet
          exact ⟨_, E, T', tn', tc', L', ln', lc', s', rfl, rfl, Lib.hid (Blk.new w6 TSto _), Lib.hid (HSV.out.below ((Below.refl _ _).alloc (Nat.le_refl _) _)), HBS6, HDN, Lib.hid (HK6.out.alloc HK6.out.size _), HK6.out.size⟩
        · unfold Oper.wp
          go_simp
          refine hK__ _ _ (HSB.out _) ?_
          clear hK__
          try simp only [Act.put, List.setIfInBounds_toArray, List.set_cons_zero, List.set_cons_succ]
          refine wpAnyT_one (i := 13) rfl (by kernel_rfl) rfl fun K__ hK__ => ?_
          unfold Oper.wp
          go_simp
          refine (HCB.out _).mono ?_
          rintro e w6 ⟨E, T', tn', tc', L', ln', lc', s', rfl, hsv, hbd, hdn, k⟩
          have hk6 : Below w5.heap.size w5 w6 := (HKB.out _).trans (k.mono (HKB.out _).size)
          have hbz := Blk.below (blk_drew (Blk.new w5 TSto #[.slice none 0 0, .slice none 0 0])) k (Blk.new w5 TSto #[.slice none 0 0, .slice none 0 0]).lt
          have HBZ := Lib.hid hbz
          have z0' := hbz.cell 0; have z1' := hbz.cell 1; have y0 := hbz.frozen 0; have y1 := hbz.frozen 1; have yl := hbz.lt
          have HK6 := Lib.hid hk6; have HSV := Lib.hid hsv; have HBS6 := Lib.hid hbd; have HDN := Lib.hid hdn
          have HSC := Lib.hid (HSW.out w6 hk6)
          clear hsv hbd hdn k hk6 hbz
          refine hK__ _ _ HSC.out ?_
          clear hK__
          try simp only [Act.put, List.setIfInBounds_toArray, List.set_cons_zero, List.set_cons_succ]
          refine wpAnyT_takeW (i := 14) (v := ?_) rfl (by decide) (by kernel_rfl) (by kernel_rfl) (by kernel_rfl) (fun _ _ _ h => h) (.inl ⟨rfl, ?_⟩) (fun _ => HSC.out) ?_
          rotate_left
          · intro W__ _
            go_simp
            (try with_reducible rfl)
          try simp only [Act.put]
          refine wpAnyT_takeW (i := 15) (v := ?_) rfl (by decide) (by kernel_rfl) (by kernel_rfl) (by kernel_rfl) (fun _ _ _ h => h) (.inl ⟨rfl, ?_⟩) (fun _ => HSC.out) ?_
          rotate_left
          · intro W__ _
            go_simp
            (try with_reducible rfl)
          try simp only [Act.put]
          refine wpAnyT_takeW (i := 16) (v := ?_) rfl (by decide) (by kernel_rfl) (by kernel_rfl) (by kernel_rfl) (fun _ _ _ h => h) (.inl ⟨rfl, ?_⟩) (fun _ => HSC.out) ?_
          rotate_left
          · intro W__ _
            go_simp
            (try with_reducible rfl)
          try simp only [Act.put]
          refine wpAnyT_end (i := 18) rfl (by kernel_rfl) rfl (by kernel_rfl) fun K__ hK__ => ?_
          unfold Oper.wp
          go_simp
          refine hK__ _ _ ?_
          clear hK__
          try simp only [Act.put, List.setIfInBounds_toArray, List.set_cons_zero, List.set_cons_succ]
          refine wpAnyT_end (i := 19) rfl (by kernel_rfl) rfl (by kernel_rfl) fun K__ hK__ => ?_
          unfold Oper.wp
          go_simp
          refine hK__ _ _ ?_
          clear hK__
          refine wpAnyT_done (by kernel_rfl) ?_ _
          go_wp2
          go_meet
          have HRS := set2_blk HBZ.out (.slice T' tn' tc') (.slice L' ln' lc')
          exact ⟨_, E, T', tn', tc', L', ln', lc', s', rfl, rfl, Lib.hid HRS.blk, Lib.hid (StoV.set2 (w := w5) HSV.out HBZ.out (HKB.out _).size), HBS6, HDN, Lib.hid (HRS.below HK6.out (Nat.le_refl _)), Nat.le_refl _⟩
      case rest =>
        obtain ⟨bx, E, T', tn', tc', L', ln', lc', s', rfl, rfl, HX14, HSV, HBS6, HDN, HKX, hbx⟩ := hcut
        have HBE6 := Lib.hid (HBE5.out.trans (HKX.out.mono HBE5.out.size)); have HK6 := Lib.hid (HK5.out.trans (HKX.out.mono HK5.out.size))
        have HBW6 := Lib.hid (HBW5.out.below HKX.out HBW5.out.lt)
        by_cases hE : E = 0
        case neg =>
          have t1 : (E != 0) = true := by simpa using hE
          have HSN6 := Lib.hid (show StoAt wc Tn tnn Ln lnn now ∧ tnn ≤ tcn ∧ lnn ≤ lcn from ⟨HSN5.out.1.keep (Keep.of HKX.out), HSN5.out.2⟩)
          clear hE
          go_wp2
          go_roundw
          case rel => exact ⟨q + 1, Tn, tnn, tcn, Ln, lnn, lcn, now, by go_num, by omega, HBE6, HBW6, HSN6, HGN⟩
          case measure => simp [intOf]; omega
        subst hE
        have hdp := HDN.out rfl
        have HDP := Lib.hid hdp
        obtain ⟨sx1, sx2, sx3⟩ := HSV.out.atX HBS6.out
        obtain rfl : ln' = lnn + 1 := by
          have e1 := sx1.ln.out; have e2 := HSN5.out.1.ln.out; have e3 := hdp.len
          omega
        have HSX := Lib.hid sx1
        have n0 := HBW6.out.cell 0; have n1 := HBW6.out.cell 1; have nl := HBW6.out.lt; have nf0 := HBW6.out.frozen 0; have nf1 := HBW6.out.frozen 1
        have x0 := HX14.out.cell 0; have x1 := HX14.out.cell 1; have xl := HX14.out.lt
        have HCX := Lib.hid (undo_Check B T' L' tn' tc' (lnn + 1) lc' s' wc sx1 HBS6.out (HT.out.next (HK6.out.mono hB)) (Nat.le_trans hB HK6.out.size))
        rw [stoE_yes hdp.ok] at HCX
        clear hdp sx1
        go_wp2_with fail
        refine HCX.out.mono ?_
        rintro e w7 ⟨rfl, k⟩
        have HBE7 := Lib.hid (HBE6.out.trans (k.mono HBE6.out.size)); have HK7 := Lib.hid (HK6.out.trans (k.mono HK6.out.size))
        have HBW7 := Lib.hid (HBW6.out.below k HBW6.out.lt); have HX7 := Lib.hid (HX14.out.below k HX14.out.lt); have HSV7 := Lib.hid (HSV.out.below k)
        clear n0 n1 nl nf0 nf1 x0 x1 xl k
        have n0 := HBW7.out.cell 0; have n1 := HBW7.out.cell 1; have nl := HBW7.out.lt; have nf0 := HBW7.out.frozen 0; have nf1 := HBW7.out.frozen 1
        have x0 := HX7.out.cell 0; have x1 := HX7.out.cell 1; have xl := HX7.out.lt
        have hrs := set2_blk HBW7.out (.slice T' tn' tc') (.slice L' (lnn + 1) lc')
        have hs8 := StoV.set2 (w := w5) HSV7.out HBW7.out (Nat.le_refl _)
        have HBE8 := Lib.hid (hrs.below HBE7.out (Nat.le_refl _))
        have HBN8 := Lib.hid hrs.blk
        have HSX8 := Lib.hid (hs8.atX HBS6.out)
        have HK8 := Lib.hid (HK3.out.trans (HBE8.out.mono HK3.out.size))
        have HBS8 := Lib.hid (HB3.out.below HBE8.out HB3.out.lt)
        have HST8 := Lib.hid (HH3.out.keep (Keep.of HBE8.out))
        have HGS := Lib.hid (HGN.out.step HDP.out)
        have m0 := HBN8.out.cell 0; have m1 := HBN8.out.cell 1; have ml := HBN8.out.lt
        have s0 := HBS8.out.cell 0; have s1 := HBS8.out.cell 1; have sl := HBS8.out.lt
        obtain ⟨p1, p2⟩ := HDP.out.prev
        rw [HSN5.out.1.ln.out] at p1 p2
        have HP2 := Lib.hid p2
        have HC := Lib.hid (undo_BackT B T' L' tn' tc' (lnn + 1) lc' s' (lnn : Int) _ HSX8.out.1 HBS6.out (HT.out.next (HK8.out.mono hB)) (Nat.le_trans hB HK8.out.size))
        rw [p1] at HC
        clear hrs hs8 p1 p2
        go_wp2_with fail
        refine HC.out.mono ?_
        rintro e w9 ⟨T9, tn9, tc9, L9, ln9, lc9, rfl, y9, _, _, k⟩
        obtain rfl : ln9 = lnn := y9.ln.out.symm.trans HP2.out
        have hka : Below w9.heap.size w9 (w9.alloc (.cells #[.slice T9 tn9 tc9, .slice L9 ln9 lc9] TSto)) := (Below.refl _ _).alloc (Nat.le_refl _) _
        have hk := k.trans (hka.mono k.size)
        have HBE9 := Lib.hid (HBE8.out.trans (hk.mono HBE8.out.size)); have HK9 := Lib.hid (HK8.out.trans (hk.mono HK8.out.size))
        have HBN9 := Lib.hid (HBN8.out.below hk HBN8.out.lt); have HBS9 := Lib.hid (HBS8.out.below hk HBS8.out.lt)
        have HST9 := Lib.hid (HST8.out.keep (Keep.of hk)); have HSX9 := Lib.hid (HSX8.out.1.keep (Keep.of hk))
        have HY9 := Lib.hid (Blk.new w9 TSto #[.slice T9 tn9 tc9, .slice L9 ln9 lc9])
        clear m0 m1 ml s0 s1 sl n0 n1 nl nf0 nf1 x0 x1 xl k hka hk y9
        have m0 := HBN9.out.cell 0; have m1 := HBN9.out.cell 1; have ml := HBN9.out.lt
        have s0 := HBS9.out.cell 0; have s1 := HBS9.out.cell 1; have sl := HBS9.out.lt
        obtain ⟨p1, p2⟩ := HGS.out.start
        rw [HST9.out.ln.out] at p1 p2
        have HP3 := Lib.hid p2
        have HC := Lib.hid (undo_BackT B T' L' tn' tc' (ln9 + 1) lc' s' (ln : Int) _ HSX9.out HBS6.out (HT.out.next (HK9.out.mono hB)) (Nat.le_trans hB HK9.out.size))
        rw [p1, p2] at HC
        clear p1 p2
        go_wp2_with fail
        refine HC.out.mono ?_
        rintro e wa ⟨Ta, tna, tca, La, lna, lca, rfl, ya, _, _, k⟩
        have hka : Below wa.heap.size wa (wa.alloc (.cells #[.slice Ta tna tca, .slice La lna lca] TSto)) := (Below.refl _ _).alloc (Nat.le_refl _) _
        have hk := k.trans (hka.mono k.size)
        have HBEa := Lib.hid (HBE9.out.trans (hk.mono HBE9.out.size)); have HKa := Lib.hid (HK9.out.trans (hk.mono HK9.out.size))
        have HBNa := Lib.hid (HBN9.out.below hk HBN9.out.lt); have HBSa := Lib.hid (HBS9.out.below hk HBS9.out.lt); have HYa := Lib.hid (HY9.out.below hk HY9.out.lt)
        have HSTa := Lib.hid (HST9.out.keep (Keep.of hk)); have HSXa := Lib.hid (HSX9.out.keep (Keep.of hk)); have HZa := Lib.hid (ya.keep (Keep.of hka))
        clear m0 m1 ml s0 s1 sl k hka hk ya
        have s0 := HBSa.out.cell 0; have s1 := HBSa.out.cell 1; have sl := HBSa.out.lt
        have hs := ref28_Same Ta La T L tna tca lna lca tn tc ln lc s s _ HZa.out HSTa.out
        rw [decide_eq_true rfl] at hs
        have HSS := Lib.hid hs
        clear hs
        go_wp2_with fail
        refine HSS.out.mono ?_
        rintro e wb ⟨rfl, k⟩
        have HBEb := Lib.hid (HBEa.out.trans (k.mono HBEa.out.size))
        have HBNb := Lib.hid (HBNa.out.below k HBNa.out.lt); have HYb := Lib.hid (HYa.out.below k HYa.out.lt)
        have HSXb := Lib.hid (show StoAt wb T' tn' L' (ln9 + 1) s' ∧ tn' ≤ tc' ∧ ln9 + 1 ≤ lc' from ⟨HSXa.out.keep (Keep.of k), HSX8.out.2⟩)
        clear s0 s1 sl k
        have m0 := HBNb.out.cell 0; have m1 := HBNb.out.cell 1; have ml := HBNb.out.lt
        have y0 := HYb.out.cell 0; have y1 := HYb.out.cell 1; have yl := HYb.out.lt
        go_wp2
        go_roundw
        case rel => exact ⟨q + 1, T', tn', tc', L', ln9 + 1, lc', s', by go_num, by omega, HBEb, HBNb, HSXb, HGS⟩
        case measure => simp [intOf]; omega
    · have i2 : ¬ (q : Int) < (vn : Int) := by omega
      have HSTe := Lib.hid (HH3.out.keep (Keep.of HBE.out))
      obtain ⟨e20, he20⟩ : ∃ e, backE s mark = e := ⟨_, rfl⟩
      obtain ⟨e22, he22⟩ : ∃ e, backE now mark = e := ⟨_, rfl⟩
      have HE20 := Lib.hid he20; have HE22 := Lib.hid he22
      have HC := Lib.hid (undo_BackT B T L tn tc ln lc s mark _ HSTe.out HBD.out (HT.out.next (HKW.out.mono hB)) (Nat.le_trans hB HKW.out.size))
      rw [he20] at HC
      clear he20 he22
      go_wp2_with fail
      refine HC.out.mono ?_
      rintro e w9 ⟨T9, tn9, tc9, L9, ln9, lc9, rfl, y9, _, _, k⟩
      have hka : Below w9.heap.size w9 (w9.alloc (.cells #[.slice T9 tn9 tc9, .slice L9 ln9 lc9] TSto)) := (Below.refl _ _).alloc (Nat.le_refl _) _
      have hk := k.trans (hka.mono k.size)
      have HK9 := Lib.hid (HKW.out.trans (hk.mono HKW.out.size))
      have HBN9 := Lib.hid (HBW.out.below hk HBW.out.lt)
      have HSX9 := Lib.hid (HSN.out.1.keep (Keep.of hk)); have HP9 := Lib.hid (y9.keep (Keep.of hka))
      have HY9 := Lib.hid (Blk.new w9 TSto #[.slice T9 tn9 tc9, .slice L9 ln9 lc9])
      clear b0 b1 bl n0 n1 nl k hka hk y9
      have m0 := HBN9.out.cell 0; have m1 := HBN9.out.cell 1; have ml := HBN9.out.lt
      have HC := Lib.hid (undo_BackT B Tn Ln tnn tcn lnn lcn now mark _ HSX9.out HGN.out.bd (HT.out.next (HK9.out.mono hB)) (Nat.le_trans hB HK9.out.size))
      rw [HE22.out] at HC
      go_wp2_with fail
      refine HC.out.mono ?_
      rintro e wa ⟨Ta, tna, tca, La, lna, lca, rfl, ya, _, _, k⟩
      have hka : Below wa.heap.size wa (wa.alloc (.cells #[.slice Ta tna tca, .slice La lna lca] TSto)) := (Below.refl _ _).alloc (Nat.le_refl _) _
      have hk := k.trans (hka.mono k.size)
      have HKa := Lib.hid (HK9.out.trans (hk.mono HK9.out.size))
      have HYa := Lib.hid (HY9.out.below hk HY9.out.lt)
      have HPa := Lib.hid (HP9.out.keep (Keep.of hk)); have HZa := Lib.hid (ya.keep (Keep.of hka))
      clear m0 m1 ml k hka hk ya
      have y0 := HYa.out.cell 0; have y1 := HYa.out.cell 1; have yl := HYa.out.lt
      by_cases hE : e20 = 0
      case neg =>
        have t1 : (e20 != 0) = true := by simpa using hE
        clear hE
        go_wp2
        go_ret
        exact ⟨rfl, HKa.out⟩
      subst hE
      obtain ⟨p1, p2⟩ := HGN.out.mark HE20.out
      obtain rfl : e22 = 0 := HE22.out.symm.trans p1
      have hs := ref28_Same T9 L9 Ta La tn9 tc9 ln9 lc9 tna tca lna lca (backT s mark) (backT now mark) _ HPa.out HZa.out
      rw [decide_eq_true p2.symm] at hs
      have HSS := Lib.hid hs
      clear hs p1 p2
      go_wp2_with fail
      refine HSS.out.mono ?_
      rintro e wb ⟨rfl, k⟩
      have HKb := Lib.hid (HKa.out.trans (k.mono HKa.out.size))
      clear k
      go_wp2
      go_ret
      exact ⟨rfl, HKb.out⟩
end Go.Proofs.YtbdkedjgfihamaaGreatDoor
