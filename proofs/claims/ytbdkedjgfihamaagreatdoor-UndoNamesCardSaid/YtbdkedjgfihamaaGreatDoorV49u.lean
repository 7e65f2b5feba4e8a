/- Walks: undo.each at changes; undo.Twin. PUT1 -/
import Derived.Test.YtbdkedjgfihamaaGreatDoorV47u
namespace Go.Proofs.YtbdkedjgfihamaaGreatDoor
open Go.RowKit Pv Go.Maps
abbrev OCg (w : World) (base : Nat) := OChg w base TCe
set_option maxHeartbeats 8000000 in
set_option maxRecDepth 100000 in
theorem each_chgs (A : Option Addr) (c n : Nat) (l : List Chg) (w : World) (h : AtChg w A l) (HL : Hid (l.length = n)) (hn : n ≤ 100000) (hbd : ∀ x, x ∈ l → x.was.data.length ≤ 1000000) :
    Calls Tryz.prog 62 #[.slice A n c, .func (.func 63) #[] #[]] w fun e w' => ∃ A' c', e = .returned (.slice A' n c') ∧ OwnK w' w.heap.size TCh 5 (OCg w' w.heap.size) (.slice A' n c') l ∧ Below w.heap.size w w' := by
  obtain ⟨i0, hi0, hz0, hs0, hb0⟩ := info_parts info_chg
  obtain ⟨wm, hmk, hom, hgm⟩ := run_make_own (P := Tryz.prog) (w := w) w.heap.size 23 TCh i0 _ 5 Tryz.underlying23 hi0 hz0 hs0 .i64 .i64 n (by rw [hb0]; omega) (by simp only [maxLen]; omega) (Nat.le_refl _)
  have HA := Lib.hid h; have HBD := Lib.hid hbd
  have HOM := Lib.hid hom
  have HKM := Lib.hid (below_grown0 (Below.refl w.heap.size w) hgm (Nat.le_refl _))
  clear h hbd hom hgm
  go_enter Tryz.func62, Tryz.ntmps62
  go_wp2
  go_loopw [13, 5] (fun iv lv W => ∃ (q oc : Nat) (O : Option Addr), iv = .int .i64 q ∧ lv = .slice O q oc ∧ q ≤ n ∧ Hid (OwnK W w.heap.size TCh 5 (OCg W w.heap.size) (.slice O q oc) (l.take q)) ∧ Hid (Below w.heap.size w W)) (fun iv _ _ => n - (intOf iv).toNat)
  case atStart => exact ⟨0, n, _, rfl, rfl, by omega, Lib.hid ⟨_, _, [], rfl, HOM.out, RelK.nil⟩, HKM⟩
  case round =>
    obtain ⟨q, oc, O, rfl, rfl, hq, HO, HW⟩ := hrel
    by_cases hlt : q < n
    · obtain ⟨b1, o1, x, D, m, cc, rfl, lb1, c0, c1, c2, c3, c4, ht, hid1, hid2, hD, HDL, _, HX⟩ := AtChg.g5 (AtChg.keep HA.out (Keep.of HW.out)) HL hlt
      have hm := HBD.out x (mem_of_get HX.out)
      rw [HDL.out] at hm
      have hk : Below wr.heap.size wr (wr.alloc (.cells #[.int .i64 x.table, .string x.id, .bool x.has, .string x.was.id, .slice D m cc] TCh)) := (Below.refl _ _).alloc (Nat.le_refl _) _
      have HT := Lib.hid (twin_chg x D m cc _ (AtK.keep (R := RCel) hD (Keep.of hk)) HDL hm)
      have HK := Lib.hid (HW.out.trans (hk.mono HW.out.size))
      have HO1 := Lib.hid ((OwnK.below HO.out hk).monoR fun _ _ _ ho => ho.below hk)
      have i1 : (0 : Int) ≤ (q : Int) := by omega
      have i2 : (q : Int) < (n : Int) := by omega
      clear hk hD hm
      go_wp2_with fail
      refine HT.out.mono ?_
      rintro e w5 ⟨E, k, rfl, k1, k3⟩
      have HK5 := Lib.hid (HK.out.trans (k3.mono HK.out.size))
      have hka : Below w5.heap.size w5 (w5.alloc (.cells #[.int .i64 x.table, .string x.id, .bool x.has, .string x.was.id, .slice E m k] TCh)) := (Below.refl _ _).alloc (Nat.le_refl _) _
      have HKA := Lib.hid (HK5.out.trans (hka.mono HK5.out.size))
      have HOA := Lib.hid (((OwnK.below HO1.out k3).monoR fun _ _ _ ho => ho.below k3).below hka |>.monoR fun _ _ _ ho => ho.below hka)
      have HEL : Hid (OCg (w5.alloc (.cells #[.int .i64 x.table, .string x.id, .bool x.has, .string x.was.id, .slice E m k] TCh)) w.heap.size (f5 (.int .i64 x.table) (.string x.id) (.bool x.has) (.string x.was.id) (.slice E m k)) x) := Lib.hid ⟨⟨rfl, ht⟩, ⟨rfl, hid1⟩, rfl, ⟨rfl, hid2⟩, (OwnK.lower k1 HK.out.size).below hka⟩
      have SR := Lib.hid (Pv.Src.blk (Blk.new w5 TCh #[.int .i64 x.table, .string x.id, .bool x.has, .string x.was.id, .slice E m k]) (k := 5) rfl (by simp [Value.oneCell']))
      obtain ⟨hql, us, how, hrl⟩ := HOA.out.slice
      have HOW := Lib.hid how; have HRL := Lib.hid hrl; have HQL := Lib.hid hql
      have Q1 : Hid (q + 1 ≤ maxLen) := Lib.hid (by simp only [maxLen]; omega)
      have Q2 : Hid ((q + 1) * 72 ≤ 140737488355328) := Lib.hid (by omega)
      have Q3 := HKA.out.size
      clear k1 k3 hka how hrl hql ht
      go_wp2_with (first
      | (at_builtin
         go_must (refine wpList_append_src _ rfl (.tmp 17) (.tmp 21) 23 rfl w.heap.size TCh i0 _ 5 72 Tryz.underlying23 hi0 hz0 hs0 hb0 rfl (by decide) O oc q us rfl HOW.out (some ⟨w5.heap.size, 0, none⟩) 1 1 _ rfl SR.out Q1.out Q2.out Q3 ?_)
         intro A9 c9 w9 own9 gr9 _
         have HO9 := Lib.hid own9; have HG9 := Lib.hid gr9
         have HW9 := Lib.hid (HKA.out.grown gr9 Q3 (fun g hg => (HOW.out.lt g hg).1))
         clear own9 gr9))
      go_roundw
      case rel =>
        refine ⟨q + 1, c9, A9, by go_num, rfl, by omega, Lib.hid ?_, HW9⟩
        rw [take_snoc HX.out]
        exact OwnK.snoc HQL.out HO9.out HRL.out (fun _ _ ho => ho.grown HOW.out (by decide) HG9.out) rfl (fun j hj => by match j, hj with | 0, _ => rfl | 1, _ => rfl | 2, _ => rfl | 3, _ => rfl | 4, _ => rfl) (HEL.out.grown HOW.out (by decide) HG9.out)
      case measure => simp [intOf]; omega
    · obtain rfl : q = n := by omega
      have i1 : ¬ (q : Int) < (q : Int) := by omega
      go_wp2
      go_ret
      refine ⟨O, oc, rfl, ?_, HW.out⟩
      have := HO.out
      rwa [List.take_of_length_le (by rw [HL.out]; omega)] at this
/-- A store of the call's own, as a value. -/
def StoV (W : World) (base : Nat) (v : Value) (s : Sto) : Prop := ∃ T tn tc L ln lc, v = .agg #[.slice T tn tc, .slice L ln lc] ∧ OwnK W base TTb 4 (OTb W base) (.slice T tn tc) s.tables ∧ OwnK W base TCh 5 (OCg W base) (.slice L ln lc) s.log
/-- A store handed in. -/
structure StoAt (w : World) (T : Option Addr) (tn : Nat) (L : Option Addr) (ln : Nat) (s : Sto) : Prop where
  tabs : AtTab w T s.tables
  log : AtChg w L s.log
  tn : Hid (s.tables.length = tn)
  ln : Hid (s.log.length = ln)
theorem StoAt.keep {w w' : World} {T L : Option Addr} {tn ln : Nat} {s : Sto} (h : StoAt w T tn L ln s) (k : Keep w w') : StoAt w' T tn L ln s := ⟨AtTab.keep h.tabs k, AtChg.keep h.log k, h.tn, h.ln⟩
/-- What a store's parts are at most. -/
structure StoBd (s : Sto) : Prop where
  tn : s.tables.length ≤ 100000
  ln : s.log.length ≤ 100000
  tab : ∀ t, t ∈ s.tables → TabBd t
  was : ∀ x, x ∈ s.log → x.was.data.length ≤ 100000 ∧ CelsB x.was.data
set_option maxHeartbeats 8000000 in
set_option maxRecDepth 100000 in
theorem undo_Twin (T L : Option Addr) (tn tc ln lc : Nat) (s : Sto) (w : World) (h : StoAt w T tn L ln s) (hb : StoBd s) :
    Calls Tryz.prog 32 #[.agg #[.slice T tn tc, .slice L ln lc]] w fun e w' => (∃ T' tc' L' lc', e = .returned (.agg #[.slice T' tn tc', .slice L' ln lc']) ∧ OwnK w' w.heap.size TTb 4 (OTb w' w.heap.size) (.slice T' tn tc') s.tables ∧ OwnK w' w.heap.size TCh 5 (OCg w' w.heap.size) (.slice L' ln lc') s.log) ∧ Below w.heap.size w w' := by
  have hk0 : Below w.heap.size w ((w.alloc (.cells #[.slice T tn tc, .slice L ln lc] TSto)).alloc (.cells #[.slice none 0 0, .slice none 0 0] TSto)) := ((Below.refl _ _).alloc (Nat.le_refl _) _).alloc (by simp) _
  have HB0 := Lib.hid ((Blk.new w TSto #[.slice T tn tc, .slice L ln lc]).alloc (.cells #[.slice none 0 0, .slice none 0 0] TSto))
  have HB1 := Lib.hid (blkV2 w TSto TSto #[.slice T tn tc, .slice L ln lc] #[.slice none 0 0, .slice none 0 0])
  have htn := hb.tn; have hln := hb.ln
  rw [h.tn.out] at htn; rw [h.ln.out] at hln
  have HT := Lib.hid (fun W (k : Below ((w.alloc (.cells #[.slice T tn tc, .slice L ln lc] TSto)).alloc (.cells #[.slice none 0 0, .slice none 0 0] TSto)).heap.size ((w.alloc (.cells #[.slice T tn tc, .slice L ln lc] TSto)).alloc (.cells #[.slice none 0 0, .slice none 0 0] TSto)) W) => each_tabs T tc tn s.tables W (AtTab.keep h.tabs (Keep.of (hk0.trans (k.mono hk0.size)))) h.tn htn hb.tab)
  have HC := Lib.hid (fun W (k : Below ((w.alloc (.cells #[.slice T tn tc, .slice L ln lc] TSto)).alloc (.cells #[.slice none 0 0, .slice none 0 0] TSto)).heap.size ((w.alloc (.cells #[.slice T tn tc, .slice L ln lc] TSto)).alloc (.cells #[.slice none 0 0, .slice none 0 0] TSto)) W) => each_chgs L lc ln s.log W (AtChg.keep h.log (Keep.of (hk0.trans (k.mono hk0.size)))) h.ln hln (fun x hx => by have := (hb.was x hx).1; omega))
  have HK0 := Lib.hid hk0
  have HD0 : Hid (Below ((w.alloc (.cells #[.slice T tn tc, .slice L ln lc] TSto)).alloc (.cells #[.slice none 0 0, .slice none 0 0] TSto)).heap.size ((w.alloc (.cells #[.slice T tn tc, .slice L ln lc] TSto)).alloc (.cells #[.slice none 0 0, .slice none 0 0] TSto)) ((w.alloc (.cells #[.slice T tn tc, .slice L ln lc] TSto)).alloc (.cells #[.slice none 0 0, .slice none 0 0] TSto)).drew) := Lib.hid (below_drewN (Below.refl _ _) 1)
  have HFI := Lib.hid (fun (A A' : World) (T' L' : Option Addr) (tc' lc' : Nat) (kA : Below ((w.alloc (.cells #[.slice T tn tc, .slice L ln lc] TSto)).alloc (.cells #[.slice none 0 0, .slice none 0 0] TSto)).heap.size ((w.alloc (.cells #[.slice T tn tc, .slice L ln lc] TSto)).alloc (.cells #[.slice none 0 0, .slice none 0 0] TSto)) A) (kA' : Below A.heap.size A A') (hT : OwnK A' A.heap.size TTb 4 (OTb A' A.heap.size) (.slice T' tn tc') s.tables) (hL : OwnK A ((w.alloc (.cells #[.slice T tn tc, .slice L ln lc] TSto)).alloc (.cells #[.slice none 0 0, .slice none 0 0] TSto)).heap.size TCh 5 (OCg A ((w.alloc (.cells #[.slice T tn tc, .slice L ln lc] TSto)).alloc (.cells #[.slice none 0 0, .slice none 0 0] TSto)).heap.size) (.slice L' ln lc') s.log) =>
    And.intro (show OwnK A' w.heap.size TTb 4 (OTb A' w.heap.size) (.slice T' tn tc') s.tables from (OwnK.lower hT (hk0.trans (kA.mono hk0.size)).size).monoR fun _ _ _ ho => ho.lower (hk0.trans (kA.mono hk0.size)).size) (And.intro (show OwnK A' w.heap.size TCh 5 (OCg A' w.heap.size) (.slice L' ln lc') s.log from ((OwnK.lower hL hk0.size).below kA').monoR fun _ _ _ ho => (ho.lower hk0.size).below kA') (show Below ((w.alloc (.cells #[.slice T tn tc, .slice L ln lc] TSto)).alloc (.cells #[.slice none 0 0, .slice none 0 0] TSto)).heap.size ((w.alloc (.cells #[.slice T tn tc, .slice L ln lc] TSto)).alloc (.cells #[.slice none 0 0, .slice none 0 0] TSto)) A' from kA.trans (kA'.mono kA.size))))
  have HFJ := Lib.hid (fun (A A' : World) (T' L' : Option Addr) (tc' lc' : Nat) (kA : Below ((w.alloc (.cells #[.slice T tn tc, .slice L ln lc] TSto)).alloc (.cells #[.slice none 0 0, .slice none 0 0] TSto)).heap.size ((w.alloc (.cells #[.slice T tn tc, .slice L ln lc] TSto)).alloc (.cells #[.slice none 0 0, .slice none 0 0] TSto)) A) (kA' : Below A.heap.size A A') (hT : OwnK A ((w.alloc (.cells #[.slice T tn tc, .slice L ln lc] TSto)).alloc (.cells #[.slice none 0 0, .slice none 0 0] TSto)).heap.size TTb 4 (OTb A ((w.alloc (.cells #[.slice T tn tc, .slice L ln lc] TSto)).alloc (.cells #[.slice none 0 0, .slice none 0 0] TSto)).heap.size) (.slice T' tn tc') s.tables) (hL : OwnK A' A.heap.size TCh 5 (OCg A' A.heap.size) (.slice L' ln lc') s.log) =>
    And.intro (show OwnK A' w.heap.size TTb 4 (OTb A' w.heap.size) (.slice T' tn tc') s.tables from ((OwnK.lower hT hk0.size).below kA').monoR fun _ _ _ ho => (ho.lower hk0.size).below kA') (And.intro (show OwnK A' w.heap.size TCh 5 (OCg A' w.heap.size) (.slice L' ln lc') s.log from (OwnK.lower hL (hk0.trans (kA.mono hk0.size)).size).monoR fun _ _ _ ho => ho.lower (hk0.trans (kA.mono hk0.size)).size) (show Below ((w.alloc (.cells #[.slice T tn tc, .slice L ln lc] TSto)).alloc (.cells #[.slice none 0 0, .slice none 0 0] TSto)).heap.size ((w.alloc (.cells #[.slice T tn tc, .slice L ln lc] TSto)).alloc (.cells #[.slice none 0 0, .slice none 0 0] TSto)) A' from kA.trans (kA'.mono kA.size))))
  clear h hb hk0
  go_enter Tryz.func32, Tryz.ntmps32
  go_wp2
  go_region_with (first
    | (go_at_call 60; refine (HT.out _ HCW.out).mono ?_; rintro e w5 ⟨T', tc', rfl, t1, t2⟩; have HFIN := Lib.hid (HFI.out _ _ _ _ _ _ HCW.out t2 t1 HCO.out); have hb1 := HB1.out.below HFIN.out.2.2 HB1.out.lt; have z0 := hb1.cell 0; have z1 := hb1.cell 1; have y0 := hb1.frozen 0; have y1 := hb1.frozen 1; have yl := hb1.lt; have HZ := Lib.hid hb1; clear t1 t2 hb1)
    | (go_at_call 62; refine (HC.out _ HTW.out).mono ?_; rintro e w6 ⟨L', lc', rfl, t1, t2⟩; have HFIN := Lib.hid (HFJ.out _ _ _ _ _ _ HTW.out t2 HTO.out t1); have hb1 := HB1.out.below HFIN.out.2.2 HB1.out.lt; have z0 := hb1.cell 0; have z1 := hb1.cell 1; have y0 := hb1.frozen 0; have y1 := hb1.frozen 1; have yl := hb1.lt; have HZ := Lib.hid hb1; clear t1 t2 hb1)
    | (go_at_call 60; refine (HT.out _ HD0.out).mono ?_; rintro e w5 ⟨T', tc', rfl, t1, t2⟩; have HTW := Lib.hid (HD0.out.trans (t2.mono HD0.out.size)); have HTO := Lib.hid t1; have hb0 := HB0.out.below HTW.out HB0.out.lt; have x0 := hb0.cell 0; have x1 := hb0.cell 1; have xl := hb0.lt; clear t1 t2 hb0)
    | (go_at_call 62; refine (HC.out _ HD0.out).mono ?_; rintro e w6 ⟨L', lc', rfl, t1, t2⟩; have HCW := Lib.hid (HD0.out.trans (t2.mono HD0.out.size)); have HCO := Lib.hid t1; have hb0 := HB0.out.below HCW.out HB0.out.lt; have x0 := hb0.cell 0; have x1 := hb0.cell 1; have xl := hb0.lt; clear t1 t2 hb0))
  all_goals
    have HRS := Lib.hid (set2_blk HZ.out (.slice T' tn tc') (.slice L' ln lc'))
    have HOT := Lib.hid (((HFIN.out.1.setFar HZ.out (by decide) 0 (.slice T' tn tc')).setFar (HZ.out.set 0 (.slice T' tn tc')) (by decide) 1 (.slice L' ln lc')).monoR fun _ _ _ ho => (ho.far (i := 0) (u := .slice T' tn tc') HZ.out (by decide) (by decide) (by decide)).far (i := 1) (u := .slice L' ln lc') (HZ.out.set 0 (.slice T' tn tc')) (by decide) (by decide) (by decide))
    have HOL := Lib.hid (((HFIN.out.2.1.setFar HZ.out (by decide) 0 (.slice T' tn tc')).setFar (HZ.out.set 0 (.slice T' tn tc')) (by decide) 1 (.slice L' ln lc')).monoR fun _ _ _ ho => (ho.far (i := 0) (u := .slice T' tn tc') HZ.out (by decide)).far (i := 1) (u := .slice L' ln lc') (HZ.out.set 0 (.slice T' tn tc')) (by decide))
    have HBE := Lib.hid (HRS.out.below (HK0.out.trans (HFIN.out.2.2.mono HK0.out.size)) (by omega))
    go_wp2
    have k0 := HRS.out.blk.cell 0; have k1 := HRS.out.blk.cell 1
    simp at k0 k1
    refine bodyPost_ret (v := .agg #[.slice T' tn tc', .slice L' ln lc']) (by simp [results, Tryz.results32, go_sem, k0, k1]) rfl ⟨⟨T', tc', L', lc', rfl, HOT.out, HOL.out⟩, HBE.out⟩
end Go.Proofs.YtbdkedjgfihamaaGreatDoor

namespace Go.Proofs.YtbdkedjgfihamaaGreatDoor
open Go.RowKit Pv Go.Maps
theorem tabE_yes {t : Tab} (h : TabOk t) : tabE t = 0 := tabE_t ((tabB_iff t).2 h)
theorem tabE_no {t : Tab} (h : ¬ TabOk t) : tabE t = 8 := tabE_f (by cases hb : tabB t with | false => rfl | true => exact absurd ((tabB_iff t).1 hb) h)
set_option maxHeartbeats 8000000 in
set_option maxRecDepth 100000 in
theorem undo_tables (B : Nat) (A : Option Addr) (c n : Nat) (ts : List Tab) (w : World) (h : AtTab w A ts) (HL : Hid (ts.length = n)) (hn : n ≤ 100000) (hbd : ∀ t, t ∈ ts → TabBd t) (hT : TabS B w) (hB : B ≤ w.heap.size) :
    Calls Tryz.prog 44 #[.slice A n c] w fun e w' => e = .returned (.bool (yes (TabsOk ts))) ∧ Below w.heap.size w w' := by
  obtain ⟨d, hd⟩ : ∃ d, yes (TabsOk ts) = d := ⟨_, rfl⟩
  rw [hd]
  have HD := Lib.hid hd
  have HA : Hid (AtTab w A ts) := Lib.hid h
  have HBD := Lib.hid hbd; have HTS := Lib.hid hT
  have HM0 := Lib.hid (MapQ.nil (enc := Value.string) (ok := okS) (val := fun _ => 1) w)
  clear h hbd hT hd
  have hmm := @run_makeMap Tryz.prog
  go_enter Tryz.func44, Tryz.ntmps44
  go_wp2
  go_loopw [9] (fun iv W => ∃ q : Nat, iv = .int .i64 q ∧ q ≤ n ∧ Hid (MapQ Value.string okS (fun _ => 1) W w.heap.size ((ts.take q).map (·.name))) ∧ Hid (∀ t, t ∈ ts.take q → TabOk t) ∧ Hid (Below w.heap.size w W)) (fun iv _ => n - (intOf iv).toNat)
  case atStart => exact ⟨0, rfl, by omega, HM0, Lib.hid (by simp), Lib.hid ((Below.refl _ _).alloc (Nat.le_refl _) _)⟩
  case round =>
    obtain ⟨q, rfl, hq, HMP, HOK, HW⟩ := hrel
    by_cases hlt : q < n
    · obtain ⟨b1, o1, x, U, un, uc, R, rn, rc, rfl, lb1, c0, c1, c2, c3, ht, huc, hrc, HX⟩ := AtTab.g4 (AtTab.keep HA.out (Keep.of HW.out)) HL hlt
      obtain ⟨d1, d2, d3, d4⟩ := HBD.out x (mem_of_get HX.out)
      have hk : Below wr.heap.size wr (wr.alloc (.cells #[.string x.name, .int .i64 x.most, .slice U un uc, .slice R rn rc] TTb)) := (Below.refl _ _).alloc (Nat.le_refl _) _
      have HK := Lib.hid (HW.out.trans (hk.mono HW.out.size))
      have HMK := Lib.hid (HMP.out.below hk)
      have HC := Lib.hid (table_Check B U un uc R rn rc x _ (ht.keep (Keep.of hk)) huc hrc (by rw [← ht.un.out]; exact d1) d3 (HTS.out.next (HK.out.mono hB)) (by have := HK.out.size; omega))
      have hok : okS x.name := by show x.name.size ≤ maxLen; have := ht.name; simp only [maxLen]; omega
      have HBX := Lib.hid (Blk.new wr TTb #[.string x.name, .int .i64 x.most, .slice U un uc, .slice R rn rc])
      have i1 : (0 : Int) ≤ (q : Int) := by omega
      have i2 : (q : Int) < (n : Int) := by omega
      clear hk ht d1 d2 d3 d4
      by_cases hin : x.name ∈ (ts.take q).map (·.name)
      · obtain ⟨j, hj⟩ := List.getElem?_of_mem hin
        have hlk := (MapQ.in (tm := 108) strE Tryz.underlying108 (fun _ => rfl) HMK.out hok hj).2
        have HN := Lib.hid (show d = false by
          rw [← HD.out]
          refine yes_f fun h => ?_
          have h1 := h.names
          have e1 : ts.map (·.name) = (ts.take (q + 1)).map (·.name) ++ (ts.drop (q + 1)).map (·.name) := by rw [← List.map_append, List.take_append_drop]
          rw [e1, take_snoc HX.out, List.map_append] at h1
          exact (List.nodup_append.1 (List.nodup_append.1 h1).1).2.2 _ hin _ (by simp) rfl)
        clear hin hj
        go_wp2
        go_ret
        exact ⟨ret_bool HN.out.symm, HK.out⟩
      · have hlk := (MapQ.out (tm := 108) strE Tryz.underlying108 (fun _ => rfl) HMK.out hok hin).2
        by_cases htok : TabOk x
        · rw [tabE_yes htok] at HC
          have HTO := Lib.hid htok; have HIN := Lib.hid hin; have HOS := Lib.hid hok
          clear htok hin hok
          go_wp2_with fail
          refine HC.out.mono ?_
          rintro e w1 ⟨rfl, k⟩
          have HB1 := Lib.hid (HBX.out.below k HBX.out.lt)
          have HW1 := Lib.hid (HK.out.trans (k.mono HK.out.size))
          obtain ⟨wu, hup, hmp, m1, m2, m3, m4, m5⟩ := MapQ.put (tm := 108) strE Tryz.underlying108 (HMK.out.below k) HOS.out HIN.out (v := 1) rfl
          have HW9 := Lib.hid (onB HW1.out m1 m2 m3 m4 m5 (Nat.le_refl _))
          have HMP9 := Lib.hid hmp
          have p0 := HB1.out.cell 0; have pl := HB1.out.lt
          clear k hmp m1 m2 m3 m4 m5 hlk
          go_wp2
          go_roundw
          case rel =>
            refine ⟨q + 1, by go_num, by omega, Lib.hid (by rw [take_snoc HX.out, List.map_append]; exact HMP9.out), Lib.hid fun z hz => ?_, HW9⟩
            rw [take_snoc HX.out] at hz
            rcases List.mem_append.1 hz with hz | hz
            · exact HOK.out z hz
            · obtain rfl := List.mem_singleton.1 hz
              exact HTO.out
          case measure => simp [intOf]; omega
        · rw [tabE_no htok] at HC
          have HN := Lib.hid (show d = false by
            rw [← HD.out]
            exact yes_f fun h => htok (h.each x (mem_of_get HX.out)))
          clear htok hin hok
          go_wp2_with fail
          refine HC.out.mono ?_
          rintro e w1 ⟨rfl, k⟩
          have HW1 := Lib.hid (HK.out.trans (k.mono HK.out.size))
          clear k
          go_wp2
          go_ret
          exact ⟨ret_bool HN.out.symm, HW1.out⟩
    · obtain rfl : q = n := by omega
      have i1 : ¬ (q : Int) < (q : Int) := by omega
      have hall := HOK.out
      have hnd := HMP.out.nodup
      rw [List.take_of_length_le (by rw [HL.out]; omega)] at hall hnd
      by_cases h32 : q ≤ 32
      · have j1 : (q : Int) ≤ 32 := by omega
        have HY := Lib.hid (show d = true by rw [← HD.out]; exact yes_t ⟨hall, hnd, by rw [HL.out]; exact h32⟩)
        clear hall hnd
        go_wp2
        go_ret
        exact ⟨ret_bool HY.out.symm, HW.out⟩
      · have j1 : ¬ (q : Int) ≤ 32 := by omega
        have HY := Lib.hid (show d = false by rw [← HD.out]; exact yes_f fun h => h32 (by have := h.few; rwa [HL.out] at this))
        clear hall hnd
        go_wp2
        go_ret
        exact ⟨ret_bool HY.out.symm, HW.out⟩
end Go.Proofs.YtbdkedjgfihamaaGreatDoor
