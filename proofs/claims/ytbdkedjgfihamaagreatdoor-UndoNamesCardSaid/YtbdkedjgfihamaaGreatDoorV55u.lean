/- Walks: undo.Back, Forget. PUT1 -/
import Derived.Test.YtbdkedjgfihamaaGreatDoorV53u
import Derived.Test.YtbdkedjgfihamaaGreatDoorV32u
namespace Pv
open Go Go.RowKit
/-- What Back says. -/
noncomputable def backE (s : Sto) (m : Int) : Int := if yes (StoOk s) then if 0 ≤ m ∧ m ≤ s.log.length then 0 else 2 else 8
theorem StoOk.back1_some {s : Sto} (h : StoOk s) {k : Nat} {x : Chg} {ts : List Tab} (hx : s.log[k]? = some x) (hb : backN (s.log.drop (k + 1)).reverse s.tables = some ts) : ∃ ts', back1 ts x = some ts' ∧ backN (s.log.drop k).reverse s.tables = some ts' := by
  have h1 := backN_step hx hb
  cases hy : back1 ts x with
  | some ts' => exact ⟨ts', rfl, by rw [h1, hy]⟩
  | none =>
    have h2 := h.back
    rw [backN_none (k := k) (by rw [h1, hy])] at h2
    cases h2
end Pv
namespace Go.Proofs.YtbdkedjgfihamaaGreatDoor
open Go.RowKit Pv Go.Maps
abbrev zSto : Value := .agg #[.slice none 0 0, .slice none 0 0]
theorem StoIn.lower {w0 w W : World} {ob tn tc ln lc : Nat} {T L : Option Addr} {bad : Bool} {ts : List Tab} {log : List Chg} (h : StoIn w W ob T tn tc L ln lc bad ts log) (k : Below w0.heap.size w0 w) : StoIn w0 W ob T tn tc L ln lc bad ts log :=
  ⟨Nat.le_trans k.size h.ge, h.blk, (OwnK.lower h.tabs k.size).monoR fun _ _ _ ho => ho.lower k.size, (OwnK.lower h.log k.size).monoR fun _ _ _ ho => ho.lower k.size, k.trans (h.k.mono k.size)⟩
/-- A store given out: its parts laid into a box of the result. -/
theorem StoIn.give {w W : World} {ob tn tc ln lc b : Nat} {T L : Option Addr} {bad : Bool} {ts : List Tab} {log : List Chg} {z0 z1 : Value} (h : StoIn w W ob T tn tc L ln lc bad ts log) (hb : Blk W b TSto #[z0, z1]) (hge : w.heap.size ≤ b) :
    StoV (set2 W b (.slice T tn tc) (.slice L ln lc)) w.heap.size (.agg #[.slice T tn tc, .slice L ln lc]) ⟨ts, log⟩ ∧ Below w.heap.size w (set2 W b (.slice T tn tc) (.slice L ln lc)) := by
  refine ⟨⟨T, tn, tc, L, ln, lc, rfl, ?_, ?_⟩, (set2_blk hb _ _).below h.k hge⟩
  · exact ((h.tabs.setFar hb (by decide) 0 (.slice T tn tc)).setFar (hb.set 0 (.slice T tn tc)) (by decide) 1 (.slice L ln lc)).monoR fun _ _ _ ho => (ho.far (i := 0) (u := .slice T tn tc) hb (by decide) (by decide) (by decide)).far (i := 1) (u := .slice L ln lc) (hb.set 0 (.slice T tn tc)) (by decide) (by decide) (by decide)
  · exact ((h.log.setFar hb (by decide) 0 (.slice T tn tc)).setFar (hb.set 0 (.slice T tn tc)) (by decide) 1 (.slice L ln lc)).monoR fun _ _ _ ho => (ho.far (i := 0) (u := .slice T tn tc) hb (by decide)).far (i := 1) (u := .slice L ln lc) (hb.set 0 (.slice T tn tc)) (by decide)
set_option maxHeartbeats 8000000 in
set_option maxRecDepth 100000 in
theorem undo_Back (B : Nat) (T L : Option Addr) (tn tc ln lc : Nat) (s : Sto) (mark : Int) (w : World) (h : StoAt w T tn L ln s) (hb : StoBd s) (hT : TabS B w) (hB : B ≤ w.heap.size) :
    Calls Tryz.prog 11 #[.agg #[.slice T tn tc, .slice L ln lc], .int .i64 mark] w fun e w' =>
      ((backE s mark ≠ 0 ∧ e = .returned (.tuple #[zSto, .int .i64 (backE s mark)])) ∨ (backE s mark = 0 ∧ ∃ v, e = .returned (.tuple #[v, .int .i64 0]) ∧ StoV w' w.heap.size v (backS s mark.toNat))) ∧ Below w.heap.size w w' := by
  have hk0 : Below w.heap.size w ((w.alloc (.cells #[.slice T tn tc, .slice L ln lc] TSto)).alloc (.cells #[.slice none 0 0, .slice none 0 0] TSto)) := ((Below.refl _ _).alloc (Nat.le_refl _) _).alloc (by simp) _
  have HB0 := Lib.hid ((Blk.new w TSto #[.slice T tn tc, .slice L ln lc]).alloc (.cells #[.slice none 0 0, .slice none 0 0] TSto))
  have HB1 := Lib.hid (blkV2 w TSto TSto #[.slice T tn tc, .slice L ln lc] #[.slice none 0 0, .slice none 0 0])
  have htn := hb.tn; have hln := hb.ln
  rw [h.tn.out] at htn; rw [h.ln.out] at hln
  have HCK := Lib.hid (undo_Check B T L tn tc ln lc s _ (h.keep (Keep.of hk0)) hb (hT.next (hk0.mono hB)) (by have := hk0.size; omega))
  have HK0 := Lib.hid hk0
  have HH := Lib.hid h; have HBD := Lib.hid hb; have HTS := Lib.hid hT
  by_cases hok : StoOk s
  case neg =>
    rw [stoE_no hok] at HCK
    have HE : Hid (backE s mark = 8) := Lib.hid (by unfold backE; rw [yes_f hok]; rfl)
    rw [HE.out]
    clear h hb hT hk0 hok
    go_enter Tryz.func11, Tryz.ntmps11
    go_wp2_with fail
    refine HCK.out.mono ?_
    rintro e w1 ⟨rfl, k⟩
    have HF := Lib.hid (HK0.out.trans (k.mono HK0.out.size))
    have hb1 := HB1.out.below k HB1.out.lt
    have q0 := hb1.cell 0; have q1 := hb1.cell 1; have f0 := hb1.frozen 0; have f1 := hb1.frozen 1; have ql := hb1.lt
    have HRS := Lib.hid (set2_blk hb1 (.slice none 0 0) (.slice none 0 0))
    clear k hb1
    go_wp2
    have k0 := HRS.out.blk.cell 0; have k1 := HRS.out.blk.cell 1
    simp at k0 k1
    refine bodyPost_ret (v := .tuple #[zSto, .int .i64 8]) (by simp [results, Tryz.results11, go_sem, k0, k1]) rfl ⟨.inl ⟨by decide, rfl⟩, HRS.out.below HF.out (by omega)⟩
  rw [stoE_yes hok] at HCK
  by_cases hm : 0 ≤ mark ∧ mark ≤ (ln : Int)
  case neg =>
    have HE : Hid (backE s mark = 2) := Lib.hid (by unfold backE; rw [yes_t hok, h.ln.out, if_neg hm]; rfl)
    rw [HE.out]
    clear h hb hT hk0 hok
    have hmm : mark < 0 ∨ (0 ≤ mark ∧ (ln : Int) < mark) := by omega
    rcases hmm with hm1 | ⟨hm1, hm2⟩
    · have d1 : decide (mark < 0) = true := by simpa using hm1
      clear hm
      go_enter Tryz.func11, Tryz.ntmps11
      go_wp2_with fail
      refine HCK.out.mono ?_
      rintro e w1 ⟨rfl, k⟩
      have HF := Lib.hid (HK0.out.trans (k.mono HK0.out.size))
      have hb1 := HB1.out.below k HB1.out.lt
      have q0 := hb1.cell 0; have q1 := hb1.cell 1; have f0 := hb1.frozen 0; have f1 := hb1.frozen 1; have ql := hb1.lt
      have HRS := Lib.hid (set2_blk hb1 (.slice none 0 0) (.slice none 0 0))
      clear k hb1
      go_wp2
      have k0 := HRS.out.blk.cell 0; have k1 := HRS.out.blk.cell 1
      simp at k0 k1
      refine bodyPost_ret (v := .tuple #[zSto, .int .i64 2]) (by simp [results, Tryz.results11, go_sem, k0, k1]) rfl ⟨.inl ⟨by decide, rfl⟩, HRS.out.below HF.out (by omega)⟩
    · have d1 : decide (mark < 0) = false := by simp; omega
      have d2 : ¬ mark < 0 := by omega
      clear hm
      go_enter Tryz.func11, Tryz.ntmps11
      go_wp2_with fail
      refine HCK.out.mono ?_
      rintro e w1 ⟨rfl, k⟩
      have HF := Lib.hid (HK0.out.trans (k.mono HK0.out.size))
      have hb1 := HB1.out.below k HB1.out.lt
      have hb0 := HB0.out.below k HB0.out.lt
      have p1 := hb0.cell 1; have pl := hb0.lt
      have q0 := hb1.cell 0; have q1 := hb1.cell 1; have f0 := hb1.frozen 0; have f1 := hb1.frozen 1; have ql := hb1.lt
      have HRS := Lib.hid (set2_blk hb1 (.slice none 0 0) (.slice none 0 0))
      clear k hb1 hb0
      go_wp2
      have k0 := HRS.out.blk.cell 0; have k1 := HRS.out.blk.cell 1
      simp at k0 k1
      refine bodyPost_ret (v := .tuple #[zSto, .int .i64 2]) (by simp [results, Tryz.results11, go_sem, k0, k1]) rfl ⟨.inl ⟨by decide, rfl⟩, HRS.out.below HF.out (by omega)⟩
  obtain ⟨mk, rfl⟩ : ∃ mk : Nat, mark = (mk : Int) := ⟨mark.toNat, by omega⟩
  have HE : Hid (backE s (mk : Int) = 0) := Lib.hid (by unfold backE; rw [yes_t hok, h.ln.out, if_pos hm]; rfl)
  have HOK := Lib.hid hok
  have hmk : mk ≤ ln := by omega
  have d2 : ¬ (mk : Int) < 0 := by omega
  have d3 : ¬ (ln : Int) < (mk : Int) := by omega
  clear h hb hT hk0 hok hm
  go_enter Tryz.func11, Tryz.ntmps11
  go_wp2_with fail
  refine HCK.out.mono ?_
  rintro e w1 ⟨rfl, k⟩
  have HF1 := Lib.hid (HK0.out.trans (k.mono HK0.out.size))
  have HB1' := Lib.hid (HB1.out.below k HB1.out.lt)
  have hb0 := HB0.out.below k HB0.out.lt
  have p0 := hb0.cell 0; have p1 := hb0.cell 1; have pl := hb0.lt
  have HTW := Lib.hid (undo_Twin T L tn tc ln lc s w1 (HH.out.keep (Keep.of HF1.out)) HBD.out)
  clear k hb0
  go_wp2_with fail
  refine HTW.out.mono ?_
  rintro e w2 ⟨⟨T', tc', L', lc', rfl, hot, hol⟩, k⟩
  have hka : Below w2.heap.size w2 (w2.alloc (.cells #[.slice T' tn tc', .slice L' ln lc', .bool false] TSx)) := (Below.refl _ _).alloc (Nat.le_refl _) _
  have hin : CheckI w1 (w2.alloc (.cells #[.slice T' tn tc', .slice L' ln lc', .bool false] TSx)) w2.heap.size T' tn tc' L' lc' s ln false := by
    refine ⟨s.tables, ⟨k.size, Blk.new _ _ _, (hot.below hka).monoR fun _ _ _ ho => ho.below hka, ?_, k.trans (hka.mono k.size)⟩, ?_, HOK.out.tabs, HBD.out.tab⟩
    · rw [List.take_of_length_le (by rw [HH.out.ln.out]; exact Nat.le_refl _)]
      exact (hol.below hka).monoR fun _ _ _ ho => ho.below hka
    · rw [List.drop_of_length_le (by rw [HH.out.ln.out]; exact Nat.le_refl _)]; rfl
  have HIN := Lib.hid hin
  have HT1 := Lib.hid (HTS.out.next (HF1.out.mono hB))
  have hB1 : B ≤ w1.heap.size := Nat.le_trans hB HF1.out.size
  have hwl := k.size
  clear hot hol k hka p0 p1 pl hin
  go_wp2
  go_loopw [] (fun W => ∃ k : Nat, mk ≤ k ∧ k ≤ ln ∧ Hid (CheckI w1 W w2.heap.size T' tn tc' L' lc' s k false)) (fun W => lenC (W.cell? ⟨w2.heap.size, 1, none⟩))
  case atStart => exact ⟨ln, hmk, Nat.le_refl _, HIN⟩
  case round =>
    clear HIN
    obtain ⟨k, hmk2, hk, HI⟩ := hrel
    obtain ⟨ts, hin, hbk, hok, hbd⟩ := HI.out.yes
    have s0 := hin.blk.cell 0; have s1 := hin.blk.cell 1; have s2 := hin.blk.cell 2; have sl := hin.blk.lt
    simp at s0 s1 s2
    by_cases hk0 : mk < k
    · have i0 : (mk : Int) < (k : Int) := by omega
      obtain ⟨m, rfl⟩ : ∃ m, k = m + 1 := ⟨k - 1, by omega⟩
      obtain ⟨lg, cur, x, f, rfl, _, _, hx, _, _⟩ := hin.log.gt (show m < m + 1 by omega)
      have hxl : s.log[m]? = some x := by rwa [List.getElem?_take_of_lt (by omega)] at hx
      have hw := HBD.out.was x (mem_of_get hxl)
      obtain ⟨ts', hbx, hst⟩ := HOK.out.back1_some hxl hbk
      have HU := Lib.hid (undo_undo B w1 wr w2.heap.size T' tn tc' lg (m + 1) lc' m ts _ x hin (Lib.hid rfl) hx hok hbd hw.2 hw.1 htn (by omega) HT1.out hB1)
      have HK5 := Lib.hid hst
      have HL1 : Hid (lenC (wr.cell? ⟨w2.heap.size, 1, none⟩) = m + 1) := Lib.hid (by rw [s1]; rfl)
      have HO5 := Lib.hid (hok.back1 hbx).1
      have HB5 := Lib.hid (back1_bd hok hbd hw.2 hbx)
      have HBX := Lib.hid hbx
      have HBW := Lib.hid hin.k
      clear hin hbk hok hbd hst hx hxl hw hbx
      go_wp2_with fail
      refine HU.out.mono ?_
      rintro e w5 ⟨rfl, hp⟩
      have hs : StoIn w1 w5 w2.heap.size T' tn tc' (some ⟨lg, 0, none⟩) m lc' false ts' ((s.log.take (m + 1)).take m) := by
        unfold UndoP at hp; rw [HBX.out] at hp; exact hp
      rw [List.take_take, Nat.min_eq_left (by omega)] at hs
      have HS5 := Lib.hid hs
      have HL2 : Hid (lenC (w5.cell? ⟨w2.heap.size, 1, none⟩) = m) := Lib.hid (by rw [hs.blk.cell 1]; rfl)
      clear hs hp
      go_wp2
      go_roundw
      case rel => exact ⟨m, by omega, by omega, Lib.hid ⟨ts', HS5.out, HK5.out, HO5.out, HB5.out⟩⟩
      case measure => rw [HL1.out, HL2.out]; omega
    · have i0 : ¬ (mk : Int) < (k : Int) := by omega
      obtain rfl : mk = k := by omega
      have HBR := Lib.hid (HB1'.out.below hin.k HB1'.out.lt)
      have q0 := HBR.out.cell 0; have q1 := HBR.out.cell 1; have f0 := HBR.out.frozen 0; have f1 := HBR.out.frozen 1; have ql := HBR.out.lt
      have HRS := Lib.hid (set2_blk HBR.out (.slice T' tn tc') (.slice L' mk lc'))
      have HGV := Lib.hid ((hin.lower HF1.out).give HBR.out (by omega))
      have HBS : Hid (backS s mk = ⟨ts, s.log.take mk⟩) := Lib.hid (by unfold backS; rw [hbk]; rfl)
      clear hin hbk hok hbd
      go_wp2
      have k0 := HRS.out.blk.cell 0; have k1 := HRS.out.blk.cell 1
      simp at k0 k1
      refine bodyPost_ret (v := .tuple #[.agg #[.slice T' tn tc', .slice L' mk lc'], .int .i64 0]) (by simp [results, Tryz.results11, go_sem, k0, k1]) rfl ⟨.inr ⟨HE.out, _, rfl, by rw [HBS.out]; exact HGV.out.1⟩, HGV.out.2⟩
end Go.Proofs.YtbdkedjgfihamaaGreatDoor

namespace Go.Proofs.YtbdkedjgfihamaaGreatDoor
open Go.RowKit Pv Go.Maps
set_option maxHeartbeats 8000000 in
set_option maxRecDepth 100000 in
theorem undo_Forget (B : Nat) (T L : Option Addr) (tn tc ln lc : Nat) (s : Sto) (w : World) (h : StoAt w T tn L ln s) (hb : StoBd s) (hT : TabS B w) (hB : B ≤ w.heap.size) :
    Calls Tryz.prog 19 #[.agg #[.slice T tn tc, .slice L ln lc]] w fun e w' =>
      ((stoE s ≠ 0 ∧ e = .returned (.tuple #[zSto, .int .i64 (stoE s)])) ∨ (stoE s = 0 ∧ ∃ v, e = .returned (.tuple #[v, .int .i64 0]) ∧ StoV w' w.heap.size v ⟨s.tables, []⟩)) ∧ Below w.heap.size w w' := by
  have hk0 : Below w.heap.size w ((w.alloc (.cells #[.slice T tn tc, .slice L ln lc] TSto)).alloc (.cells #[.slice none 0 0, .slice none 0 0] TSto)) := ((Below.refl _ _).alloc (Nat.le_refl _) _).alloc (by simp) _
  have HB0 := Lib.hid ((Blk.new w TSto #[.slice T tn tc, .slice L ln lc]).alloc (.cells #[.slice none 0 0, .slice none 0 0] TSto))
  have HB1 := Lib.hid (blkV2 w TSto TSto #[.slice T tn tc, .slice L ln lc] #[.slice none 0 0, .slice none 0 0])
  have HCK := Lib.hid (undo_Check B T L tn tc ln lc s _ (h.keep (Keep.of hk0)) hb (hT.next (hk0.mono hB)) (by have := hk0.size; omega))
  have HK0 := Lib.hid hk0
  have HH := Lib.hid h; have HBD := Lib.hid hb
  by_cases hok : StoOk s
  case neg =>
    rw [stoE_no hok] at HCK ⊢
    clear h hb hT hk0 hok
    go_enter Tryz.func19, Tryz.ntmps19
    go_wp2_with fail
    refine HCK.out.mono ?_
    rintro e w1 ⟨rfl, k⟩
    have HF := Lib.hid (HK0.out.trans (k.mono HK0.out.size))
    have hb1 := HB1.out.below k HB1.out.lt
    have q0 := hb1.cell 0; have q1 := hb1.cell 1; have f0 := hb1.frozen 0; have f1 := hb1.frozen 1; have ql := hb1.lt
    have HRS := Lib.hid (set2_blk hb1 (.slice none 0 0) (.slice none 0 0))
    clear k hb1
    go_wp2
    have k0 := HRS.out.blk.cell 0; have k1 := HRS.out.blk.cell 1
    simp at k0 k1
    refine bodyPost_ret (v := .tuple #[zSto, .int .i64 8]) (by simp [results, Tryz.results19, go_sem, k0, k1]) rfl ⟨.inl ⟨by decide, rfl⟩, HRS.out.below HF.out (by omega)⟩
  rw [stoE_yes hok] at HCK ⊢
  clear h hb hT hk0 hok
  go_enter Tryz.func19, Tryz.ntmps19
  go_wp2_with fail
  refine HCK.out.mono ?_
  rintro e w1 ⟨rfl, k⟩
  have HF1 := Lib.hid (HK0.out.trans (k.mono HK0.out.size))
  have HB1' := Lib.hid (HB1.out.below k HB1.out.lt)
  have hb0 := HB0.out.below k HB0.out.lt
  have p0 := hb0.cell 0; have p1 := hb0.cell 1; have pl := hb0.lt
  have HTW := Lib.hid (undo_Twin T L tn tc ln lc s w1 (HH.out.keep (Keep.of HF1.out)) HBD.out)
  clear k hb0
  go_wp2_with fail
  refine HTW.out.mono ?_
  rintro e w2 ⟨⟨T', tc', L', lc', rfl, hot, hol⟩, k⟩
  have hf2 := HF1.out.trans (k.mono HF1.out.size)
  have hka : Below w2.heap.size w2 (w2.alloc (.cells #[.slice T' tn tc', .slice none 0 0] TSto)) := (Below.refl _ _).alloc (Nat.le_refl _) _
  have hb2 := ((HB1'.out.below k HB1'.out.lt).alloc (.cells #[.slice T' tn tc', .slice none 0 0] TSto))
  have HOT := Lib.hid (((OwnK.lower hot HF1.out.size).below hka).monoR (R' := OTb (w2.alloc (.cells #[.slice T' tn tc', .slice none 0 0] TSto)) w.heap.size) fun _ _ _ ho => (ho.lower HF1.out.size).below hka)
  have HFA := Lib.hid (hf2.trans (hka.mono hf2.size))
  have q0 := hb2.cell 0; have q1 := hb2.cell 1; have f0 := hb2.frozen 0; have f1 := hb2.frozen 1; have ql := hb2.lt
  have HB2 := Lib.hid hb2
  have HRS := Lib.hid (set2_blk hb2 (.slice T' tn tc') (.slice none 0 0))
  have hol' := Lib.hid hol
  have hwl := hf2.size
  clear hot hol k hf2 hka p0 p1 pl hb2
  go_wp2
  have k0 := HRS.out.blk.cell 0; have k1 := HRS.out.blk.cell 1
  simp at k0 k1
  have hot2 := ((HOT.out.setFar HB2.out (by decide) 0 (.slice T' tn tc')).setFar (HB2.out.set 0 (.slice T' tn tc')) (by decide) 1 (.slice none 0 0)).monoR fun _ _ _ ho => (ho.far (i := 0) (u := .slice T' tn tc') HB2.out (by decide) (by decide) (by decide)).far (i := 1) (u := .slice none 0 0) (HB2.out.set 0 (.slice T' tn tc')) (by decide) (by decide) (by decide)
  refine bodyPost_ret (v := .tuple #[.agg #[.slice T' tn tc', .slice none 0 0], .int .i64 0]) (by simp [results, Tryz.results19, go_sem, k0, k1]) rfl ⟨.inr ⟨by simp, _, rfl, ⟨T', tn, tc', none, 0, 0, rfl, hot2, OwnK.nil⟩⟩, HRS.out.below HFA.out (by omega)⟩
set_option maxHeartbeats 4000000 in
set_option maxRecDepth 100000 in
theorem equal_tabs (A B : Option Addr) (c d n m : Nat) (l r : List Tab) (w : World) (ha : AtTab w A l) (hb : AtTab w B r) (HL : Hid (l.length = n)) (HM : Hid (r.length = m)) :
    Calls Tryz.prog 47 #[.slice A n c, .slice B m d, .func (.func 48) #[] #[]] w fun e w' => e = .returned (.bool (decide (l = r))) ∧ Below w.heap.size w w' := by
  by_cases hlen : n = m
  case neg =>
    have h1 : ((n : Int) != (m : Int)) = true := by simp; omega
    have HN := Lib.hid (show decide (l = r) = false by simp; intro h; subst h; exact hlen (HL.out.symm.trans HM.out))
    clear hlen ha hb
    go_enter Tryz.func47, Tryz.ntmps47
    go_wp2
    go_ret
    exact ⟨ret_bool HN.out.symm, Below.refl _ _⟩
  have hl : n ≤ 140737488355328 := by have := ha.1; rwa [HL.out] at this
  subst hlen
  have h1 : ((n : Int) != (n : Int)) = false := by simp
  have HA : Hid (AtTab w A l) := Lib.hid ha; have HB : Hid (AtTab w B r) := Lib.hid hb
  clear ha hb
  go_enter Tryz.func47, Tryz.ntmps47
  go_wp2
  go_loopw [17] (fun i wr => ∃ q : Nat, i = .int .i64 q ∧ q ≤ n ∧ Hid (Below w.heap.size w wr) ∧ Hid (l.take q = r.take q)) (fun i _ => n - (intOf i).toNat)
  case atStart => exact ⟨0, rfl, by omega, Lib.hid (Below.refl _ _), Lib.hid (by simp)⟩
  case round =>
    obtain ⟨q, rfl, hq, HBE, HE⟩ := hrel
    by_cases hlt : q < n
    · obtain ⟨b1, o1, x, U, un, uc, R, rn, rc, rfl, lb1, c0, c1, c2, c3, hx, _, _, HX⟩ := AtTab.g4 (AtTab.keep HA.out (Keep.of HBE.out)) HL hlt
      obtain ⟨b2, o2, y, V, vn, vc, S, sn, sc, rfl, lb2, d0, d1, d2, d3, hy, _, _, HY⟩ := AtTab.g4 (AtTab.keep HB.out (Keep.of HBE.out)) HM hlt
      have hk : Below wr.heap.size wr ((wr.alloc (.cells #[.string x.name, .int .i64 x.most, .slice U un uc, .slice R rn rc] TTb)).alloc (.cells #[.string y.name, .int .i64 y.most, .slice V vn vc, .slice S sn sc] TTb)) := ((Below.refl _ _).alloc (Nat.le_refl _) _).alloc (by simp) _
      have HT := Lib.hid (table_Same U R V S un uc rn rc vn vc sn sc x y _ (hx.keep (Keep.of hk)) (hy.keep (Keep.of hk)))
      have HK := Lib.hid (HBE.out.trans (hk.mono HBE.out.size))
      have i1 : (0 : Int) ≤ (q : Int) := by omega
      have i2 : (q : Int) < (n : Int) := by omega
      clear hx hy hk
      by_cases he : x = y
      · rw [decide_eq_true he] at HT
        have HEQ := Lib.hid he
        clear he
        go_wp2_with fail
        refine HT.out.mono ?_
        rintro e w1 ⟨rfl, k⟩
        have HF := Lib.hid (HK.out.trans (k.mono HK.out.size))
        clear k
        go_wp2
        go_roundw
        case rel => exact ⟨q + 1, by go_num, by omega, HF, Lib.hid (by rw [take_snoc HX.out, take_snoc HY.out, HE.out, HEQ.out])⟩
        case measure => simp [intOf]; omega
      · rw [decide_eq_false he] at HT
        have HN := Lib.hid (show decide (l = r) = false from decide_eq_false fun hh => he (by subst hh; exact Option.some.inj (HX.out.symm.trans HY.out)))
        clear he
        go_wp2_with fail
        refine HT.out.mono ?_
        rintro e w1 ⟨rfl, k⟩
        have HF := Lib.hid (HK.out.trans (k.mono HK.out.size))
        clear k
        go_wp2
        go_ret
        exact ⟨ret_bool HN.out.symm, HF.out⟩
    · have : q = n := by omega
      subst this
      have i2 : ¬ (q : Int) < (q : Int) := by omega
      have HY := Lib.hid (show decide (l = r) = true from decide_eq_true (by have := HE.out; rwa [List.take_of_length_le (by rw [HL.out]; omega), List.take_of_length_le (by rw [HM.out]; omega)] at this))
      go_wp2
      go_ret
      exact ⟨ret_bool HY.out.symm, HBE.out⟩
set_option maxHeartbeats 4000000 in
set_option maxRecDepth 100000 in
theorem undo_Alike (T L T2 L2 : Option Addr) (tn tc ln lc tn2 tc2 ln2 lc2 : Nat) (x y : List Tab) (w : World) (hx : AtTab w T x) (hy : AtTab w T2 y) (HX : Hid (x.length = tn)) (HY : Hid (y.length = tn2)) :
    Calls Tryz.prog 20 #[.agg #[.slice T tn tc, .slice L ln lc], .agg #[.slice T2 tn2 tc2, .slice L2 ln2 lc2]] w fun e w' => e = .returned (.bool (decide (x = y))) ∧ Below w.heap.size w w' := by
  have hk0 : Below w.heap.size w ((w.alloc (.cells #[.slice T tn tc, .slice L ln lc] TSto)).alloc (.cells #[.slice T2 tn2 tc2, .slice L2 ln2 lc2] TSto)) := ((Below.refl _ _).alloc (Nat.le_refl _) _).alloc (by simp) _
  have HE := Lib.hid (equal_tabs T T2 tc tc2 tn tn2 x y _ (AtTab.keep hx (Keep.of hk0)) (AtTab.keep hy (Keep.of hk0)) HX HY)
  have HK0 := Lib.hid hk0
  obtain ⟨d, hd⟩ : ∃ d, decide (x = y) = d := ⟨_, rfl⟩
  rw [hd] at HE ⊢
  clear hx hy hk0 hd
  go_enter Tryz.func20, Tryz.ntmps20
  go_wp2_with fail
  refine HE.out.mono ?_
  rintro e w1 ⟨rfl, k⟩
  have HF := Lib.hid (HK0.out.trans (k.mono HK0.out.size))
  clear k
  go_wp2
  go_ret
  exact ⟨rfl, HF.out⟩
end Go.Proofs.YtbdkedjgfihamaaGreatDoor
