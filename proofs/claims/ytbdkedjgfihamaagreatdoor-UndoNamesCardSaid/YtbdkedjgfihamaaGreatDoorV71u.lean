/- Walks: what comes back, as one store whatever the error. PUT1 -/
import Derived.Test.YtbdkedjgfihamaaGreatDoorV69u
namespace Go.Proofs.YtbdkedjgfihamaaGreatDoor
open Go.RowKit Pv Go.Maps
def noS : Sto := ⟨[], []⟩
theorem noS_ok : StoOk noS := ⟨⟨fun t ht => by simp [noS] at ht, by simp [noS], by simp [noS]⟩, by simp [noS], rfl⟩
theorem noS_bd : StoBd noS := ⟨by simp [noS], by simp [noS], fun t ht => by simp [noS] at ht, fun t ht => by simp [noS] at ht⟩
theorem noS_v (W : World) (base : Nat) : StoV W base zSto noS := ⟨_, _, _, _, _, _, rfl, OwnK.nil, OwnK.nil⟩
noncomputable def backT (s : Sto) (m : Int) : Sto := if backE s m = 0 then backS s m.toNat else noS
theorem backE_ok {s : Sto} {m : Int} (h : backE s m = 0) : StoOk s ∧ 0 ≤ m ∧ m ≤ s.log.length := by
  unfold backE at h
  by_cases hs : StoOk s
  · rw [yes_t hs] at h
    simp only [if_true] at h
    split at h
    · rename_i h1; exact ⟨hs, h1⟩
    · cases h
  · rw [yes_f hs] at h; cases h
theorem backT_in {s : Sto} {m : Int} (h : backE s m = 0) : backT s m = backS s m.toNat := by unfold backT; rw [if_pos h]
theorem backT_good (s : Sto) (hb : StoBd s) (m : Int) : StoOk (backT s m) ∧ StoBd (backT s m) := by
  unfold backT
  split
  · rename_i h
    have h1 := (backE_ok h).1
    obtain ⟨_, _, _, h2⟩ := h1.to m.toNat
    exact ⟨h2, hb.backS h1 _⟩
  · exact ⟨noS_ok, noS_bd⟩
/-- A store got and an error. -/
def GotS (w w' : World) (e : Ending) (s : Sto) (E : Int) : Prop := ∃ T tn tc L ln lc, e = .returned (.tuple #[.agg #[.slice T tn tc, .slice L ln lc], .int .i64 E]) ∧ StoAt w' T tn L ln s ∧ tn ≤ tc ∧ ln ≤ lc ∧ Below w.heap.size w w'
theorem GotS.of {w w' : World} {e : Ending} {s : Sto} {E : Int} {v : Value} (he : e = .returned (.tuple #[v, .int .i64 E])) (hv : StoV w' w.heap.size v s) (hb : StoBd s) (k : Below w.heap.size w w') : GotS w w' e s E := by
  obtain ⟨T, tn, tc, L, ln, lc, rfl, h1, h2, h3⟩ := hv.at_ hb
  exact ⟨T, tn, tc, L, ln, lc, he, h1, h2, h3, k⟩
theorem undo_BackT (B : Nat) (T L : Option Addr) (tn tc ln lc : Nat) (s : Sto) (mark : Int) (w : World) (h : StoAt w T tn L ln s) (hb : StoBd s) (hT : TabS B w) (hB : B ≤ w.heap.size) :
    Calls Tryz.prog 11 #[.agg #[.slice T tn tc, .slice L ln lc], .int .i64 mark] w fun e w' => GotS w w' e (backT s mark) (backE s mark) := by
  refine (undo_Back B T L tn tc ln lc s mark w h hb hT hB).mono ?_
  rintro e w' ⟨h1 | ⟨h0, v, he, hv⟩, k⟩
  · refine GotS.of h1.2 ?_ (backT_good s hb mark).2 k
    unfold backT
    rw [if_neg h1.1]
    exact noS_v _ _
  · refine GotS.of (by rw [h0]; exact he) ?_ (backT_good s hb mark).2 k
    rw [backT_in h0]
    exact hv
noncomputable def forgT (s : Sto) : Sto := if stoE s = 0 then ⟨s.tables, []⟩ else noS
theorem forgT_good (s : Sto) (hb : StoBd s) : StoOk (forgT s) ∧ StoBd (forgT s) := by
  unfold forgT
  split
  · rename_i h
    have h1 : StoOk s := by
      by_cases hs : StoOk s
      · exact hs
      · rw [stoE_no hs] at h; cases h
    exact ⟨⟨h1.tabs, by simp, rfl⟩, ⟨hb.tn, by simp, hb.tab, fun x hx => by simp at hx⟩⟩
  · exact ⟨noS_ok, noS_bd⟩
theorem undo_ForgetT (B : Nat) (T L : Option Addr) (tn tc ln lc : Nat) (s : Sto) (w : World) (h : StoAt w T tn L ln s) (hb : StoBd s) (hT : TabS B w) (hB : B ≤ w.heap.size) :
    Calls Tryz.prog 19 #[.agg #[.slice T tn tc, .slice L ln lc]] w fun e w' => GotS w w' e (forgT s) (stoE s) := by
  refine (undo_Forget B T L tn tc ln lc s w h hb hT hB).mono ?_
  rintro e w' ⟨h1 | ⟨h0, v, he, hv⟩, k⟩
  · refine GotS.of h1.2 ?_ (forgT_good s hb).2 k
    unfold forgT
    rw [if_neg h1.1]
    exact noS_v _ _
  · refine GotS.of (by rw [h0]; exact he) ?_ (forgT_good s hb).2 k
    unfold forgT
    rw [if_pos h0]
    exact hv
theorem nested_z {s : Sto} {a b : Int} (h1 : backE s a = 0) (h2 : backE s b = 0) (hab : a ≤ b) : backE (backT s b) a = 0 ∧ backT (backT s b) a = backT s a := by
  obtain ⟨hs, ha0, ha1⟩ := backE_ok h1
  obtain ⟨_, hb0, hb1⟩ := backE_ok h2
  have e2 := backT_in h2
  obtain ⟨_, _, _, hok⟩ := hs.to b.toNat
  have hl : (backS s b.toNat).log.length = b.toNat := by
    show (s.log.take b.toNat).length = _
    rw [List.length_take]; omega
  have h3 : backE (backT s b) a = 0 := by rw [e2]; exact backE_in hok ha0 (by rw [hl]; omega)
  refine ⟨h3, ?_⟩
  rw [backT_in h3, e2, backT_in h1]
  exact hs.to_to (by omega)
theorem here_s {s : Sto} (h : StoOk s) : backE s s.log.length = 0 ∧ backT s s.log.length = s := by
  have h1 := backE_in h (m := s.log.length) (by omega) (by omega)
  refine ⟨h1, ?_⟩
  rw [backT_in h1, Int.toNat_natCast]
  exact backS_all s
theorem backE_bad {s : Sto} (h : ¬ StoOk s) (m : Int) : backE s m = 8 := by unfold backE; rw [yes_f h]; rfl
end Go.Proofs.YtbdkedjgfihamaaGreatDoor

namespace Go.Proofs.YtbdkedjgfihamaaGreatDoor
open Go.RowKit Pv Go.Maps
set_option maxHeartbeats 8000000 in
set_option maxRecDepth 100000 in
theorem law_UndoNested (B : Nat) (T L : Option Addr) (tn tc ln lc : Nat) (s : Sto) (a b : Int) (w : World) (h : StoAt w T tn L ln s) (hT : TabS B w) (hB : B ≤ w.heap.size) :
    Calls Tryz.prog 5 #[.agg #[.slice T tn tc, .slice L ln lc], .int .i64 a, .int .i64 b] w fun e w' => e = .returned (.bool true) ∧ Below w.heap.size w w' := by
  have k0 : Below w.heap.size w (w.alloc (.cells #[.slice T tn tc, .slice L ln lc] TSto)) := (Below.refl _ _).alloc (Nat.le_refl _) _
  have HB0 := Lib.hid (Blk.new w TSto #[.slice T tn tc, .slice L ln lc])
  have HT := Lib.hid hT
  have HAL := Lib.hid (law_alive B _ (hT.next (k0.mono hB)) (Nat.le_trans hB k0.size))
  have HH := Lib.hid (h.keep (Keep.of k0))
  have HK0 := Lib.hid k0
  obtain ⟨g, hg⟩ : ∃ g, greatS s = g := ⟨_, rfl⟩
  have HGG := Lib.hid hg
  obtain ⟨e1, he1⟩ : ∃ e, backE s a = e := ⟨_, rfl⟩
  obtain ⟨e2, he2⟩ : ∃ e, backE s b = e := ⟨_, rfl⟩
  obtain ⟨e3, he3⟩ : ∃ e, backE (backT s b) a = e := ⟨_, rfl⟩
  have HE1 := Lib.hid he1; have HE2 := Lib.hid he2; have HE3 := Lib.hid he3
  clear hT h k0 hg he1 he2 he3
  go_enter Tryz.func5, Tryz.ntmps5
  go_wp2_with fail
  refine HAL.out.mono ?_
  rintro e w1 ⟨rfl, k⟩
  have HG := Lib.hid (ref28_Great T L tn tc ln lc s w1 (HH.out.keep (Keep.of k)))
  rw [HGG.out] at HG
  have HB1 := Lib.hid (HB0.out.below k HB0.out.lt); have HH1 := Lib.hid (HH.out.keep (Keep.of k)); have HK1 := Lib.hid (HK0.out.trans (k.mono HK0.out.size))
  have b0 := HB1.out.cell 0; have b1 := HB1.out.cell 1; have bl := HB1.out.lt
  clear k
  go_wp2_with fail
  refine HG.out.mono ?_
  rintro e w2 ⟨rfl, k⟩
  have HB2 := Lib.hid (HB1.out.below k HB1.out.lt); have HH2 := Lib.hid (HH1.out.keep (Keep.of k)); have HK2 := Lib.hid (HK1.out.trans (k.mono HK1.out.size))
  clear b0 b1 bl k
  cases g
  case true =>
    go_wp2
    go_ret
    exact ⟨rfl, HK2.out⟩
  have HBD := Lib.hid (greatS_f HGG.out)
  have b0 := HB2.out.cell 0; have b1 := HB2.out.cell 1; have bl := HB2.out.lt
  have HC := Lib.hid (undo_BackT B T L tn tc ln lc s a w2 HH2.out HBD.out (HT.out.next (HK2.out.mono hB)) (Nat.le_trans hB HK2.out.size))
  rw [HE1.out] at HC
  go_wp2_with fail
  refine HC.out.mono ?_
  rintro e w3 ⟨T1, tn1, tc1, L1, ln1, lc1, rfl, x1, _, _, k⟩
  have hka : Below w3.heap.size w3 (w3.alloc (.cells #[.slice T1 tn1 tc1, .slice L1 ln1 lc1] TSto)) := (Below.refl _ _).alloc (Nat.le_refl _) _
  have hk := k.trans (hka.mono k.size)
  have HB3 := Lib.hid (HB2.out.below hk HB2.out.lt); have HH3 := Lib.hid (HH2.out.keep (Keep.of hk)); have HK3 := Lib.hid (HK2.out.trans (hk.mono HK2.out.size))
  have HA1 := Lib.hid (x1.keep (Keep.of hka)); have HX1 := Lib.hid (Blk.new w3 TSto #[.slice T1 tn1 tc1, .slice L1 ln1 lc1])
  clear b0 b1 bl k hka hk x1
  have b0 := HB3.out.cell 0; have b1 := HB3.out.cell 1; have bl := HB3.out.lt
  have HC := Lib.hid (undo_BackT B T L tn tc ln lc s b _ HH3.out HBD.out (HT.out.next (HK3.out.mono hB)) (Nat.le_trans hB HK3.out.size))
  rw [HE2.out] at HC
  go_wp2_with fail
  refine HC.out.mono ?_
  rintro e w4 ⟨T2, tn2, tc2, L2, ln2, lc2, rfl, x2, _, _, k⟩
  have hka : Below w4.heap.size w4 (w4.alloc (.cells #[.slice T2 tn2 tc2, .slice L2 ln2 lc2] TSto)) := (Below.refl _ _).alloc (Nat.le_refl _) _
  have hk := k.trans (hka.mono k.size)
  have HB4 := Lib.hid (HB3.out.below hk HB3.out.lt); have HH4 := Lib.hid (HH3.out.keep (Keep.of hk)); have HK4 := Lib.hid (HK3.out.trans (hk.mono HK3.out.size))
  have HA2 := Lib.hid (x2.keep (Keep.of hka)); have HX2 := Lib.hid (HX1.out.below hk HX1.out.lt); have HA1' := Lib.hid (HA1.out.keep (Keep.of hk))
  clear b0 b1 bl k hka hk x2
  have HC := Lib.hid (undo_BackT B T2 L2 tn2 tc2 ln2 lc2 (backT s b) a _ HA2.out (backT_good s HBD.out b).2 (HT.out.next (HK4.out.mono hB)) (Nat.le_trans hB HK4.out.size))
  rw [HE3.out] at HC
  go_wp2_with fail
  refine HC.out.mono ?_
  rintro e w5 ⟨T3, tn3, tc3, L3, ln3, lc3, rfl, x3, _, _, k⟩
  have hka : Below w5.heap.size w5 (w5.alloc (.cells #[.slice T3 tn3 tc3, .slice L3 ln3 lc3] TSto)) := (Below.refl _ _).alloc (Nat.le_refl _) _
  have hk := k.trans (hka.mono k.size)
  have HB5 := Lib.hid (HB4.out.below hk HB4.out.lt); have HH5 := Lib.hid (HH4.out.keep (Keep.of hk)); have HK5 := Lib.hid (HK4.out.trans (hk.mono HK4.out.size))
  have HA3 := Lib.hid (x3.keep (Keep.of hka)); have HX3 := Lib.hid (HX2.out.below hk HX2.out.lt); have HA1'' := Lib.hid (HA1'.out.keep (Keep.of hk))
  have HSA := Lib.hid (ref28_Same T1 L1 T3 L3 tn1 tc1 ln1 lc1 tn3 tc3 ln3 lc3 (backT s a) (backT (backT s b) a) _ HA1''.out HA3.out)
  clear k hka hk x3
  go_upto_region 7 with fail
  go_cut [66] (fun p66 wx => p66 = .bool false ∧ Hid (Below (w5.alloc (.cells #[.slice T3 tn3 tc3, .slice L3 ln3 lc3] TSto)).heap.size (w5.alloc (.cells #[.slice T3 tn3 tc3, .slice L3 ln3 lc3] TSto)) wx))
  case first =>
    have c0 := HX3.out.cell 0; have c1 := HX3.out.cell 1; have cl := HX3.out.lt
    by_cases h1 : e1 = 0
    case neg =>
      have t1 : (e1 == 0) = false := by simpa using h1
      clear h1
      go_wp2
      go_meet
      exact ⟨rfl, Lib.hid (Below.refl _ _)⟩
    subst h1
    by_cases h2 : e2 = 0
    case neg =>
      have t2 : (e2 == 0) = false := by simpa using h2
      clear h2
      go_wp2
      go_meet
      exact ⟨rfl, Lib.hid (Below.refl _ _)⟩
    subst h2
    by_cases h3 : a ≤ b
    case neg =>
      go_wp2
      go_meet
      exact ⟨rfl, Lib.hid (Below.refl _ _)⟩
    obtain ⟨z1, z2⟩ := nested_z HE1.out HE2.out h3
    obtain rfl : e3 = 0 := HE3.out.symm.trans z1
    rw [decide_eq_true z2.symm] at HSA
    clear z1 z2
    go_wp2_with fail
    refine HSA.out.mono ?_
    rintro e w6 ⟨rfl, k⟩
    have HK6 := Lib.hid k
    clear k
    go_wp2
    go_meet
    exact ⟨rfl, HK6⟩
  case rest =>
    obtain ⟨rfl, HCU⟩ := hcut
    have HB6 := Lib.hid (HB5.out.below HCU.out HB5.out.lt); have HH6 := Lib.hid (HH5.out.keep (Keep.of HCU.out)); have HK6 := Lib.hid (HK5.out.trans (HCU.out.mono HK5.out.size))
    have b0 := HB6.out.cell 0; have b1 := HB6.out.cell 1; have bl := HB6.out.lt
    obtain ⟨e4, he4⟩ : ∃ e, backE s (ln : Int) = e := ⟨_, rfl⟩
    obtain ⟨e5, he5⟩ : ∃ e, stoE s = e := ⟨_, rfl⟩
    have HE4 := Lib.hid he4; have HE5 := Lib.hid he5
    have HC := Lib.hid (undo_BackT B T L tn tc ln lc s (ln : Int) wc HH6.out HBD.out (HT.out.next (HK6.out.mono hB)) (Nat.le_trans hB HK6.out.size))
    rw [he4] at HC
    clear he4 he5
    go_wp2_with fail
    refine HC.out.mono ?_
    rintro e w7 ⟨T4, tn4, tc4, L4, ln4, lc4, rfl, x4, _, _, k⟩
    have hka : Below w7.heap.size w7 (w7.alloc (.cells #[.slice T4 tn4 tc4, .slice L4 ln4 lc4] TSto)) := (Below.refl _ _).alloc (Nat.le_refl _) _
    have hk := k.trans (hka.mono k.size)
    have HB7 := Lib.hid (HB6.out.below hk HB6.out.lt); have HH7 := Lib.hid (HH6.out.keep (Keep.of hk)); have HK7 := Lib.hid (HK6.out.trans (hk.mono HK6.out.size))
    have HA4 := Lib.hid (x4.keep (Keep.of hka)); have HX4 := Lib.hid (Blk.new w7 TSto #[.slice T4 tn4 tc4, .slice L4 ln4 lc4])
    clear b0 b1 bl k hka hk x4
    have b0 := HB7.out.cell 0; have b1 := HB7.out.cell 1; have bl := HB7.out.lt
    have HC := Lib.hid (undo_ForgetT B T L tn tc ln lc s _ HH7.out HBD.out (HT.out.next (HK7.out.mono hB)) (Nat.le_trans hB HK7.out.size))
    rw [HE5.out] at HC
    go_wp2_with fail
    refine HC.out.mono ?_
    rintro e w8 ⟨T5, tn5, tc5, L5, ln5, lc5, rfl, x5, _, _, k⟩
    have hka : Below w8.heap.size w8 (w8.alloc (.cells #[.slice T5 tn5 tc5, .slice L5 ln5 lc5] TSto)) := (Below.refl _ _).alloc (Nat.le_refl _) _
    have hk := k.trans (hka.mono k.size)
    have HB8 := Lib.hid (HB7.out.below hk HB7.out.lt); have HH8 := Lib.hid (HH7.out.keep (Keep.of hk)); have HK8 := Lib.hid (HK7.out.trans (hk.mono HK7.out.size))
    have HA5 := Lib.hid (x5.keep (Keep.of hka)); have HX5 := Lib.hid (HX4.out.below hk HX4.out.lt); have HA4' := Lib.hid (HA4.out.keep (Keep.of hk))
    have HY5 := Lib.hid (Blk.new w8 TSto #[.slice T5 tn5 tc5, .slice L5 ln5 lc5])
    clear b0 b1 bl k hka hk x5
    have b0 := HB8.out.cell 0; have b1 := HB8.out.cell 1; have bl := HB8.out.lt
    by_cases hok : StoOk s
    case neg =>
      obtain rfl : e4 = 8 := HE4.out.symm.trans (backE_bad hok _)
      obtain rfl : e5 = 8 := HE5.out.symm.trans (stoE_no hok)
      have HCK := Lib.hid (undo_Check B T L tn tc ln lc s _ HH8.out HBD.out (HT.out.next (HK8.out.mono hB)) (Nat.le_trans hB HK8.out.size))
      rw [stoE_no hok] at HCK
      clear hok
      go_wp2_with fail
      refine HCK.out.mono ?_
      rintro e w9 ⟨rfl, k⟩
      have HK9 := Lib.hid (HK8.out.trans (k.mono HK8.out.size))
      clear k
      go_wp2
      go_ret
      exact ⟨rfl, HK9.out⟩
    have HOK := Lib.hid hok
    obtain ⟨z1, z2⟩ := here_s hok
    rw [HH8.out.ln.out] at z1 z2
    obtain rfl : e4 = 0 := HE4.out.symm.trans z1
    obtain rfl : e5 = 0 := HE5.out.symm.trans (stoE_yes hok)
    have hfg : forgT s = ⟨s.tables, []⟩ := by unfold forgT; rw [if_pos HE5.out]
    rw [z2] at HA4'
    rw [hfg] at HA5
    have hj : backE ⟨s.tables, []⟩ 1 = 2 := backE_out (s := ⟨s.tables, []⟩) (show StoOk ⟨s.tables, []⟩ from ⟨hok.tabs, by simp, rfl⟩) (by show ¬ ((0 : Int) ≤ 1 ∧ (1 : Int) ≤ ((0 : Nat) : Int)); omega)
    have HC := Lib.hid (undo_BackT B T5 L5 tn5 tc5 ln5 lc5 ⟨s.tables, []⟩ 1 _ HA5.out (by rw [← hfg]; exact (forgT_good s HBD.out).2) (HT.out.next (HK8.out.mono hB)) (Nat.le_trans hB HK8.out.size))
    rw [hj] at HC
    obtain rfl : ln5 = 0 := HA5.out.ln.out.symm
    clear z1 z2 hfg hj hok b0 b1 bl
    go_wp2_with fail
    refine HC.out.mono ?_
    rintro e w9 ⟨T6, tn6, tc6, L6, ln6, lc6, rfl, _, _, _, k⟩
    have hka : Below w9.heap.size w9 (w9.alloc (.cells #[.slice T6 tn6 tc6, .slice L6 ln6 lc6] TSto)) := (Below.refl _ _).alloc (Nat.le_refl _) _
    have hk := k.trans (hka.mono k.size)
    have HB9 := Lib.hid (HB8.out.below hk HB8.out.lt); have HH9 := Lib.hid (HH8.out.keep (Keep.of hk)); have HK9 := Lib.hid (HK8.out.trans (hk.mono HK8.out.size))
    have HA5' := Lib.hid (HA5.out.keep (Keep.of hk)); have HX9 := Lib.hid (HX5.out.below hk HX5.out.lt); have HY9 := Lib.hid (HY5.out.below hk HY5.out.lt); have HA9 := Lib.hid (HA4'.out.keep (Keep.of hk))
    clear k hka hk
    have b0 := HB9.out.cell 0; have b1 := HB9.out.cell 1; have bl := HB9.out.lt
    have c0 := HX9.out.cell 0; have c1 := HX9.out.cell 1; have cl := HX9.out.lt
    have hs := ref28_Same T4 L4 T L tn4 tc4 ln4 lc4 tn tc ln lc s s _ HA9.out HH9.out
    rw [decide_eq_true rfl] at hs
    have HSS := Lib.hid hs
    clear hs
    go_wp2_with fail
    refine HSS.out.mono ?_
    rintro e wa ⟨rfl, k⟩
    have HBa := Lib.hid (HB9.out.below k HB9.out.lt); have HHa := Lib.hid (HH9.out.keep (Keep.of k)); have HKa := Lib.hid (HK9.out.trans (k.mono HK9.out.size))
    have HA5a := Lib.hid (HA5'.out.keep (Keep.of k)); have HYa := Lib.hid (HY9.out.below k HY9.out.lt)
    clear b0 b1 bl c0 c1 cl k
    have b0 := HBa.out.cell 0; have b1 := HBa.out.cell 1; have bl := HBa.out.lt
    have d0 := HYa.out.cell 0; have d1 := HYa.out.cell 1; have dl := HYa.out.lt
    have hs := undo_Alike T5 L5 T L tn5 tc5 0 lc5 tn tc ln lc s.tables s.tables _ HA5a.out.tabs HHa.out.tabs HA5a.out.tn HHa.out.tn
    rw [decide_eq_true rfl] at hs
    have HSS := Lib.hid hs
    clear hs
    go_wp2_with fail
    refine HSS.out.mono ?_
    rintro e wb ⟨rfl, k⟩
    have HKb := Lib.hid (HKa.out.trans (k.mono HKa.out.size)); have HYb := Lib.hid (HYa.out.below k HYa.out.lt)
    clear b0 b1 bl d0 d1 dl k
    have d0 := HYb.out.cell 0; have d1 := HYb.out.cell 1; have dl := HYb.out.lt
    go_wp2
    go_ret
    exact ⟨rfl, HKb.out⟩
end Go.Proofs.YtbdkedjgfihamaaGreatDoor
