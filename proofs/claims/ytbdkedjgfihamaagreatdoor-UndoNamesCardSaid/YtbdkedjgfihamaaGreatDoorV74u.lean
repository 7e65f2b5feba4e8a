/- Walks: THE LAW UndoNames. PUT1 -/
import Derived.Test.YtbdkedjgfihamaaGreatDoorV71u
namespace Go.Proofs.YtbdkedjgfihamaaGreatDoor
open Go.RowKit Pv Go.Maps
def badC : Chg := ⟨1, sA, false, ⟨ByteArray.empty, []⟩⟩
def badS : Sto := ⟨[tab0], [badC]⟩
theorem badS_no : ¬ StoOk badS := fun h => by
  have h1 := h.back
  have h2 : back1 badS.tables badC = none := by
    unfold back1
    rw [if_neg (by decide)]
  have h3 : backN badS.log.reverse badS.tables = none := by
    show (back1 badS.tables badC).bind (backN []) = none
    rw [h2]; rfl
  rw [h3] at h1
  cases h1
theorem badS_bd : StoBd badS := by
  refine ⟨by simp [badS], by simp [badS], fun t ht => sto0_bd.tab t (by simpa [badS, sto0] using ht), fun x hx => ?_⟩
  simp [badS] at hx
  subst hx
  exact ⟨by simp [badC], fun y hy => by simp [badC] at hy⟩
theorem bad_log {W : World} {g : Nat} (h : Blk W g TCh #[.int .i64 1, .string sA, .bool false, .string ⟨#[]⟩, .slice none 0 0]) : AtChg W (some ⟨g, 0, none⟩) [badC] :=
  (AtK.of_own (base := 0) (own_of_blk (n := 1) (k := 5) h (Nat.zero_le _) rfl (by decide)) (RelK.one (f := f5 (.int .i64 1) (.string sA) (.bool false) (.string ⟨#[]⟩) (.slice none 0 0)) rfl (fun j hj => by match j, hj with | 0, _ => rfl | 1, _ => rfl | 2, _ => rfl | 3, _ => rfl | 4, _ => rfl) ⟨⟨rfl, by decide⟩, ⟨rfl, by decide⟩, rfl, ⟨rfl, by decide⟩, ⟨none, 0, rfl, AtK.nil, by decide⟩⟩) rfl (by simp)).2
theorem turn_1 : turnE sto0 1 (fun t => putB t recB) = 2 := turnE_out sto0_ok (by decide)
def recA2 : Rec := ⟨sA, recC sA 2⟩
theorem turn_a2 : turnE sto0 0 (fun t => putB t recA2) = 271 := by
  rw [show (0 : Int) = ((0 : Nat) : Int) from rfl, turnE_at sto0_ok (t := tab0) rfl]
  rw [if_neg (by rw [show putB tab0 recA2 = 271 from put_a2]; decide)]
  exact put_a2
theorem recA2_bd : CelsB recA2.data := by
  intro x hx
  simp [recA2, recC, objC, memC] at hx
  rcases hx with rfl | rfl | rfl
  · simp
  · simp [sId]; exact ⟨by decide, by decide⟩
  · simp; decide
theorem find_T {i : Int} (h : FindP sto2.tables sT i) : i = 0 := by
  have hl : sto2.tables = [(tab0.put recB).drop sA] := rfl
  rcases h with ⟨_, h⟩ | ⟨k, t, rfl, hk, _, _⟩
  · exact absurd rfl (h ((tab0.put recB).drop sA) (by rw [hl]; simp))
  · have := lt_of_get hk
    rw [hl] at this
    simp at this
    omega
set_option maxHeartbeats 8000000 in
set_option maxRecDepth 100000 in
theorem law_UndoNames (B : Nat) (w : World) (hT : TabS B w) (hB : B ≤ w.heap.size) :
    Calls Tryz.prog 3 #[] w fun e w' => e = .returned (.bool true) ∧ Below w.heap.size w w' := by
  have HT := Lib.hid hT
  have HSM := Lib.hid (fun W (k : Below w.heap.size w W) => law_small B W (hT.next (k.mono hB)) (Nat.le_trans hB k.size))
  have HKS := Lib.hid (Below.refl w.heap.size w)
  clear hT
  go_enter Tryz.func3, Tryz.ntmps3
  go_wp2_with fail
  refine (HSM.out _ HKS.out).mono ?_
  rintro e w1 ⟨v1, rfl, hs, k⟩
  obtain ⟨T1, tn1, tc1, L1, ln1, lc1, rfl, ha, h11, h12⟩ := hs.at_ sto0_bd
  have HA1 := Lib.hid ha
  have HK2 := Lib.hid (HKS.out.trans (k.mono HKS.out.size))
  clear hs k ha
  have HR := Lib.hid (law_record B sB 2 _ may_b1 may_b (by decide) (by decide) (HT.out.next (HK2.out.mono hB)) (Nat.le_trans hB HK2.out.size))
  go_wp2_with fail
  refine HR.out.mono ?_
  rintro e w3 ⟨D3, c3, rfl, ho, k⟩
  obtain ⟨o1, o2, o33⟩ := ho.at_ (by decide)
  have HD3 := Lib.hid (show AtCel w3 D3 (recC sB 2) from o1)
  have HL3 : Hid ((recC sB 2).length = 3) := o2
  have HA1 := Lib.hid (HA1.out.keep (Keep.of k))
  have HK4 := Lib.hid (HK2.out.trans (k.mono HK2.out.size))
  clear ho k o1 o2 HR
  have HC := Lib.hid (undo_Put B T1 L1 tn1 tc1 ln1 lc1 sto0 0 D3 c3 3 recB _ HA1.out h11 h12 sto0_bd HD3.out HL3 o33 (by decide) recB_bd (HT.out.next (HK4.out.mono hB)) (Nat.le_trans hB HK4.out.size))
  go_wp2_with fail
  refine HC.out.mono ?_
  rintro e w5 hres
  obtain ⟨v5, rfl, hs, k⟩ := hres.exact (i := 0) sto0_ok rfl put_b (by decide)
  have hs : StoV w5 _ v5 sto1 := hs
  obtain ⟨T5, tn5, tc5, L5, ln5, lc5, rfl, ha, h51, h52⟩ := hs.at_ sto1_done.bd
  have hka : Below w5.heap.size w5 (w5.alloc (.cells #[.slice T5 tn5 tc5, .slice L5 ln5 lc5] TSto)) := (Below.refl _ _).alloc (Nat.le_refl _) _
  have hk := k.trans (hka.mono k.size)
  have HK6 := Lib.hid (HK4.out.trans (hk.mono HK4.out.size))
  have HA5 := Lib.hid (ha.keep (Keep.of hka))
  have HX5 := Lib.hid (Blk.new w5 TSto #[.slice T5 tn5 tc5, .slice L5 ln5 lc5])
  clear hres hs k ha hka hk HC
  have HC := Lib.hid (undo_Drop B T5 L5 tn5 tc5 ln5 lc5 sto1 0 sA _ HA5.out h51 h52 sto1_done.bd (by decide) (HT.out.next (HK6.out.mono hB)) (Nat.le_trans hB HK6.out.size))
  go_wp2_with fail
  refine HC.out.mono ?_
  rintro e w7 hres
  obtain ⟨v7, rfl, hs, k⟩ := hres.exact (i := 0) sto1_done.ok sto1_tab drop_a (by rw [sto1_done.len]; decide)
  have hs : StoV w7 _ v7 sto2 := hs
  obtain ⟨T7, tn7, tc7, L7, ln7, lc7, rfl, ha, h71, h72⟩ := hs.at_ sto2_done.bd
  have hka : Below w7.heap.size w7 (w7.alloc (.cells #[.slice T7 tn7 tc7, .slice L7 ln7 lc7] TSto)) := (Below.refl _ _).alloc (Nat.le_refl _) _
  have hk := k.trans (hka.mono k.size)
  have HA5 := Lib.hid (HA5.out.keep (Keep.of hk))
  have HX5 := Lib.hid (HX5.out.below hk HX5.out.lt)
  have HK8 := Lib.hid (HK6.out.trans (hk.mono HK6.out.size))
  have HA7 := Lib.hid (ha.keep (Keep.of hka))
  have HX7 := Lib.hid (Blk.new w7 TSto #[.slice T7 tn7 tc7, .slice L7 ln7 lc7])
  clear hres hs k ha hka hk HC
  have e1 : backE sto2 1 = 0 := backE_in sto2_done.ok (by decide) (by rw [sto2_len]; decide)
  have t1 : backT sto2 1 = sto1 := by rw [backT_in e1]; exact sto2_back1
  have e3 : backE sto2 3 = 2 := backE_out sto2_done.ok (by rw [sto2_len]; decide)
  have HE3 := Lib.hid e3
  have HC := Lib.hid (undo_BackT B T7 L7 tn7 tc7 ln7 lc7 sto2 1 _ HA7.out sto2_done.bd (HT.out.next (HK8.out.mono hB)) (Nat.le_trans hB HK8.out.size))
  rw [e1, t1] at HC
  clear e1 t1 e3
  go_wp2_with fail
  refine HC.out.mono ?_
  rintro e w9 ⟨T9, tn9, tc9, L9, ln9, lc9, rfl, ha, h91, h92, k⟩
  have hka : Below w9.heap.size w9 (w9.alloc (.cells #[.slice T9 tn9 tc9, .slice L9 ln9 lc9] TSto)) := (Below.refl _ _).alloc (Nat.le_refl _) _
  have hk := k.trans (hka.mono k.size)
  have HA5 := Lib.hid (HA5.out.keep (Keep.of hk))
  have HX5 := Lib.hid (HX5.out.below hk HX5.out.lt)
  have HA7 := Lib.hid (HA7.out.keep (Keep.of hk))
  have HX7 := Lib.hid (HX7.out.below hk HX7.out.lt)
  have HK10 := Lib.hid (HK8.out.trans (hk.mono HK8.out.size))
  have HA9 := Lib.hid (ha.keep (Keep.of hka))
  have HX9 := Lib.hid (Blk.new w9 TSto #[.slice T9 tn9 tc9, .slice L9 ln9 lc9])
  clear k ha hka hk HC
  go_wp2_with fail
  refine (HSM.out _ HK10.out).mono ?_
  rintro e w11 ⟨v11, rfl, hs, k⟩
  obtain ⟨T11, tn11, tc11, L11, ln11, lc11, rfl, ha, h111, h112⟩ := hs.at_ sto0_bd
  have HA11 := Lib.hid ha
  have HA5 := Lib.hid (HA5.out.keep (Keep.of k))
  have HX5 := Lib.hid (HX5.out.below k HX5.out.lt)
  have HA7 := Lib.hid (HA7.out.keep (Keep.of k))
  have HX7 := Lib.hid (HX7.out.below k HX7.out.lt)
  have HA9 := Lib.hid (HA9.out.keep (Keep.of k))
  have HX9 := Lib.hid (HX9.out.below k HX9.out.lt)
  have HK12 := Lib.hid (HK10.out.trans (k.mono HK10.out.size))
  clear hs k ha
  have HR := Lib.hid (law_record B sB 2 _ may_b1 may_b (by decide) (by decide) (HT.out.next (HK12.out.mono hB)) (Nat.le_trans hB HK12.out.size))
  go_wp2_with fail
  refine HR.out.mono ?_
  rintro e w13 ⟨D13, c13, rfl, ho, k⟩
  obtain ⟨o1, o2, o313⟩ := ho.at_ (by decide)
  have HD13 := Lib.hid (show AtCel w13 D13 (recC sB 2) from o1)
  have HL13 : Hid ((recC sB 2).length = 3) := o2
  have HA5 := Lib.hid (HA5.out.keep (Keep.of k))
  have HX5 := Lib.hid (HX5.out.below k HX5.out.lt)
  have HA7 := Lib.hid (HA7.out.keep (Keep.of k))
  have HX7 := Lib.hid (HX7.out.below k HX7.out.lt)
  have HA9 := Lib.hid (HA9.out.keep (Keep.of k))
  have HX9 := Lib.hid (HX9.out.below k HX9.out.lt)
  have HA11 := Lib.hid (HA11.out.keep (Keep.of k))
  have HK14 := Lib.hid (HK12.out.trans (k.mono HK12.out.size))
  clear ho k o1 o2 HR
  have HC := Lib.hid (undo_Put B T11 L11 tn11 tc11 ln11 lc11 sto0 1 D13 c13 3 recB _ HA11.out h111 h112 sto0_bd HD13.out HL13 o313 (by decide) recB_bd (HT.out.next (HK14.out.mono hB)) (Nat.le_trans hB HK14.out.size))
  go_wp2_with fail
  refine HC.out.mono ?_
  rintro e w15 hres
  obtain ⟨rfl, k⟩ := hres.err turn_1 (by decide)
  have hka : Below w15.heap.size w15 (w15.alloc (.cells #[.slice none 0 0, .slice none 0 0] TSto)) := (Below.refl _ _).alloc (Nat.le_refl _) _
  have hk := k.trans (hka.mono k.size)
  have HA5 := Lib.hid (HA5.out.keep (Keep.of hk))
  have HX5 := Lib.hid (HX5.out.below hk HX5.out.lt)
  have HA7 := Lib.hid (HA7.out.keep (Keep.of hk))
  have HX7 := Lib.hid (HX7.out.below hk HX7.out.lt)
  have HA9 := Lib.hid (HA9.out.keep (Keep.of hk))
  have HX9 := Lib.hid (HX9.out.below hk HX9.out.lt)
  have HK16 := Lib.hid (HK14.out.trans (hk.mono HK14.out.size))
  clear hres k hka hk HC
  have y0 := HX7.out.cell 0; have y1 := HX7.out.cell 1; have yl := HX7.out.lt
  have HC := Lib.hid (undo_BackT B T7 L7 tn7 tc7 ln7 lc7 sto2 3 _ HA7.out sto2_done.bd (HT.out.next (HK16.out.mono hB)) (Nat.le_trans hB HK16.out.size))
  rw [HE3.out] at HC
  go_wp2_with fail
  refine HC.out.mono ?_
  rintro e w17 ⟨T17, tn17, tc17, L17, ln17, lc17, rfl, _, _, _, k⟩
  have hka : Below w17.heap.size w17 (w17.alloc (.cells #[.slice T17 tn17 tc17, .slice L17 ln17 lc17] TSto)) := (Below.refl _ _).alloc (Nat.le_refl _) _
  have hk := k.trans (hka.mono k.size)
  have HA5 := Lib.hid (HA5.out.keep (Keep.of hk))
  have HX5 := Lib.hid (HX5.out.below hk HX5.out.lt)
  have HA7 := Lib.hid (HA7.out.keep (Keep.of hk))
  have HX7 := Lib.hid (HX7.out.below hk HX7.out.lt)
  have HA9 := Lib.hid (HA9.out.keep (Keep.of hk))
  have HX9 := Lib.hid (HX9.out.below hk HX9.out.lt)
  have HK18 := Lib.hid (HK16.out.trans (hk.mono HK16.out.size))
  clear k hka hk HC y0 y1 yl
  have y0 := HX7.out.cell 0; have y1 := HX7.out.cell 1; have yl := HX7.out.lt
  have HC := Lib.hid (undo_Find T7 L7 tn7 tc7 ln7 lc7 sto2.tables sT _ HA7.out.tabs HA7.out.tn (by have := HA7.out.tn.out; have := sto2_done.bd.tn; omega))
  go_wp2_with fail
  refine HC.out.mono ?_
  rintro e w19 ⟨⟨i, hi, rfl⟩, k⟩
  obtain rfl := find_T hi
  have HA5 := Lib.hid (HA5.out.keep (Keep.of k))
  have HX5 := Lib.hid (HX5.out.below k HX5.out.lt)
  have HA7 := Lib.hid (HA7.out.keep (Keep.of k))
  have HX7 := Lib.hid (HX7.out.below k HX7.out.lt)
  have HA9 := Lib.hid (HA9.out.keep (Keep.of k))
  have HX9 := Lib.hid (HX9.out.below k HX9.out.lt)
  have HK20 := Lib.hid (HK18.out.trans (k.mono HK18.out.size))
  clear k hi HC y0 y1 yl
  go_wp2_with fail
  refine (HSM.out _ HK20.out).mono ?_
  rintro e w21 ⟨v21, rfl, hs, k⟩
  obtain ⟨T21, tn21, tc21, L21, ln21, lc21, rfl, ha, h211, h212⟩ := hs.at_ sto0_bd
  have HA21 := Lib.hid ha
  have HA5 := Lib.hid (HA5.out.keep (Keep.of k))
  have HX5 := Lib.hid (HX5.out.below k HX5.out.lt)
  have HA7 := Lib.hid (HA7.out.keep (Keep.of k))
  have HX7 := Lib.hid (HX7.out.below k HX7.out.lt)
  have HA9 := Lib.hid (HA9.out.keep (Keep.of k))
  have HX9 := Lib.hid (HX9.out.below k HX9.out.lt)
  have HK22 := Lib.hid (HK20.out.trans (k.mono HK20.out.size))
  clear hs k ha
  have HR := Lib.hid (law_record B sA 2 _ may_a1 may_a2 (by decide) (by decide) (HT.out.next (HK22.out.mono hB)) (Nat.le_trans hB HK22.out.size))
  go_wp2_with fail
  refine HR.out.mono ?_
  rintro e w23 ⟨D23, c23, rfl, ho, k⟩
  obtain ⟨o1, o2, o323⟩ := ho.at_ (by decide)
  have HD23 := Lib.hid (show AtCel w23 D23 (recC sA 2) from o1)
  have HL23 : Hid ((recC sA 2).length = 3) := o2
  have HA5 := Lib.hid (HA5.out.keep (Keep.of k))
  have HX5 := Lib.hid (HX5.out.below k HX5.out.lt)
  have HA7 := Lib.hid (HA7.out.keep (Keep.of k))
  have HX7 := Lib.hid (HX7.out.below k HX7.out.lt)
  have HA9 := Lib.hid (HA9.out.keep (Keep.of k))
  have HX9 := Lib.hid (HX9.out.below k HX9.out.lt)
  have HA21 := Lib.hid (HA21.out.keep (Keep.of k))
  have HK24 := Lib.hid (HK22.out.trans (k.mono HK22.out.size))
  clear ho k o1 o2 HR
  have HC := Lib.hid (undo_Put B T21 L21 tn21 tc21 ln21 lc21 sto0 0 D23 c23 3 recA2 _ HA21.out h211 h212 sto0_bd HD23.out HL23 o323 (by decide) recA2_bd (HT.out.next (HK24.out.mono hB)) (Nat.le_trans hB HK24.out.size))
  go_wp2_with fail
  refine HC.out.mono ?_
  rintro e w25 hres
  obtain ⟨rfl, k⟩ := hres.err turn_a2 (by decide)
  have hka : Below w25.heap.size w25 (w25.alloc (.cells #[.slice none 0 0, .slice none 0 0] TSto)) := (Below.refl _ _).alloc (Nat.le_refl _) _
  have hk := k.trans (hka.mono k.size)
  have HA5 := Lib.hid (HA5.out.keep (Keep.of hk))
  have HX5 := Lib.hid (HX5.out.below hk HX5.out.lt)
  have HA7 := Lib.hid (HA7.out.keep (Keep.of hk))
  have HX7 := Lib.hid (HX7.out.below hk HX7.out.lt)
  have HA9 := Lib.hid (HA9.out.keep (Keep.of hk))
  have HX9 := Lib.hid (HX9.out.below hk HX9.out.lt)
  have HK26 := Lib.hid (HK24.out.trans (hk.mono HK24.out.size))
  clear hres k hka hk HC
  go_wp2_with fail
  refine (HSM.out _ HK26.out).mono ?_
  rintro e w27 ⟨v27, rfl, hs, k⟩
  obtain ⟨T27, tn27, tc27, L27, ln27, lc27, rfl, ha, h271, h272⟩ := hs.at_ sto0_bd
  have hka : Below w27.heap.size w27 ((w27.alloc (.cells #[.slice T27 tn27 tc27, .slice (some ⟨w27.heap.size + 1, 0, none⟩) 1 1] TSto)).alloc (.cells #[.int .i64 1, .string sA, .bool false, .string ⟨#[]⟩, .slice none 0 0] TCh)) := ((Below.refl _ _).alloc (Nat.le_refl _) _).alloc (by simp) _
  have hk := k.trans (hka.mono k.size)
  have HA5 := Lib.hid (HA5.out.keep (Keep.of hk))
  have HX5 := Lib.hid (HX5.out.below hk HX5.out.lt)
  have HA7 := Lib.hid (HA7.out.keep (Keep.of hk))
  have HX7 := Lib.hid (HX7.out.below hk HX7.out.lt)
  have HA9 := Lib.hid (HA9.out.keep (Keep.of hk))
  have HX9 := Lib.hid (HX9.out.below hk HX9.out.lt)
  have HK28 := Lib.hid (HK26.out.trans (hk.mono HK26.out.size))
  have HAB := Lib.hid (show StoAt ((w27.alloc (.cells #[.slice T27 tn27 tc27, .slice (some ⟨w27.heap.size + 1, 0, none⟩) 1 1] TSto)).alloc (.cells #[.int .i64 1, .string sA, .bool false, .string ⟨#[]⟩, .slice none 0 0] TCh)) T27 tn27 (some ⟨w27.heap.size + 1, 0, none⟩) 1 badS from ⟨AtTab.keep ha.tabs (Keep.of hka), bad_log (blkV2 w27 TSto TCh _ _), ha.tn, Lib.hid rfl⟩)
  have HXB := Lib.hid (blkA w27 TSto TCh #[.slice T27 tn27 tc27, .slice (some ⟨w27.heap.size + 1, 0, none⟩) 1 1] #[.int .i64 1, .string sA, .bool false, .string ⟨#[]⟩, .slice none 0 0])
  clear hs k ha hka hk
  have HC := Lib.hid (law_alive B _ (HT.out.next (HK28.out.mono hB)) (Nat.le_trans hB HK28.out.size))
  go_wp2_with fail
  refine HC.out.mono ?_
  rintro e wy ⟨rfl, k⟩
  have HA5 := Lib.hid (HA5.out.keep (Keep.of k))
  have HX5 := Lib.hid (HX5.out.below k HX5.out.lt)
  have HA7 := Lib.hid (HA7.out.keep (Keep.of k))
  have HX7 := Lib.hid (HX7.out.below k HX7.out.lt)
  have HA9 := Lib.hid (HA9.out.keep (Keep.of k))
  have HX9 := Lib.hid (HX9.out.below k HX9.out.lt)
  have HAB := Lib.hid (HAB.out.keep (Keep.of k))
  have HXB := Lib.hid (HXB.out.below k HXB.out.lt)
  have HK29 := Lib.hid (HK28.out.trans (k.mono HK28.out.size))
  clear k HC
  have z0 := HX9.out.cell 0; have z1 := HX9.out.cell 1; have zl := HX9.out.lt
  have x0 := HX5.out.cell 0; have x1 := HX5.out.cell 1; have xl := HX5.out.lt
  have hs := ref28_Same T9 L9 T5 L5 tn9 tc9 ln9 lc9 tn5 tc5 ln5 lc5 sto1 sto1 _ HA9.out HA5.out
  rw [decide_eq_true rfl] at hs
  have HC := Lib.hid hs
  clear hs
  go_wp2_with fail
  refine HC.out.mono ?_
  rintro e wz ⟨rfl, k⟩
  have HA5 := Lib.hid (HA5.out.keep (Keep.of k))
  have HX5 := Lib.hid (HX5.out.below k HX5.out.lt)
  have HA7 := Lib.hid (HA7.out.keep (Keep.of k))
  have HX7 := Lib.hid (HX7.out.below k HX7.out.lt)
  have HA9 := Lib.hid (HA9.out.keep (Keep.of k))
  have HX9 := Lib.hid (HX9.out.below k HX9.out.lt)
  have HAB := Lib.hid (HAB.out.keep (Keep.of k))
  have HXB := Lib.hid (HXB.out.below k HXB.out.lt)
  have HK30 := Lib.hid (HK29.out.trans (k.mono HK29.out.size))
  clear k HC z0 z1 zl x0 x1 xl
  have b0 := HXB.out.cell 0; have b1 := HXB.out.cell 1; have bl := HXB.out.lt
  have HC := Lib.hid (undo_Check B T27 (some ⟨w27.heap.size + 1, 0, none⟩) tn27 tc27 1 1 badS _ HAB.out badS_bd (HT.out.next (HK30.out.mono hB)) (Nat.le_trans hB HK30.out.size))
  rw [stoE_no badS_no] at HC
  go_wp2_with fail
  refine HC.out.mono ?_
  rintro e we ⟨rfl, k⟩
  have HKE := Lib.hid (HK30.out.trans (k.mono HK30.out.size))
  clear k
  go_wp2
  go_ret
  exact ⟨rfl, HKE.out⟩
end Go.Proofs.YtbdkedjgfihamaaGreatDoor
