/- Walks: the chapter's store. PUT1 -/
import Derived.Test.YtbdkedjgfihamaaGreatDoorV67u
namespace Go.Proofs.YtbdkedjgfihamaaGreatDoor
open Go.RowKit Pv Go.Maps
abbrev sA : ByteArray := ⟨#[97]⟩
abbrev sB : ByteArray := ⟨#[98]⟩
abbrev sN : ByteArray := ⟨#[110]⟩
abbrev sT : ByteArray := ⟨#[84]⟩
def tab0 : Tab := ⟨sT, 2, [sN], [⟨sA, recC sA 1⟩]⟩
def sto0 : Sto := ⟨[tab0], []⟩
def recB : Rec := ⟨sB, recC sB 2⟩
theorem may_a1 : mayV [⟨3, ByteArray.empty, sA, 0, 0⟩] = true := by decide +kernel
theorem may_b1 : mayV [⟨3, ByteArray.empty, sB, 0, 0⟩] = true := by decide +kernel
theorem may_a : mayV (recC sA 1) = true := by decide +kernel
theorem may_b : mayV (recC sB 2) = true := by decide +kernel
theorem may_a2 : mayV (recC sA 2) = true := by decide +kernel
theorem tab0_ok : TabOk tab0 := (tabB_iff _).1 (by decide +kernel)
theorem sto0_ok : StoOk sto0 := ⟨⟨fun t ht => by simp [sto0] at ht; subst ht; exact tab0_ok, by simp [sto0], by simp [sto0]⟩, by simp [sto0], rfl⟩
theorem put_b : putB tab0 recB = 0 := by decide +kernel
theorem drop_a : dropB (tab0.put recB) sA = 0 := by decide +kernel
theorem put_a2 : putB tab0 ⟨sA, recC sA 2⟩ = 271 := by decide +kernel
theorem rows_ab : ((tab0.put recB).drop sA).rows.length = 1 := by decide +kernel
theorem sto0_bd : StoBd sto0 := by
  refine ⟨by simp [sto0], by simp [sto0], fun t ht => ?_, fun x hx => by simp [sto0] at hx⟩
  simp [sto0] at ht
  subst ht
  refine TabOk.bd tab0_ok (by simp [tab0]) fun r hr => ?_
  simp [tab0] at hr
  subst hr
  intro x hx
  simp [recC, objC, memC] at hx
  rcases hx with rfl | rfl | rfl
  · simp
  · simp [sId]; exact ⟨by decide, by decide⟩
  · simp; decide
theorem StoV.set2 {w W : World} {base b tn tc ln lc : Nat} {T L : Option Addr} {z0 z1 : Value} {s : Sto} (h : StoV W base (.agg #[.slice T tn tc, .slice L ln lc]) s) (hb : Blk W b TSto #[z0, z1]) (hl : w.heap.size ≤ base) :
    StoV (set2 W b (.slice T tn tc) (.slice L ln lc)) w.heap.size (.agg #[.slice T tn tc, .slice L ln lc]) s := by
  obtain ⟨T', tn', tc', L', ln', lc', e, h'⟩ := h.lay hb hl
  simp at e
  obtain ⟨⟨rfl, rfl, rfl⟩, rfl, rfl, rfl⟩ := e
  exact h'
theorem own_tab1 {W : World} {base gN gR gT c : Nat} {D : Option Addr} {nm un id : ByteArray} {most : Int} {data : List Cel} {n : Nat} (hN : Blk W gN TSt #[.string un]) (hR : Blk W gR TRe #[.string id, .slice D n c]) (hT : Blk W gT TTb #[.string nm, .int .i64 most, .slice (some ⟨gN, 0, none⟩) 1 1, .slice (some ⟨gR, 0, none⟩) 1 1])
    (hD : OwnC W base (.slice D n c) data) (h1 : base ≤ gN) (h2 : base ≤ gR) (h3 : base ≤ gT) (b1 : nm.size ≤ 140737488355328) (b2 : un.size ≤ 140737488355328) (b3 : id.size ≤ 140737488355328) (b4 : -9223372036854775808 ≤ most ∧ most ≤ 9223372036854775807) :
    OwnK W base TTb 4 (OTb W base) (.slice (some ⟨gT, 0, none⟩) 1 1) [⟨nm, most, [un], [⟨id, data⟩]⟩] := by
  refine ⟨_, 1, _, rfl, own_of_blk hT h3 rfl (show 1 ≤ maxLen by decide), RelK.one (f := f4 (.string nm) (.int .i64 most) (.slice (some ⟨gN, 0, none⟩) 1 1) (.slice (some ⟨gR, 0, none⟩) 1 1)) rfl (fun j hj => by match j, hj with | 0, _ => rfl | 1, _ => rfl | 2, _ => rfl | 3, _ => rfl) ⟨⟨rfl, b1⟩, ⟨rfl, b4⟩, ?_, ?_⟩⟩
  · exact ⟨_, 1, _, rfl, own_of_blk hN h1 rfl (show 1 ≤ maxLen by decide), rfl, fun i u x hu hx => by
      match i with
      | 0 => simp at hu hx; subst hu; subst hx; exact ⟨rfl, b2⟩
      | _ + 1 => simp at hu⟩
  · exact ⟨_, 1, _, rfl, own_of_blk hR h2 rfl (show 1 ≤ maxLen by decide), RelK.one (f := fun | 0 => .string id | _ => .slice D n c) rfl (fun j hj => by match j, hj with | 0, _ => rfl | 1, _ => rfl) ⟨⟨rfl, b3⟩, hD⟩⟩
set_option maxHeartbeats 4000000 in
set_option maxRecDepth 100000 in
theorem law_small (B : Nat) (w : World) (hT : TabS B w) (hB : B ≤ w.heap.size) :
    Calls Tryz.prog 8 #[] w fun e w' => ∃ v, e = .returned v ∧ StoV w' w.heap.size v sto0 ∧ Below w.heap.size w w' := by
  have hk : Below w.heap.size w ((w.alloc (.cells #[.slice none 0 0, .slice none 0 0] TSto)).alloc (.cells #[.string sN] TSt)) := ((Below.refl _ _).alloc (Nat.le_refl _) _).alloc (by simp) _
  have HB0 := Lib.hid ((Blk.new w TSto #[.slice none 0 0, .slice none 0 0]).alloc (.cells #[.string sN] TSt))
  have HB1 := Lib.hid (blkV2 w TSto TSt #[.slice none 0 0, .slice none 0 0] #[.string sN])
  have HR := Lib.hid (law_record B sA 1 _ may_a1 may_a (by decide) (by decide) (hT.next (hk.mono hB)) (Nat.le_trans hB hk.size))
  have HK := Lib.hid hk
  clear hT hk
  go_enter Tryz.func8, Tryz.ntmps8
  go_wp2_with fail
  refine HR.out.mono ?_
  rintro e w1 ⟨D, c, rfl, ho, k⟩
  have HF := Lib.hid (HK.out.trans (k.mono HK.out.size))
  have HB2 := Lib.hid (HB0.out.below k HB0.out.lt); have HB3 := Lib.hid (HB1.out.below k HB1.out.lt)
  have hk2 : Below w1.heap.size w1 ((w1.alloc (.cells #[.string sA, .slice D 3 c] TRe)).alloc (.cells #[.string sT, .int .i64 2, .slice (some ⟨w.heap.size + 1, 0, none⟩) 1 1, .slice (some ⟨w1.heap.size, 0, none⟩) 1 1] TTb)) := ((Below.refl _ _).alloc (Nat.le_refl _) _).alloc (by simp) _
  have hot := own_tab1 (base := w.heap.size) (HB3.out.below hk2 HB3.out.lt) ((Blk.new w1 TRe #[.string sA, .slice D 3 c]).alloc _) (blkV2 w1 TRe TTb #[.string sA, .slice D 3 c] #[.string sT, .int .i64 2, .slice (some ⟨w.heap.size + 1, 0, none⟩) 1 1, .slice (some ⟨w1.heap.size, 0, none⟩) 1 1]) ((OwnK.lower ho HK.out.size).below hk2) (by omega) HF.out.size (by have := HF.out.size; omega) (by decide) (by decide) (by decide) (by decide)
  have hb := HB2.out.below hk2 HB2.out.lt
  have q0 := hb.cell 0; have q1 := hb.cell 1; have f0 := hb.frozen 0; have f1 := hb.frozen 1; have ql := hb.lt
  have HS := Lib.hid (StoV.set2 (w := w) (s := sto0) ⟨_, _, _, none, 0, 0, rfl, hot, OwnK.nil⟩ hb (Nat.le_refl _))
  have HRS := Lib.hid (set2_blk hb (.slice (some ⟨w1.heap.size + 1, 0, none⟩) 1 1) (.slice none 0 0))
  have HF2 := Lib.hid (HF.out.trans (hk2.mono HF.out.size))
  clear ho k hk2 hot hb
  go_wp2
  have k0 := HRS.out.blk.cell 0; have k1 := HRS.out.blk.cell 1
  simp at k0 k1
  refine bodyPost_ret (v := .agg #[.slice (some ⟨w1.heap.size + 1, 0, none⟩) 1 1, .slice none 0 0]) (by simp [results, Tryz.results8, go_sem, k0, k1]) rfl ⟨_, rfl, HS.out, HRS.out.below HF2.out (Nat.le_refl _)⟩
end Go.Proofs.YtbdkedjgfihamaaGreatDoor

namespace Go.Proofs.YtbdkedjgfihamaaGreatDoor
open Go.RowKit Pv Go.Maps
theorem OwnC.at_ {W : World} {base n c : Nat} {D : Option Addr} {l : List Cel} (h : OwnC W base (.slice D n c) l) (hl : n ≤ 100000) : AtCel W D l ∧ Hid (l.length = n) ∧ n ≤ c := by
  obtain ⟨hq, us, ho, hr⟩ := h.slice
  have h1 := AtK.of_own ho hr hq.symm (by omega)
  exact ⟨h1.2, Lib.hid hq, h1.1⟩
def sto1 : Sto := doneS sto0 0 tab0 (tab0.put recB) sB
def sto2 : Sto := doneS sto1 0 (tab0.put recB) ((tab0.put recB).drop sA) sA
theorem recB_bd : CelsB recB.data := by
  intro x hx
  simp [recB, recC, objC, memC] at hx
  rcases hx with rfl | rfl | rfl
  · simp
  · simp [sId]; exact ⟨by decide, by decide⟩
  · simp; decide
theorem sto1_done : DoneP sto0 sto1 := DoneP.of sto0_ok sto0_bd rfl (put_done (sto0_bd.tab tab0 (by simp [sto0])) recB_bd put_b) (by decide)
theorem sto1_tab : sto1.tables[0]? = some (tab0.put recB) := rfl
theorem sto2_done : DoneP sto1 sto2 := DoneP.of sto1_done.ok sto1_done.bd sto1_tab (drop_done (sto1_done.bd.tab _ (mem_of_get sto1_tab)) drop_a) (by rw [sto1_done.len]; decide)
theorem sto2_back0 : backS sto2 0 = sto0 := by rw [sto2_done.back 0 (Nat.zero_le _), sto1_done.back 0 (Nat.zero_le _)]; exact backS_all sto0
theorem sto2_back1 : backS sto2 1 = sto1 := by rw [sto2_done.back 1 (by rw [sto1_done.len]; decide)]; exact backS_all sto1
theorem sto2_len : sto2.log.length = 2 := rfl
theorem backE_in {s : Sto} (h : StoOk s) {m : Int} (h1 : 0 ≤ m) (h2 : m ≤ s.log.length) : backE s m = 0 := by unfold backE; rw [yes_t h]; simp [h1, h2]
theorem backE_out {s : Sto} (h : StoOk s) {m : Int} (h1 : ¬ (0 ≤ m ∧ m ≤ s.log.length)) : backE s m = 2 := by unfold backE; rw [yes_t h]; simp [h1]
set_option maxHeartbeats 8000000 in
set_option maxRecDepth 100000 in
theorem law_alive (B : Nat) (w : World) (hT : TabS B w) (hB : B ≤ w.heap.size) :
    Calls Tryz.prog 13 #[] w fun e w' => e = .returned (.bool true) ∧ Below w.heap.size w w' := by
  have HT := Lib.hid hT
  have HSM := Lib.hid (fun W (k : Below w.heap.size w W) => law_small B W (hT.next (k.mono hB)) (Nat.le_trans hB k.size))
  clear hT
  go_enter Tryz.func13, Tryz.ntmps13
  go_wp2_with fail
  refine (HSM.out _ (Below.refl _ _)).mono ?_
  rintro e w1 ⟨v0, rfl, hs0, k1⟩
  obtain ⟨T0, tn0, tc0, L0, ln0, lc0, rfl, ha0, h01, h02⟩ := hs0.at_ sto0_bd
  have HK1 := Lib.hid k1
  have HA0 := Lib.hid ha0
  have HR := Lib.hid (law_record B sB 2 w1 may_b1 may_b (by decide) (by decide) (HT.out.next (k1.mono hB)) (Nat.le_trans hB k1.size))
  clear hs0 k1 ha0
  go_wp2_with fail
  refine HR.out.mono ?_
  rintro e w2 ⟨D, c, rfl, ho, k2⟩
  obtain ⟨o1, o2, o3⟩ := ho.at_ (by decide)
  have hk2 := HK1.out.trans (k2.mono HK1.out.size)
  have HK2 := Lib.hid hk2
  have HPU := Lib.hid (undo_Put B T0 L0 tn0 tc0 ln0 lc0 sto0 0 D c 3 recB w2 (HA0.out.keep (Keep.of k2)) h01 h02 sto0_bd o1 o2 o3 (by decide) recB_bd (HT.out.next (hk2.mono hB)) (Nat.le_trans hB hk2.size))
  clear ho k2 o1 o3 hk2
  go_wp2_with fail
  refine HPU.out.mono ?_
  rintro e w3 hres
  obtain ⟨v1, rfl, hs1, k3⟩ := hres.exact (i := 0) sto0_ok rfl put_b (by decide)
  have hs1 : StoV w3 w2.heap.size v1 sto1 := hs1
  obtain ⟨T1, tn1, tc1, L1, ln1, lc1, rfl, ha1, h11, h12⟩ := hs1.at_ sto1_done.bd
  have hk3 := HK2.out.trans (k3.mono HK2.out.size)
  have hka : Below w3.heap.size w3 (w3.alloc (.cells #[.slice T1 tn1 tc1, .slice L1 ln1 lc1] TSto)) := (Below.refl _ _).alloc (Nat.le_refl _) _
  have hk3a := hk3.trans (hka.mono hk3.size)
  have HK3 := Lib.hid hk3a
  have HDR := Lib.hid (undo_Drop B T1 L1 tn1 tc1 ln1 lc1 sto1 0 sA _ (ha1.keep (Keep.of hka)) h11 h12 sto1_done.bd (by decide) (HT.out.next (hk3a.mono hB)) (Nat.le_trans hB hk3a.size))
  clear hres hs1 k3 ha1 hk3 hka hk3a
  go_wp2_with fail
  refine HDR.out.mono ?_
  rintro e w4 hres
  obtain ⟨v2, rfl, hs2, k4⟩ := hres.exact (i := 0) sto1_done.ok sto1_tab drop_a (by rw [sto1_done.len]; decide)
  have hs2 : StoV w4 _ v2 sto2 := hs2
  obtain ⟨T2, tn2, tc2, L2, ln2, lc2, rfl, ha2, h21, h22⟩ := hs2.at_ sto2_done.bd
  have hk4 := HK3.out.trans (k4.mono HK3.out.size)
  have hka : Below w4.heap.size w4 (w4.alloc (.cells #[.slice T2 tn2 tc2, .slice L2 ln2 lc2] TSto)) := (Below.refl _ _).alloc (Nat.le_refl _) _
  have hk4a := hk4.trans (hka.mono hk4.size)
  have HK4 := Lib.hid hk4a
  have HA2 := Lib.hid (ha2.keep (Keep.of hka))
  have HB2 := Lib.hid (Blk.new w4 TSto #[.slice T2 tn2 tc2, .slice L2 ln2 lc2])
  have HBA := Lib.hid (undo_Back B T2 L2 tn2 tc2 ln2 lc2 sto2 0 _ HA2.out sto2_done.bd (HT.out.next (hk4a.mono hB)) (Nat.le_trans hB hk4a.size))
  clear hres hs2 k4 ha2 hk4 hka hk4a
  go_wp2_with fail
  refine HBA.out.mono ?_
  rintro e w5 hres
  have h0 : backE sto2 0 = 0 := backE_in sto2_done.ok (by decide) (by rw [sto2_len]; decide)
  obtain ⟨h1 | ⟨_, v3, rfl, hs3⟩, k5⟩ := hres
  · exact absurd h0 h1.1
  rw [show (0 : Int).toNat = 0 from rfl, sto2_back0] at hs3
  obtain ⟨T3, tn3, tc3, L3, ln3, lc3, rfl, ha3, h31, h32⟩ := hs3.at_ sto0_bd
  have hk5 := HK4.out.trans (k5.mono HK4.out.size)
  have hka : Below w5.heap.size w5 (w5.alloc (.cells #[.slice T3 tn3 tc3, .slice L3 ln3 lc3] TSto)) := (Below.refl _ _).alloc (Nat.le_refl _) _
  have hk5a := hk5.trans (hka.mono hk5.size)
  have HK5 := Lib.hid hk5a
  have HA3 := Lib.hid (ha3.keep (Keep.of hka))
  have HB3 := Lib.hid (Blk.new w5 TSto #[.slice T3 tn3 tc3, .slice L3 ln3 lc3])
  have hk45 := k5.trans (hka.mono k5.size)
  have HB2' := Lib.hid (HB2.out.below hk45 HB2.out.lt)
  have HA2' := Lib.hid (HA2.out.keep (Keep.of hk45))
  obtain rfl : ln2 = 2 := HA2'.out.ln.out.symm.trans sto2_len
  obtain ⟨bt, ot, x, U, un, uc, R, rn, rc, rfl, lbt, c0, c1, c2, c3, hx, _, _, HX⟩ := AtTab.g4 HA2'.out.tabs HA2'.out.tn (show 0 < tn2 by rw [← HA2'.out.tn.out]; decide)
  obtain rfl : x = (tab0.put recB).drop sA := Option.some.inj (HX.out.symm.trans rfl)
  obtain rfl : rn = 1 := hx.rn.out.symm.trans rows_ab
  have i1 : (0 : Int) < (tn2 : Int) := by
    have := HA2'.out.tn.out
    have h : 0 < sto2.tables.length := by decide
    omega
  have i3 : 0 < tn2 := by omega
  have b0 := HB2'.out.cell 0; have b1 := HB2'.out.cell 1; have bl := HB2'.out.lt
  have hkd : Below w.heap.size w (w5.alloc (.cells #[.slice T3 tn3 tc3, .slice L3 ln3 lc3] TSto)).drew := below_drewN hk5a 1
  have HS6 := Lib.hid (HSM.out _ hkd)
  have HKD := Lib.hid hkd
  simp at b0 b1 c3
  have hkw : Below (w5.alloc (.cells #[.slice T3 tn3 tc3, .slice L3 ln3 lc3] TSto)).heap.size (w5.alloc (.cells #[.slice T3 tn3 tc3, .slice L3 ln3 lc3] TSto)) (w5.alloc (.cells #[.slice T3 tn3 tc3, .slice L3 ln3 lc3] TSto)).drew := below_drewN (Below.refl _ _) 1
  have HSW := Lib.hid (fun (X : World) (k : Below (w5.alloc (.cells #[.slice T3 tn3 tc3, .slice L3 ln3 lc3] TSto)).drew.heap.size (w5.alloc (.cells #[.slice T3 tn3 tc3, .slice L3 ln3 lc3] TSto)).drew X) => (show (fun Q => (Q.cell? ⟨w4.heap.size, 0, none⟩ = some (.slice (some ⟨bt, ot, none⟩) tn2 tc2) ∧ Q.cell? ⟨w4.heap.size, 1, none⟩ = some (.slice L2 2 lc2) ∧ Q.cell? ⟨bt, ot + 3, none⟩ = some (.slice R 1 rc) ∧ Q.cell? ⟨w5.heap.size, 0, none⟩ = some (.slice T3 tn3 tc3) ∧ Q.cell? ⟨w5.heap.size, 1, none⟩ = some (.slice L3 ln3 lc3))) X from ⟨(k.cell (p := ⟨w4.heap.size, 0, none⟩) bl).trans b0, (k.cell (p := ⟨w4.heap.size, 1, none⟩) bl).trans b1, (k.cell (p := ⟨bt, ot + 3, none⟩) lbt).trans c3, (k.cell (p := ⟨w5.heap.size, 0, none⟩) HB3.out.lt).trans (HB3.out.cell 0), (k.cell (p := ⟨w5.heap.size, 1, none⟩) HB3.out.lt).trans (HB3.out.cell 1)⟩))
  have HSA := Lib.hid (HSW.out _ (Below.refl _ _))
  clear HSM hs3 k5 ha3 hk5 hka hk5a hk45 c0 c1 c2 c3 b0 b1 hx hkd h0 hkw
  go_upto_region 4 with fail
  refine wp_region_T 28 (fun Q => (Q.cell? ⟨w4.heap.size, 0, none⟩ = some (.slice (some ⟨bt, ot, none⟩) tn2 tc2) ∧ Q.cell? ⟨w4.heap.size, 1, none⟩ = some (.slice L2 2 lc2) ∧ Q.cell? ⟨bt, ot + 3, none⟩ = some (.slice R 1 rc) ∧ Q.cell? ⟨w5.heap.size, 0, none⟩ = some (.slice T3 tn3 tc3) ∧ Q.cell? ⟨w5.heap.size, 1, none⟩ = some (.slice L3 ln3 lc3))) (by kernel_rfl) ?_
  refine wpAnyT_takeW (i := 0) (v := ?_) rfl (by decide) (by kernel_rfl) (by kernel_rfl) (by kernel_rfl) (fun _ _ _ h => h) (.inl ⟨rfl, ?_⟩) (fun _ => HSA.out) ?_
  rotate_left
  · intro W__ _
    go_simp
    (try with_reducible rfl)
  try simp only [Act.put]
  refine wpAnyT_takeW (i := 1) (v := ?_) rfl (by decide) (by kernel_rfl) (by kernel_rfl) (by kernel_rfl) (fun _ _ _ h => h) (.inl ⟨rfl, ?_⟩) (fun _ => HSA.out) ?_
  rotate_left
  · intro W__ _
    go_simp
    (try with_reducible rfl)
  try simp only [Act.put]
  refine wpAnyT_takeW (i := 2) (v := ?_) rfl (by decide) (by kernel_rfl) (by kernel_rfl) (by kernel_rfl) (fun _ _ _ h => h) (.inl ⟨rfl, ?_⟩) (fun _ => HSA.out) ?_
  rotate_left
  · intro W__ _
    go_simp
    (try with_reducible rfl)
  try simp only [Act.put]
  refine wpAnyT_takeW (i := 3) (v := ?_) rfl (by decide) (by kernel_rfl) (by kernel_rfl) (by kernel_rfl) (fun _ _ _ h => h) (.inl ⟨by kernel_rfl, ?_⟩) (fun _ => HSA.out) ?_
  rotate_left
  · intro W__ _
    go_simp
    (try with_reducible rfl)
  try simp only [Act.put]
  refine wpAnyT_takeW (i := 4) (v := ?_) rfl (by decide) (by kernel_rfl) (by kernel_rfl) (by kernel_rfl) (fun _ _ _ h => h) (.inl ⟨by kernel_rfl, ?_⟩) (fun _ => HSA.out) ?_
  rotate_left
  · intro W__ _
    go_simp
    (try with_reducible rfl)
  try simp only [Act.put]
  refine wpAnyT_takeW (i := 5) (v := ?_) rfl (by decide) (by kernel_rfl) (by kernel_rfl) (by kernel_rfl) (fun _ _ _ h => h) (.inl ⟨rfl, ?_⟩) (fun _ => HSA.out) ?_
  rotate_left
  · intro W__ _
    go_simp
    (try with_reducible rfl)
  try simp only [Act.put]
  refine wpAnyT_takeW (i := 6) (v := ?_) rfl (by decide) (by kernel_rfl) (by kernel_rfl) (by kernel_rfl) (fun _ _ _ h => h) (.inl ⟨rfl, ?_⟩) (fun _ => HSA.out) ?_
  rotate_left
  · intro W__ _
    go_simp
    (try with_reducible rfl)
  try simp only [Act.put]
  refine wpAnyT_takeW (i := 7) (v := ?_) rfl (by decide) (by kernel_rfl) (by kernel_rfl) (by kernel_rfl) (fun _ _ _ h => h) (.inl ⟨by kernel_rfl, ?_⟩) (fun _ => HSA.out) ?_
  rotate_left
  · intro W__ _
    go_simp
    (try with_reducible rfl)
  try simp only [Act.put]
  refine wpAnyT_takeW (i := 8) (v := ?_) rfl (by decide) (by kernel_rfl) (by kernel_rfl) (by kernel_rfl) (fun _ _ _ h => h) (.inl ⟨by kernel_rfl, ?_⟩) (fun _ => HSA.out) ?_
  rotate_left
  · intro W__ _
    go_simp
    (try with_reducible rfl)
  try simp only [Act.put]
  refine wpAnyT_takeW (i := 9) (v := ?_) rfl (by decide) (by kernel_rfl) (by kernel_rfl) (by kernel_rfl) (fun _ _ _ h => h) (.inl ⟨rfl, ?_⟩) (fun _ => HSA.out) ?_
  rotate_left
  · intro W__ _
    go_simp
    (try with_reducible rfl)
  try simp only [Act.put]
  refine wpAnyT_takeW (i := 10) (v := ?_) rfl (by decide) (by kernel_rfl) (by kernel_rfl) (by kernel_rfl) (fun _ _ _ h => h) (.inl ⟨rfl, ?_⟩) (fun _ => HSA.out) ?_
  rotate_left
  · intro W__ _
    go_simp
    (try with_reducible rfl)
  try simp only [Act.put]
  refine wpAnyT_takeW (i := 11) (v := ?_) rfl (by decide) (by kernel_rfl) (by kernel_rfl) (by kernel_rfl) (fun _ _ _ h => h) (.inl ⟨by kernel_rfl, ?_⟩) (fun _ => HSA.out) ?_
  rotate_left
  · intro W__ _
    go_simp
    (try with_reducible rfl)
  try simp only [Act.put]
  refine wpAnyT_takeC (i := 12) [28, 25, 16, 15, 14, 13] (v := ?_) rfl (by kernel_rfl) (by kernel_rfl) (by kernel_rfl) (by kernel_rfl) (by kernel_rfl) (by kernel_rfl) (fun _ _ _ h => h) (.inl ⟨by kernel_rfl, ?_⟩) HSA.out ?_
  rotate_left
  · intro W__ hW__
    obtain ⟨z1, z2, z3, z4, z5⟩ := hW__
    go_simp
    (try with_reducible rfl)
  try simp only [Act.put]
  refine wpAnyT_takeW (i := 13) (v := ?_) rfl (by decide) (by kernel_rfl) (by kernel_rfl) (by kernel_rfl) (fun _ _ _ h => h) (.inl ⟨by kernel_rfl, ?_⟩) (fun _ => HSA.out) ?_
  rotate_left
  · intro W__ _
    go_simp
    (try with_reducible rfl)
  try simp only [Act.put]
  refine wpAnyT_takeW (i := 14) (v := ?_) rfl (by decide) (by kernel_rfl) (by kernel_rfl) (by kernel_rfl) (fun _ _ _ h => h) (.inl ⟨by kernel_rfl, ?_⟩) (fun _ => HSA.out) ?_
  rotate_left
  · intro W__ _
    go_simp
    (try with_reducible rfl)
  try simp only [Act.put]
  refine wpAnyT_takeW (i := 15) (v := ?_) rfl (by decide) (by kernel_rfl) (by kernel_rfl) (by kernel_rfl) (fun _ _ _ h => h) (.inl ⟨rfl, ?_⟩) (fun _ => HSA.out) ?_
  rotate_left
  · intro W__ _
    go_simp
    (try with_reducible rfl)
  try simp only [Act.put]
  refine wpAnyT_takeW (i := 16) (v := ?_) rfl (by decide) (by kernel_rfl) (by kernel_rfl) (by kernel_rfl) (fun _ _ _ h => h) (.inl ⟨rfl, ?_⟩) (fun _ => HSA.out) ?_
  rotate_left
  · intro W__ _
    go_simp
    (try with_reducible rfl)
  try simp only [Act.put]
  refine wpAnyT_takeW (i := 17) (v := ?_) rfl (by decide) (by kernel_rfl) (by kernel_rfl) (by kernel_rfl) (fun _ _ _ h => h) (.inl ⟨by kernel_rfl, ?_⟩) (fun _ => HSA.out) ?_
  rotate_left
  · intro W__ _
    go_simp
    (try with_reducible rfl)
  try simp only [Act.put]
  refine wpAnyT_takeC (i := 18) [28, 25, 24, 23, 22, 21, 20, 19] (v := ?_) rfl (by kernel_rfl) (by kernel_rfl) (by kernel_rfl) (by kernel_rfl) (by kernel_rfl) (by kernel_rfl) (fun _ _ _ h => h) (.inl ⟨by kernel_rfl, ?_⟩) HSA.out ?_
  rotate_left
  · intro W__ hW__
    obtain ⟨z1, z2, z3, z4, z5⟩ := hW__
    go_simp
    (try with_reducible rfl)
  try simp only [Act.put]
  refine wpAnyT_takeW (i := 19) (v := ?_) rfl (by decide) (by kernel_rfl) (by kernel_rfl) (by kernel_rfl) (fun _ _ _ h => h) (.inl ⟨by kernel_rfl, ?_⟩) (fun _ => HSA.out) ?_
  rotate_left
  · intro W__ _
    go_simp
    (try with_reducible rfl)
  try simp only [Act.put]
  refine wpAnyT_takeW (i := 20) (v := ?_) rfl (by decide) (by kernel_rfl) (by kernel_rfl) (by kernel_rfl) (fun _ _ _ h => h) (.inl ⟨by kernel_rfl, ?_⟩) (fun _ => HSA.out) ?_
  rotate_left
  · intro W__ _
    go_simp
    (try with_reducible rfl)
  try simp only [Act.put]
  refine wpAnyT_takeC (i := 21) [28, 25, 24, 23, 22] (v := ?_) rfl (by kernel_rfl) (by kernel_rfl) (by kernel_rfl) (by kernel_rfl) (by kernel_rfl) (by kernel_rfl) (fun _ _ _ h => h) (.inl ⟨by kernel_rfl, ?_⟩) HSA.out ?_
  rotate_left
  · intro W__ hW__
    obtain ⟨z1, z2, z3, z4, z5⟩ := hW__
    go_simp
    (try with_reducible rfl)
  try simp only [Act.put]
  refine wpAnyT_takeW (i := 22) (v := ?_) rfl (by decide) (by kernel_rfl) (by kernel_rfl) (by kernel_rfl) (fun _ _ _ h => h) (.inl ⟨by kernel_rfl, ?_⟩) (fun _ => HSA.out) ?_
  rotate_left
  · intro W__ _
    go_simp
    (try with_reducible rfl)
  try simp only [Act.put]
  refine wpAnyT_takeW (i := 23) (v := ?_) rfl (by decide) (by kernel_rfl) (by kernel_rfl) (by kernel_rfl) (fun _ _ _ h => h) (.inl ⟨by kernel_rfl, ?_⟩) (fun _ => HSA.out) ?_
  rotate_left
  · intro W__ _
    go_simp
    (try with_reducible rfl)
  try simp only [Act.put]
  refine wpAnyT_takeW (i := 24) (v := ?_) rfl (by decide) (by kernel_rfl) (by kernel_rfl) (by kernel_rfl) (fun _ _ _ h => h) (.inl ⟨rfl, ?_⟩) (fun _ => HSA.out) ?_
  rotate_left
  · intro W__ _
    go_simp
    (try with_reducible rfl)
  try simp only [Act.put]
  refine wpAnyT_takeW (i := 25) (v := ?_) rfl (by decide) (by kernel_rfl) (by kernel_rfl) (by kernel_rfl) (fun _ _ _ h => h) (.inl ⟨rfl, ?_⟩) (fun _ => HSA.out) ?_
  rotate_left
  · intro W__ _
    go_simp
    (try with_reducible rfl)
  try simp only [Act.put]
  refine wpAnyT_takeC (i := 26) [28] (v := ?_) rfl (by kernel_rfl) (by kernel_rfl) (by kernel_rfl) (by kernel_rfl) (by kernel_rfl) (by kernel_rfl) (fun _ _ _ h => h) (.inl ⟨by kernel_rfl, ?_⟩) HSA.out ?_
  rotate_left
  · intro W__ hW__
    obtain ⟨z1, z2, z3, z4, z5⟩ := hW__
    go_simp
    (try with_reducible rfl)
  try simp only [Act.put]
  refine wpAnyT_one (i := 27) rfl (by kernel_rfl) (by kernel_rfl) fun K__ hK__ => ?_
  unfold Oper.wp
  go_simp
  refine HS6.out.mono ?_
  rintro e w6 ⟨v6, rfl, hs6, k6⟩
  obtain ⟨T6, tn6, tc6, L6, ln6, lc6, rfl, ha6, _, _⟩ := hs6.at_ sto0_bd
  have HK6 := Lib.hid (HKD.out.trans (k6.mono HKD.out.size))
  have hsm := ref28_Same T3 L3 T6 L6 tn3 tc3 ln3 lc3 tn6 tc6 ln6 lc6 sto0 sto0 w6 ((HA3.out.keep (Keep.drew _)).keep (Keep.of k6)) ha6
  rw [decide_eq_true rfl] at hsm
  have HSA2 := Lib.hid hsm
  have HSB := Lib.hid (HSW.out _ k6)
  clear hs6 k6 ha6 hsm
  refine hK__ _ _ HSB.out ?_
  clear hK__
  try simp only [Act.put, List.setIfInBounds_toArray, List.set_cons_zero, List.set_cons_succ]
  refine wpAnyT_end (i := 28) rfl (by kernel_rfl) (by kernel_rfl) (by kernel_rfl) fun K__ hK__ => ?_
  unfold Oper.wp
  go_simp
  refine HSA2.out.mono ?_
  rintro e w7 ⟨rfl, k7⟩
  have HK7 := Lib.hid (HK6.out.trans (k7.mono HK6.out.size))
  clear k7
  refine hK__ _ _ ?_
  clear hK__
  try simp only [Act.put, List.setIfInBounds_toArray, List.set_cons_zero, List.set_cons_succ]
  refine wpAnyT_end (i := 29) rfl (by kernel_rfl) rfl (by kernel_rfl) fun K__ hK__ => ?_
  unfold Oper.wp
  go_simp
  refine hK__ _ _ ?_
  clear hK__
  try simp only [Act.put, List.setIfInBounds_toArray, List.set_cons_zero, List.set_cons_succ]
  refine wpAnyT_end (i := 30) rfl (by kernel_rfl) rfl (by kernel_rfl) fun K__ hK__ => ?_
  unfold Oper.wp
  go_simp
  refine hK__ _ _ ?_
  clear hK__
  refine wpAnyT_done (by kernel_rfl) ?_ _
  go_wp2
  go_ret
  exact ⟨rfl, HK7.out⟩
end Go.Proofs.YtbdkedjgfihamaaGreatDoor
