/- Walks: the program's subset.Build. PUT1 -/
import Derived.Test.YtjnjbcigbnjmkaaGreatFpy
namespace Go.Proofs.YtjnjbcigbnjmkaaGreat
open Go.RowKit Go.ChangeMaps Pv

theorem Ls.blk {w : World} {base b o k c : Nat} {x : Option Nat} {ll : List (List Int)} (h : Ls w base x (.slice (some ⟨b, o, none⟩) k c) ll) : ∃ cs, Blk w b TLL cs := by
  obtain ⟨A, c', us, e, h1, _⟩ := h
  rcases h1.2 with ⟨h2, _⟩ | ⟨g, cap, cur, h2, _, hh, _⟩
  · rw [← e] at h2; cases h2
  · rw [← e] at h2
    injection h2 with h2
    injection h2 with h2
    injection h2 with h2
    subst h2
    exact ⟨cur, hh⟩
theorem addS_get {all : List (List Int)} {l m : List Int} {i : Nat} (h : all[i]? = some l) : (addS all m)[i]? = some l := by
  by_cases hm : m ∈ all
  · rw [addS_in hm]; exact h
  · rw [addS_new hm, List.getElem?_append_left (lt_of_get h)]; exact h

set_option maxHeartbeats 8000000 in
set_option maxRecDepth 100000 in
theorem subset_Build (A : Option Addr) (c n : Nat) (acc : Int) (a : Au) (w : World) (ha : AtAu w A a) (HL : Hid (a.length = n)) :
    Calls Tryz.prog 9 #[.agg #[.slice A n c, .int .i64 acc]] w (BuiltD a acc w) := by
  have hmm := @run_makeMap Tryz.prog
  have HA := Lib.hid ha
  have HB0 := Lib.hid (((Below.refl w.heap.size w).alloc (Nat.le_refl _) (.cells #[.slice A n c, .int .i64 acc] TAuto)).alloc (by simp) (.cells #[.slice none 0 0, .slice none 0 0, .slice none 0 0] TDfa))
  have KK := blk2 w #[.slice A n c, .int .i64 acc] #[.slice none 0 0, .slice none 0 0, .slice none 0 0] TAuto TDfa
  have KA := Lib.hid KK.1; have KO := Lib.hid KK.2
  have HMY := Lib.hid (auto_Check A c n acc a _ (ha.keep (Keep.of HB0.out)) HL)
  clear ha KK
  by_cases hok : AuOk a acc
  case neg =>
    rw [auE_no hok] at HMY
    have HE := Lib.hid (EndD.bad hok)
    clear hok
    go_enter Tryz.func9, Tryz.ntmps9
    go_wp2_with fail
    refine HMY.out.mono ?_
    rintro e w1 ⟨rfl, hb1⟩
    have HB1 := Lib.hid (HB0.out.trans (hb1.mono HB0.out.size))
    have KO1 := Lib.hid (KO.out.below hb1 KO.out.lt)
    obtain ⟨t0, t1, t2, f0, f1, f2⟩ := Blk.three KO1.out
    have hN := KO1.out.lt
    clear hb1
    go_wp2
    obtain ⟨y0, y1, y2, _, _, _⟩ := Blk.three (Blk.set3 (u0 := .slice none 0 0) (u1 := .slice none 0 0) (u2 := .slice none 0 0) KO1.out)
    exact bodyPost_ret (v := .tuple #[zDfa, .int .i64 8]) (by simp [results, Tryz.results9, go_sem, y0, y1, y2]) rfl ⟨.inl ⟨8, HE.out, rfl⟩, below3 HB1.out (by simp)⟩
  have hn : n ≤ 256 := by have := hok.few; rwa [HL.out] at this
  have hn1 : 1 ≤ n := by have := hok.pos; rwa [HL.out] at this
  rw [auE_yes hok] at HMY
  have HOK := Lib.hid hok
  obtain ⟨i0, hi0, hz0, hs0, hb0⟩ := info_parts info_ints9
  obtain ⟨i1', hi1, hz1, hs1, hb1'⟩ := info_parts info_bool9
  clear hok
  go_enter Tryz.func9, Tryz.ntmps9
  go_wp2_with fail
  refine HMY.out.mono ?_
  rintro e w1 ⟨rfl, hb1⟩
  have HB1 := Lib.hid (HB0.out.trans (hb1.mono HB0.out.size))
  have KA1 := Lib.hid (KA.out.below hb1 KA.out.lt); have KO1 := Lib.hid (KO.out.below hb1 KO.out.lt)
  obtain ⟨p0, p1, _, _⟩ := Blk.two KA1.out
  have HCU := Lib.hid (subset_cuts A c n acc a w1 (HA.out.keep (Keep.of HB1.out)) HL HOK.out)
  clear hb1 HMY HB0 KA KO
  go_wp2_with fail
  refine HCU.out.mono ?_
  rintro e w2 ⟨hr, hb2⟩
  have HB2 := Lib.hid (HB1.out.trans (hb2.mono HB1.out.size))
  have KA2 := Lib.hid (KA1.out.below hb2 KA1.out.lt); have KO2 := Lib.hid (KO1.out.below hb2 KO1.out.lt)
  have hw1 := HB1.out.size
  have hw2 := hb2.size
  clear p0 p1
  rcases hr with ⟨hmany, rfl⟩ | ⟨hmany, v, rfl, hv⟩
  case inl =>
    have HE := Lib.hid (EndD.many HOK.out hmany)
    obtain ⟨t0, t1, t2, f0, f1, f2⟩ := Blk.three KO2.out
    have hN := KO2.out.lt
    clear hb2 hmany
    go_wp2
    have KO3 := KO2.out.set 0 (.slice none 0 0)
    obtain ⟨y0, y1, y2, _, _, _⟩ := Blk.three (Blk.set3 (u0 := .slice none 0 0) (u1 := .slice none 0 0) (u2 := .slice none 0 0) (show Blk _ _ TDfa #[.slice none 0 0, .slice none 0 0, .slice none 0 0] from KO3))
    exact bodyPost_ret (v := .tuple #[zDfa, .int .i64 4]) (by simp [results, Tryz.results9, go_sem, y0, y1, y2]) rfl ⟨.inl ⟨4, HE.out, rfl⟩, below3 (HB2.out.setCell (p := ⟨w.heap.size + 1, 0, none⟩) (by simp) _) (by simp)⟩
  have HFT := Lib.hid (show FitD a acc from ⟨HOK.out, by unfold ManyC at hmany; omega, by unfold ManyC at hmany; omega⟩)
  have HVC := Lib.hid (hv.lower hw1)
  obtain ⟨C, cc, rfl, _⟩ := hv
  obtain ⟨cuts, hcuts⟩ : ∃ cuts, plcL (allSets a) = cuts := ⟨_, rfl⟩
  have HCT := Lib.hid hcuts
  rw [hcuts] at HVC
  obtain ⟨nc, hnc⟩ : ∃ nc, cuts.length = nc := ⟨_, rfl⟩
  have HNC := Lib.hid hnc
  have hnc2 : nc ≤ 256 := by have := HFT.out.p; rw [hcuts, hnc] at this; exact this
  have HCB := Lib.hid (show ∀ x, x ∈ cuts → -9223372036854775808 ≤ x ∧ x ≤ 9223372036854775807 from fun x hx => by
    rw [← hcuts] at hx
    have := plcL_in (allSets_ok HOK.out) hx
    omega)
  rw [hcuts, hnc]
  obtain ⟨R, hR⟩ : ∃ R, madeM a acc cuts = R := ⟨_, rfl⟩
  have HR := Lib.hid hR
  clear hb2 hmany hcuts hnc hR HCU HB1 KA1 KO1
  -- the map, its box, the list's box
  have KO3 := KO2.out.set 0 (.slice C nc cc)
  have K3a := KA2.out.far (p := ⟨w.heap.size + 1, 0, none⟩) (KA2.out.ne KO2.out (by decide)) (.slice C nc cc)
  have HB3 := HB2.out.setCell (p := ⟨w.heap.size + 1, 0, none⟩) (Nat.le_succ _) (.slice C nc cc)
  have HU3 : OwnI (w2.setCell ⟨w.heap.size + 1, 0, none⟩ (.slice C nc cc)) w.heap.size (.slice C nc cc) cuts := by
    have := HVC.out
    rw [HNC.out] at this
    exact OwnI.far this KO2.out (by decide)
  have hs3 : (w2.setCell ⟨w.heap.size + 1, 0, none⟩ (.slice C nc cc)).heap.size = w2.heap.size := by simp [World.setCell]
  have b1 := (Below.refl _ (w2.setCell ⟨w.heap.size + 1, 0, none⟩ (.slice C nc cc))).alloc (Nat.le_refl _) (.map #[] 0)
  have P0 : PrIn w (((w2.setCell ⟨w.heap.size + 1, 0, none⟩ (.slice C nc cc)).alloc (.map #[] 0)).alloc (.cells #[.map (some w2.heap.size)] TMet) |>.alloc (.cells #[.slice none 0 0] TLLs)) (w2.heap.size + 1) (w2.heap.size + 1 + 1) w2.heap.size A n c acc none (.slice C nc cc) (.slice none 0 0) (.slice none 0 0) (.slice none 0 0) (.slice none 0 0) (.slice none 0 0) cuts [] [] [] := by
    have e4 : ((w2.setCell ⟨w.heap.size + 1, 0, none⟩ (.slice C nc cc)).alloc (.map #[] 0)).heap.size = w2.heap.size + 1 := by simp [World.setCell]
    have e5 : (((w2.setCell ⟨w.heap.size + 1, 0, none⟩ (.slice C nc cc)).alloc (.map #[] 0)).alloc (.cells #[.map (some w2.heap.size)] TMet)).heap.size = w2.heap.size + 1 + 1 := by simp [World.setCell]
    have m1 := Blk.new ((w2.setCell ⟨w.heap.size + 1, 0, none⟩ (.slice C nc cc)).alloc (.map #[] 0)) TMet #[.map (some w2.heap.size)]
    have l1 := Blk.new (((w2.setCell ⟨w.heap.size + 1, 0, none⟩ (.slice C nc cc)).alloc (.map #[] 0)).alloc (.cells #[.map (some w2.heap.size)] TMet)) TLLs #[.slice none 0 0]
    have n1 := MapM.nil (w2.setCell ⟨w.heap.size + 1, 0, none⟩ (.slice C nc cc)) n
    rw [e4] at m1
    rw [e5] at l1
    rw [hs3] at n1 b1
    have b2 := b1.alloc (by rw [e4]; omega) (.cells #[.map (some w2.heap.size)] TMet)
    have b3 := b2.alloc (by rw [e5]; omega) (.cells #[.slice none 0 0] TLLs)
    have b4 := ((Below.refl _ ((w2.setCell ⟨w.heap.size + 1, 0, none⟩ (.slice C nc cc)).alloc (.map #[] 0))).alloc (Nat.le_refl _) (.cells #[.map (some w2.heap.size)] TMet)).alloc (by simp) (.cells #[.slice none 0 0] TLLs)
    exact ⟨((K3a.alloc _).alloc _).alloc _, ((KO3.alloc _).alloc _).alloc _, m1.alloc _, l1, n1.of_block (b4.block _ (by rw [e4]; omega)), OwnI.below HU3 (by rw [hs3]; exact b3), by cases (Value.slice C nc cc).ownBlock <;> simp, Ls.nil _ _ _, Own.nil, Ls.nil _ _ _, .inl rfl, HB3.trans (b3.mono (by omega)), by omega, by omega⟩
  have HP0 := Lib.hid P0
  have HB6 := Lib.hid P0.b
  have hw2' : w.heap.size + 1 < w2.heap.size := KO2.out.lt
  have HRC := fun W (hb : Below w.heap.size w W) (b : Nat) (hc : W.cell? ⟨b, 0, none⟩ = some (.int .i64 0)) => auto_Reach A c n acc a (some ⟨b, 0, none⟩) 1 1 [0] W (HA.out.keep (Keep.of hb)) HL ⟨by simp, fun _ => ⟨b, 0, rfl, World.block_lt_of_cell? _ _ hc, fun i x hx => by
    match i, hx with
    | 0, hx => simp at hx; subst hx; exact ⟨_, hc, rfl, by omega, by omega⟩
    | i + 1, hx => simp at hx⟩⟩ (Lib.hid rfl) (by omega)
  have h00 : askE a acc [0] = 0 := askE_yes HOK.out (fun s hs => by simp at hs; subst hs; rw [HL.out]; omega)
  rw [h00, reachL_yes h00, of_zero] at HRC
  have HRC := Lib.hid HRC
  obtain ⟨t0, t1, t2, f0, f1, f2⟩ := Blk.three KO2.out
  obtain ⟨p0, p1, _, _⟩ := Blk.two KA2.out
  obtain ⟨p2, p3, _, _⟩ := Blk.two K3a
  have hN := KO2.out.lt
  have g1 : w.heap.size < w2.heap.size + 1 := by omega
  have g2 : w.heap.size < w2.heap.size + 1 + 1 := by omega
  have g3 : w.heap.size < w2.heap.size + 1 + 1 + 1 := by omega
  have g4 : w.heap.size + 1 < w2.heap.size + 1 := by omega
  have g5 : w.heap.size + 1 < w2.heap.size + 1 + 1 := by omega
  have g6 : w.heap.size + 1 < w2.heap.size + 1 + 1 + 1 := by omega
  have hN2 := KA2.out.lt
  clear P0 KO3 K3a HB3 HU3 hs3 b1 h00
  have HC7 : Hid ((((((w2.setCell ⟨w.heap.size + 1, 0, none⟩ (.slice C nc cc)).alloc (.map #[] 0)).alloc (.cells #[.map (some w2.heap.size)] TMet)).alloc (.cells #[.slice none 0 0] TLLs)).alloc (.cells #[.int .i64 0] TLI)).cell? ⟨w2.heap.size + 1 + 1 + 1, 0, none⟩ = some (.int .i64 0)) := Lib.hid (by
    have h := (Blk.new ((((w2.setCell ⟨w.heap.size + 1, 0, none⟩ (.slice C nc cc)).alloc (.map #[] 0)).alloc (.cells #[.map (some w2.heap.size)] TMet)).alloc (.cells #[.slice none 0 0] TLLs)) TLI #[.int .i64 0]).cell 0
    rw [show ((((w2.setCell ⟨w.heap.size + 1, 0, none⟩ (.slice C nc cc)).alloc (.map #[] 0)).alloc (.cells #[.map (some w2.heap.size)] TMet)).alloc (.cells #[.slice none 0 0] TLLs)).heap.size = w2.heap.size + 1 + 1 + 1 by simp [World.setCell]] at h
    exact h)
  have HB7 := Lib.hid (HB6.out.alloc HB6.out.size (.cells #[.int .i64 0] TLI))
  have HP7 := Lib.hid (HP0.out.below ((Below.refl _ _).alloc (Nat.le_refl _) (.cells #[.int .i64 0] TLI)))
  have HS7 := Lib.hid (show w.heap.size ≤ (((((w2.setCell ⟨w.heap.size + 1, 0, none⟩ (.slice C nc cc)).alloc (.map #[] 0)).alloc (.cells #[.map (some w2.heap.size)] TMet)).alloc (.cells #[.slice none 0 0] TLLs)).alloc (.cells #[.int .i64 0] TLI)).heap.size from HB7.out.size)
  clear HP0 HB6
  go_wp2_with fail
  refine (HRC.out _ HB7.out _ HC7.out).mono ?_
  rintro e w8 ⟨⟨v8, rfl, hv8⟩, hb8⟩
  have HP8 := Lib.hid (HP7.out.below hb8)
  have hv8' := hv8.lower HS7.out
  have HFS : stL a.length (Clo a fun s => s = 0) = stL n (Clo a fun s => s = 0) := by rw [HL.out]
  rw [HFS] at hv8'
  obtain ⟨B8, bc8, e8, _⟩ := hv8
  rw [HFS] at e8
  obtain ⟨q8, hq8⟩ : ∃ q, (stL n (Clo a fun s => s = 0)).length = q := ⟨_, rfl⟩
  rw [hq8] at e8
  subst e8
  have HCM := Lib.hid (come_at B8 q8 bc8 (w2.heap.size + 1) (w2.heap.size + 1 + 1) w2.heap.size w.heap.size n 0 0 none none _ [] w8 hn hv8' (by cases (Value.slice B8 q8 bc8).ownBlock <;> simp) HP8.out.mm HP8.out.m HP8.out.l HP8.out.al (Lib.hid rfl) (by omega) HP8.out.b.size)
  have HFS2 : Hid (stL n (Clo a fun s => s = 0) = firstS a) := Lib.hid (by unfold firstS; rw [HL.out])
  rw [HFS2.out] at HCM
  clear hv8' hb8 HFS hq8 HP7 HB7 HS7 HC7 HRC p0 p1 p2 p3 t0 t1 t2 f0 f1 f2 g1 g2 g3 g4 g5 g6 hN hN2 hw2' HB2 KA2 KO2 hw1 hw2
  go_wp2_with fail
  refine HCM.out.mono ?_
  intro e w9 hc9
  obtain ⟨A9, c9, k9, rfl, HK9, hp9, _⟩ := HP8.out.come hc9
  have HAD : addS [] (firstS a) = [firstS a] := by rw [addS_new (by simp)]; rfl
  rw [HAD] at hp9 HK9
  obtain rfl : 1 = k9 := HK9.out
  have HP9 := Lib.hid hp9
  have HR0 : Hid (mkM a acc cuts 70 [firstS a] [] [] = R) := Lib.hid HR.out
  clear hc9 hp9 HAD HP8 HCM HK9
  generalize w2.heap.size = m2 at *
  go_wp2
  go_loopw [10] (fun iv wr => ∃ (i k : Nat) (A1 : Option Addr) (c1 : Nat) (v2 v3 : Value) (all rows : List (List Int)) (accs : List Bool), iv = .int .i64 i ∧ i ≤ k ∧ k ≤ 64 ∧ Hid (all.length = k) ∧ Hid (rows.length = i) ∧ Hid (accs.length = i) ∧ Hid (MetS a all) ∧ Hid (mkM a acc cuts (70 - i) all rows accs = R) ∧
      Hid (PrIn w wr (m2 + 1) (m2 + 1 + 1) m2 A n c acc none (.slice C nc cc) (.slice A1 k c1) v2 v3 v2 v3 cuts all rows accs)) (fun iv _ => 70 - (intOf iv).toNat)
  case atStart => exact ⟨0, 1, A9, c9, _, _, [firstS a], [], [], rfl, by omega, by omega, Lib.hid rfl, Lib.hid rfl, Lib.hid rfl, Lib.hid (MetS.one a), HR0, HP9⟩
  case round =>
    clear HP9 HR0
    obtain ⟨i, k, A1, c1, v2, v3, all, rows, accs, rfl, hik, hk, HK, HRW, HAC, HMT, HRE, HM⟩ := hrel
    have l0 := HM.out.l.cell 0
    have hNL := HM.out.l.lt
    obtain ⟨d0, d1, d2, df0, df1, df2⟩ := Blk.three HM.out.d
    have hND := HM.out.d.lt
    simp only [List.getElem?_toArray, List.getElem?_cons_zero] at l0
    by_cases hlt : i < k
    · obtain ⟨l, HLI⟩ : ∃ l, Hid (all[i]? = some l) := ⟨_, Lib.hid (List.getElem?_eq_getElem (by rw [HK.out]; exact hlt))⟩
      have HR1 : Hid (restM a acc cuts (69 - i) l cuts [] all rows accs = R) := Lib.hid (by
        rw [← HRE.out, show 70 - i = (69 - i) + 1 by omega, restM_begin (by rw [HRW.out]; exact HLI.out)])
      have i1 : (0 : Int) ≤ (i : Int) := by omega
      have i2 : (i : Int) < (k : Int) := by omega
      have hm1 := fun W : World => run_make_row' (P := Tryz.prog) 26 3 (.int .i64 0) 8 Tryz.underlying26 info_int9 rfl .i64 .i64 nc (by omega) (by omega) W
      have HMF := Lib.hid (HM.out.fresh (.cells (madeCells #[.int .i64 0] nc) TLI))
      have HBR := Lib.hid (Blk.new wr TLI (madeCells #[.int .i64 0] nc))
      have hwr := HM.out.b.size
      have HBR0 : Hid (Blk (wr.alloc (.cells (madeCells #[.int .i64 0] nc) TLI)) wr.heap.size TLI (rowCs [] nc)) := Lib.hid (by rw [rowCs_nil]; exact HBR.out)
      go_wp2
      generalize wr.heap.size = ro at *
      go_loopw [58] (fun pv wr2 => ∃ (p k : Nat) (A1 : Option Addr) (c1 : Nat) (all : List (List Int)) (row : List Int), pv = .int .i64 p ∧ p ≤ nc ∧ i < k ∧ k ≤ 64 ∧ Hid (all.length = k) ∧ Hid (row.length = p) ∧ Hid (all[i]? = some l) ∧ Hid (MetS a all) ∧ Hid (restM a acc cuts (69 - i) l (cuts.drop p) row all rows accs = R) ∧
          Hid (Blk wr2 ro TLI (rowCs row nc)) ∧ Hid (PrIn w wr2 (m2 + 1) (m2 + 1 + 1) m2 A n c acc (some ro) (.slice C nc cc) (.slice A1 k c1) v2 v3 v2 v3 cuts all rows accs)) (fun pv _ => nc - (intOf pv).toNat)
      case atStart => exact ⟨0, k, A1, c1, all, [], rfl, by omega, hlt, hk, HK, Lib.hid rfl, HLI, HMT, HR1, HBR0, HMF⟩
      case round =>
        clear HK HMT HR1 HM HRE HLI hk hlt i2 l0 hNL d0 d1 d2 df0 df1 df2 hND hm1 HMF HBR HBR0
        obtain ⟨p, k, A1, c1, all, row, rfl, hp, hik2, hk, HK, HRL, HLI, HMT, HRE, HBR, HM⟩ := hrel
        obtain ⟨A1', c1', e1, hat, _⟩ := HM.out.al.lists (MetS.bd HMT.out (by rw [HL.out]; omega)) (by rw [HK.out]; omega)
        rw [HK.out] at e1
        injection e1 with e1 _ e3
        subst e1; subst e3
        have HAT := Lib.hid hat
        have i3 : (0 : Int) ≤ (p : Int) := by omega
        have i4 : (i : Int) < (k : Int) := by omega
        obtain ⟨b1, o1, T1, tc1, q1, l1, rfl, hb1, cc1, hl1, HQ1, _, hq1, HX1⟩ := At.gtS HAT.out HK hik2
        obtain rfl : l1 = l := Option.some.inj (HX1.out.symm.trans HLI.out)
        have hInl : InAu n l1 := by have := MetS.in HMT.out (mem_of_get HX1.out); rwa [HL.out] at this
        have hqn : q1 ≤ n := by
          obtain ⟨S, rfl⟩ := HMT.out l1 (mem_of_get HX1.out)
          rw [← HQ1.out, HL.out]
          exact stL_len _ _
        have HIN := Lib.hid hInl
        obtain ⟨p0, p1, _, _⟩ := Blk.two HM.out.a
        have hN := HM.out.a.lt
        have hNw := HM.out.b.size
        have l0 := HM.out.l.cell 0
        simp only [List.getElem?_toArray, List.getElem?_cons_zero] at l0
        clear hat hInl
        by_cases hpl : p < nc
        · obtain ⟨C', cc', ec, hcu, _⟩ := HM.out.u.at' HCB.out (by rw [HNC.out]; omega)
          rw [HNC.out] at ec
          injection ec with ec1 _ ec3
          subst ec1; subst ec3
          obtain ⟨b3, o3, u3', y, rfl, hb3, cc3, ⟨rfl, _, _⟩, HY⟩ := hcu.gt HNC hpl
          have i5 : (p : Int) < (nc : Int) := by omega
          have HMD := Lib.hid (HM.out.below (Below.refl _ _).drew)
          have HS : Hid (wr.drew.cell? ⟨w.heap.size, 0, none⟩ = some (.slice A n c) ∧ wr.drew.cell? ⟨w.heap.size, 1, none⟩ = some (.int .i64 acc) ∧ wr.drew.cell? ⟨m2 + 1 + 1, 0, none⟩ = some (.slice (some ⟨b1, o1, none⟩) k c1) ∧ wr.drew.cell? ⟨b1, o1 + i, none⟩ = some (.slice T1 q1 tc1)) := Lib.hid ⟨p0, p1, l0, cc1⟩
          have h0 : askE a acc l1 = 0 := askE_yes HOK.out (by rw [HL.out]; exact HIN.out)
          have HCB' := auto_Step A c n acc a T1 tc1 q1 l1 y wr.drew (HA.out.keep (Keep.of HMD.out.b)) HL (hl1.keep (Keep.drew wr)) HQ1 (by omega)
          rw [h0, stepL_yes h0] at HCB'
          have HSTP := Lib.hid HCB'
          clear hl1 hcu h0 HCB'
          go_wp2
          refine wp_region_T 11 (fun W => W.cell? ⟨w.heap.size, 0, none⟩ = some (.slice A n c) ∧ W.cell? ⟨w.heap.size, 1, none⟩ = some (.int .i64 acc) ∧ W.cell? ⟨m2 + 1 + 1, 0, none⟩ = some (.slice (some ⟨b1, o1, none⟩) k c1) ∧ W.cell? ⟨b1, o1 + i, none⟩ = some (.slice T1 q1 tc1)) (by kernel_rfl) ?_
          refine wpAnyT_take (i := 0) (v := ?_) rfl (by kernel_rfl) (by kernel_rfl) (by kernel_rfl) (by kernel_rfl) (by kernel_rfl) (fun _ _ _ h => h) (.inl ⟨rfl, ?_⟩) HS.out ?_
          rotate_left
          · intro W__ hW__
            obtain ⟨h1, h2, h3, h4⟩ := hW__
            go_simp
            (try with_reducible rfl)
          try simp only [Act.put]
          refine wpAnyT_take (i := 1) (v := ?_) rfl (by kernel_rfl) (by kernel_rfl) (by kernel_rfl) (by kernel_rfl) (by kernel_rfl) (fun _ _ _ h => h) (.inl ⟨rfl, ?_⟩) HS.out ?_
          rotate_left
          · intro W__ hW__
            obtain ⟨h1, h2, h3, h4⟩ := hW__
            go_simp
            (try with_reducible rfl)
          try simp only [Act.put]
          refine wpAnyT_take (i := 2) (v := ?_) rfl (by kernel_rfl) (by kernel_rfl) (by kernel_rfl) (by kernel_rfl) (by kernel_rfl) (fun _ _ _ h => h) (.inl ⟨rfl, ?_⟩) HS.out ?_
          rotate_left
          · intro W__ hW__
            obtain ⟨h1, h2, h3, h4⟩ := hW__
            go_simp
            (try with_reducible rfl)
          try simp only [Act.put]
          refine wpAnyT_take (i := 5) (v := ?_) rfl (by kernel_rfl) (by kernel_rfl) (by kernel_rfl) (by kernel_rfl) (by kernel_rfl) (fun _ _ _ h => h) (.inl ⟨rfl, ?_⟩) HS.out ?_
          rotate_left
          · intro W__ hW__
            obtain ⟨h1, h2, h3, h4⟩ := hW__
            go_simp
            (try with_reducible rfl)
          try simp only [Act.put]
          refine wpAnyT_take (i := 3) (v := ?_) rfl (by kernel_rfl) (by kernel_rfl) (by kernel_rfl) (by kernel_rfl) (by kernel_rfl) (fun _ _ _ h => h) (.inl ⟨rfl, ?_⟩) HS.out ?_
          rotate_left
          · intro W__ hW__
            obtain ⟨h1, h2, h3, h4⟩ := hW__
            go_simp
            (try with_reducible rfl)
          try simp only [Act.put]
          refine wpAnyT_take (i := 4) (v := ?_) rfl (by kernel_rfl) (by kernel_rfl) (by kernel_rfl) (by kernel_rfl) (by kernel_rfl) (fun _ _ _ h => h) (.inl ⟨rfl, ?_⟩) HS.out ?_
          rotate_left
          · intro W__ hW__
            obtain ⟨h1, h2, h3, h4⟩ := hW__
            go_simp
            (try with_reducible rfl)
          try simp only [Act.put]
          refine wpAnyT_one (i := 6) rfl (by kernel_rfl) rfl fun K__ hK__ => ?_
          unfold Oper.wp
          go_simp
          refine HSTP.out.mono ?_
          rintro e w5 ⟨⟨v5, rfl, hv5⟩, hb5⟩
          have e5 : stL a.length (Stp a y (Of l1)) = stL n (Stp a y (Of l1)) := by rw [HL.out]
          rw [e5] at hv5
          have hz5 := stL_len n (Stp a y (Of l1))
          obtain ⟨B5, bc5, rfl, hat5, _⟩ := hv5.at' (stL_bd (by omega)) (by omega)
          have HM5 := Lib.hid (HMD.out.below hb5)
          have HBR5 := Lib.hid ((HBR.out.drewN 1).below hb5 HBR.out.lt)
          obtain ⟨q0, q1', _, _⟩ := Blk.two HM5.out.a
          have l5 := HM5.out.l.cell 0
          simp only [List.getElem?_toArray, List.getElem?_cons_zero] at l5
          have ce1 := ((Keep.of hb5).cell b1 (o1 + i) hb1).trans HS.out.2.2.2
          have HS5 : Hid (w5.cell? ⟨w.heap.size, 0, none⟩ = some (.slice A n c) ∧ w5.cell? ⟨w.heap.size, 1, none⟩ = some (.int .i64 acc) ∧ w5.cell? ⟨m2 + 1 + 1, 0, none⟩ = some (.slice (some ⟨b1, o1, none⟩) k c1) ∧ w5.cell? ⟨b1, o1 + i, none⟩ = some (.slice T1 q1 tc1)) := Lib.hid ⟨q0, q1', l5, ce1⟩
          obtain ⟨L5, hL5⟩ : ∃ L, stL n (Stp a y (Of l1)) = L := ⟨_, rfl⟩
          have HL5 := Lib.hid hL5
          rw [hL5] at hat5 hz5 ⊢
          obtain ⟨j5, hj5⟩ : ∃ j, L5.length = j := ⟨_, rfl⟩
          have HJ5 := Lib.hid hj5
          rw [hj5] at hz5 ⊢
          have hRC := auto_Reach A c n acc a B5 bc5 j5 L5 w5 (HA.out.keep (Keep.of HM5.out.b)) HL hat5 HJ5 (by omega)
          have h06 : askE a acc L5 = 0 := askE_yes HOK.out (by rw [HL.out, ← HL5.out]; exact stL_in)
          rw [h06, reachL_yes h06] at hRC
          have e6 : stL a.length (Clo a (Of L5)) = stL n (Clo a (Stp a y (Of l1))) := by
            rw [← HL5.out, of_stL (fun s hs => by have := stp_in HOK.out hs; rwa [HL.out] at this), HL.out]
          rw [e6] at hRC
          have HRC2 := Lib.hid hRC
          have HSS : Hid (stL n (Clo a (Stp a y (Of l1))) = stepS a l1 y) := Lib.hid (by unfold stepS; rw [HL.out])
          have hro5 : ro < w5.heap.size := HBR5.out.lt
          have hw5 : w.heap.size ≤ w5.heap.size := HM5.out.b.size
          clear hv5 hb5 hat5 hL5 hj5 e5 e6 h06 hRC
          refine hK__ _ _ HS5.out ?_
          clear hK__
          refine wpAnyT_take (i := 7) (v := ?_) rfl (by kernel_rfl) (by kernel_rfl) (by kernel_rfl) (by kernel_rfl) (by kernel_rfl) (fun _ _ _ h => h) (.inl ⟨rfl, ?_⟩) HS5.out ?_
          rotate_left
          · intro W__ hW__
            obtain ⟨h1, h2, h3, h4⟩ := hW__
            go_simp
            (try with_reducible rfl)
          try simp only [Act.put]
          refine wpAnyT_take (i := 8) (v := ?_) rfl (by kernel_rfl) (by kernel_rfl) (by kernel_rfl) (by kernel_rfl) (by kernel_rfl) (fun _ _ _ h => h) (.inl ⟨rfl, ?_⟩) HS5.out ?_
          rotate_left
          · intro W__ hW__
            obtain ⟨h1, h2, h3, h4⟩ := hW__
            go_simp
            (try with_reducible rfl)
          try simp only [Act.put]
          refine wpAnyT_take (i := 9) (v := ?_) rfl (by kernel_rfl) (by kernel_rfl) (by kernel_rfl) (by kernel_rfl) (by kernel_rfl) (fun _ _ _ h => h) (.inl ⟨rfl, ?_⟩) HS5.out ?_
          rotate_left
          · intro W__ hW__
            obtain ⟨h1, h2, h3, h4⟩ := hW__
            go_simp
            (try with_reducible rfl)
          try simp only [Act.put]
          refine wpAnyT_take (i := 10) (v := ?_) rfl (by kernel_rfl) (by kernel_rfl) (by kernel_rfl) (by kernel_rfl) (by kernel_rfl) (fun _ _ _ h => h) (.inl ⟨rfl, ?_⟩) HS5.out ?_
          rotate_left
          · intro W__ hW__
            obtain ⟨h1, h2, h3, h4⟩ := hW__
            go_simp
            (try with_reducible rfl)
          try simp only [Act.put]
          refine wpAnyT_end (i := 11) rfl (by kernel_rfl) rfl (by kernel_rfl) fun K__ hK__ => ?_
          unfold Oper.wp
          go_simp
          refine hK__ _ _ ?_
          clear hK__
          refine wpAnyT_done (by kernel_rfl) ?_ _
          clear p0 p1 l0 cc1 cc3 HS ce1 HMD
          go_wp2_with fail
          refine HRC2.out.mono ?_
          rintro e w6 ⟨⟨v6, rfl, hv6⟩, hb6⟩
          have HM6 := Lib.hid (HM5.out.below hb6)
          have HBR6 := Lib.hid (HBR5.out.below hb6 HBR5.out.lt)
          have hx6 : v6.ownBlock = none ∨ v6.ownBlock ≠ some ro := by
            cases hg : v6.ownBlock with
            | none => exact .inl rfl
            | some g => have := (hv6.lt hg).1; exact .inr (by simp; omega)
          have hu6 := hv6.lower hw5
          obtain ⟨B6, bc6, e7, _⟩ := hv6
          obtain ⟨q6, hq6⟩ : ∃ q, (stL n (Clo a (Stp a y (Of l1)))).length = q := ⟨_, rfl⟩
          rw [hq6] at e7
          subst e7
          have hCM := come_at B6 q6 bc6 (m2 + 1) (m2 + 1 + 1) m2 w.heap.size n k c1 (some ⟨b1, o1, none⟩) (some ro) _ all w6 hn hu6 hx6 HM6.out.mm HM6.out.m HM6.out.l HM6.out.al HK (by omega) HM6.out.b.size
          rw [HSS.out] at hCM
          have HCM := Lib.hid hCM
          clear hu6 hx6 hq6 hb6 hCM q0 q1' l5
          go_wp2_with fail
          refine HCM.out.mono ?_
          intro e w7 hc7
          obtain ⟨A7, c7, k7, rfl, HK7, hp7, hrow⟩ := HM6.out.come hc7
          have HM7 := Lib.hid hp7
          have HBR7 := Lib.hid (hrow _ _ HBR6.out)
          obtain ⟨j, hj⟩ : ∃ j, numS all (stepS a l1 y) = j := ⟨_, rfl⟩
          have HJ := Lib.hid hj
          rw [hj]
          have hpr : p < (rowCs row nc).size := by rw [rowCs_size (by rw [HRL.out]; exact hp)]; exact hpl
          obtain ⟨ur, hur⟩ : ∃ u, (rowCs row nc)[p]? = some u := ⟨_, Array.getElem?_eq_getElem hpr⟩
          have r7 := (HBR7.out.cell p).trans hur
          have f7 := HBR7.out.frozen p
          have HM8 := Lib.hid (HM7.out.put (i := p) HBR7.out (Nat.le_trans hwr (Nat.le_refl _)) (.int .i64 j))
          have HBR8 : Hid (Blk (w7.setCell ⟨ro, p, none⟩ (.int .i64 j)) ro TLI (rowCs (row ++ [(j : Int)]) nc)) := Lib.hid (by
            have h := HBR7.out.set p (.int .i64 j)
            have h2 := rowCs_put (nc := nc) (row := row) (by rw [HRL.out]; exact hpl) (j : Int)
            rw [HRL.out] at h2
            rwa [h2] at h)
          have l8 := HM8.out.l.cell 0
          have hNL8 := HM8.out.l.lt
          have hNR7 := HBR7.out.lt
          simp only [List.getElem?_toArray, List.getElem?_cons_zero] at l8
          have HDR : Hid (cuts.drop p = y :: cuts.drop (p + 1)) := Lib.hid (by
            have h1 := lt_of_get HY.out
            have h2 := HY.out
            rw [List.getElem?_eq_getElem h1] at h2
            rw [List.drop_eq_getElem_cons h1, Option.some.inj h2])
          clear hc7 hp7 hrow hj hur hpr HM6 HBR6 HCM
          by_cases h64 : 64 < k7
          · have d1 : (64 : Int) < (k7 : Int) := by omega
            have HE := Lib.hid (EndD.states HFT.out.ok HFT.out.s HFT.out.p (by
              rw [HCT.out, HR.out, ← HRE.out, HDR.out, restM_many (by rw [HK7.out]; exact h64)]))
            obtain ⟨d0, d1', d2, df0, df1, df2⟩ := Blk.three HM8.out.d
            have hND := HM8.out.d.lt
            go_wp2
            obtain ⟨y0, y1, y2, _, _, _⟩ := Blk.three (Blk.set3 (u0 := .slice none 0 0) (u1 := .slice none 0 0) (u2 := .slice none 0 0) HM8.out.d)
            exact bodyPost_ret (v := .tuple #[zDfa, .int .i64 90]) (by simp [results, Tryz.results9, go_sem, y0, y1, y2]) rfl ⟨.inl ⟨90, HE.out, rfl⟩, below3 HM8.out.b (by simp)⟩
          · have d1 : decide ((64 : Int) < (k7 : Int)) = false := decide_eq_false (by omega)
            have HLI7 : Hid ((addS all (stepS a l1 y))[i]? = some l1) := Lib.hid (addS_get HLI.out)
            have HREN : Hid (restM a acc cuts (69 - i) l1 (cuts.drop (p + 1)) (row ++ [(j : Int)]) (addS all (stepS a l1 y)) rows accs = R) := Lib.hid (by
              rw [← HRE.out, HDR.out, restM_next (by rw [HK7.out]; omega), HJ.out])
            have hik7 : i < k7 := by have := lt_of_get HLI7.out; rwa [HK7.out] at this
            go_wp2
            go_roundw
            case rel => exact ⟨p + 1, k7, A7, c7, addS all (stepS a l1 y), row ++ [(j : Int)], by go_num, by omega, hik7, by omega, HK7, Lib.hid (by rw [List.length_append, HRL.out]; rfl), HLI7, Lib.hid (MetS.add HMT.out l1 y), HREN, HBR8, HM8⟩
            case measure => simp [intOf]; omega
        · obtain rfl : p = nc := by omega
          have HDR : Hid (cuts.drop p = []) := Lib.hid (List.drop_eq_nil_of_le (by rw [HNC.out]; exact Nat.le_refl _))
          have HREN : Hid (mkM a acc cuts (69 - i) all (rows ++ [row]) (accs ++ [decide (acc ∈ l1)]) = R) := Lib.hid (by rw [← HRE.out, HDR.out, restM_end])
          have HF := Lib.hid (HM.out.free.below (Below.refl _ _).drew)
          obtain ⟨A2, c2, us2, ev2, ow2, rel2⟩ := HF.out.r
          obtain ⟨A3, c3, us3, ev3, ow3, rel3⟩ := HF.out.t
          rw [HRW.out] at ev2 ow2
          rw [HAC.out] at ev3 ow3
          subst ev2; subst ev3
          have OW2 := Lib.hid ow2; have REL2 := Lib.hid rel2
          have HU : Hid (OwnI wr.drew w.heap.size (.slice (some ⟨ro, 0, none⟩) p p) row) := Lib.hid (by
            have h := own_blkF (HBR.out.drewN 1) hwr (rowCs_size (by rw [HRL.out]; exact Nat.le_refl _)) (by simp only [maxLen]; omega)
            rw [rowCs_full HRL.out] at h
            have h2 := HRL.out
            subst h2
            exact ⟨_, _, rfl, h⟩)
          obtain ⟨d0, d1, d2, df0, df1, df2⟩ := Blk.three HM.out.d
          have hND := HM.out.d.lt
          have HS : Hid (wr.drew.cell? ⟨w.heap.size + 1, 1, none⟩ = some (.slice A2 i c2) ∧ wr.drew.cell? ⟨w.heap.size + 1, 2, none⟩ = some (.slice A3 i c3) ∧ wr.drew.cell? ⟨m2 + 1 + 1, 0, none⟩ = some (.slice (some ⟨b1, o1, none⟩) k c1) ∧ wr.drew.cell? ⟨b1, o1 + i, none⟩ = some (.slice T1 q1 tc1) ∧ wr.drew.cell? ⟨w.heap.size, 1, none⟩ = some (.int .i64 acc)) := Lib.hid ⟨d1, d2, l0, cc1, p1⟩
          have OWA := Lib.hid (ow2.alloc (.cells #[.slice (some ⟨ro, 0, none⟩) p p] TLL))
          have SRA := Lib.hid (Src.one (w := wr.drew) (x := .slice (some ⟨ro, 0, none⟩) p p) (t := TLL) rfl)
          have Q1 : Hid (i + 1 ≤ maxLen) := Lib.hid (by simp only [maxLen]; omega)
          have Q2 : Hid ((i + 1) * 24 ≤ 140737488355328) := Lib.hid (by omega)
          have Q4 : Hid ((i + 1) * 1 ≤ 140737488355328) := Lib.hid (by omega)
          have Z1 : Hid (w.heap.size ≤ (wr.drew.alloc (.cells #[.slice (some ⟨ro, 0, none⟩) p p] TLL)).heap.size) := Lib.hid (by have := HF.out.b.size; simp at this ⊢; omega)
          clear ow2 rel2 ow3 rel3 HRE
          go_wp2
          refine wp_region_T 17 (fun W => W.cell? ⟨w.heap.size + 1, 1, none⟩ = some (.slice A2 i c2) ∧ W.cell? ⟨w.heap.size + 1, 2, none⟩ = some (.slice A3 i c3) ∧ W.cell? ⟨m2 + 1 + 1, 0, none⟩ = some (.slice (some ⟨b1, o1, none⟩) k c1) ∧ W.cell? ⟨b1, o1 + i, none⟩ = some (.slice T1 q1 tc1) ∧ W.cell? ⟨w.heap.size, 1, none⟩ = some (.int .i64 acc)) (by kernel_rfl) ?_
          clear d0 d1 d2 df0 df1 df2 l0 cc1 p0 p1
          generalize wr.drew = W at *
          refine wpAnyT_takeC (i := 0) [17] (v := ?_) rfl (by kernel_rfl) (by kernel_rfl) (by kernel_rfl) (by kernel_rfl) (by kernel_rfl) (by kernel_rfl) (fun _ _ _ h => h) (.inl ⟨rfl, ?_⟩) HS.out ?_
          rotate_left
          · intro W__ hW__
            obtain ⟨h1, h2, h3, h4, h5⟩ := hW__
            go_simp
            (try with_reducible rfl)
          try simp only [Act.put]
          refine wpAnyT_takeC (i := 2) [17] (v := ?_) rfl (by kernel_rfl) (by kernel_rfl) (by kernel_rfl) (by kernel_rfl) (by kernel_rfl) (by kernel_rfl) (fun _ _ _ h => h) (.inl ⟨rfl, ?_⟩) HS.out ?_
          rotate_left
          · intro W__ hW__
            obtain ⟨h1, h2, h3, h4, h5⟩ := hW__
            go_simp
            (try with_reducible rfl)
          try simp only [Act.put]
          refine wpAnyT_takeC (i := 5) [17] (v := ?_) rfl (by kernel_rfl) (by kernel_rfl) (by kernel_rfl) (by kernel_rfl) (by kernel_rfl) (by kernel_rfl) (fun _ _ _ h => h) (.inl ⟨rfl, ?_⟩) HS.out ?_
          rotate_left
          · intro W__ hW__
            obtain ⟨h1, h2, h3, h4, h5⟩ := hW__
            go_simp
            (try with_reducible rfl)
          try simp only [Act.put]
          refine wpAnyT_takeC (i := 7) [17, 15, 13, 10, 9] (v := ?_) rfl (by kernel_rfl) (by kernel_rfl) (by kernel_rfl) (by kernel_rfl) (by kernel_rfl) (by kernel_rfl) (fun _ _ _ h => h) (.inl ⟨rfl, ?_⟩) HS.out ?_
          rotate_left
          · intro W__ hW__
            obtain ⟨h1, h2, h3, h4, h5⟩ := hW__
            go_simp
            (try with_reducible rfl)
          try simp only [Act.put]
          refine wpAnyT_takeC (i := 8) [17, 15, 13, 10, 9] (v := ?_) rfl (by kernel_rfl) (by kernel_rfl) (by kernel_rfl) (by kernel_rfl) (by kernel_rfl) (by kernel_rfl) (fun _ _ _ h => h) (.inl ⟨rfl, ?_⟩) HS.out ?_
          rotate_left
          · intro W__ hW__
            obtain ⟨h1, h2, h3, h4, h5⟩ := hW__
            go_simp
            (try with_reducible rfl)
          try simp only [Act.put]
          refine wpAnyT_takeC (i := 11) [17, 15, 13, 12] (v := ?_) rfl (by kernel_rfl) (by kernel_rfl) (by kernel_rfl) (by kernel_rfl) (by kernel_rfl) (by kernel_rfl) (fun _ _ _ h => h) (.inl ⟨rfl, ?_⟩) HS.out ?_
          rotate_left
          · intro W__ hW__
            obtain ⟨h1, h2, h3, h4, h5⟩ := hW__
            go_simp
            (try with_reducible rfl)
          try simp only [Act.put]
          refine wpAnyT_takeC (i := 1) [17] (v := ?_) rfl (by kernel_rfl) (by kernel_rfl) (by kernel_rfl) (by kernel_rfl) (by kernel_rfl) (by kernel_rfl) (fun _ _ _ h => h) (.inl ⟨rfl, ?_⟩) HS.out ?_
          rotate_left
          · intro W__ hW__
            obtain ⟨h1, h2, h3, h4, h5⟩ := hW__
            go_simp
            (try with_reducible rfl)
          try simp only [Act.put]
          refine wpAnyT_takeC (i := 6) [17] (v := ?_) rfl (by kernel_rfl) (by kernel_rfl) (by kernel_rfl) (by kernel_rfl) (by kernel_rfl) (by kernel_rfl) (fun _ _ _ h => h) (.inl ⟨rfl, ?_⟩) HS.out ?_
          rotate_left
          · intro W__ hW__
            obtain ⟨h1, h2, h3, h4, h5⟩ := hW__
            go_simp
            (try with_reducible rfl)
          try simp only [Act.put]
          refine wpAnyT_takeC (i := 9) [17, 15, 13, 10] (v := ?_) rfl (by kernel_rfl) (by kernel_rfl) (by kernel_rfl) (by kernel_rfl) (by kernel_rfl) (by kernel_rfl) (fun _ _ _ h => h) (.inl ⟨rfl, ?_⟩) HS.out ?_
          rotate_left
          · intro W__ hW__
            obtain ⟨h1, h2, h3, h4, h5⟩ := hW__
            go_simp
            (try with_reducible rfl)
          try simp only [Act.put]
          refine wpAnyT_takeC (i := 12) [17, 15, 13] (v := ?_) rfl (by kernel_rfl) (by kernel_rfl) (by kernel_rfl) (by kernel_rfl) (by kernel_rfl) (by kernel_rfl) (fun _ _ _ h => h) (.inl ⟨rfl, ?_⟩) HS.out ?_
          rotate_left
          · intro W__ hW__
            obtain ⟨h1, h2, h3, h4, h5⟩ := hW__
            go_simp
            (try with_reducible rfl)
          try simp only [Act.put]
          refine wpAnyT_takeC (i := 10) [17, 15, 13] (v := ?_) rfl (by kernel_rfl) (by kernel_rfl) (by kernel_rfl) (by kernel_rfl) (by kernel_rfl) (by kernel_rfl) (fun _ _ _ h => h) (.inl ⟨rfl, ?_⟩) HS.out ?_
          rotate_left
          · intro W__ hW__
            obtain ⟨h1, h2, h3, h4, h5⟩ := hW__
            go_simp
            (try with_reducible rfl)
          try simp only [Act.put]
          have KW := Lib.hid (fun (o : Obj) (p : Addr) (u : Value) (h : W.cell? ⟨p.block, p.off, none⟩ = some u) => show (W.alloc o).cell? ⟨p.block, p.off, none⟩ = some u from ((Keep.alloc W o).cell _ _ (World.block_lt_of_cell? _ _ h)).trans h)
          have HS1 := Lib.hid (And.intro (KW.out (.cells #[.slice (some ⟨ro, 0, none⟩) p p] TLL) ⟨w.heap.size + 1, 1, none⟩ _ HS.out.1) (And.intro (KW.out (.cells #[.slice (some ⟨ro, 0, none⟩) p p] TLL) ⟨w.heap.size + 1, 2, none⟩ _ HS.out.2.1) (And.intro (KW.out (.cells #[.slice (some ⟨ro, 0, none⟩) p p] TLL) ⟨m2 + 1 + 1, 0, none⟩ _ HS.out.2.2.1) (And.intro (KW.out (.cells #[.slice (some ⟨ro, 0, none⟩) p p] TLL) ⟨b1, o1 + i, none⟩ _ HS.out.2.2.2.1) (KW.out (.cells #[.slice (some ⟨ro, 0, none⟩) p p] TLL) ⟨w.heap.size, 1, none⟩ _ HS.out.2.2.2.2)))))
          obtain ⟨csb, hcsb⟩ := HF.out.al.blk
          have HCB1 := Lib.hid hcsb
          have hne2 : some b1 ≠ (Value.slice A2 i c2).ownBlock := by
            intro e
            rcases HF.out.ne with h | h
            · rw [h] at e; cases e
            · exact h e.symm
          have HN2 := Lib.hid hne2
          clear hcsb hne2
          refine wpAnyT_one (i := 3) rfl (by kernel_rfl) rfl fun K__ hK__ => ?_
          unfold Oper.wp
          go_simp
          refine hK__ _ _ HS1.out ?_
          clear hK__
          refine wpAnyT_one (i := 4) rfl (by kernel_rfl) rfl fun K__ hK__ => ?_
          refine wp_append_src _ (.tmp 91) (.tmp 93) 27 rfl w.heap.size TLL i0 (.slice none 0 0) 1 24 Tryz.underlying27 hi0 hz0 hs0 hb0 rfl (by decide) A2 c2 i us2 (by simp [Act.eval]) OWA.out _ 1 1 _ (by simp [Act.eval]) SRA.out Q1.out Q2.out Z1.out ?_
          intro A9 c9 w9 own9 gr9 hn9
          have HM9 := Lib.hid (PrIn.row HF.out OW2.out REL2.out HRW.out HU.out own9 gr9 hn9)
          have HCB9 := Lib.hid ((HCB1.out.alloc (.cells #[.slice (some ⟨ro, 0, none⟩) p p] TLL)).grown gr9 HN2.out)
          have cb9 := (World.cell?_of_block (a := ⟨b1, o1 + i, none⟩) (gr9.block b1 (by have := HCB1.out.lt; simp; omega) HN2.out)).trans HS1.out.2.2.2.1
          obtain ⟨x0, x1, x2, _, _, _⟩ := Blk.three HM9.out.d
          obtain ⟨y0, y1, _, _⟩ := Blk.two HM9.out.a
          have z0 := HM9.out.l.cell 0
          simp only [List.getElem?_toArray, List.getElem?_cons_zero] at z0
          have HS9 := Lib.hid (And.intro x1 (And.intro x2 (And.intro z0 (And.intro cb9 y1))))
          obtain ⟨A1', c1', e1, hat9, _⟩ := HM9.out.al.lists (MetS.bd HMT.out (by rw [HL.out]; omega)) (by rw [HK.out]; omega)
          rw [HK.out] at e1
          injection e1 with e1 _ e3
          subst e1; subst e3
          obtain ⟨b4, o4, T4, tc4, q4, l4, eA, hb4, cc4, hl4, HQ4, _, hq4, HX4⟩ := At.gtS hat9 HK hik2
          injection eA with eA
          injection eA with eA1 eA2
          subst eA1; subst eA2
          obtain rfl : l4 = l1 := Option.some.inj (HX4.out.symm.trans HLI.out)
          have ec := Option.some.inj (cc4.symm.trans cb9)
          injection ec with ec1 ec2 ec3
          subst ec1; subst ec2; subst ec3
          have HCO := contains_int T4 tc4 q4 l4 acc w9 hl4 HQ4
          obtain ⟨bb, hbb⟩ : ∃ bb, decide (acc ∈ l4) = bb := ⟨_, rfl⟩
          rw [hbb] at HCO HREN
          have HCO := Lib.hid HCO
          obtain ⟨A3', c3', us3', ev3', ow3', rel3'⟩ := HM9.out.t
          rw [HAC.out] at ev3' ow3'
          injection ev3' with ev31 _ ev33
          subst ev31; subst ev33
          have OW3 := Lib.hid ow3'; have REL3 := Lib.hid rel3'
          have OWB := Lib.hid (ow3'.alloc (.cells #[.bool bb] 4))
          have SRB := Lib.hid (Src.one (w := w9) (x := .bool bb) (t := 4) rfl)
          have Z3 : Hid (w.heap.size ≤ (w9.alloc (.cells #[.bool bb] 4)).heap.size) := Lib.hid (by have := HM9.out.b.size; simp; omega)
          have HMB := Lib.hid (HM9.out.below ((Below.refl _ _).alloc (Nat.le_refl _) (.cells #[.bool bb] 4)))
          have HCBB := Lib.hid (HCB9.out.alloc (.cells #[.bool bb] 4))
          have cbB := (World.cell?_of_block (a := ⟨b1, o1 + i, none⟩) (Below.heap_alloc w9 (.cells #[.bool bb] 4) b1 HCB9.out.lt)).trans cb9
          obtain ⟨x0', x1', x2', _, _, _⟩ := Blk.three HMB.out.d
          obtain ⟨y0', y1', _, _⟩ := Blk.two HMB.out.a
          have z0' := HMB.out.l.cell 0
          simp only [List.getElem?_toArray, List.getElem?_cons_zero] at z0'
          have HSB := Lib.hid (And.intro x1' (And.intro x2' (And.intro z0' (And.intro cbB y1'))))
          refine hK__ _ _ HS9.out ?_
          clear hK__ own9 gr9 hn9 cb9 x0 x1 x2 y0 y1 z0 hat9 cc4 hl4 hbb ow3' rel3' cbB x0' x1' x2' y0' y1' z0'
          simp only [Act.put]
          refine wpAnyT_takeC (i := 16) [17] (v := ?_) rfl (by kernel_rfl) (by kernel_rfl) (by kernel_rfl) (by kernel_rfl) (by kernel_rfl) (by kernel_rfl) (fun _ _ _ h => h) (.inl ⟨rfl, ?_⟩) HS9.out ?_
          rotate_left
          · intro W__ hW__
            obtain ⟨h1, h2, h3, h4, h5⟩ := hW__
            go_simp
            (try with_reducible rfl)
          try simp only [Act.put]
          refine wpAnyT_one (i := 13) rfl (by kernel_rfl) rfl fun K__ hK__ => ?_
          unfold Oper.wp
          go_simp
          refine HCO.out.mono ?_
          rintro e w10 ⟨rfl, rfl⟩
          refine hK__ _ _ HS9.out ?_
          clear hK__
          refine wpAnyT_one (i := 14) rfl (by kernel_rfl) rfl fun K__ hK__ => ?_
          unfold Oper.wp
          go_simp
          refine hK__ _ _ HSB.out ?_
          clear hK__
          refine wpAnyT_one (i := 15) rfl (by kernel_rfl) rfl fun K__ hK__ => ?_
          refine wp_append_src _ (.tmp 96) (.tmp 104) 28 rfl w.heap.size 4 i1' (.bool false) 1 1 Tryz.underlying28 hi1 hz1 hs1 hb1' rfl (by decide) A3 c3 i us3' (by simp [Act.eval]) OWB.out _ 1 1 _ (by simp [Act.eval]) SRB.out Q1.out Q4.out Z3.out ?_
          intro A11 c11 w11 own11 gr11 _
          have HM11 := Lib.hid (PrIn.told HM9.out OW3.out REL3.out HAC.out own11 gr11)
          have cb11 := (World.cell?_of_block (a := ⟨b1, o1 + i, none⟩) (gr11.block b1 HCBB.out.lt (own_blk_ne OWB.out HCBB.out (by decide)))).trans HSB.out.2.2.2.1
          obtain ⟨x0, x1, x2, xf0, xf1, xf2⟩ := Blk.three HM11.out.d
          obtain ⟨y0, y1, _, _⟩ := Blk.two HM11.out.a
          have z0 := HM11.out.l.cell 0
          simp only [List.getElem?_toArray, List.getElem?_cons_zero] at z0
          refine hK__ _ _ ⟨x1, x2, z0, cb11, y1⟩ ?_
          clear hK__ own11 gr11
          simp only [Act.put]
          have HM13 := Lib.hid (((HM11.out.far (i := 1) (u := .slice A9 (i + 1) c9) rfl).far (i := 2) (u := .slice A11 (i + 1) c11) rfl))
          refine wpAnyT_end (i := 17) rfl (by kernel_rfl) rfl (by kernel_rfl) fun K__ hK__ => ?_
          unfold Oper.wp
          go_simp
          refine hK__ _ _ ?_
          clear hK__
          refine wpAnyT_end (i := 18) rfl (by kernel_rfl) rfl (by kernel_rfl) fun K__ hK__ => ?_
          unfold Oper.wp
          go_simp
          refine hK__ _ _ ?_
          clear hK__
          refine wpAnyT_end (i := 19) rfl (by kernel_rfl) rfl (by kernel_rfl) fun K__ hK__ => ?_
          unfold Oper.wp
          go_simp
          refine hK__ _ _ ?_
          clear hK__
          refine wpAnyT_done (by kernel_rfl) ?_ _
          clear x0 x1 x2 xf0 xf1 xf2 y0 y1 z0 cb11
          go_wp2
          go_roundw
          case rel => exact ⟨i + 1, k, _, c1, _, _, all, rows ++ [row], accs ++ [bb], by go_num, by omega, hk, HK, Lib.hid (by rw [List.length_append, HRW.out]; rfl), Lib.hid (by rw [List.length_append, HAC.out]; rfl), HMT, Lib.hid (by rw [show 70 - (i + 1) = 69 - i by omega]; exact HREN.out), HM13⟩
          case measure => simp [intOf]; omega
    · have hik3 : i = k := by omega
      subst hik3
      have HSOME : Hid (madeM a acc (plcL (allSets a)) = some (rows, accs)) := Lib.hid (by rw [HCT.out, HR.out, ← HRE.out]; exact mkM_end (by rw [HK.out, HRW.out]; exact Nat.le_refl _) (by omega))
      have HRS := Lib.hid (show Res wr w.heap.size (.slice C nc cc) v2 v3 cuts rows accs from ⟨HM.out.u, HM.out.r, HM.out.t⟩)
      obtain ⟨A2, c2, us2, ev2, _, _⟩ := HM.out.r
      obtain ⟨A3, c3, us3, ev3, _, _⟩ := HM.out.t
      subst ev2; subst ev3
      have HD := Lib.hid HM.out.d; have HB := Lib.hid HM.out.b
      clear HM HRE
      go_wp2
      obtain ⟨y0, y1, y2, _, _, _⟩ := Blk.three (Blk.set3 (u0 := .slice C nc cc) (u1 := .slice A2 rows.length c2) (u2 := .slice A3 accs.length c3) HD.out)
      have HF := HRS.out.far3 (u0 := .slice C nc cc) (u1 := .slice A2 rows.length c2) (u2 := .slice A3 accs.length c3) HD.out
      have hcu := HF.c
      rw [← HCT.out] at hcu
      exact bodyPost_ret (v := .tuple #[.agg #[.slice C nc cc, .slice A2 rows.length c2, .slice A3 accs.length c3], .int .i64 0]) (by simp [results, Tryz.results9, go_sem, y0, y1, y2]) rfl ⟨.inr ⟨rows, accs, _, _, _, HFT.out, HSOME.out, rfl, hcu, HF.r, HF.t⟩, below3 HB.out (by simp)⟩
end Go.Proofs.YtjnjbcigbnjmkaaGreat
