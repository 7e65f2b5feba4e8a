/- Walks: the program's maker of a least automaton. PUT1 -/
import Derived.Test.YtjnjbcigbnjmkaaGreatGyy
namespace Go.Proofs.YtjnjbcigbnjmkaaGreat
open Go.RowKit Go.Maps Pv

theorem getPt {d : Dfa} {part : List Int} {n : Nat} (hb : ∀ x, x ∈ part → 0 ≤ x ∧ x ≤ 1000000) (_ : part.length = n) (s : Nat) : 0 ≤ part.getD s 0 ∧ part.getD s 0 ≤ 1000000 := by
  rw [List.getD_eq_getElem?_getD]
  cases e : part[s]? with
  | none => simp
  | some x => exact hb x (mem_of_get e)

set_option maxHeartbeats 8000000 in
set_option maxRecDepth 100000 in
theorem least_least (A1 A2 A3 : Option Addr) (c1 c2 c3 n1 n n3 : Nat) (d : Dfa) (w : World) (H : DfaAt w A1 A2 A3 n1 n n3 d) (hok : d.Ok) :
    Calls Tryz.prog 10 #[.agg #[.slice A1 n1 c1, .slice A2 n c2, .slice A3 n3 c3]] w (LeastPost d w) := by
  obtain ⟨b2, o2, b3, o3, e2, e3, hb2, hb3, e4, hrow, hacc⟩ := H.rows hok
  subst e2; subst e3
  obtain rfl := e4.symm
  have hn : n ≤ 64 := by have := hok.n2; have := H.hn.out; omega
  have hn1 : 1 ≤ n := by have := hok.n1; have := H.hn.out; omega
  have hc : n1 ≤ 256 := by have := hok.c2; have := H.hc.out; omega
  have HNN := H.hn; have HNC := H.hc
  have HD := Lib.hid H
  have HOK := Lib.hid hok; have HR := Lib.hid hrow; have HA := Lib.hid hacc
  obtain ⟨i0, hi0, hz0, hs0, hb0⟩ := info_parts info_int9
  obtain ⟨i1', hi1, hz1, hs1, hb1'⟩ := info_parts info_bool9
  obtain ⟨av, hav⟩ : ∃ av, #[Value.slice A1 n1 c1, .slice (some ⟨b2, o2, none⟩) n c2, .slice (some ⟨b3, o3, none⟩) n c3] = av := ⟨_, rfl⟩
  have KK := blk2 w #[.slice A1 n1 c1, .slice (some ⟨b2, o2, none⟩) n c2, .slice (some ⟨b3, o3, none⟩) n c3] #[.slice none 0 0, .slice none 0 0, .slice none 0 0] TDfa TDfa
  have KA := Lib.hid KK.1; have KO := Lib.hid KK.2
  have HB0 := Lib.hid (((Below.refl w.heap.size w).alloc (Nat.le_refl _) (.cells #[.slice A1 n1 c1, .slice (some ⟨b2, o2, none⟩) n c2, .slice (some ⟨b3, o3, none⟩) n c3] TDfa)).alloc (by simp) (.cells #[.slice none 0 0, .slice none 0 0, .slice none 0 0] TDfa))
  have HPT := Lib.hid (least_parts A1 (some ⟨b2, o2, none⟩) (some ⟨b3, o3, none⟩) c1 c2 c3 n1 n n d _ (H.keep (Keep.of HB0.out)) hok)
  clear hrow hacc H hok KK hav
  go_enter Tryz.func10, Tryz.ntmps10
  go_wp2_with fail
  refine HPT.out.mono ?_
  rintro e w1 ⟨P, part, rfl, hP, hPl, hb1, hpl, hpt, hpb⟩
  have HB1 := Lib.hid (HB0.out.trans (hb1.mono HB0.out.size))
  have HPA := Lib.hid (show PtOk d part from fun s t hs ht => hpt s t (by rw [← HNN.out]; exact hs) (by rw [← HNN.out]; exact ht))
  have HPB := Lib.hid (fun s => getPt (d := d) hpb hpl s)
  have HPL := Lib.hid hpl; have HBP := Lib.hid hP
  have KA1 := Lib.hid (KA.out.below hb1 KA.out.lt); have KO1 := Lib.hid (KO.out.below hb1 KO.out.lt)
  have hPm : P < w1.heap.size := hP.lt
  have HPM := Lib.hid hPm
  have hWM : w.heap.size + 1 < w1.heap.size := KO1.out.lt
  obtain ⟨p0', hp0'⟩ : ∃ p0', part.getD 0 0 = p0' := ⟨_, rfl⟩
  have x0 := cell_row hP hpl (i := 0) (by omega)
  rw [hp0'] at x0
  -- what stands before the first number is asked for
  have B1 := Blk.new w1 TLL #[.slice (some ⟨P, 0, none⟩) n n]
  have B2 := own_lit (w1.alloc (.cells #[.slice (some ⟨P, 0, none⟩) n n] TLL)) w1.heap.size (.int .i64 0) TLI (by simp)
  rw [show (w1.alloc (.cells #[.slice (some ⟨P, 0, none⟩) n n] TLL)).heap.size = w1.heap.size + 1 by simp] at B2
  have B3 := Blk.new ((w1.alloc (.cells #[.slice (some ⟨P, 0, none⟩) n n] TLL)).alloc (.cells #[.int .i64 0] TLI)) TLL #[.slice (some ⟨w1.heap.size + 1, 0, none⟩) 1 1]
  rw [show ((w1.alloc (.cells #[.slice (some ⟨P, 0, none⟩) n n] TLL)).alloc (.cells #[.int .i64 0] TLI)).heap.size = w1.heap.size + 1 + 1 by simp] at B3
  have B4 := Blk.new (((w1.alloc (.cells #[.slice (some ⟨P, 0, none⟩) n n] TLL)).alloc (.cells #[.int .i64 0] TLI)).alloc (.cells #[.slice (some ⟨w1.heap.size + 1, 0, none⟩) 1 1] TLL)) TNI #[.map none]
  rw [show (((w1.alloc (.cells #[.slice (some ⟨P, 0, none⟩) n n] TLL)).alloc (.cells #[.int .i64 0] TLI)).alloc (.cells #[.slice (some ⟨w1.heap.size + 1, 0, none⟩) 1 1] TLL)).heap.size = w1.heap.size + 1 + 1 + 1 by simp] at B4
  obtain ⟨W0, hW0⟩ : ∃ W0, (((w1.alloc (.cells #[.slice (some ⟨P, 0, none⟩) n n] TLL)).alloc (.cells #[.int .i64 0] TLI)).alloc (.cells #[.slice (some ⟨w1.heap.size + 1, 0, none⟩) 1 1] TLL)).alloc (.cells #[.map none] TNI) = W0 := ⟨_, rfl⟩
  have bb : Below w1.heap.size w1 W0 := by
    rw [← hW0]
    exact ((((Below.refl _ _).alloc (Nat.le_refl _) _).alloc (by simp) _).alloc (by simp; omega) _).alloc (by simp; omega) _
  have HU0 : NumAt encI okI TNI W0 w1.heap.size (w1.heap.size + 1 + 1 + 1) ([] : List Int) := ⟨by omega, .inl ⟨rfl, by rw [← hW0]; exact B4⟩⟩
  have hokp : okI p0' := by have := HPB.out 0; rw [hp0'] at this; unfold okI; omega
  have HNU := Lib.hid (num_int w1.heap.size (w1.heap.size + 1 + 1 + 1) [] p0' W0 HU0 hokp (by simp) bb.size)
  have HBB := Lib.hid bb
  have C1 : Hid (Blk W0 w1.heap.size TLL #[.slice (some ⟨P, 0, none⟩) n n]) := Lib.hid (by rw [← hW0]; exact ((B1.alloc _).alloc _).alloc _)
  have C2 : Hid (W0.ownsRow w1.heap.size TLI 1 (.slice (some ⟨w1.heap.size + 1, 0, none⟩) 1 1) 1 ((numI [0]).map (Value.int .i64))) := Lib.hid (by rw [← hW0]; exact (B2.alloc _).alloc _)
  have C3 : Hid (Blk W0 (w1.heap.size + 1 + 1) TLL #[.slice (some ⟨w1.heap.size + 1, 0, none⟩) 1 1]) := Lib.hid (by rw [← hW0]; exact B3.alloc _)
  have HKY : Hid (addK ([] : List Int) p0' = ptL part [0]) := Lib.hid (by rw [addK_new (by simp), ← hp0']; rfl)
  have x1' := Blk.cell1 C1.out
  have x2' : W0.cell? ⟨P, 0, none⟩ = some (.int .i64 p0') := by rw [← hp0']; exact cell_row (HBP.out.below bb hPm) hpl (by omega)
  clear B1 B2 B3 B4 HU0 hokp bb hp0' hb1 hpl hpt hpb hP
  go_wp2_with fail
  refine HNU.out.mono ?_
  rintro e w2 ⟨rfl, hu, ho, hb2'⟩
  rw [HKY.out] at hu
  have HLI : Hid (LIn w w2 w1.heap.size (w1.heap.size + 1 + 1 + 1) w1.heap.size (w1.heap.size + 1 + 1) P n 1 1 (some ⟨w1.heap.size + 1, 0, none⟩) part [0] #[.slice A1 n1 c1, .slice (some ⟨b2, o2, none⟩) n c2, .slice (some ⟨b3, o3, none⟩) n c3]) := Lib.hid
    ⟨ho.blk _ _ _ (by decide) (KA1.out.below HBB.out KA1.out.lt), ho.blk _ _ _ (by decide) C1.out, ho.blk _ _ _ (by decide) (HBP.out.below HBB.out hPm), ho.blk _ _ _ (by decide) C3.out, ho.own (by decide) C2.out, hu, HB1.out.trans ((HBB.out.trans hb2').mono HB1.out.size), hPm, hWM, Nat.le_refl _, by omega⟩
  have HOX : Hid (Blk w2 (w.heap.size + 1) TDfa #[.slice none 0 0, .slice none 0 0, .slice none 0 0]) := Lib.hid (ho.blk _ _ _ (by decide) (KO1.out.below HBB.out KO1.out.lt))
  clear C1 C2 C3 HKY HNU hu ho hb2' x0 x1' x2' hW0 HBP KA1 KO1 HBB
  go_wp2
  generalize w1.heap.size = M at *
  have HST0 : Hid (stF d (n + 1 - 0) 0 [0] = stA d) := Lib.hid (by rw [← HNN.out]; rfl)
  go_loopw [6] (fun iv W => ∃ (i m sc : Nat) (S : Option Addr) (st : List Nat), iv = .int .i64 i ∧ i ≤ m ∧ m ≤ n ∧ Hid (st.length = m) ∧ Hid (StOk d st) ∧ Hid (stF d (n + 1 - i) i st = stA d) ∧ Hid (LIn w W M (M + 1 + 1 + 1) M (M + 1 + 1) P n m sc S part st #[.slice A1 n1 c1, .slice (some ⟨b2, o2, none⟩) n c2, .slice (some ⟨b3, o3, none⟩) n c3]) ∧
    Hid (Blk W (w.heap.size + 1) TDfa #[.slice none 0 0, .slice none 0 0, .slice none 0 0])) (fun iv _ => n + 1 - (intOf iv).toNat)
  case atStart => exact ⟨0, 1, 1, _, [0], rfl, by omega, by omega, Lib.hid rfl, Lib.hid (StOk.one HOK.out), HST0, HLI, HOX⟩
  case round =>
    clear HST0 HLI HOX
    obtain ⟨i, m, sc, S, st, rfl, him, hmn, HM, HSO, HRE, HI, HOX⟩ := hrel
    have i1 : (0 : Int) ≤ (i : Int) := by omega
    obtain ⟨p0, p1, p2, _, _, _⟩ := Blk.three HI.out.a
    have hN := HI.out.a.lt
    have q0 := Blk.cell1 HI.out.sb
    have hltS := HI.out.sb.lt
    by_cases hlt : i < m
    · have i2 : (i : Int) < (m : Int) := by omega
      obtain ⟨hat, hmc⟩ := own_states HI.out.sr (fun x hx => by have := HSO.out.lt x hx; rwa [HNN.out] at this) (by omega : n ≤ 1000000) HM.out (by omega)
      obtain ⟨bm, om, um, xm, eS, hbm, cm, ⟨rfl, _, _⟩, HXM⟩ := hat.gt (n := m) (Lib.hid (by simp; exact HM.out)) hlt
      subst eS
      obtain ⟨s, hs, rfl⟩ : ∃ s : Nat, st[i]? = some s ∧ (s : Int) = xm := by
        have h1 := HXM.out
        rw [List.getElem?_map] at h1
        obtain ⟨y, h2, h3⟩ := Option.map_eq_some_iff.1 h1
        exact ⟨y, h2, h3⟩
      have HSI := Lib.hid hs
      have hsn : s < n := by have := HSO.out.lt s (mem_of_get hs); rwa [HNN.out] at this
      obtain ⟨rb, ro, rc, hrb, k1, k2⟩ := HR.out s hsn
      have HK2 := Lib.hid k2
      have k1 := ((Keep.of HI.out.b).cell _ _ hb2).trans k1
      have s0 : (0 : Int) ≤ (s : Int) := by omega
      have s1 : (s : Int) < (n : Int) := by omega
      have HRE2 : Hid (stF d (n - i) (i + 1) (rowT d s st d.cuts.length) = stA d) := Lib.hid (by
        rw [← HRE.out, show n + 1 - i = (n - i) + 1 by omega, stF_row HSI.out])
      clear k2 hs hat HXM
      go_wp2
      go_quiet (fail)
      rename_i nq
      go_wp2
      have HID := Lib.hid (HI.out.next (below_drewN (Below.refl _ _) nq))
      have HOD := Lib.hid (HOX.out.below (below_drewN (Below.refl _ _) nq) HOX.out.lt)
      clear p0 p1 p2 hN q0 hltS cm hbm k1
      go_loopw [38] (fun cv W => ∃ (c m sc : Nat) (S : Option Addr), cv = .int .i64 c ∧ c ≤ n1 ∧ i < m ∧ m ≤ n ∧ Hid ((rowT d s st c).length = m) ∧ Hid (LIn w W M (M + 1 + 1 + 1) M (M + 1 + 1) P n m sc S part (rowT d s st c) #[.slice A1 n1 c1, .slice (some ⟨b2, o2, none⟩) n c2, .slice (some ⟨b3, o3, none⟩) n c3]) ∧
        Hid (Blk W (w.heap.size + 1) TDfa #[.slice none 0 0, .slice none 0 0, .slice none 0 0])) (fun cv _ => n1 - (intOf cv).toNat)
      case atStart => exact ⟨0, m, sc, _, rfl, by omega, hlt, hmn, HM, HID, HOD⟩
      case round =>
        clear HM HID HOD HI HOX him hmn hlt i2 HRE
        obtain ⟨c, m, sc, S, rfl, hcn, him, hmn, HM, HI, HOX⟩ := hrel
        have i3 : (0 : Int) ≤ (c : Int) := by omega
        have hbS : M < M + 1 + 1 := by omega
        by_cases hc1 : c < n1
        · have i4 : (c : Int) < (n1 : Int) := by omega
          have hcd : c < d.cuts.length := by rw [HNC.out]; exact hc1
          have hsd : s < d.next.length := by rw [HNN.out]; exact hsn
          obtain ⟨k3, k4⟩ := HK2.out c hc1
          have k3 := ((Keep.of HI.out.b).cell _ _ (World.block_lt_of_cell? _ _ k3)).trans k3
          obtain ⟨t, ht⟩ : ∃ t, d.go s c = t := ⟨_, rfl⟩
          have HT := Lib.hid ht
          rw [ht] at k3 k4
          have t0 : (0 : Int) ≤ (t : Int) := by omega
          have t1 : (t : Int) < (n : Int) := by omega
          have htd : t < d.next.length := by rw [HNN.out]; exact k4
          have hst := rowT_ok HOK.out HSO.out hsd c (by omega)
          have hstn : ∀ x, x ∈ rowT d s st c → x < d.next.length := hst.lt
          have x1 := cell_row HI.out.q HPL.out k4
          have q1 := Blk.cell1 HI.out.pb; have q2 := Blk.cell1 HI.out.sb
          have hM := HI.out.wm
          have hsb := HI.out.sb.lt
          have HIW := Lib.hid (HI.out.next (Below.refl _ _).drew)
          have hadd := ptL_add HPA.out hstn htd
          have HSC : Hid (rowT d s st (c + 1) = addT d (rowT d s st c) t) := Lib.hid (by rw [rowT_succ, HT.out])
          have hnum := num_int M (M + 1 + 1 + 1) (ptL part (rowT d s st c)) (part.getD t 0) wr.drew HIW.out.u (by have := HPB.out t; unfold okI; omega) (by rw [ptL, List.length_map, HM.out]; omega) (by have : wr.drew.heap.size = wr.heap.size := rfl; omega)
          unfold OfPost at hnum
          rw [hadd] at hnum
          obtain ⟨pt, hpt⟩ : ∃ pt, part.getD t 0 = pt := ⟨_, rfl⟩
          rw [hpt] at hnum x1
          obtain ⟨num, hnm⟩ : ∃ num, (ptL part (addT d (rowT d s st c) t)).idxOf pt = num := ⟨_, rfl⟩
          rw [hnm] at hnum
          have HNU := Lib.hid hnum
          have HADD := Lib.hid hadd
          have HNM : Hid ((rep d t ∈ (rowT d s st c).map (rep d) ∧ num < m) ∨ (rep d t ∉ (rowT d s st c).map (rep d) ∧ num = m)) := Lib.hid (by
            rw [← hnm, ← hadd, ← hpt, ← HM.out]
            by_cases e : rep d t ∈ (rowT d s st c).map (rep d)
            · exact .inl ⟨e, ptL_idx_in HPA.out hstn htd e⟩
            · exact .inr ⟨e, ptL_idx_new HPA.out hstn htd e⟩)
          have HST := Lib.hid hst
          have HTN := Lib.hid k4
          clear ht htd hstn hst hadd hpt hnm hnum
          have HS : Hid (wr.drew.cell? ⟨M, 0, none⟩ = some (.slice (some ⟨P, 0, none⟩) n n) ∧ wr.drew.cell? ⟨P, t, none⟩ = some (.int .i64 pt) ∧ wr.drew.cell? ⟨M + 1 + 1, 0, none⟩ = some (.slice S m sc)) := Lib.hid ⟨q1, x1, q2⟩
          go_wp2
          refine wp_region_T 7 (fun W => W.cell? ⟨M, 0, none⟩ = some (.slice (some ⟨P, 0, none⟩) n n) ∧ W.cell? ⟨P, t, none⟩ = some (.int .i64 pt) ∧ W.cell? ⟨M + 1 + 1, 0, none⟩ = some (.slice S m sc)) (by kernel_rfl) ?_
          clear q1 x1 q2 k3 hsb
          have HOW := Lib.hid (HOX.out.below (Below.refl _ _).drew HOX.out.lt)
          generalize wr.drew = W at *
          refine wpAnyT_takeC (i := 0) [7, 4, 3, 2] (v := ?_) rfl (by kernel_rfl) (by kernel_rfl) (by kernel_rfl) (by kernel_rfl) (by kernel_rfl) (by kernel_rfl) (fun _ _ _ h => h) (.inl ⟨rfl, ?_⟩) HS.out ?_
          rotate_left
          · intro W__ hW__
            obtain ⟨h1, h2, h3⟩ := hW__
            go_simp
            (try with_reducible rfl)
          try simp only [Act.put]
          refine wpAnyT_takeC (i := 1) [7, 4, 3, 2] (v := ?_) rfl (by kernel_rfl) (by kernel_rfl) (by kernel_rfl) (by kernel_rfl) (by kernel_rfl) (by kernel_rfl) (fun _ _ _ h => h) (.inl ⟨rfl, ?_⟩) HS.out ?_
          rotate_left
          · intro W__ hW__
            obtain ⟨h1, h2, h3⟩ := hW__
            go_simp
            (try with_reducible rfl)
          try simp only [Act.put]
          refine wpAnyT_takeC (i := 2) [7, 4, 3] (v := ?_) rfl (by kernel_rfl) (by kernel_rfl) (by kernel_rfl) (by kernel_rfl) (by kernel_rfl) (by kernel_rfl) (fun _ _ _ h => h) (.inl ⟨rfl, ?_⟩) HS.out ?_
          rotate_left
          · intro W__ hW__
            obtain ⟨h1, h2, h3⟩ := hW__
            go_simp
            (try with_reducible rfl)
          try simp only [Act.put]
          refine wpAnyT_takeC (i := 3) [7, 4] (v := ?_) rfl (by kernel_rfl) (by kernel_rfl) (by kernel_rfl) (by kernel_rfl) (by kernel_rfl) (by kernel_rfl) (fun _ _ _ h => h) (.inl ⟨rfl, ?_⟩) HS.out ?_
          rotate_left
          · intro W__ hW__
            obtain ⟨h1, h2, h3⟩ := hW__
            go_simp
            (try with_reducible rfl)
          try simp only [Act.put]
          refine wpAnyT_takeC (i := 5) [7, 6] (v := ?_) rfl (by kernel_rfl) (by kernel_rfl) (by kernel_rfl) (by kernel_rfl) (by kernel_rfl) (by kernel_rfl) (fun _ _ _ h => h) (.inl ⟨rfl, ?_⟩) HS.out ?_
          rotate_left
          · intro W__ hW__
            obtain ⟨h1, h2, h3⟩ := hW__
            go_simp
            (try with_reducible rfl)
          try simp only [Act.put]
          refine wpAnyT_takeC (i := 6) [7] (v := ?_) rfl (by kernel_rfl) (by kernel_rfl) (by kernel_rfl) (by kernel_rfl) (by kernel_rfl) (by kernel_rfl) (fun _ _ _ h => h) (.inl ⟨rfl, ?_⟩) HS.out ?_
          rotate_left
          · intro W__ hW__
            obtain ⟨h1, h2, h3⟩ := hW__
            go_simp
            (try with_reducible rfl)
          try simp only [Act.put]
          refine wpAnyT_one (i := 4) rfl (by kernel_rfl) rfl fun K__ hK__ => ?_
          unfold Oper.wp
          go_simp
          refine HNU.out.mono ?_
          rintro e w5 ⟨rfl, hu, ho, hb5⟩
          have HB5 := Lib.hid hb5
          obtain ⟨g1, g2, g3, g4, g5, g6⟩ := HIW.out.come ho hb5
          have HO5 := Lib.hid (ho.blk _ _ _ (by decide) HOW.out)
          refine hK__ _ _ ⟨Blk.cell1 g2, (g3.cell t).trans (((HIW.out.q.cell t).symm).trans HS.out.2.1), Blk.cell1 g4⟩ ?_
          clear hK__
          have HU5 := Lib.hid hu; have G1 := Lib.hid g1; have G2 := Lib.hid g2; have G3 := Lib.hid g3; have G4 := Lib.hid g4; have G5 := Lib.hid g5; have G6 := Lib.hid g6
          have q3 := Blk.cell1 g4
          have hsb := g4.lt
          clear hu ho hb5 g1 g2 g3 g4 g5 g6
          refine wpAnyT_end (i := 7) rfl (by kernel_rfl) rfl (by kernel_rfl) fun K__ hK__ => ?_
          unfold Oper.wp
          go_simp
          refine hK__ _ _ ?_
          clear hK__
          refine wpAnyT_done (by kernel_rfl) ?_ _
          rcases HNM.out with ⟨e1, e2⟩ | ⟨e1, e2⟩
          · have g1 : ((num : Int) == (m : Int)) = false := by simp; omega
            have HE : Hid (rowT d s st (c + 1) = rowT d s st c) := Lib.hid (by rw [HSC.out, addT_in e1])
            have HIN : Hid (LIn w w5 M (M + 1 + 1 + 1) M (M + 1 + 1) P n m sc S part (rowT d s st (c + 1)) #[.slice A1 n1 c1, .slice (some ⟨b2, o2, none⟩) n c2, .slice (some ⟨b3, o3, none⟩) n c3]) := Lib.hid (by
              rw [HE.out]
              have hu := HU5.out
              rw [addT_in e1] at hu
              exact ⟨G1.out, G2.out, G3.out, G4.out, G5.out, hu, G6.out, HPM.out, hM, Nat.le_refl _, by omega⟩)
            clear e1 e2
            go_wp2
            go_roundw
            case rel => exact ⟨c + 1, m, sc, S, by go_num, by omega, him, hmn, Lib.hid (by rw [HE.out]; exact HM.out), HIN, HO5⟩
            case measure => simp [intOf]; omega
          · have g1 : ((num : Int) == (m : Int)) = true := by simp; omega
            have HE : Hid (rowT d s st (c + 1) = rowT d s st c ++ [t]) := Lib.hid (by rw [HSC.out, addT_new e1])
            have hu := HU5.out
            rw [addT_new e1] at hu
            have HU6 := Lib.hid hu
            have hmn2 : m + 1 ≤ n := by
              have h1 := (rowT_ok HOK.out HSO.out hsd (c + 1) (by omega)).len
              rw [HE.out, List.length_append, HM.out, HNN.out] at h1
              simpa using h1
            have OWA := Lib.hid (G5.out.alloc (.cells #[.int .i64 (t : Int)] TLI))
            have SRA := Lib.hid (Src.one (w := w5) (x := .int .i64 (t : Int)) (t := TLI) rfl)
            have Q1 : Hid (m + 1 ≤ maxLen) := Lib.hid (by simp only [maxLen]; omega)
            have Q2 : Hid ((m + 1) * 8 ≤ 140737488355328) := Lib.hid (by omega)
            have Z1 : Hid (M ≤ (w5.alloc (.cells #[.int .i64 (t : Int)] TLI)).heap.size) := Lib.hid (by simp; omega)
            have G4A := Lib.hid (G4.out.alloc (.cells #[.int .i64 (t : Int)] TLI))
            have HOA := Lib.hid (HO5.out.alloc (.cells #[.int .i64 (t : Int)] TLI))
            clear hu e1 e2
            go_wp2_with (first
            | (at_builtin
               go_must (refine wpList_append_src _ rfl (.tmp 50) (.tmp 52) 26 rfl M TLI i0 (.int .i64 0) 1 8 Tryz.underlying26 hi0 hz0 hs0 hb0 rfl (by decide) S sc m _ rfl OWA.out _ 1 1 _ rfl SRA.out Q1.out Q2.out Z1.out ?_)
               intro A9 c9 w9 own9 gr9 _
               have HI9 := Lib.hid (LIn.push (t := t) G1.out G2.out G3.out G4.out G5.out G6.out HU6.out HPM.out hM (Nat.le_refl _) (by omega) (by omega) own9 gr9)
               have hO9 := HOA.out.grown gr9 (own_blk_ne OWA.out HOA.out (by decide))
               have HO9 := Lib.hid (hO9.far (p := ⟨M + 1 + 1, 0, none⟩) (by simp; omega) (.slice A9 (m + 1) c9))
               have s4 := G4A.out.grown gr9 (own_blk_ne OWA.out G4A.out (by decide))
               have s5 := Blk.cell1 s4; have s6 := Blk.frz1 s4
               clear own9 gr9 hO9 s4))
            go_roundw
            case rel => exact ⟨c + 1, m + 1, c9, A9, by go_num, by omega, by omega, hmn2, Lib.hid (by rw [HE.out, List.length_append, HM.out]; rfl), Lib.hid (by rw [HE.out]; exact HI9.out), HO9⟩
            case measure => simp [intOf]; omega
        · obtain rfl : n1 = c := by omega
          have hsd : s < d.next.length := by rw [HNN.out]; exact hsn
          have HST := Lib.hid (rowT_ok HOK.out HSO.out hsd n1 (by rw [HNC.out]; exact Nat.le_refl _))
          have HRE3 : Hid (stF d (n + 1 - (i + 1)) (i + 1) (rowT d s st n1) = stA d) := Lib.hid (by
            have h := HRE2.out
            rw [HNC.out] at h
            rw [show n + 1 - (i + 1) = n - i by omega]
            exact h)
          go_wp2
          go_roundw
          case rel => exact ⟨i + 1, m, sc, S, rowT d s st n1, by go_num, by omega, hmn, HM, HST, HRE3, HI, HOX⟩
          case measure => simp [intOf]; omega
    · have hmi : m = i := by omega
      have HSA : Hid (st = stA d) := Lib.hid (by rw [← HRE.out]; exact (stF_end (by rw [HM.out, hmi]; exact Nat.le_refl _)).symm)
      have g0 : ¬ (i : Int) < (m : Int) := by omega
      have g1 : (m : Int) ≤ (i : Int) := by omega
      have hm2 := fun W : World => run_make_row' (P := Tryz.prog) 27 26 (.slice none 0 0) 24 Tryz.underlying27 info_ints9 rfl .i64 .i64 m (by omega) (by omega) W
      have HSL : Hid (∀ g, (Value.slice S m sc).ownBlock = some g → g < wr.heap.size) := Lib.hid (fun g hg => (HI.out.sr.lt g hg).2)
      have hGM : M + 1 + 1 < wr.heap.size := HI.out.sb.lt
      have hWL : w.heap.size + 1 < wr.heap.size := HOX.out.lt
      obtain ⟨z0, z1, z2, zf0, zf1, zf2⟩ := Blk.three HOX.out
      obtain ⟨hat, hmc⟩ := own_states HI.out.sr (fun x hx => by have := HSO.out.lt x hx; rwa [HNN.out] at this) (by omega : n ≤ 1000000) HM.out (by omega)
      obtain ⟨W0, hW0⟩ : ∃ W0, (wr.setCell ⟨w.heap.size + 1, 1, none⟩ (.slice (some ⟨wr.heap.size, 0, none⟩) m m)).alloc (.cells (madeCells #[.slice none 0 0] m) TLL) = W0 := ⟨_, rfl⟩
      have es : (wr.setCell ⟨w.heap.size + 1, 1, none⟩ (.slice (some ⟨wr.heap.size, 0, none⟩) m m)).heap.size = wr.heap.size := by simp [World.setCell]
      have BG := Blk.new (wr.setCell ⟨w.heap.size + 1, 1, none⟩ (.slice (some ⟨wr.heap.size, 0, none⟩) m m)) TLL (madeCells #[.slice none 0 0] m)
      rw [es, hW0] at BG
      have bs : Below (wr.setCell ⟨w.heap.size + 1, 1, none⟩ (.slice (some ⟨wr.heap.size, 0, none⟩) m m)).heap.size (wr.setCell ⟨w.heap.size + 1, 1, none⟩ (.slice (some ⟨wr.heap.size, 0, none⟩) m m)) W0 := by
        rw [← hW0]; exact (Below.refl _ _).alloc (Nat.le_refl _) _
      have HI0 : Hid (LIn w W0 M (M + 1 + 1 + 1) M (M + 1 + 1) P n m sc S part st #[.slice A1 n1 c1, .slice (some ⟨b2, o2, none⟩) n c2, .slice (some ⟨b3, o3, none⟩) n c3]) := Lib.hid ((HI.out.far (i := 1) HOX.out (by omega) (by omega) (by decide) (by decide) (by decide)).next bs)
      have HD0 : Hid (Blk W0 (w.heap.size + 1) TDfa #[.slice none 0 0, .slice (some ⟨wr.heap.size, 0, none⟩) m m, .slice none 0 0]) := Lib.hid ((HOX.out.set 1 (.slice (some ⟨wr.heap.size, 0, none⟩) m m)).below bs (HOX.out.set 1 _).lt)
      have HC0 : Hid (Cols W0 wr.heap.size wr.heap.size m none (colF d (clsN d (metL d) 0))) := Lib.hid ((Cols.made BG (Nat.le_refl _)).congr fun i _ => by simp [colF, clsN])
      have w0 := HI0.out.a.cell 0
      simp only [List.getElem?_toArray, List.getElem?_cons_zero] at w0
      clear hmi HRE bs BG es hmc
      go_wp2
      clear hW0 g0 g1 z0 z1 z2 zf0 zf1 zf2 p0 p1 p2 hN q0 hltS w0 hlt him HI HOX
      obtain ⟨w8, rfl⟩ : ∃ w8, w8 = wr := ⟨_, rfl⟩
      generalize w8.heap.size = G at *
      have HML : Hid ((metL d).length = m) := Lib.hid (by rw [← stA_map, List.length_map, ← HSA.out]; exact HM.out)
      go_loopw [63] (fun cv W => ∃ (c q vc : Nat) (Av : Option Addr), cv = .int .i64 c ∧ c ≤ n1 ∧ q ≤ c ∧ Hid ((clsN d (metL d) c).length = q) ∧ Hid (Blk W (w.heap.size + 1) TDfa #[.slice Av q vc, .slice (some ⟨G, 0, none⟩) m m, .slice none 0 0]) ∧
        Hid (W.ownsRow G TLI 1 (.slice Av q vc) q (((clsN d (metL d) c).map fun c => d.cuts.getD c 0).map (Value.int .i64))) ∧ Hid (Cols W G G m (Value.slice Av q vc).ownBlock (colF d (clsN d (metL d) c))) ∧
        Hid (LIn w W M (M + 1 + 1 + 1) M (M + 1 + 1) P n m sc S part st #[.slice A1 n1 c1, .slice (some ⟨b2, o2, none⟩) n c2, .slice (some ⟨b3, o3, none⟩) n c3])) (fun cv _ => n1 - (intOf cv).toNat)
      case atStart => exact ⟨0, 0, 0, none, rfl, by omega, by omega, Lib.hid rfl, HD0, Lib.hid (World.ownsRow_nil _ _ _ _), HC0, HI0⟩
      case round =>
        clear HD0 HC0 HI0
        obtain ⟨c, q, vc, Av, rfl, hcn, hqc, HQ, HDB, HCU, HCO, HI⟩ := hrel
        have i3 : (0 : Int) ≤ (c : Int) := by omega
        obtain ⟨p0, p1, p2, _, _, _⟩ := Blk.three HI.out.a
        have hN := HI.out.a.lt
        have hGl := HCO.out.lt
        have hSN : ∀ x, x ∈ st → x < n := fun x hx => by have := HSO.out.lt x hx; rwa [HNN.out] at this
        by_cases hc1 : c < n1
        · have i4 : (c : Int) < (n1 : Int) := by omega
          have hcd : c < d.cuts.length := by rw [HNC.out]; exact hc1
          obtain ⟨b4, o4, u4, y, eA1, hb4, cc4, ⟨rfl, hy1, hy2⟩, HY⟩ := HD.out.c.gt HNC hc1
          have HYD : Hid (d.cuts.getD c 0 = y) := Lib.hid (by rw [List.getD_eq_getElem?_getD, HY.out]; rfl)
          subst eA1
          have k0 := ((Keep.of HI.out.b).cell _ _ hb4).trans cc4
          have hl1 := least_1 (M + 1 + 1) M w.heap.size S m sc P n n1 part st d b2 o2 c2 c wr (HI.out.env hSN (by omega) HM.out (by omega) HR.out) HPL.out hn hc1 hc hSN (Lib.hid (by simp; exact HM.out))
          obtain ⟨tb, htb⟩ : ∃ tb, yes (TurnsC d (metL d) c) = tb := ⟨_, rfl⟩
          have hyes : yes (c = 0 ∨ ∃ s, s ∈ st ∧ Tpart part d c s) = tb := by
            rw [← htb]
            congr 1
            refine propext (Iff.trans ?_ (turns_pt HPA.out HOK.out hcd))
            rw [HSA.out]; rfl
          rw [hyes] at hl1
          have HTB := Lib.hid htb
          have HL1 := Lib.hid hl1
          clear htb hyes hl1 cc4 hb4
          go_wp2_with fail
          refine HL1.out.mono ?_
          rintro e w5 ⟨rfl, hb5⟩
          have HI5 := Lib.hid (HI.out.next hb5)
          have HD5 := Lib.hid (HDB.out.below hb5 HDB.out.lt)
          have HU5 := Lib.hid (ownsRow_below HCU.out hb5)
          have HC5 := Lib.hid (HCO.out.below hb5)
          clear hb5 p0 p1 p2 hN k0 hGl HL1
          obtain ⟨p0, p1, p2, _, _, _⟩ := Blk.three HI5.out.a
          have hN := HI5.out.a.lt
          cases tb
          case false =>
            have HE : Hid (clsN d (metL d) (c + 1) = clsN d (metL d) c) := Lib.hid (by rw [clsN_succ, HTB.out, if_neg (by simp)])
            go_wp2
            go_roundw
            case rel => exact ⟨c + 1, q, vc, Av, by go_num, by omega, by omega, Lib.hid (by rw [HE.out]; exact HQ.out), HD5, Lib.hid (by rw [HE.out]; exact HU5.out), Lib.hid (by rw [HE.out]; exact HC5.out), HI5⟩
            case measure => simp [intOf]; omega
          case true =>
            have HE : Hid (clsN d (metL d) (c + 1) = clsN d (metL d) c ++ [c]) := Lib.hid (by rw [clsN_succ, HTB.out, if_pos rfl])
            have OWA := Lib.hid (HU5.out.alloc (.cells #[.int .i64 y] TLI))
            have SRA := Lib.hid (Src.one (w := w5) (x := .int .i64 y) (t := TLI) rfl)
            have Q1 : Hid (q + 1 ≤ maxLen) := Lib.hid (by simp only [maxLen]; omega)
            have Q2 : Hid ((q + 1) * 8 ≤ 140737488355328) := Lib.hid (by omega)
            have hG5 := HC5.out.lt
            have Z1 : Hid (G ≤ (w5.alloc (.cells #[.int .i64 y] TLI)).heap.size) := Lib.hid (by simp; omega)
            have BA := Lib.hid ((Below.refl w5.heap.size w5).alloc (Nat.le_refl _) (.cells #[.int .i64 y] TLI))
            have HIA := Lib.hid (HI5.out.next BA.out)
            have HDA := Lib.hid (HD5.out.below BA.out HD5.out.lt)
            have HCA := Lib.hid (HC5.out.below BA.out)
            obtain ⟨z0, z1, z2, _, _, _⟩ := Blk.three HD5.out
            have HBSL : Hid (M + 1 + 1 < G ∧ w.heap.size + 1 < G) := Lib.hid ⟨hGM, hWL⟩
            go_wp2_with (first
            | (at_builtin
               go_must (refine wpList_append_src _ rfl (.tmp 73) (.tmp 75) 26 rfl G TLI i0 (.int .i64 0) 1 8 Tryz.underlying26 hi0 hz0 hs0 hb0 rfl (by decide) Av vc q _ rfl OWA.out _ 1 1 _ rfl SRA.out Q1.out Q2.out Z1.out ?_)
               intro A9 c9 w9 own9 gr9 hn9
               have hi9 := HIA.out.growI OWA.out gr9 (by omega) HSL.out
               have hd9 := HDA.out.grown gr9 (own_blk_ne OWA.out HDA.out (by decide))
               have hc9 := Cols.row (rv' := .slice A9 (q + 1) c9) HCA.out OWA.out gr9 hn9
               have HI9 := Lib.hid (hi9.far (i := 0) (v := .slice A9 (q + 1) c9) hd9 (by omega) (by omega) (by decide) (by decide) (by decide))
               have HD9 := Lib.hid (hd9.set 0 (.slice A9 (q + 1) c9))
               have HC9 := Lib.hid (hc9.far (i := 0) (u := .slice A9 (q + 1) c9) hd9 (by decide) (by decide))
               have HU9 := Lib.hid (ownsRow_setFar own9 hd9 (by decide) 0 (.slice A9 (q + 1) c9))
               obtain ⟨y0, y1, y2, yf0, yf1, yf2⟩ := Blk.three hd9
               have s5 := Blk.cell1 hi9.sb
               have s6 := hi9.sb.lt
               have s7 := hd9.lt
               clear own9 gr9 hn9 hi9 hd9 hc9))
            have HU9' : Hid ((w9.setCell ⟨w.heap.size + 1, 0, none⟩ (.slice A9 (q + 1) c9)).ownsRow G TLI 1 (.slice A9 (q + 1) c9) (q + 1) (((clsN d (metL d) (c + 1)).map fun c => d.cuts.getD c 0).map (Value.int .i64))) := Lib.hid (by
              rw [HE.out, List.map_append, List.map_append]; simp only [List.map_cons, List.map_nil, HYD.out]; exact HU9.out)
            have HC9' : Hid (Cols (w9.setCell ⟨w.heap.size + 1, 0, none⟩ (.slice A9 (q + 1) c9)) G G m (Value.slice A9 (q + 1) c9).ownBlock (fun j => if j < 0 then colF d (clsN d (metL d) (c + 1)) j else colF d (clsN d (metL d) c) j)) := Lib.hid (HC9.out.congr fun j _ => by rw [if_neg (by omega)])
            clear y0 y1 y2 yf0 yf1 yf2 s5 s6 s7 HC9 HU9 HIA HDA HCA BA Z1 SRA OWA HC5 HU5 HD5 HI5 HCO HCU HDB HI z0 z1 z2 p0 p1 p2 hN hG5
            go_loopw [80] (fun iv W => ∃ i : Nat, iv = .int .i64 i ∧ i ≤ m ∧ Hid (Blk W (w.heap.size + 1) TDfa #[.slice A9 (q + 1) c9, .slice (some ⟨G, 0, none⟩) m m, .slice none 0 0]) ∧
              Hid (W.ownsRow G TLI 1 (.slice A9 (q + 1) c9) (q + 1) (((clsN d (metL d) (c + 1)).map fun c => d.cuts.getD c 0).map (Value.int .i64))) ∧ Hid (Cols W G G m (Value.slice A9 (q + 1) c9).ownBlock (fun j => if j < i then colF d (clsN d (metL d) (c + 1)) j else colF d (clsN d (metL d) c) j)) ∧
              Hid (LIn w W M (M + 1 + 1 + 1) M (M + 1 + 1) P n m sc S part st #[.slice (some ⟨b4, o4, none⟩) n1 c1, .slice (some ⟨b2, o2, none⟩) n c2, .slice (some ⟨b3, o3, none⟩) n c3])) (fun iv _ => m - (intOf iv).toNat)
            case atStart => exact ⟨0, rfl, by omega, HD9, HU9', HC9', HI9⟩
            case round =>
              clear HD9 HU9' HC9' HI9
              obtain ⟨i, rfl, him, HDB, HCU, HCO, HI⟩ := hrel
              have j1 : (0 : Int) ≤ (i : Int) := by omega
              by_cases hlt : i < m
              · have j2 : (i : Int) < (m : Int) := by omega
                obtain ⟨hat, _⟩ := own_states HI.out.sr hSN (by omega : n ≤ 1000000) HM.out (by omega)
                obtain ⟨bm, om, um, xm, eS, hbm, cm, ⟨rfl, _, _⟩, HXM⟩ := hat.gt (n := m) (Lib.hid (by simp; exact HM.out)) hlt
                subst eS
                obtain ⟨s, hs, rfl⟩ : ∃ s : Nat, st[i]? = some s ∧ (s : Int) = xm := by
                  have h1 := HXM.out
                  rw [List.getElem?_map] at h1
                  obtain ⟨y, h2, h3⟩ := Option.map_eq_some_iff.1 h1
                  exact ⟨y, h2, h3⟩
                have HSI := Lib.hid hs
                have hsn : s < n := hSN s (mem_of_get hs)
                obtain ⟨rb, ro, rc, hrb, k1, k2⟩ := HR.out s hsn
                obtain ⟨k3, k4⟩ := k2 c hc1
                obtain ⟨t, ht⟩ : ∃ t, d.go s c = t := ⟨_, rfl⟩
                rw [ht] at k3 k4
                have HK1 := Lib.hid k1; have HK3 := Lib.hid k3
                have s0 : (0 : Int) ≤ (s : Int) := by omega
                have s1 : (s : Int) < (n : Int) := by omega
                have t0 : (0 : Int) ≤ (t : Int) := by omega
                have t1 : (t : Int) < (n : Int) := by omega
                have htd : t < d.next.length := by rw [HNN.out]; exact k4
                obtain ⟨pt, hpt⟩ : ∃ pt, part.getD t 0 = pt := ⟨_, rfl⟩
                obtain ⟨pl, hpl⟩ : ∃ pl, (metL d).idxOf (rep d t) = pl := ⟨_, rfl⟩
                have e1 : rep d t ∈ st.map (rep d) := by rw [HSA.out, ← ht]; exact stA_mem HOK.out (by rw [← HSA.out]; exact mem_of_get hs) hcd
                have e2 := ptL_num HPA.out HSO.out.lt htd e1
                have e3 : (st.map (rep d)).idxOf (rep d t) = pl := by rw [HSA.out, stA_map]; exact hpl
                rw [hpt, e3] at e2
                have hokp : okI pt := by have := HPB.out t; rw [hpt] at this; unfold okI; omega
                have HPT2 := Lib.hid hpt; have HPL2 := Lib.hid hpl; have HGT := Lib.hid ht
                obtain ⟨f, hf⟩ : ∃ f, (fun j => if j < i then colF d (clsN d (metL d) (c + 1)) j else colF d (clsN d (metL d) c) j) = f := ⟨_, rfl⟩
                rw [hf] at HCO
                have HF := Lib.hid hf
                have HFI : Hid (f i = colF d (clsN d (metL d) c) i) := Lib.hid (by rw [← hf]; exact if_neg (by omega))
                have hfl : (f i).length = q := by rw [HFI.out, colF_len]; exact HQ.out
                obtain ⟨Ri, rci, xg, xf, hrow, hoff⟩ := HCO.out.get hlt hfl
                have HROW := Lib.hid hrow; have HOFF := Lib.hid hoff; have HFL := Lib.hid hfl
                have HIW := Lib.hid (HI.out.next (Below.refl _ _).drew)
                have HDW := Lib.hid (HDB.out.below (Below.refl _ _).drew HDB.out.lt)
                have HUW := Lib.hid (ownsRow_drew HCU.out)
                have HCW := Lib.hid (HCO.out.below (Below.refl _ _).drew)
                have HRW := Lib.hid (ownsRow_drew hrow)
                have HNU := Lib.hid (num_int_in M (M + 1 + 1 + 1) pl (ptL part st) pt wr.drew HIW.out.u hokp e2)
                have Q1 : Hid (q + 1 ≤ maxLen) := Lib.hid (by simp only [maxLen]; omega)
                have Q2 : Hid ((q + 1) * 8 ≤ 140737488355328) := Lib.hid (by omega)
                have kw := Keep.of HIW.out.b
                have HS : Hid (wr.drew.cell? ⟨w.heap.size + 1, 1, none⟩ = some (.slice (some ⟨G, 0, none⟩) m m) ∧ wr.drew.cell? ⟨G, i, none⟩ = some (.slice Ri q rci) ∧ wr.drew.cell? ⟨M, 0, none⟩ = some (.slice (some ⟨P, 0, none⟩) n n) ∧ wr.drew.cell? ⟨w.heap.size, 1, none⟩ = some (.slice (some ⟨b2, o2, none⟩) n c2) ∧
                    wr.drew.cell? ⟨b2, o2 + s, none⟩ = some (.slice (some ⟨rb, ro, none⟩) n1 rc) ∧ wr.drew.cell? ⟨rb, ro + c, none⟩ = some (.int .i64 t) ∧ wr.drew.cell? ⟨P, t, none⟩ = some (.int .i64 pt)) := Lib.hid
                  ⟨HDW.out.cell 1, xg, Blk.cell1 HIW.out.pb, HIW.out.a.cell 1, (kw.cell _ _ hb2).trans k1, (kw.cell _ _ (World.block_lt_of_cell? _ _ k3)).trans k3, by rw [← hpt]; exact cell_row HIW.out.q HPL.out k4⟩
                have hs5 := Blk.cell1 HI.out.sb
                have hs6 := HI.out.sb.lt
                clear k1 k2 k3 hs hat HXM ht htd hpt hpl e1 e2 e3 hokp hf hfl xf hrow hoff kw HI HDB HCU HCO
                go_wp2
                refine wp_region_T 23 (fun W => W.cell? ⟨w.heap.size + 1, 1, none⟩ = some (.slice (some ⟨G, 0, none⟩) m m) ∧ W.cell? ⟨G, i, none⟩ = some (.slice Ri q rci) ∧ W.cell? ⟨M, 0, none⟩ = some (.slice (some ⟨P, 0, none⟩) n n) ∧ W.cell? ⟨w.heap.size, 1, none⟩ = some (.slice (some ⟨b2, o2, none⟩) n c2) ∧
                    W.cell? ⟨b2, o2 + s, none⟩ = some (.slice (some ⟨rb, ro, none⟩) n1 rc) ∧ W.cell? ⟨rb, ro + c, none⟩ = some (.int .i64 t) ∧ W.cell? ⟨P, t, none⟩ = some (.int .i64 pt)) (by kernel_rfl) ?_
                clear cm hbm xg hs5 hs6 HROW
                generalize wr.drew = W at *
                refine wpAnyT_take (i := 0) (v := ?_) rfl (by kernel_rfl) (by kernel_rfl) (by kernel_rfl) (by kernel_rfl) (by kernel_rfl) (fun _ _ _ h => h) (.inl ⟨rfl, ?_⟩) HS.out ?_
                rotate_left
                · intro W__ hW__
                  obtain ⟨h1, h2, h3, h4, h5, h6, h7⟩ := hW__
                  go_simp
                  (try with_reducible rfl)
                try simp only [Act.put]
                refine wpAnyT_take (i := 1) (v := ?_) rfl (by kernel_rfl) (by kernel_rfl) (by kernel_rfl) (by kernel_rfl) (by kernel_rfl) (fun _ _ _ h => h) (.inl ⟨rfl, ?_⟩) HS.out ?_
                rotate_left
                · intro W__ hW__
                  obtain ⟨h1, h2, h3, h4, h5, h6, h7⟩ := hW__
                  go_simp
                  (try with_reducible rfl)
                try simp only [Act.put]
                refine wpAnyT_take (i := 2) (v := ?_) rfl (by kernel_rfl) (by kernel_rfl) (by kernel_rfl) (by kernel_rfl) (by kernel_rfl) (fun _ _ _ h => h) (.inl ⟨rfl, ?_⟩) HS.out ?_
                rotate_left
                · intro W__ hW__
                  obtain ⟨h1, h2, h3, h4, h5, h6, h7⟩ := hW__
                  go_simp
                  (try with_reducible rfl)
                try simp only [Act.put]
                refine wpAnyT_take (i := 3) (v := ?_) rfl (by kernel_rfl) (by kernel_rfl) (by kernel_rfl) (by kernel_rfl) (by kernel_rfl) (fun _ _ _ h => h) (.inl ⟨rfl, ?_⟩) HS.out ?_
                rotate_left
                · intro W__ hW__
                  obtain ⟨h1, h2, h3, h4, h5, h6, h7⟩ := hW__
                  go_simp
                  (try with_reducible rfl)
                try simp only [Act.put]
                refine wpAnyT_take (i := 4) (v := ?_) rfl (by kernel_rfl) (by kernel_rfl) (by kernel_rfl) (by kernel_rfl) (by kernel_rfl) (fun _ _ _ h => h) (.inl ⟨rfl, ?_⟩) HS.out ?_
                rotate_left
                · intro W__ hW__
                  obtain ⟨h1, h2, h3, h4, h5, h6, h7⟩ := hW__
                  go_simp
                  (try with_reducible rfl)
                try simp only [Act.put]
                refine wpAnyT_take (i := 5) (v := ?_) rfl (by kernel_rfl) (by kernel_rfl) (by kernel_rfl) (by kernel_rfl) (by kernel_rfl) (fun _ _ _ h => h) (.inl ⟨rfl, ?_⟩) HS.out ?_
                rotate_left
                · intro W__ hW__
                  obtain ⟨h1, h2, h3, h4, h5, h6, h7⟩ := hW__
                  go_simp
                  (try with_reducible rfl)
                try simp only [Act.put]
                refine wpAnyT_take (i := 6) (v := ?_) rfl (by kernel_rfl) (by kernel_rfl) (by kernel_rfl) (by kernel_rfl) (by kernel_rfl) (fun _ _ _ h => h) (.inl ⟨rfl, ?_⟩) HS.out ?_
                rotate_left
                · intro W__ hW__
                  obtain ⟨h1, h2, h3, h4, h5, h6, h7⟩ := hW__
                  go_simp
                  (try with_reducible rfl)
                try simp only [Act.put]
                refine wpAnyT_take (i := 7) (v := ?_) rfl (by kernel_rfl) (by kernel_rfl) (by kernel_rfl) (by kernel_rfl) (by kernel_rfl) (fun _ _ _ h => h) (.inl ⟨rfl, ?_⟩) HS.out ?_
                rotate_left
                · intro W__ hW__
                  obtain ⟨h1, h2, h3, h4, h5, h6, h7⟩ := hW__
                  go_simp
                  (try with_reducible rfl)
                try simp only [Act.put]
                refine wpAnyT_take (i := 8) (v := ?_) rfl (by kernel_rfl) (by kernel_rfl) (by kernel_rfl) (by kernel_rfl) (by kernel_rfl) (fun _ _ _ h => h) (.inl ⟨rfl, ?_⟩) HS.out ?_
                rotate_left
                · intro W__ hW__
                  obtain ⟨h1, h2, h3, h4, h5, h6, h7⟩ := hW__
                  go_simp
                  (try with_reducible rfl)
                try simp only [Act.put]
                refine wpAnyT_take (i := 9) (v := ?_) rfl (by kernel_rfl) (by kernel_rfl) (by kernel_rfl) (by kernel_rfl) (by kernel_rfl) (fun _ _ _ h => h) (.inl ⟨rfl, ?_⟩) HS.out ?_
                rotate_left
                · intro W__ hW__
                  obtain ⟨h1, h2, h3, h4, h5, h6, h7⟩ := hW__
                  go_simp
                  (try with_reducible rfl)
                try simp only [Act.put]
                refine wpAnyT_take (i := 10) (v := ?_) rfl (by kernel_rfl) (by kernel_rfl) (by kernel_rfl) (by kernel_rfl) (by kernel_rfl) (fun _ _ _ h => h) (.inl ⟨rfl, ?_⟩) HS.out ?_
                rotate_left
                · intro W__ hW__
                  obtain ⟨h1, h2, h3, h4, h5, h6, h7⟩ := hW__
                  go_simp
                  (try with_reducible rfl)
                try simp only [Act.put]
                refine wpAnyT_take (i := 11) (v := ?_) rfl (by kernel_rfl) (by kernel_rfl) (by kernel_rfl) (by kernel_rfl) (by kernel_rfl) (fun _ _ _ h => h) (.inl ⟨rfl, ?_⟩) HS.out ?_
                rotate_left
                · intro W__ hW__
                  obtain ⟨h1, h2, h3, h4, h5, h6, h7⟩ := hW__
                  go_simp
                  (try with_reducible rfl)
                try simp only [Act.put]
                refine wpAnyT_take (i := 12) (v := ?_) rfl (by kernel_rfl) (by kernel_rfl) (by kernel_rfl) (by kernel_rfl) (by kernel_rfl) (fun _ _ _ h => h) (.inl ⟨rfl, ?_⟩) HS.out ?_
                rotate_left
                · intro W__ hW__
                  obtain ⟨h1, h2, h3, h4, h5, h6, h7⟩ := hW__
                  go_simp
                  (try with_reducible rfl)
                try simp only [Act.put]
                refine wpAnyT_take (i := 13) (v := ?_) rfl (by kernel_rfl) (by kernel_rfl) (by kernel_rfl) (by kernel_rfl) (by kernel_rfl) (fun _ _ _ h => h) (.inl ⟨rfl, ?_⟩) HS.out ?_
                rotate_left
                · intro W__ hW__
                  obtain ⟨h1, h2, h3, h4, h5, h6, h7⟩ := hW__
                  go_simp
                  (try with_reducible rfl)
                try simp only [Act.put]
                refine wpAnyT_take (i := 14) (v := ?_) rfl (by kernel_rfl) (by kernel_rfl) (by kernel_rfl) (by kernel_rfl) (by kernel_rfl) (fun _ _ _ h => h) (.inl ⟨rfl, ?_⟩) HS.out ?_
                rotate_left
                · intro W__ hW__
                  obtain ⟨h1, h2, h3, h4, h5, h6, h7⟩ := hW__
                  go_simp
                  (try with_reducible rfl)
                try simp only [Act.put]
                refine wpAnyT_take (i := 15) (v := ?_) rfl (by kernel_rfl) (by kernel_rfl) (by kernel_rfl) (by kernel_rfl) (by kernel_rfl) (fun _ _ _ h => h) (.inl ⟨rfl, ?_⟩) HS.out ?_
                rotate_left
                · intro W__ hW__
                  obtain ⟨h1, h2, h3, h4, h5, h6, h7⟩ := hW__
                  go_simp
                  (try with_reducible rfl)
                try simp only [Act.put]
                refine wpAnyT_take (i := 16) (v := ?_) rfl (by kernel_rfl) (by kernel_rfl) (by kernel_rfl) (by kernel_rfl) (by kernel_rfl) (fun _ _ _ h => h) (.inl ⟨rfl, ?_⟩) HS.out ?_
                rotate_left
                · intro W__ hW__
                  obtain ⟨h1, h2, h3, h4, h5, h6, h7⟩ := hW__
                  go_simp
                  (try with_reducible rfl)
                try simp only [Act.put]
                refine wpAnyT_take (i := 17) (v := ?_) rfl (by kernel_rfl) (by kernel_rfl) (by kernel_rfl) (by kernel_rfl) (by kernel_rfl) (fun _ _ _ h => h) (.inl ⟨rfl, ?_⟩) HS.out ?_
                rotate_left
                · intro W__ hW__
                  obtain ⟨h1, h2, h3, h4, h5, h6, h7⟩ := hW__
                  go_simp
                  (try with_reducible rfl)
                try simp only [Act.put]
                refine wpAnyT_take (i := 18) (v := ?_) rfl (by kernel_rfl) (by kernel_rfl) (by kernel_rfl) (by kernel_rfl) (by kernel_rfl) (fun _ _ _ h => h) (.inl ⟨rfl, ?_⟩) HS.out ?_
                rotate_left
                · intro W__ hW__
                  obtain ⟨h1, h2, h3, h4, h5, h6, h7⟩ := hW__
                  go_simp
                  (try with_reducible rfl)
                try simp only [Act.put]
                refine wpAnyT_one (i := 19) rfl (by kernel_rfl) rfl fun K__ hK__ => ?_
                unfold Oper.wp
                go_simp
                refine HNU.out.mono ?_
                rintro e w6 ⟨rfl, rfl⟩
                refine hK__ _ _ HS.out ?_
                clear hK__
                refine wpAnyT_one (i := 20) rfl (by kernel_rfl) rfl fun K__ hK__ => ?_
                unfold Oper.wp
                go_simp
                have OWB := Lib.hid (HRW.out.alloc (.cells #[.int .i64 (pl : Int)] TLI))
                have SRB := Lib.hid (Src.one (w := w6) (x := .int .i64 (pl : Int)) (t := TLI) rfl)
                have hGW := HCW.out.lt
                have Z3 : Hid (G ≤ (w6.alloc (.cells #[.int .i64 (pl : Int)] TLI)).heap.size) := Lib.hid (by simp; omega)
                have BA := Lib.hid ((Below.refl w6.heap.size w6).alloc (Nat.le_refl _) (.cells #[.int .i64 (pl : Int)] TLI))
                have KW := Lib.hid (Keep.of BA.out)
                refine hK__ _ _ ⟨(KW.out.cell _ _ (World.block_lt_of_cell? _ _ HS.out.1)).trans HS.out.1, (KW.out.cell _ _ (World.block_lt_of_cell? _ _ HS.out.2.1)).trans HS.out.2.1, (KW.out.cell _ _ (World.block_lt_of_cell? _ _ HS.out.2.2.1)).trans HS.out.2.2.1, (KW.out.cell _ _ (World.block_lt_of_cell? _ _ HS.out.2.2.2.1)).trans HS.out.2.2.2.1, (KW.out.cell _ _ (World.block_lt_of_cell? _ _ HS.out.2.2.2.2.1)).trans HS.out.2.2.2.2.1, (KW.out.cell _ _ (World.block_lt_of_cell? _ _ HS.out.2.2.2.2.2.1)).trans HS.out.2.2.2.2.2.1, (KW.out.cell _ _ (World.block_lt_of_cell? _ _ HS.out.2.2.2.2.2.2)).trans HS.out.2.2.2.2.2.2⟩ ?_
                clear hK__
                have HIA := Lib.hid (HIW.out.next BA.out)
                have HDA := Lib.hid (HDW.out.below BA.out HDW.out.lt)
                have HUA := Lib.hid (ownsRow_below HUW.out BA.out)
                refine wpAnyT_one (i := 21) rfl (by kernel_rfl) rfl fun K__ hK__ => ?_
                refine wp_append_src _ (.tmp 92) (.tmp 105) 26 rfl G TLI i0 (.int .i64 0) 1 8 Tryz.underlying26 hi0 hz0 hs0 hb0 rfl (by decide) Ri rci q _ (by simp [Act.eval]) OWB.out _ 1 1 _ (by simp [Act.eval]) SRB.out Q1.out Q2.out Z3.out ?_
                intro A10 c10 w10 own10 gr10 hn10
                obtain ⟨gs, hgs⟩ := HCW.out.blk
                have hga := hgs.below BA.out hgs.lt
                have hg10 := hga.grown gr10 (own_blk_ne OWB.out hga (by decide))
                have hi10 := HIA.out.growI OWB.out gr10 (by omega) HSL.out
                have hd10 := HDA.out.grown gr10 (own_blk_ne OWB.out HDA.out (by decide))
                have kw := Keep.of hi10.b
                have xg : w10.cell? ⟨G, i, none⟩ = some (.slice Ri q rci) := (hg10.cell i).trans ((hgs.cell i).symm.trans HS.out.2.1)
                have xf := hg10.frozen i
                have HS10 : Hid (w10.cell? ⟨w.heap.size + 1, 1, none⟩ = some (.slice (some ⟨G, 0, none⟩) m m) ∧ w10.cell? ⟨G, i, none⟩ = some (.slice Ri q rci) ∧ w10.cell? ⟨M, 0, none⟩ = some (.slice (some ⟨P, 0, none⟩) n n) ∧ w10.cell? ⟨w.heap.size, 1, none⟩ = some (.slice (some ⟨b2, o2, none⟩) n c2) ∧
                    w10.cell? ⟨b2, o2 + s, none⟩ = some (.slice (some ⟨rb, ro, none⟩) n1 rc) ∧ w10.cell? ⟨rb, ro + c, none⟩ = some (.int .i64 t) ∧ w10.cell? ⟨P, t, none⟩ = some (.int .i64 pt)) := Lib.hid
                  ⟨hd10.cell 1, xg, Blk.cell1 hi10.pb, hi10.a.cell 1, (kw.cell _ _ hb2).trans HK1.out, (kw.cell _ _ (World.block_lt_of_cell? _ _ HK3.out)).trans HK3.out, by rw [← HPT2.out]; exact cell_row hi10.q HPL.out k4⟩
                have HI10 := Lib.hid (hi10.col (i := i) (v := .slice A10 (q + 1) c10) hg10 (by omega) (by omega) (by omega))
                have HD10 := Lib.hid (hd10.far (p := ⟨G, i, none⟩) (by simp; omega) (.slice A10 (q + 1) c10))
                have HU10 := Lib.hid (ownsRow_setFar (HUA.out.kept gr10 (off_symm HOFF.out)) hg10 (by decide) i (.slice A10 (q + 1) c10))
                have hxb : ∀ b, (Value.slice A9 (q + 1) c9).ownBlock = some b → b < w6.heap.size := fun b hb => (HUW.out.lt b hb).2
                have HC10 := Lib.hid (Cols.push HCW.out hlt HFL.out HS.out.2.1 HRW.out own10 gr10 hn10 hxb)
                have HCX : Hid (Cols (w10.setCell ⟨G, i, none⟩ (.slice A10 (q + 1) c10)) G G m (Value.slice A9 (q + 1) c9).ownBlock (fun j => if j < i + 1 then colF d (clsN d (metL d) (c + 1)) j else colF d (clsN d (metL d) c) j)) := Lib.hid (HC10.out.congr fun j hj => by
                  by_cases e : j = i
                  · subst e
                    rw [if_pos (by omega), if_pos rfl, HFI.out, HE.out, colF_snoc]
                    congr 3
                    have h1 : (stA d).getD j 0 = s := by rw [List.getD_eq_getElem?_getD, ← HSA.out, HSI.out]; rfl
                    rw [h1, HGT.out]; exact HPL2.out
                  · rw [if_neg e, ← HF.out]
                    by_cases e2 : j < i
                    · rw [if_pos (by omega)]; exact (if_pos e2).symm
                    · rw [if_neg (by omega)]; exact (if_neg e2).symm)
                clear hga hg10 hi10 hd10 kw hxb own10 gr10 hn10 hgs
                refine hK__ _ _ HS10.out ?_
                clear hK__
                simp only [Act.put]
                refine wpAnyT_take (i := 22) (v := ?_) rfl (by kernel_rfl) (by kernel_rfl) (by kernel_rfl) (by kernel_rfl) (by kernel_rfl) (fun _ _ _ h => h) (.inl ⟨rfl, ?_⟩) HS10.out ?_
                rotate_left
                · intro W__ hW__
                  obtain ⟨h1, h2, h3, h4, h5, h6, h7⟩ := hW__
                  go_simp
                  (try with_reducible rfl)
                try simp only [Act.put]
                refine wpAnyT_end (i := 23) rfl (by kernel_rfl) rfl (by kernel_rfl) fun K__ hK__ => ?_
                unfold Oper.wp
                go_simp
                refine hK__ _ _ ?_
                clear hK__
                refine wpAnyT_done (by kernel_rfl) ?_ _
                clear xg xf
                go_wp2
                go_roundw
                case rel => exact ⟨i + 1, by go_num, by omega, HD10, HU10, HCX, HI10⟩
                case measure => simp [intOf]; omega
              · obtain rfl : m = i := by omega
                have HCN : Hid (Cols wr G G m (Value.slice A9 (q + 1) c9).ownBlock (colF d (clsN d (metL d) (c + 1)))) := Lib.hid (HCO.out.congr fun j hj => by rw [if_pos hj])
                go_wp2
                go_roundw
                case rel => exact ⟨c + 1, q + 1, c9, A9, by go_num, by omega, by omega, Lib.hid (by rw [HE.out, List.length_append, HQ.out]; rfl), HDB, HCU, HCN, HI⟩
                case measure => simp [intOf]; omega
        · obtain rfl : n1 = c := by omega
          have HCLT : Hid (∀ x, x ∈ clsN d (metL d) n1 → x < d.cuts.length) := Lib.hid (fun x hx => by rw [HNC.out]; exact clsN_lt hx)
          have HCN : Hid (clsN d (metL d) n1 = clsN d (metL d) d.cuts.length) := Lib.hid (by rw [HNC.out])
          have s5 := Blk.cell1 HI.out.sb
          have s6 := HI.out.sb.lt
          have HCF := Lib.hid HCO.out.free
          have HT0 : Hid (Own wr G 4 RB (.slice none 0 0) ((st.take 0).map d.acc)) := Lib.hid Own.nil
          clear HCO
          go_wp2
          clear s5 s6 p0 p1 p2 hN hGl
          go_loopw [112] (fun iv W => ∃ (i vb : Nat) (B3 : Option Addr), iv = .int .i64 i ∧ i ≤ m ∧ Hid (Blk W (w.heap.size + 1) TDfa #[.slice Av q vc, .slice (some ⟨G, 0, none⟩) m m, .slice B3 i vb]) ∧ Hid (Own W G 4 RB (.slice B3 i vb) ((st.take i).map d.acc)) ∧
            Hid (W.ownsRow G TLI 1 (.slice Av q vc) q (((clsN d (metL d) n1).map fun c => d.cuts.getD c 0).map (Value.int .i64))) ∧ Hid (Cols W G G m none (colF d (clsN d (metL d) n1))) ∧
            Hid (LIn w W M (M + 1 + 1 + 1) M (M + 1 + 1) P n m sc S part st #[.slice A1 n1 c1, .slice (some ⟨b2, o2, none⟩) n c2, .slice (some ⟨b3, o3, none⟩) n c3])) (fun iv _ => m - (intOf iv).toNat)
          case atStart => exact ⟨0, 0, none, rfl, by omega, HDB, HT0, HCU, HCF, HI⟩
          case round =>
            clear HDB HT0 HCU HCF HI
            obtain ⟨i, vb, B3, rfl, him, HDB, HT, HCU, HCO, HI⟩ := hrel
            have j1 : (0 : Int) ≤ (i : Int) := by omega
            by_cases hlt : i < m
            · have j2 : (i : Int) < (m : Int) := by omega
              obtain ⟨hat, _⟩ := own_states HI.out.sr hSN (by omega : n ≤ 1000000) HM.out (by omega)
              obtain ⟨bm, om, um, xm, eS, hbm, cm, ⟨rfl, _, _⟩, HXM⟩ := hat.gt (n := m) (Lib.hid (by simp; exact HM.out)) hlt
              subst eS
              obtain ⟨s, hs, rfl⟩ : ∃ s : Nat, st[i]? = some s ∧ (s : Int) = xm := by
                have h1 := HXM.out
                rw [List.getElem?_map] at h1
                obtain ⟨y, h2, h3⟩ := Option.map_eq_some_iff.1 h1
                exact ⟨y, h2, h3⟩
              have HSI := Lib.hid hs
              have hsn : s < n := hSN s (mem_of_get hs)
              have s0 : (0 : Int) ≤ (s : Int) := by omega
              have s1 : (s : Int) < (n : Int) := by omega
              obtain ⟨bb, hbb⟩ : ∃ bb, d.acc s = bb := ⟨_, rfl⟩
              have HBB := Lib.hid hbb
              have ka := HA.out s hsn
              rw [hbb] at ka
              have hal : ((st.take i).map d.acc).length = i := by rw [List.length_map, List.length_take, HM.out]; omega
              have HAL := Lib.hid hal
              have HIW := Lib.hid (HI.out.next (Below.refl _ _).drew)
              have HDW := Lib.hid (HDB.out.below (Below.refl _ _).drew HDB.out.lt)
              have HUW := Lib.hid (ownsRow_drew HCU.out)
              have HCW := Lib.hid (HCO.out.below (Below.refl _ _).drew)
              obtain ⟨B3', vb', us3, ev3, ow3, rel3⟩ := HT.out
              rw [hal] at ev3 ow3
              injection ev3 with ev31 _ ev33
              subst ev31; subst ev33
              have OW3 := Lib.hid (ownsRow_drew ow3); have REL3 := Lib.hid rel3
              have Q1 : Hid (i + 1 ≤ maxLen) := Lib.hid (by simp only [maxLen]; omega)
              have Q4 : Hid ((i + 1) * 1 ≤ 140737488355328) := Lib.hid (by omega)
              have HS : Hid (wr.drew.cell? ⟨w.heap.size + 1, 2, none⟩ = some (.slice B3 i vb) ∧ wr.drew.cell? ⟨w.heap.size, 2, none⟩ = some (.slice (some ⟨b3, o3, none⟩) n c3) ∧ wr.drew.cell? ⟨b3, o3 + s, none⟩ = some (.bool bb)) := Lib.hid
                ⟨HDW.out.cell 2, HIW.out.a.cell 2, ((Keep.of HIW.out.b).cell _ _ hb3).trans ka⟩
              clear hs hat HXM hbb ka hal ow3 rel3 HI HDB HCU HCO HT
              go_wp2
              refine wp_region_T 8 (fun W => W.cell? ⟨w.heap.size + 1, 2, none⟩ = some (.slice B3 i vb) ∧ W.cell? ⟨w.heap.size, 2, none⟩ = some (.slice (some ⟨b3, o3, none⟩) n c3) ∧ W.cell? ⟨b3, o3 + s, none⟩ = some (.bool bb)) (by kernel_rfl) ?_
              clear cm hbm
              generalize wr.drew = W at *
              have OWB := Lib.hid (OW3.out.alloc (.cells #[.bool bb] 4))
              have SRB := Lib.hid (Src.one (w := W) (x := .bool bb) (t := 4) rfl)
              have hGW := HCW.out.lt
              have Z3 : Hid (G ≤ (W.alloc (.cells #[.bool bb] 4)).heap.size) := Lib.hid (by simp; omega)
              have BA := Lib.hid ((Below.refl W.heap.size W).alloc (Nat.le_refl _) (.cells #[.bool bb] 4))
              have KW := Lib.hid (Keep.of BA.out)
              have HIA := Lib.hid (HIW.out.next BA.out)
              have HDA := Lib.hid (HDW.out.below BA.out HDW.out.lt)
              have HUA := Lib.hid (ownsRow_below HUW.out BA.out)
              have HCA := Lib.hid (HCW.out.below BA.out)
              refine wpAnyT_takeC (i := 0) [8, 1] (v := ?_) rfl (by kernel_rfl) (by kernel_rfl) (by kernel_rfl) (by kernel_rfl) (by kernel_rfl) (by kernel_rfl) (fun _ _ _ h => h) (.inl ⟨rfl, ?_⟩) HS.out ?_
              rotate_left
              · intro W__ hW__
                obtain ⟨h1, h2, h3⟩ := hW__
                go_simp
                (try with_reducible rfl)
              try simp only [Act.put]
              refine wpAnyT_takeC (i := 1) [8] (v := ?_) rfl (by kernel_rfl) (by kernel_rfl) (by kernel_rfl) (by kernel_rfl) (by kernel_rfl) (by kernel_rfl) (fun _ _ _ h => h) (.inl ⟨rfl, ?_⟩) HS.out ?_
              rotate_left
              · intro W__ hW__
                obtain ⟨h1, h2, h3⟩ := hW__
                go_simp
                (try with_reducible rfl)
              try simp only [Act.put]
              refine wpAnyT_takeC (i := 2) [8, 7, 6, 5, 3] (v := ?_) rfl (by kernel_rfl) (by kernel_rfl) (by kernel_rfl) (by kernel_rfl) (by kernel_rfl) (by kernel_rfl) (fun _ _ _ h => h) (.inl ⟨rfl, ?_⟩) HS.out ?_
              rotate_left
              · intro W__ hW__
                obtain ⟨h1, h2, h3⟩ := hW__
                go_simp
                (try with_reducible rfl)
              try simp only [Act.put]
              refine wpAnyT_takeC (i := 3) [8, 7, 6, 5] (v := ?_) rfl (by kernel_rfl) (by kernel_rfl) (by kernel_rfl) (by kernel_rfl) (by kernel_rfl) (by kernel_rfl) (fun _ _ _ h => h) (.inl ⟨rfl, ?_⟩) HS.out ?_
              rotate_left
              · intro W__ hW__
                obtain ⟨h1, h2, h3⟩ := hW__
                go_simp
                (try with_reducible rfl)
              try simp only [Act.put]
              refine wpAnyT_takeC (i := 4) [8, 7, 6, 5] (v := ?_) rfl (by kernel_rfl) (by kernel_rfl) (by kernel_rfl) (by kernel_rfl) (by kernel_rfl) (by kernel_rfl) (fun _ _ _ h => h) (.inl ⟨rfl, ?_⟩) HS.out ?_
              rotate_left
              · intro W__ hW__
                obtain ⟨h1, h2, h3⟩ := hW__
                go_simp
                (try with_reducible rfl)
              try simp only [Act.put]
              refine wpAnyT_takeC (i := 5) [8, 7, 6] (v := ?_) rfl (by kernel_rfl) (by kernel_rfl) (by kernel_rfl) (by kernel_rfl) (by kernel_rfl) (by kernel_rfl) (fun _ _ _ h => h) (.inl ⟨rfl, ?_⟩) HS.out ?_
              rotate_left
              · intro W__ hW__
                obtain ⟨h1, h2, h3⟩ := hW__
                go_simp
                (try with_reducible rfl)
              try simp only [Act.put]
              refine wpAnyT_takeC (i := 6) [8, 7] (v := ?_) rfl (by kernel_rfl) (by kernel_rfl) (by kernel_rfl) (by kernel_rfl) (by kernel_rfl) (by kernel_rfl) (fun _ _ _ h => h) (.inl ⟨rfl, ?_⟩) HS.out ?_
              rotate_left
              · intro W__ hW__
                obtain ⟨h1, h2, h3⟩ := hW__
                go_simp
                (try with_reducible rfl)
              try simp only [Act.put]
              refine wpAnyT_one (i := 7) rfl (by kernel_rfl) rfl fun K__ hK__ => ?_
              unfold Oper.wp
              go_simp
              refine hK__ _ _ ⟨(KW.out.cell _ _ (World.block_lt_of_cell? _ _ HS.out.1)).trans HS.out.1, (KW.out.cell _ _ (World.block_lt_of_cell? _ _ HS.out.2.1)).trans HS.out.2.1, (KW.out.cell _ _ (World.block_lt_of_cell? _ _ HS.out.2.2)).trans HS.out.2.2⟩ ?_
              clear hK__
              refine wpAnyT_end (i := 8) rfl (by kernel_rfl) rfl (by kernel_rfl) fun K__ hK__ => ?_
              refine wp_append_src _ (.tmp 117) (.tmp 123) 28 rfl G 4 i1' (.bool false) 1 1 Tryz.underlying28 hi1 hz1 hs1 hb1' rfl (by decide) B3 vb i us3 (by simp [Act.eval]) OWB.out _ 1 1 _ (by simp [Act.eval]) SRB.out Q1.out Q4.out Z3.out ?_
              intro A10 c10 w10 own10 gr10 _
              have hd10 := HDA.out.grown gr10 (own_blk_ne OWB.out HDA.out (by decide))
              have HI10 := Lib.hid ((HIA.out.growB OWB.out gr10 (by omega)).far (i := 2) (v := .slice A10 (i + 1) c10) hd10 (by omega) (by omega) (by decide) (by decide) (by decide))
              have HC10 := Lib.hid ((HCA.out.other OWB.out (by decide) (by decide) gr10).far (i := 2) (u := .slice A10 (i + 1) c10) hd10 (by decide) (by decide))
              have HU10 := Lib.hid (ownsRow_setFar (HUA.out.kept gr10 (own_ne HUA.out OWB.out (by decide))) hd10 (by decide) 2 (.slice A10 (i + 1) c10))
              have HT10 : Hid (Own (w10.setCell ⟨w.heap.size + 1, 2, none⟩ (.slice A10 (i + 1) c10)) G 4 RB (.slice A10 (i + 1) c10) ((st.take (i + 1)).map d.acc)) := Lib.hid (by
                rw [take_snoc HSI.out, List.map_append]
                have hb := HBB.out
                refine Own.setFar ⟨A10, c10, us3 ++ [.bool bb], by rw [List.length_append, HAL.out]; rfl, by rw [List.length_append, HAL.out]; exact own10, Rel.app REL3.out (Rel.one (R := RB) (u := .bool bb) (x := d.acc s) (by rw [hb]; rfl))⟩ hd10 (by decide) 2 _)
              have HD10 := Lib.hid (hd10.set 2 (.slice A10 (i + 1) c10))
              obtain ⟨x0, x1, x2, xf0, xf1, xf2⟩ := Blk.three hd10
              refine hK__ _ _ ?_
              clear hK__ own10 gr10 hd10
              simp only [Act.put]
              refine wpAnyT_end (i := 9) rfl (by kernel_rfl) rfl (by kernel_rfl) fun K__ hK__ => ?_
              unfold Oper.wp
              go_simp
              refine hK__ _ _ ?_
              clear hK__
              refine wpAnyT_end (i := 10) rfl (by kernel_rfl) rfl (by kernel_rfl) fun K__ hK__ => ?_
              unfold Oper.wp
              go_simp
              refine hK__ _ _ ?_
              clear hK__
              refine wpAnyT_done (by kernel_rfl) ?_ _
              clear x0 x1 x2 xf0 xf1 xf2
              go_wp2
              go_roundw
              case rel => exact ⟨i + 1, c10, A10, by go_num, by omega, HD10, HT10, HU10, HC10, HI10⟩
              case measure => simp [intOf]; omega
            · obtain rfl : m = i := by omega
              have hacc : (st.take m).map d.acc = (leastD d).accept := by
                rw [List.take_of_length_le (by rw [HM.out]; exact Nat.le_refl _), HSA.out, ← accs_st]; rfl
              have hnx : (leastD d).next.length = m := by show ((metL d).map _).length = m; rw [List.length_map]; exact HML.out
              have HRS : Hid (Res wr w.heap.size (.slice Av q vc) (.slice (some ⟨G, 0, none⟩) m m) (.slice B3 m vb) (leastD d).cuts (leastD d).next (leastD d).accept) := Lib.hid (Res.lower (b := G) (by
                refine ⟨⟨Av, vc, ?_, ?_⟩, HCO.out.ls (by simp only [maxLen]; omega) hnx (fun i r hr => ?_), by rw [← hacc]; exact HT.out⟩
                · show _ = Value.slice Av ((clsN d (metL d) d.cuts.length).map _).length vc
                  rw [List.length_map, ← HCN.out, HQ.out]
                · show wr.ownsRow G TLI 1 (.slice Av ((clsN d (metL d) d.cuts.length).map _).length vc) ((clsN d (metL d) d.cuts.length).map _).length (((clsN d (metL d) d.cuts.length).map fun c => d.cuts.getD c 0).map _)
                  rw [List.length_map, ← HCN.out, HQ.out]
                  exact HCU.out
                · rw [HCN.out]
                  have h := HCLT.out
                  rw [HCN.out] at h
                  exact rows_col h hr) (by omega))
              obtain ⟨t0, t1, t2, tf0, tf1, tf2⟩ := Blk.three HDB.out
              have hN := HDB.out.lt
              have hsb := HI.out.sb.lt
              clear hacc hnx
              go_wp2
              have X9 := ((HDB.out.set 0 (.slice Av q vc)).set 1 (.slice (some ⟨G, 0, none⟩) m m)).set 2 (.slice B3 m vb)
              obtain ⟨y0, y1, y2, _, _, _⟩ := Blk.three X9
              refine bodyPost_ret (v := .agg #[.slice Av q vc, .slice (some ⟨G, 0, none⟩) m m, .slice B3 m vb]) (by simp [results, Tryz.results10, go_sem, y0, y1, y2]) rfl ⟨_, _, _, rfl, ?_, ?_⟩
              · exact Res.far3 HRS.out HDB.out
              · exact below3 HI.out.b (by simp)
end Go.Proofs.YtjnjbcigbnjmkaaGreat
