/- Walks: the document's Great, of stores. PUT1 -/
import Derived.Test.YtbdkedjgfihamaaGreatDoorV61u
import Derived.Test.YtbdkedjgfihamaaGreatDoorV40u
import Derived.Test.YtbdkedjgfihamaaGreatDoorV49u
import Derived.Test.YtbdkedjgfihamaaGreatDoorQvu
namespace Go.Proofs.YtbdkedjgfihamaaGreatDoor
open Go.RowKit Pv Go.Maps
set_option maxHeartbeats 4000000 in
set_option maxRecDepth 100000 in
theorem ref28_Great (T L : Option Addr) (tn tc ln lc : Nat) (s : Sto) (w : World) (h : StoAt w T tn L ln s) :
    Calls Tryz.prog 16 #[.agg #[.slice T tn tc, .slice L ln lc]] w fun e w' => e = .returned (.bool (greatS s)) ∧ Below w.heap.size w w' := by
  have hk0 : Below w.heap.size w (w.alloc (.cells #[.slice T tn tc, .slice L ln lc] TSto)) := (Below.refl _ _).alloc (Nat.le_refl _) _
  have htl : tn ≤ 140737488355328 := by have := h.tabs.1; have h2 := h.tn.out; rwa [h2] at this
  have hll : ln ≤ 140737488355328 := by have := h.log.1; have h2 := h.ln.out; rwa [h2] at this
  have HT := Lib.hid (h.keep (Keep.of hk0))
  have HB0 := Lib.hid (Blk.new w TSto #[.slice T tn tc, .slice L ln lc])
  have HP := Lib.hid (fun W (k : Below (w.alloc (.cells #[.slice T tn tc, .slice L ln lc] TSto)).heap.size (w.alloc (.cells #[.slice T tn tc, .slice L ln lc] TSto)) W) => And.intro (hk0.trans (k.mono hk0.size)) (HB0.out.below k HB0.out.lt))
  obtain ⟨o, ho⟩ : ∃ o, greatS s = o := ⟨_, rfl⟩
  have HO := Lib.hid ho
  have HTN := h.tn; have HLN := h.ln
  rw [ho]
  clear h hk0 ho
  go_enter Tryz.func16, Tryz.ntmps16
  go_wp2
  go_loopw [3] (fun i W => ∃ q : Nat, i = .int .i64 q ∧ q ≤ tn ∧ q ≤ 10 ∧ Hid (Below (w.alloc (.cells #[.slice T tn tc, .slice L ln lc] TSto)).heap.size (w.alloc (.cells #[.slice T tn tc, .slice L ln lc] TSto)) W) ∧ Hid ((s.tables.take q).any greatT = false)) (fun i _ => tn - (intOf i).toNat)
  case atStart => exact ⟨0, rfl, by omega, by omega, Lib.hid (Below.refl _ _), Lib.hid (by simp)⟩
  case round =>
    obtain ⟨q, rfl, hq, hq2, HBE, HE⟩ := hrel
    have i0 : (0 : Int) ≤ (q : Int) := by omega
    obtain ⟨h1, h2⟩ := HP.out _ HBE.out
    have HFR := Lib.hid h1
    have p0 := h2.cell 0; have p1 := h2.cell 1; have pl := h2.lt
    clear h1 h2
    by_cases hlt : q < tn ∧ q < 10
    · obtain ⟨b1, o1, x, U, un, uc, R, rn, rc, rfl, lb1, c0, c1, c2, c3, hx, _, _, HX⟩ := AtTab.g4 (HT.out.keep (Keep.of HBE.out)).tabs HTN hlt.1
      have HG := Lib.hid (ref27_Great U R un uc rn rc x wr hx)
      have i1 : (q : Int) < (tn : Int) := by omega
      have i2 : (q : Int) < 10 := by omega
      have HQ := Lib.hid hlt
      clear hlt hx
      by_cases e1 : greatT x = true
      · rw [e1] at HG
        have HN : Hid (o = true) := Lib.hid (by rw [← HO.out]; unfold greatS; rw [any_hit HX.out HQ.out.2 e1]; rfl)
        clear e1
        go_wp2_with fail
        refine HG.out.mono ?_
        rintro e w1 ⟨rfl, k⟩
        have HF := Lib.hid (HFR.out.trans (k.mono HFR.out.size))
        clear k
        go_wp2
        go_ret
        exact ⟨ret_bool HN.out.symm, HF.out⟩
      · have e2 : greatT x = false := by simpa using e1
        rw [e2] at HG
        have HN := Lib.hid e2
        clear e1 e2
        go_wp2_with fail
        refine HG.out.mono ?_
        rintro e w1 ⟨rfl, k⟩
        have HF := Lib.hid (HBE.out.trans (k.mono HBE.out.size))
        clear k
        go_wp2
        go_roundw
        case rel => exact ⟨q + 1, by go_num, by omega, by omega, HF, Lib.hid (any_snoc HX.out HE.out HN.out)⟩
        case measure => simp [intOf]; omega
    · have HN := Lib.hid (any_end HTN.out hlt HE.out hq2)
      have HBW := HBE
      obtain ⟨g, hg⟩ : ∃ g : Bool, (if g then (q : Int) < (tn : Int) ∧ ¬ (q : Int) < 10 else ¬ (q : Int) < (tn : Int)) := by
        by_cases h : q < tn
        · exact ⟨true, by simp; omega⟩
        · exact ⟨false, by simp; omega⟩
      clear hlt HE
      cases g <;> simp only [if_true, Bool.false_eq_true, if_false] at hg
      all_goals
        first
          | obtain ⟨j1, j2⟩ := hg
          | have j1 := hg
        go_wp2
        clear p0 p1 pl
        try clear j2
        try clear hg
        clear j1
        go_loopw [4] (fun i W => ∃ q : Nat, i = .int .i64 q ∧ q ≤ ln ∧ q ≤ 30 ∧ Hid (Below (w.alloc (.cells #[.slice T tn tc, .slice L ln lc] TSto)).heap.size (w.alloc (.cells #[.slice T tn tc, .slice L ln lc] TSto)) W) ∧ Hid ((s.log.take q).any bigL = false)) (fun i _ => ln - (intOf i).toNat)
        case atStart => exact ⟨0, rfl, by omega, by omega, HBW, Lib.hid (by simp)⟩
        case round =>
          obtain ⟨q, rfl, hq, hq2, HBE, HE⟩ := hrel
          have i0 : (0 : Int) ≤ (q : Int) := by omega
          obtain ⟨h1, h2⟩ := HP.out _ HBE.out
          have HFR := Lib.hid h1
          have p0 := h2.cell 0; have p1 := h2.cell 1; have pl := h2.lt
          clear h1 h2
          by_cases hlt : q < ln ∧ q < 30
          · obtain ⟨b1, o1, x, D, m, c, rfl, lb1, c0, c1, c2, c3, c4, _, _, _, hD, HDL, _, HX⟩ := AtChg.g5 (HT.out.keep (Keep.of HBE.out)).log HLN hlt.1
            have HG := Lib.hid (ref27_GreatRecord D m c x.was wr hD HDL)
            have i1 : (q : Int) < (ln : Int) := by omega
            have i2 : (q : Int) < 30 := by omega
            have HQ := Lib.hid hlt
            clear hlt hD
            by_cases e1 : greatR x.was = true
            · rw [e1] at HG
              have HN2 : Hid (o = true) := Lib.hid (by rw [← HO.out]; unfold greatS; rw [any_hit (p := bigL) HX.out HQ.out.2 (by unfold bigL; rw [e1]; rfl)]; simp)
              clear e1
              go_wp2_with fail
              refine HG.out.mono ?_
              rintro e w1 ⟨rfl, k⟩
              have HF := Lib.hid (HFR.out.trans (k.mono HFR.out.size))
              clear k
              go_wp2
              go_ret
              exact ⟨ret_bool HN2.out.symm, HF.out⟩
            · have e2 : greatR x.was = false := by simpa using e1
              rw [e2] at HG
              have HE2 := Lib.hid e2
              clear e1 e2
              by_cases e3 : (300 : Int) < (x.id.size : Int)
              · have HN2 : Hid (o = true) := Lib.hid (by rw [← HO.out]; unfold greatS; rw [any_hit (p := bigL) HX.out HQ.out.2 (by unfold bigL; rw [HE2.out]; simp; omega)]; simp)
                go_wp2_with fail
                refine HG.out.mono ?_
                rintro e w1 ⟨rfl, k⟩
                have HF := Lib.hid (HFR.out.trans (k.mono HFR.out.size))
                have p1 := (k.cell (p := ⟨w.heap.size, 1, none⟩) pl).trans p1
                have c1 := (k.cell (p := ⟨b1, o1 + q * 5 + 1, none⟩) lb1).trans c1
                have pl := Nat.lt_of_lt_of_le pl k.size
                have lb1 := Nat.lt_of_lt_of_le lb1 k.size
                clear k
                go_wp2
                go_ret
                exact ⟨ret_bool HN2.out.symm, HF.out⟩
              · have HN2 := Lib.hid (show bigL x = false by unfold bigL; rw [HE2.out]; simp; omega)
                go_wp2_with fail
                refine HG.out.mono ?_
                rintro e w1 ⟨rfl, k⟩
                have HF := Lib.hid (HBE.out.trans (k.mono HBE.out.size))
                have p1 := (k.cell (p := ⟨w.heap.size, 1, none⟩) pl).trans p1
                have c1 := (k.cell (p := ⟨b1, o1 + q * 5 + 1, none⟩) lb1).trans c1
                have pl := Nat.lt_of_lt_of_le pl k.size
                have lb1 := Nat.lt_of_lt_of_le lb1 k.size
                clear k
                go_wp2
                go_roundw
                case rel => exact ⟨q + 1, by go_num, by omega, by omega, HF, Lib.hid (any_snoc HX.out HE.out HN2.out)⟩
                case measure => simp [intOf]; omega
          · have HN2 := Lib.hid (any_end HLN.out hlt HE.out hq2)
            have HOO := Lib.hid (show o = (decide (6 < tn) || decide (20 < ln)) by rw [← HO.out]; unfold greatS; rw [HN.out, HN2.out, HTN.out, HLN.out]; rfl)
            obtain ⟨o1, ho1⟩ : ∃ o1, decide (6 < tn) = o1 := ⟨_, rfl⟩
            obtain ⟨o2, ho2⟩ : ∃ o2, decide (20 < ln) = o2 := ⟨_, rfl⟩
            rw [ho1, ho2] at HOO
            have t1 : decide ((6 : Int) < (tn : Int)) = o1 := by rw [← ho1]; congr 1; simp; omega
            have t2 : decide ((20 : Int) < (ln : Int)) = o2 := by rw [← ho2]; congr 1; simp; omega
            clear ho1 ho2
            obtain ⟨g, hg⟩ : ∃ g : Bool, (if g then (q : Int) < (ln : Int) ∧ ¬ (q : Int) < 30 else ¬ (q : Int) < (ln : Int)) := by
              by_cases h : q < ln
              · exact ⟨true, by simp; omega⟩
              · exact ⟨false, by simp; omega⟩
            clear hlt HE
            cases g <;> simp only [if_true, Bool.false_eq_true, if_false] at hg
            all_goals
              first
                | obtain ⟨j1, j2⟩ := hg
                | have j1 := hg
              cases o1 <;> cases o2
              all_goals
                simp only [decide_eq_true_eq, decide_eq_false_iff_not] at t1 t2
                first
                  | (exfalso; omega)
                  | (go_wp2; go_ret; exact ⟨ret_bool HOO.out.symm, HFR.out⟩)
end Go.Proofs.YtbdkedjgfihamaaGreatDoor

namespace Go.Proofs.YtbdkedjgfihamaaGreatDoor
open Go.RowKit Pv Go.Maps
set_option maxHeartbeats 4000000 in
set_option maxRecDepth 100000 in
theorem ref28_Alike (T L T2 L2 : Option Addr) (tn tc ln lc tn2 tc2 ln2 lc2 : Nat) (x y : List Tab) (w : World) (hx : AtTab w T x) (hy : AtTab w T2 y) (HX : Hid (x.length = tn)) (HY : Hid (y.length = tn2)) :
    Calls Tryz.prog 31 #[.agg #[.slice T tn tc, .slice L ln lc], .agg #[.slice T2 tn2 tc2, .slice L2 ln2 lc2]] w fun e w' => e = .returned (.bool (decide (x = y))) ∧ Below w.heap.size w w' := by
  have hk0 : Below w.heap.size w ((w.alloc (.cells #[.slice T tn tc, .slice L ln lc] TSto)).alloc (.cells #[.slice T2 tn2 tc2, .slice L2 ln2 lc2] TSto)) := ((Below.refl _ _).alloc (Nat.le_refl _) _).alloc (by simp) _
  have HX0 := Lib.hid (AtTab.keep hx (Keep.of hk0)); have HY0 := Lib.hid (AtTab.keep hy (Keep.of hk0))
  have HK0 := Lib.hid hk0
  have HB0 := Lib.hid ((Blk.new w TSto #[.slice T tn tc, .slice L ln lc]).alloc (.cells #[.slice T2 tn2 tc2, .slice L2 ln2 lc2] TSto))
  have HB1 := Lib.hid (blkV2 w TSto TSto #[.slice T tn tc, .slice L ln lc] #[.slice T2 tn2 tc2, .slice L2 ln2 lc2])
  have HP := Lib.hid (fun W (k : Below ((w.alloc (.cells #[.slice T tn tc, .slice L ln lc] TSto)).alloc (.cells #[.slice T2 tn2 tc2, .slice L2 ln2 lc2] TSto)).heap.size ((w.alloc (.cells #[.slice T tn tc, .slice L ln lc] TSto)).alloc (.cells #[.slice T2 tn2 tc2, .slice L2 ln2 lc2] TSto)) W) =>
    And.intro (HK0.out.trans (k.mono HK0.out.size)) (And.intro (HB0.out.below k HB0.out.lt) (HB1.out.below k HB1.out.lt)))
  obtain ⟨o, ho⟩ : ∃ o, decide (x = y) = o := ⟨_, rfl⟩
  have HO := Lib.hid ho
  rw [ho]
  by_cases hlen : tn = tn2
  case neg =>
    have h1 : ((tn : Int) != (tn2 : Int)) = true := by simp; omega
    have HN := Lib.hid (show o = false by rw [← ho]; simp; intro h; subst h; exact hlen (HX.out.symm.trans HY.out))
    clear hx hy hk0 ho hlen
    go_enter Tryz.func31, Tryz.ntmps31
    go_wp2
    go_ret
    exact ⟨ret_bool HN.out.symm, HK0.out⟩
  subst hlen
  have h1 : ((tn : Int) != (tn : Int)) = false := by simp
  have hl : tn ≤ 140737488355328 := by have := hx.1; rwa [HX.out] at this
  clear hx hy hk0 ho
  go_enter Tryz.func31, Tryz.ntmps31
  go_wp2
  go_loopw [5] (fun i W => ∃ q : Nat, i = .int .i64 q ∧ q ≤ tn ∧ Hid (Below ((w.alloc (.cells #[.slice T tn tc, .slice L ln lc] TSto)).alloc (.cells #[.slice T2 tn tc2, .slice L2 ln2 lc2] TSto)).heap.size ((w.alloc (.cells #[.slice T tn tc, .slice L ln lc] TSto)).alloc (.cells #[.slice T2 tn tc2, .slice L2 ln2 lc2] TSto)) W) ∧ Hid (x.take q = y.take q)) (fun i _ => tn - (intOf i).toNat)
  case atStart => exact ⟨0, rfl, by omega, Lib.hid (Below.refl _ _), Lib.hid (by simp)⟩
  case round =>
    obtain ⟨q, rfl, hq, HBE, HE⟩ := hrel
    obtain ⟨h4, h2, h3⟩ := HP.out _ HBE.out
    have HFR := Lib.hid h4
    have p0 := h2.cell 0; have q0 := h3.cell 0; have pl := h2.lt; have ql := h3.lt
    clear h2 h3 h4
    have i1 : (0 : Int) ≤ (q : Int) := by omega
    by_cases hlt : q < tn
    · obtain ⟨b1, o1, a, U, un, uc, R, rn, rc, hA1, lb1, c0, c1, c2, c3, ha, _, _, HA⟩ := AtTab.g4 (AtTab.keep HX0.out (Keep.of HBE.out)) HX hlt
      obtain ⟨b2, o2, b, V, vn, vc, S, sn, sc, hA2, lb2, d0, d1, d2, d3, hb, _, _, HB⟩ := AtTab.g4 (AtTab.keep HY0.out (Keep.of HBE.out)) HY hlt
      subst hA1; subst hA2
      have HT := Lib.hid (ref27_Same U R V S un uc rn rc vn vc sn sc a b wr.drew (ha.keep (Keep.drew wr)) (hb.keep (Keep.drew wr)))
      have i2 : (q : Int) < (tn : Int) := by omega
      simp at p0 q0
      have HSA : Hid (wr.drew.cell? ⟨w.heap.size, 0, none⟩ = some (.slice (some ⟨b1, o1, none⟩) tn tc) ∧ wr.drew.cell? ⟨w.heap.size + 1, 0, none⟩ = some (.slice (some ⟨b2, o2, none⟩) tn tc2) ∧ wr.drew.cell? ⟨b1, o1 + q * 4, none⟩ = some (.string a.name) ∧ wr.drew.cell? ⟨b1, o1 + q * 4 + 1, none⟩ = some (.int .i64 a.most) ∧ wr.drew.cell? ⟨b1, o1 + q * 4 + 2, none⟩ = some (.slice U un uc) ∧ wr.drew.cell? ⟨b1, o1 + q * 4 + 3, none⟩ = some (.slice R rn rc) ∧ wr.drew.cell? ⟨b2, o2 + q * 4, none⟩ = some (.string b.name) ∧ wr.drew.cell? ⟨b2, o2 + q * 4 + 1, none⟩ = some (.int .i64 b.most) ∧ wr.drew.cell? ⟨b2, o2 + q * 4 + 2, none⟩ = some (.slice V vn vc) ∧ wr.drew.cell? ⟨b2, o2 + q * 4 + 3, none⟩ = some (.slice S sn sc)) := Lib.hid ⟨p0, q0, c0, c1, c2, c3, d0, d1, d2, d3⟩
      clear ha hb
      have hcut : Calls Tryz.prog 59 #[.agg #[.string a.name, .int .i64 a.most, .slice U un uc, .slice R rn rc], .agg #[.string b.name, .int .i64 b.most, .slice V vn vc, .slice S sn sc]] wr.drew fun e w' => e = .returned (.bool (decide (a = b))) ∧ Below wr.drew.heap.size wr.drew w' := HT.out
      clear hcut
      obtain ⟨v, hv⟩ : ∃ v, decide (a = b) = v := ⟨_, rfl⟩
      rw [hv] at HT
      have HV := Lib.hid hv
      clear hv c0 c1 c2 c3 d0 d1 d2 d3
      go_upto_region 6 with fail
      refine wp_region_T 10 (fun Q => (Q.cell? ⟨w.heap.size, 0, none⟩ = some (.slice (some ⟨b1, o1, none⟩) tn tc) ∧ Q.cell? ⟨w.heap.size + 1, 0, none⟩ = some (.slice (some ⟨b2, o2, none⟩) tn tc2) ∧ Q.cell? ⟨b1, o1 + q * 4, none⟩ = some (.string a.name) ∧ Q.cell? ⟨b1, o1 + q * 4 + 1, none⟩ = some (.int .i64 a.most) ∧ Q.cell? ⟨b1, o1 + q * 4 + 2, none⟩ = some (.slice U un uc) ∧ Q.cell? ⟨b1, o1 + q * 4 + 3, none⟩ = some (.slice R rn rc) ∧ Q.cell? ⟨b2, o2 + q * 4, none⟩ = some (.string b.name) ∧ Q.cell? ⟨b2, o2 + q * 4 + 1, none⟩ = some (.int .i64 b.most) ∧ Q.cell? ⟨b2, o2 + q * 4 + 2, none⟩ = some (.slice V vn vc) ∧ Q.cell? ⟨b2, o2 + q * 4 + 3, none⟩ = some (.slice S sn sc))) (by kernel_rfl) ?_
      refine wpAnyT_takeC (i := 0) [10, 4, 3, 1] (v := ?_) rfl (by kernel_rfl) (by kernel_rfl) (by kernel_rfl) (by kernel_rfl) (by kernel_rfl) (by kernel_rfl) (fun _ _ _ h => h) (.inl ⟨rfl, ?_⟩) HSA.out ?_
      rotate_left
      · intro W__ hW__
        obtain ⟨z1, z2, z3, z4, z5, z6, z7, z8, z9, z10⟩ := hW__
        go_simp
        (try with_reducible rfl)
      try simp only [Act.put]
      refine wpAnyT_takeC (i := 1) [10, 4, 3] (v := ?_) rfl (by kernel_rfl) (by kernel_rfl) (by kernel_rfl) (by kernel_rfl) (by kernel_rfl) (by kernel_rfl) (fun _ _ _ h => h) (.inl ⟨rfl, ?_⟩) HSA.out ?_
      rotate_left
      · intro W__ hW__
        obtain ⟨z1, z2, z3, z4, z5, z6, z7, z8, z9, z10⟩ := hW__
        go_simp
        (try with_reducible rfl)
      try simp only [Act.put]
      refine wpAnyT_takeC (i := 2) [10, 4, 3] (v := ?_) rfl (by kernel_rfl) (by kernel_rfl) (by kernel_rfl) (by kernel_rfl) (by kernel_rfl) (by kernel_rfl) (fun _ _ _ h => h) (.inl ⟨rfl, ?_⟩) HSA.out ?_
      rotate_left
      · intro W__ hW__
        obtain ⟨z1, z2, z3, z4, z5, z6, z7, z8, z9, z10⟩ := hW__
        go_simp
        (try with_reducible rfl)
      try simp only [Act.put]
      refine wpAnyT_takeC (i := 3) [10, 4] (v := ?_) rfl (by kernel_rfl) (by kernel_rfl) (by kernel_rfl) (by kernel_rfl) (by kernel_rfl) (by kernel_rfl) (fun _ _ _ h => h) (.inl ⟨rfl, ?_⟩) HSA.out ?_
      rotate_left
      · intro W__ hW__
        obtain ⟨z1, z2, z3, z4, z5, z6, z7, z8, z9, z10⟩ := hW__
        go_simp
        (try with_reducible rfl)
      try simp only [Act.put]
      refine wpAnyT_takeC (i := 4) [10] (v := ?_) rfl (by kernel_rfl) (by kernel_rfl) (by kernel_rfl) (by kernel_rfl) (by kernel_rfl) (by kernel_rfl) (fun _ _ _ h => h) (.inl ⟨rfl, ?_⟩) HSA.out ?_
      rotate_left
      · intro W__ hW__
        obtain ⟨z1, z2, z3, z4, z5, z6, z7, z8, z9, z10⟩ := hW__
        go_simp
        (try with_reducible rfl)
      try simp only [Act.put]
      refine wpAnyT_takeC (i := 5) [10, 9, 8, 6] (v := ?_) rfl (by kernel_rfl) (by kernel_rfl) (by kernel_rfl) (by kernel_rfl) (by kernel_rfl) (by kernel_rfl) (fun _ _ _ h => h) (.inl ⟨rfl, ?_⟩) HSA.out ?_
      rotate_left
      · intro W__ hW__
        obtain ⟨z1, z2, z3, z4, z5, z6, z7, z8, z9, z10⟩ := hW__
        go_simp
        (try with_reducible rfl)
      try simp only [Act.put]
      refine wpAnyT_takeC (i := 6) [10, 9, 8] (v := ?_) rfl (by kernel_rfl) (by kernel_rfl) (by kernel_rfl) (by kernel_rfl) (by kernel_rfl) (by kernel_rfl) (fun _ _ _ h => h) (.inl ⟨rfl, ?_⟩) HSA.out ?_
      rotate_left
      · intro W__ hW__
        obtain ⟨z1, z2, z3, z4, z5, z6, z7, z8, z9, z10⟩ := hW__
        go_simp
        (try with_reducible rfl)
      try simp only [Act.put]
      refine wpAnyT_takeC (i := 7) [10, 9, 8] (v := ?_) rfl (by kernel_rfl) (by kernel_rfl) (by kernel_rfl) (by kernel_rfl) (by kernel_rfl) (by kernel_rfl) (fun _ _ _ h => h) (.inl ⟨rfl, ?_⟩) HSA.out ?_
      rotate_left
      · intro W__ hW__
        obtain ⟨z1, z2, z3, z4, z5, z6, z7, z8, z9, z10⟩ := hW__
        go_simp
        (try with_reducible rfl)
      try simp only [Act.put]
      refine wpAnyT_takeC (i := 8) [10, 9] (v := ?_) rfl (by kernel_rfl) (by kernel_rfl) (by kernel_rfl) (by kernel_rfl) (by kernel_rfl) (by kernel_rfl) (fun _ _ _ h => h) (.inl ⟨rfl, ?_⟩) HSA.out ?_
      rotate_left
      · intro W__ hW__
        obtain ⟨z1, z2, z3, z4, z5, z6, z7, z8, z9, z10⟩ := hW__
        go_simp
        (try with_reducible rfl)
      try simp only [Act.put]
      refine wpAnyT_takeC (i := 9) [10] (v := ?_) rfl (by kernel_rfl) (by kernel_rfl) (by kernel_rfl) (by kernel_rfl) (by kernel_rfl) (by kernel_rfl) (fun _ _ _ h => h) (.inl ⟨rfl, ?_⟩) HSA.out ?_
      rotate_left
      · intro W__ hW__
        obtain ⟨z1, z2, z3, z4, z5, z6, z7, z8, z9, z10⟩ := hW__
        go_simp
        (try with_reducible rfl)
      try simp only [Act.put]
      refine wpAnyT_end (i := 10) rfl (by kernel_rfl) rfl (by kernel_rfl) fun K__ hK__ => ?_
      unfold Oper.wp
      go_simp
      refine HT.out.mono ?_
      rintro e w5 ⟨rfl, k⟩
      have HB5 := Lib.hid ((below_drewN HBE.out 1).trans (k.mono HBE.out.size))
      have HF5 := Lib.hid (HP.out _ HB5.out).1
      clear k
      refine hK__ _ _ ?_
      clear hK__
      try simp only [Act.put, List.setIfInBounds_toArray, List.set_cons_zero, List.set_cons_succ]
      refine wpAnyT_end (i := 11) rfl (by kernel_rfl) rfl (by kernel_rfl) fun K__ hK__ => ?_
      unfold Oper.wp
      go_simp
      refine hK__ _ _ ?_
      clear hK__
      refine wpAnyT_done (by kernel_rfl) ?_ _
      cases v
      · have HN := Lib.hid (show o = false by rw [← HO.out]; exact decide_eq_false fun hh => absurd HV.out (by subst hh; rw [Option.some.inj (HA.out.symm.trans HB.out)]; simp))
        go_wp2
        go_ret
        exact ⟨ret_bool HN.out.symm, HF5.out⟩
      · have HEQ := Lib.hid (of_decide_eq_true HV.out)
        go_wp2
        go_roundw
        case rel => exact ⟨q + 1, by go_num, by omega, HB5, Lib.hid (by rw [take_snoc HA.out, take_snoc HB.out, HE.out, HEQ.out])⟩
        case measure => simp [intOf]; omega
    · have : q = tn := by omega
      subst this
      have i2 : ¬ (q : Int) < (q : Int) := by omega
      have HN := Lib.hid (show o = true by rw [← HO.out]; exact decide_eq_true (by have := HE.out; rwa [List.take_of_length_le (by rw [HX.out]; omega), List.take_of_length_le (by rw [HY.out]; omega)] at this))
      go_wp2
      go_ret
      exact ⟨ret_bool HN.out.symm, HFR.out⟩
end Go.Proofs.YtbdkedjgfihamaaGreatDoor
