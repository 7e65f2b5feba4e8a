/- Walks: the document's Same, of stores. PUT1 -/
import Derived.Test.YtbdkedjgfihamaaGreatDoorV63u
import Derived.Test.YtbdkedjgfihamaaGreatDoorV58u
import Derived.Test.YtbdkedjgfihamaaGreatDoorV47u
namespace Go.Proofs.YtbdkedjgfihamaaGreatDoor
open Go.RowKit Pv Go.Maps
theorem blkA (w : World) (t1 t2 : TypeId) (c1 c2 : Array Value) : Blk ((w.alloc (.cells c1 t1)).alloc (.cells c2 t2)) w.heap.size t1 c1 := (Blk.new w t1 c1).alloc _
set_option maxHeartbeats 8000000 in
set_option maxRecDepth 100000 in
theorem ref28_Same (T L T2 L2 : Option Addr) (tn tc ln lc tn2 tc2 ln2 lc2 : Nat) (s u : Sto) (w : World) (hs : StoAt w T tn L ln s) (hu : StoAt w T2 tn2 L2 ln2 u) :
    Calls Tryz.prog 14 #[.agg #[.slice T tn tc, .slice L ln lc], .agg #[.slice T2 tn2 tc2, .slice L2 ln2 lc2]] w fun e w' => e = .returned (.bool (decide (s = u))) ∧ Below w.heap.size w w' := by
  obtain ⟨x, sl⟩ := s
  obtain ⟨y, ul⟩ := u
  have hk0 : Below w.heap.size w ((w.alloc (.cells #[.slice T tn tc, .slice L ln lc] TSto)).alloc (.cells #[.slice T2 tn2 tc2, .slice L2 ln2 lc2] TSto)) := ((Below.refl _ _).alloc (Nat.le_refl _) _).alloc (by simp) _
  have HX0 := Lib.hid (hs.keep (Keep.of hk0)); have HY0 := Lib.hid (hu.keep (Keep.of hk0))
  have HAL := Lib.hid (ref28_Alike T L T2 L2 tn tc ln lc tn2 tc2 ln2 lc2 x y _ HX0.out.tabs HY0.out.tabs hs.tn hu.tn)
  have HK0 := Lib.hid hk0
  have HB0 := Lib.hid ((Blk.new w TSto #[.slice T tn tc, .slice L ln lc]).alloc (.cells #[.slice T2 tn2 tc2, .slice L2 ln2 lc2] TSto))
  have HB1 := Lib.hid (blkV2 w TSto TSto #[.slice T tn tc, .slice L ln lc] #[.slice T2 tn2 tc2, .slice L2 ln2 lc2])
  have HP := Lib.hid (fun W (k : Below ((w.alloc (.cells #[.slice T tn tc, .slice L ln lc] TSto)).alloc (.cells #[.slice T2 tn2 tc2, .slice L2 ln2 lc2] TSto)).heap.size ((w.alloc (.cells #[.slice T tn tc, .slice L ln lc] TSto)).alloc (.cells #[.slice T2 tn2 tc2, .slice L2 ln2 lc2] TSto)) W) =>
    And.intro (HK0.out.trans (k.mono HK0.out.size)) (And.intro (HB0.out.below k HB0.out.lt) (HB1.out.below k HB1.out.lt)))
  have HX : Hid (sl.length = ln) := hs.ln
  have HY : Hid (ul.length = ln2) := hu.ln
  have hl : ln ≤ 140737488355328 := by have := hs.log.1; have h2 := HX.out; dsimp only at this; rwa [h2] at this
  obtain ⟨o, ho⟩ : ∃ o, decide ((⟨x, sl⟩ : Sto) = ⟨y, ul⟩) = o := ⟨_, rfl⟩
  have HO := Lib.hid ho
  rw [ho]
  by_cases hxy : x = y
  case neg =>
    rw [decide_eq_false hxy] at HAL
    have HN := Lib.hid (show o = false by rw [← HO.out]; exact decide_eq_false fun h => hxy (by injection h))
    clear hs hu hk0 ho hxy
    go_enter Tryz.func14, Tryz.ntmps14
    go_wp2_with fail
    refine HAL.out.mono ?_
    rintro e w1 ⟨rfl, k⟩
    have HF := Lib.hid (HP.out _ k).1
    clear k
    go_wp2
    go_ret
    exact ⟨ret_bool HN.out.symm, HF.out⟩
  rw [decide_eq_true hxy] at HAL
  by_cases hlen : ln = ln2
  case neg =>
    have h1 : ((ln : Int) != (ln2 : Int)) = true := by simp; omega
    have HN := Lib.hid (show o = false by rw [← HO.out]; exact decide_eq_false fun h => hlen (by injection h with _ e; rw [← HX.out, ← HY.out, e]))
    clear hs hu hk0 ho hxy hlen
    go_enter Tryz.func14, Tryz.ntmps14
    go_wp2_with fail
    refine HAL.out.mono ?_
    rintro e w1 ⟨rfl, k⟩
    obtain ⟨h4, h2, h3⟩ := HP.out _ k
    have HF := Lib.hid h4
    have p1 := h2.cell 1; have q1 := h3.cell 1; have pl := h2.lt; have ql := h3.lt
    clear k h2 h3 h4
    go_wp2
    go_ret
    exact ⟨ret_bool HN.out.symm, HF.out⟩
  subst hlen
  have h1 : ((ln : Int) != (ln : Int)) = false := by simp
  have HXY := Lib.hid hxy
  clear hs hu hk0 ho hxy
  go_enter Tryz.func14, Tryz.ntmps14
  go_wp2_with fail
  refine HAL.out.mono ?_
  rintro e w1 ⟨rfl, k⟩
  have HK1 := Lib.hid k
  obtain ⟨h4, h2, h3⟩ := HP.out _ k
  have p1 := h2.cell 1; have q1 := h3.cell 1; have pl := h2.lt; have ql := h3.lt
  clear k h2 h3 h4
  go_wp2
  clear p1 q1 pl ql
  go_loopw [5] (fun i W => ∃ q : Nat, i = .int .i64 q ∧ q ≤ ln ∧ Hid (Below ((w.alloc (.cells #[.slice T tn tc, .slice L ln lc] TSto)).alloc (.cells #[.slice T2 tn2 tc2, .slice L2 ln lc2] TSto)).heap.size ((w.alloc (.cells #[.slice T tn tc, .slice L ln lc] TSto)).alloc (.cells #[.slice T2 tn2 tc2, .slice L2 ln lc2] TSto)) W) ∧ Hid (sl.take q = ul.take q)) (fun i _ => ln - (intOf i).toNat)
  case atStart => exact ⟨0, rfl, by omega, HK1, Lib.hid (by simp)⟩
  case round =>
    obtain ⟨q, rfl, hq, HBE, HE⟩ := hrel
    obtain ⟨h4, h2, h3⟩ := HP.out _ HBE.out
    have HFR := Lib.hid h4
    have p1 := h2.cell 1; have q1 := h3.cell 1; have pl := h2.lt; have ql := h3.lt
    clear h2 h3 h4
    have i1 : (0 : Int) ≤ (q : Int) := by omega
    by_cases hlt : q < ln
    · obtain ⟨b1, o1, a, D, m, c, hA1, lb1, c0, c1, c2, c3, c4, _, _, _, ha, HDL, _, HA⟩ := AtChg.g5 (HX0.out.keep (Keep.of HBE.out)).log HX hlt
      obtain ⟨b2, o2, b, E, n, d, hA2, lb2, d0, d1, d2, d3, d4, _, _, _, hb, HEL, _, HB⟩ := AtChg.g5 (HY0.out.keep (Keep.of HBE.out)).log HY hlt
      have HA1 := Lib.hid hA1; have HA2 := Lib.hid hA2
      simp only [hA1] at p1
      simp only [hA2] at q1
      clear hA1 hA2
      have HAC := Lib.hid ha; have HBC := Lib.hid hb
      have i2 : (q : Int) < (ln : Int) := by omega
      simp at p1 q1
      have HSA : Hid ((fun Q => (Q.cell? ⟨w.heap.size, 1, none⟩ = some (.slice (some ⟨b1, o1, none⟩) ln lc) ∧ Q.cell? ⟨w.heap.size + 1, 1, none⟩ = some (.slice (some ⟨b2, o2, none⟩) ln lc2) ∧ Q.cell? ⟨b1, o1 + q * 5, none⟩ = some (.int .i64 a.table) ∧ Q.cell? ⟨b1, o1 + q * 5 + 1, none⟩ = some (.string a.id) ∧ Q.cell? ⟨b1, o1 + q * 5 + 2, none⟩ = some (.bool a.has) ∧ Q.cell? ⟨b1, o1 + q * 5 + 3, none⟩ = some (.string a.was.id) ∧ Q.cell? ⟨b1, o1 + q * 5 + 4, none⟩ = some (.slice D m c) ∧ Q.cell? ⟨b2, o2 + q * 5, none⟩ = some (.int .i64 b.table) ∧ Q.cell? ⟨b2, o2 + q * 5 + 1, none⟩ = some (.string b.id) ∧ Q.cell? ⟨b2, o2 + q * 5 + 2, none⟩ = some (.bool b.has) ∧ Q.cell? ⟨b2, o2 + q * 5 + 3, none⟩ = some (.string b.was.id) ∧ Q.cell? ⟨b2, o2 + q * 5 + 4, none⟩ = some (.slice E n d))) wr.drew) := Lib.hid ⟨p1, q1, c0, c1, c2, c3, c4, d0, d1, d2, d3, d4⟩
      have HSW := Lib.hid (fun (X : World) (k : Below wr.heap.size wr X) => (show (fun Q => (Q.cell? ⟨w.heap.size, 1, none⟩ = some (.slice (some ⟨b1, o1, none⟩) ln lc) ∧ Q.cell? ⟨w.heap.size + 1, 1, none⟩ = some (.slice (some ⟨b2, o2, none⟩) ln lc2) ∧ Q.cell? ⟨b1, o1 + q * 5, none⟩ = some (.int .i64 a.table) ∧ Q.cell? ⟨b1, o1 + q * 5 + 1, none⟩ = some (.string a.id) ∧ Q.cell? ⟨b1, o1 + q * 5 + 2, none⟩ = some (.bool a.has) ∧ Q.cell? ⟨b1, o1 + q * 5 + 3, none⟩ = some (.string a.was.id) ∧ Q.cell? ⟨b1, o1 + q * 5 + 4, none⟩ = some (.slice D m c) ∧ Q.cell? ⟨b2, o2 + q * 5, none⟩ = some (.int .i64 b.table) ∧ Q.cell? ⟨b2, o2 + q * 5 + 1, none⟩ = some (.string b.id) ∧ Q.cell? ⟨b2, o2 + q * 5 + 2, none⟩ = some (.bool b.has) ∧ Q.cell? ⟨b2, o2 + q * 5 + 3, none⟩ = some (.string b.was.id) ∧ Q.cell? ⟨b2, o2 + q * 5 + 4, none⟩ = some (.slice E n d))) X from ⟨(k.cell (p := ⟨w.heap.size, 1, none⟩) pl).trans p1, (k.cell (p := ⟨w.heap.size + 1, 1, none⟩) ql).trans q1, (k.cell (p := ⟨b1, o1 + q * 5, none⟩) lb1).trans c0, (k.cell (p := ⟨b1, o1 + q * 5 + 1, none⟩) lb1).trans c1, (k.cell (p := ⟨b1, o1 + q * 5 + 2, none⟩) lb1).trans c2, (k.cell (p := ⟨b1, o1 + q * 5 + 3, none⟩) lb1).trans c3, (k.cell (p := ⟨b1, o1 + q * 5 + 4, none⟩) lb1).trans c4, (k.cell (p := ⟨b2, o2 + q * 5, none⟩) lb2).trans d0, (k.cell (p := ⟨b2, o2 + q * 5 + 1, none⟩) lb2).trans d1, (k.cell (p := ⟨b2, o2 + q * 5 + 2, none⟩) lb2).trans d2, (k.cell (p := ⟨b2, o2 + q * 5 + 3, none⟩) lb2).trans d3, (k.cell (p := ⟨b2, o2 + q * 5 + 4, none⟩) lb2).trans d4⟩))
      have hkz : ∀ o : Obj, Below wr.heap.size wr (wr.drew.alloc o) := fun o => (below_drewN (Below.refl wr.heap.size wr) 1).alloc (Nat.le_refl _) o
      have HSB := Lib.hid (fun o => HSW.out (wr.drew.alloc o) (hkz o))
      have HSC := Lib.hid (fun o o2 => HSW.out ((wr.drew.alloc o).alloc o2) ((hkz o).alloc (hkz o).size o2))
      have HKF := Lib.hid (fun o o2 => (HBE.out.trans (((hkz o).alloc (hkz o).size o2).mono HBE.out.size)))
      have HKR := Lib.hid (fun o o2 => Lib.hid ((hkz o).alloc (hkz o).size o2))
      have HKF := Lib.hid (fun o o2 => Lib.hid (HKF.out o o2))
      clear ha hb hkz c0 c1 c2 c3 c4 d0 d1 d2 d3 d4
      go_upto_region 6 with fail
      go_cut [6, 7] (fun p6 p7 wx => ∃ (bx bz : Nat), p6 = .pointer (some ⟨bx, 0, none⟩) ∧ p7 = .pointer (some ⟨bz, 0, none⟩) ∧ Hid (Blk wx bx TCh #[.int .i64 a.table, .string a.id, .bool a.has, .string a.was.id, .slice D m c]) ∧ Hid (Blk wx bz TCh #[.int .i64 b.table, .string b.id, .bool b.has, .string b.was.id, .slice E n d]) ∧ Hid (Below ((w.alloc (.cells #[.slice T tn tc, .slice L ln lc] TSto)).alloc (.cells #[.slice T2 tn2 tc2, .slice L2 ln lc2] TSto)).heap.size ((w.alloc (.cells #[.slice T tn tc, .slice L ln lc] TSto)).alloc (.cells #[.slice T2 tn2 tc2, .slice L2 ln lc2] TSto)) wx) ∧ Hid (Below wr.heap.size wr wx))
      case first =>
        refine wp_region_T 13 (fun Q => (Q.cell? ⟨w.heap.size, 1, none⟩ = some (.slice (some ⟨b1, o1, none⟩) ln lc) ∧ Q.cell? ⟨w.heap.size + 1, 1, none⟩ = some (.slice (some ⟨b2, o2, none⟩) ln lc2) ∧ Q.cell? ⟨b1, o1 + q * 5, none⟩ = some (.int .i64 a.table) ∧ Q.cell? ⟨b1, o1 + q * 5 + 1, none⟩ = some (.string a.id) ∧ Q.cell? ⟨b1, o1 + q * 5 + 2, none⟩ = some (.bool a.has) ∧ Q.cell? ⟨b1, o1 + q * 5 + 3, none⟩ = some (.string a.was.id) ∧ Q.cell? ⟨b1, o1 + q * 5 + 4, none⟩ = some (.slice D m c) ∧ Q.cell? ⟨b2, o2 + q * 5, none⟩ = some (.int .i64 b.table) ∧ Q.cell? ⟨b2, o2 + q * 5 + 1, none⟩ = some (.string b.id) ∧ Q.cell? ⟨b2, o2 + q * 5 + 2, none⟩ = some (.bool b.has) ∧ Q.cell? ⟨b2, o2 + q * 5 + 3, none⟩ = some (.string b.was.id) ∧ Q.cell? ⟨b2, o2 + q * 5 + 4, none⟩ = some (.slice E n d))) (by kernel_rfl) ?_
        refine wpAnyT_take (i := 0) (v := ?_) rfl (by kernel_rfl) (by kernel_rfl) (by kernel_rfl) (by kernel_rfl) (by kernel_rfl) (fun _ _ _ h => h) (.inl ⟨rfl, ?_⟩) HSA.out ?_
        rotate_left
        · intro W__ hW__
          obtain ⟨z1, z2, z3, z4, z5, z6, z7, z8, z9, z10, z11, z12⟩ := hW__
          go_simp
          (try with_reducible rfl)
        try simp only [Act.put]
        refine wpAnyT_take (i := 1) (v := ?_) rfl (by kernel_rfl) (by kernel_rfl) (by kernel_rfl) (by kernel_rfl) (by kernel_rfl) (fun _ _ _ h => h) (.inl ⟨rfl, ?_⟩) HSA.out ?_
        rotate_left
        · intro W__ hW__
          obtain ⟨z1, z2, z3, z4, z5, z6, z7, z8, z9, z10, z11, z12⟩ := hW__
          go_simp
          (try with_reducible rfl)
        try simp only [Act.put]
        refine wpAnyT_take (i := 2) (v := ?_) rfl (by kernel_rfl) (by kernel_rfl) (by kernel_rfl) (by kernel_rfl) (by kernel_rfl) (fun _ _ _ h => h) (.inl ⟨rfl, ?_⟩) HSA.out ?_
        rotate_left
        · intro W__ hW__
          obtain ⟨z1, z2, z3, z4, z5, z6, z7, z8, z9, z10, z11, z12⟩ := hW__
          go_simp
          (try with_reducible rfl)
        try simp only [Act.put]
        refine wpAnyT_take (i := 3) (v := ?_) rfl (by kernel_rfl) (by kernel_rfl) (by kernel_rfl) (by kernel_rfl) (by kernel_rfl) (fun _ _ _ h => h) (.inl ⟨rfl, ?_⟩) HSA.out ?_
        rotate_left
        · intro W__ hW__
          obtain ⟨z1, z2, z3, z4, z5, z6, z7, z8, z9, z10, z11, z12⟩ := hW__
          go_simp
          (try with_reducible rfl)
        try simp only [Act.put]
        refine wpAnyT_take (i := 4) (v := ?_) rfl (by kernel_rfl) (by kernel_rfl) (by kernel_rfl) (by kernel_rfl) (by kernel_rfl) (fun _ _ _ h => h) (.inl ⟨rfl, ?_⟩) HSA.out ?_
        rotate_left
        · intro W__ hW__
          obtain ⟨z1, z2, z3, z4, z5, z6, z7, z8, z9, z10, z11, z12⟩ := hW__
          go_simp
          (try with_reducible rfl)
        try simp only [Act.put]
        refine wpAnyT_take (i := 5) (v := ?_) rfl (by kernel_rfl) (by kernel_rfl) (by kernel_rfl) (by kernel_rfl) (by kernel_rfl) (fun _ _ _ h => h) (.inl ⟨rfl, ?_⟩) HSA.out ?_
        rotate_left
        · intro W__ hW__
          obtain ⟨z1, z2, z3, z4, z5, z6, z7, z8, z9, z10, z11, z12⟩ := hW__
          go_simp
          (try with_reducible rfl)
        try simp only [Act.put]
        refine wpAnyT_take (i := 6) (v := ?_) rfl (by kernel_rfl) (by kernel_rfl) (by kernel_rfl) (by kernel_rfl) (by kernel_rfl) (fun _ _ _ h => h) (.inl ⟨rfl, ?_⟩) HSA.out ?_
        rotate_left
        · intro W__ hW__
          obtain ⟨z1, z2, z3, z4, z5, z6, z7, z8, z9, z10, z11, z12⟩ := hW__
          go_simp
          (try with_reducible rfl)
        try simp only [Act.put]
        refine wpAnyT_take (i := 7) (v := ?_) rfl (by kernel_rfl) (by kernel_rfl) (by kernel_rfl) (by kernel_rfl) (by kernel_rfl) (fun _ _ _ h => h) (.inl ⟨rfl, ?_⟩) HSA.out ?_
        rotate_left
        · intro W__ hW__
          obtain ⟨z1, z2, z3, z4, z5, z6, z7, z8, z9, z10, z11, z12⟩ := hW__
          go_simp
          (try with_reducible rfl)
        try simp only [Act.put]
        refine wpAnyT_take (i := 8) (v := ?_) rfl (by kernel_rfl) (by kernel_rfl) (by kernel_rfl) (by kernel_rfl) (by kernel_rfl) (fun _ _ _ h => h) (.inl ⟨rfl, ?_⟩) HSA.out ?_
        rotate_left
        · intro W__ hW__
          obtain ⟨z1, z2, z3, z4, z5, z6, z7, z8, z9, z10, z11, z12⟩ := hW__
          go_simp
          (try with_reducible rfl)
        try simp only [Act.put]
        refine wpAnyT_take (i := 9) (v := ?_) rfl (by kernel_rfl) (by kernel_rfl) (by kernel_rfl) (by kernel_rfl) (by kernel_rfl) (fun _ _ _ h => h) (.inl ⟨rfl, ?_⟩) HSA.out ?_
        rotate_left
        · intro W__ hW__
          obtain ⟨z1, z2, z3, z4, z5, z6, z7, z8, z9, z10, z11, z12⟩ := hW__
          go_simp
          (try with_reducible rfl)
        try simp only [Act.put]
        refine wpAnyT_two (i := 10) (j := 11) rfl rfl (by kernel_rfl) rfl rfl (fun K__ hK__ => ?_) (fun K__ hK__ => ?_)
        · unfold Oper.wp
          go_simp
          refine hK__ _ _ (HSB.out _) ?_
          clear hK__
          try simp only [Act.put, List.setIfInBounds_toArray, List.set_cons_zero, List.set_cons_succ]
          refine wpAnyT_one (i := 11) rfl (by kernel_rfl) rfl fun K__ hK__ => ?_
          unfold Oper.wp
          go_simp
          refine hK__ _ _ (HSC.out _ _) ?_
          clear hK__
          refine wpAnyT_one (i := 12) rfl (by kernel_rfl) rfl fun K__ hK__ => ?_
          unfold Oper.wp
          go_simp
          refine hK__ _ _ (HSC.out _ _) ?_
          clear hK__
          try simp only [Act.put, List.setIfInBounds_toArray, List.set_cons_zero, List.set_cons_succ]
          refine wpAnyT_end (i := 13) rfl (by kernel_rfl) rfl (by kernel_rfl) fun K__ hK__ => ?_
          unfold Oper.wp
          go_simp
          refine hK__ _ _ ?_
          clear hK__
          refine wpAnyT_done (by kernel_rfl) ?_ _
          go_wp2
          go_meet
          exact ⟨_, _, rfl, rfl, Lib.hid (blkA _ _ _ _ _), Lib.hid (blkV2 _ _ _ _ _), HKF.out _ _, HKR.out _ _⟩
        · unfold Oper.wp
          go_simp
          refine hK__ _ _ (HSB.out _) ?_
          clear hK__
          try simp only [Act.put, List.setIfInBounds_toArray, List.set_cons_zero, List.set_cons_succ]
          refine wpAnyT_one (i := 10) rfl (by kernel_rfl) rfl fun K__ hK__ => ?_
          unfold Oper.wp
          go_simp
          refine hK__ _ _ (HSC.out _ _) ?_
          clear hK__
          refine wpAnyT_one (i := 12) rfl (by kernel_rfl) rfl fun K__ hK__ => ?_
          unfold Oper.wp
          go_simp
          refine hK__ _ _ (HSC.out _ _) ?_
          clear hK__
          try simp only [Act.put, List.setIfInBounds_toArray, List.set_cons_zero, List.set_cons_succ]
          refine wpAnyT_end (i := 13) rfl (by kernel_rfl) rfl (by kernel_rfl) fun K__ hK__ => ?_
          unfold Oper.wp
          go_simp
          refine hK__ _ _ ?_
          clear hK__
          refine wpAnyT_done (by kernel_rfl) ?_ _
          go_wp2
          go_meet
          exact ⟨_, _, rfl, rfl, Lib.hid (blkV2 _ _ _ _ _), Lib.hid (blkA _ _ _ _ _), HKF.out _ _, HKR.out _ _⟩
      case rest =>
        obtain ⟨bx, bz, rfl, rfl, HBX, HBZ, HKX, HKY⟩ := hcut
        have HFX := Lib.hid (HP.out _ HKX.out).1
        have HSR := Lib.hid (ref27_SameRecord D E m c n d a.was b.was wc (AtK.keep HAC.out (Keep.of HKY.out)) (AtK.keep HBC.out (Keep.of HKY.out)) HDL HEL)
        have HA' : Hid (sl[q]? = some a) := HA
        have HB' : Hid (ul[q]? = some b) := HB
        have HNE := Lib.hid (show a ≠ b → o = false from fun h => by rw [← HO.out]; exact decide_eq_false fun hh => h (by injection hh with _ e2; subst e2; exact Option.some.inj (HA'.out.symm.trans HB'.out)))
        clear HAC HBC HDL HEL HA HB
        obtain ⟨at', ai, ah, aw⟩ := a
        obtain ⟨bt, bi, bh, bw⟩ := b
        dsimp only at *
        have x0 := HBX.out.cell 0; have x1 := HBX.out.cell 1; have x2 := HBX.out.cell 2; have x3 := HBX.out.cell 3; have x4 := HBX.out.cell 4; have xl := HBX.out.lt
        have y0 := HBZ.out.cell 0; have y1 := HBZ.out.cell 1; have y2 := HBZ.out.cell 2; have y3 := HBZ.out.cell 3; have y4 := HBZ.out.cell 4; have yl := HBZ.out.lt
        by_cases e0 : at' = bt
        case neg =>
          have HN := Lib.hid (HNE.out fun h => e0 (by injection h))
          have t0 : (at' == bt) = false := by simpa using e0
          have t0' : (at' != bt) = true := by simpa using e0
          clear e0
          go_wp2
          go_ret
          exact ⟨ret_bool HN.out.symm, HFX.out⟩
        subst e0
        have t0 : (at' == at') = true := by simp
        have t0' : (at' != at') = false := by simp
        by_cases e1 : ai = bi
        case neg =>
          have HN := Lib.hid (HNE.out fun h => e1 (by injection h))
          have t1 : (ai.toList == bi.toList) = false := by rw [beq_eq_false_iff_ne]; exact fun h => e1 (toList_inj h)
          clear e1
          go_wp2
          go_ret
          exact ⟨ret_bool HN.out.symm, HFX.out⟩
        subst e1
        have t1 : (ai.toList == ai.toList) = true := by simp
        by_cases e2 : ah = bh
        case neg =>
          have HN := Lib.hid (HNE.out fun h => e2 (by injection h))
          cases ah <;> cases bh
          all_goals first
            | exact absurd rfl e2
            | (clear e2; go_wp2; go_ret; exact ⟨ret_bool HN.out.symm, HFX.out⟩)
        subst e2
        have t2 : (ah == ah) = true := by simp
        by_cases e3 : aw = bw
        case neg =>
          have HN := Lib.hid (HNE.out fun h => e3 (by injection h))
          rw [decide_eq_false e3] at HSR
          clear e3
          go_wp2_with fail
          refine HSR.out.mono ?_
          rintro e w5 ⟨rfl, k⟩
          have HF5 := Lib.hid (HFX.out.trans (k.mono HFX.out.size))
          clear k
          go_wp2
          go_ret
          exact ⟨ret_bool HN.out.symm, HF5.out⟩
        rw [decide_eq_true e3] at HSR
        have HE3 := Lib.hid e3
        clear e3
        go_wp2_with fail
        refine HSR.out.mono ?_
        rintro e w5 ⟨rfl, k⟩
        have HF5 := Lib.hid (HKX.out.trans (k.mono HKX.out.size))
        clear k
        go_wp2
        go_roundw
        case rel => exact ⟨q + 1, by go_num, by omega, HF5, Lib.hid (by rw [take_snoc HA'.out, take_snoc HB'.out, HE.out, HE3.out])⟩
        case measure => simp [intOf]; omega
    · have : q = ln := by omega
      subst this
      have i2 : ¬ (q : Int) < (q : Int) := by omega
      have HN := Lib.hid (show o = true by rw [← HO.out]; exact decide_eq_true (by have := HE.out; rw [List.take_of_length_le (by rw [HX.out]; omega), List.take_of_length_le (by rw [HY.out]; omega)] at this; rw [HXY.out, this]))
      go_wp2
      go_ret
      exact ⟨ret_bool HN.out.symm, HFR.out⟩
end Go.Proofs.YtbdkedjgfihamaaGreatDoor

namespace Pv
open Go Go.RowKit
/-- A member named; an object of members. -/
def memC (x : Cel) (nm : ByteArray) : Cel := { x with name := nm }
def objC (xs : List Cel) (nms : List ByteArray) (n q : Nat) : List Cel := ⟨7, ByteArray.empty, ByteArray.empty, 0, n⟩ :: List.zipWith memC (xs.take q) (nms.take q)
theorem objC_len {xs : List Cel} {nms : List ByteArray} {n q : Nat} (h1 : q ≤ xs.length) (h2 : q ≤ nms.length) : (objC xs nms n q).length = q + 1 := by
  unfold objC
  simp only [List.length_cons, List.length_zipWith, List.length_take]
  omega
theorem objC_succ {xs : List Cel} {nms : List ByteArray} {n q : Nat} {x : Cel} {nm : ByteArray} (h1 : xs[q]? = some x) (h2 : nms[q]? = some nm) : objC xs nms n (q + 1) = (objC xs nms n q ++ [x]).set (q + 1) (memC x nm) := by
  have e1 := lt_of_get h1; have e2 := lt_of_get h2
  have hl := objC_len (xs := xs) (nms := nms) (n := n) (Nat.le_of_lt e1) (Nat.le_of_lt e2)
  rw [List.set_append_right _ _ (by omega), hl, Nat.sub_self, List.set_cons_zero]
  unfold objC
  rw [take_snoc h1, take_snoc h2, List.zipWith_append (by simp only [List.length_take]; omega)]
  rfl
end Pv
namespace Go.Proofs.YtbdkedjgfihamaaGreatDoor
open Go.RowKit Pv Go.Maps
def ValsAt (w : World) (A : Option Addr) (n : Nat) (xs : List Cel) : Prop := ∀ q, q < n → ∃ b off D dc x, A = some ⟨b, off, none⟩ ∧ b < w.heap.size ∧ w.cell? ⟨b, off + q, none⟩ = some (.slice D 1 dc) ∧ AtCel w D [x] ∧ xs[q]? = some x
theorem ValsAt.keep {w w' : World} {A : Option Addr} {n : Nat} {xs : List Cel} (h : ValsAt w A n xs) (k : Below w.heap.size w w') : ValsAt w' A n xs := fun q hq => by
  obtain ⟨b, off, D, dc, x, h1, h2, h3, h4, h5⟩ := h q hq
  exact ⟨b, off, D, dc, x, h1, Nat.lt_of_lt_of_le h2 k.size, (k.cell (p := ⟨b, off + q, none⟩) h2).trans h3, AtK.keep h4 (Keep.of k), h5⟩
set_option maxHeartbeats 4000000 in
set_option maxRecDepth 100000 in
theorem mem_name (N : Option Addr) (nn nc rb q : Nat) (nms : List ByteArray) (nm : ByteArray) (W : World) (hc : W.cell? ⟨rb, 0, none⟩ = some (.slice N nn nc)) (_hl : rb < W.heap.size) (h : At W N RStr nms) (HL : Hid (nms.length = nn)) (hx : nms[q]? = some nm) :
    Calls Tryz.prog 73 #[.int .i64 q, .pointer (some ⟨rb, 0, none⟩)] W fun e w' => e = .returned (.string nm) ∧ w' = W := by
  have hq : q < nn := by have := lt_of_get hx; rwa [HL.out] at this
  obtain ⟨b, off, u, x, rfl, lb, c0, hu, HX⟩ := At.gt h HL hq
  obtain ⟨rfl, _⟩ := hu
  obtain rfl : x = nm := Option.some.inj (HX.out.symm.trans hx)
  have i1 : (0 : Int) ≤ (q : Int) := by omega
  have i2 : (q : Int) < (nn : Int) := by omega
  clear h hx
  go_enter Tryz.func73, Tryz.ntmps73
  go_wp2
  go_ret
  exact ⟨rfl, rfl⟩
/-- A cell of an own list laid with a name. -/
theorem own_named {W : World} {base g n c q : Nat} {l : List Cel} {x : Cel} {nm : ByteArray} (h : OwnC W base (.slice (some ⟨g, 0, none⟩) n c) l) (hq : q < n) (hx : l[q]? = some x) (hn : nm.size ≤ 140737488355328) :
    OwnC (W.setCell ⟨g, q * 5 + 1, none⟩ (.string nm)) base (.slice (some ⟨g, 0, none⟩) n c) (l.set q (memC x nm)) := by
  obtain ⟨g', cur, y, f, hA, hge, hb, hy, hf, hR⟩ := h.gt hq
  obtain rfl : g = g' := by injection hA with e; injection e
  obtain rfl : y = x := Option.some.inj (hy.symm.trans hx)
  obtain ⟨r0, r1, r2, r3, r4⟩ := hR
  have hsz : q * 5 + 4 < cur.size := lt_of_getA (hf 4 (by omega))
  refine h.lay (f := fun j => if j = 1 then .string nm else f j) hq hb (RowSet.set hb (q * 5 + 1) (.string nm)) (by simp) (fun j hj => ?_) (fun p hp => ?_) (fun _ _ _ h => h) ⟨r0, ⟨rfl, hn⟩, r2, r3, r4⟩
  · by_cases h1 : j = 1
    · subst h1; rw [Array.getElem?_setIfInBounds_self_of_lt (by omega)]; rfl
    · rw [Array.getElem?_setIfInBounds_ne (by omega), if_neg h1]; exact hf j hj
  · rw [Array.getElem?_setIfInBounds_ne (by omega)]
set_option maxHeartbeats 8000000 in
set_option maxRecDepth 100000 in
theorem cell_put (B : Nat) (A N : Option Addr) (c n nc rb : Nat) (xs : List Cel) (nms : List ByteArray) (w : World) (hv : ValsAt w A n xs) (hn : n ≤ 100) (HX : Hid (xs.length = n)) (hc : w.cell? ⟨rb, 0, none⟩ = some (.slice N n nc)) (hl : rb < w.heap.size) (ha : At w N RStr nms) (HL : Hid (nms.length = n))
    (hm : ∀ x, x ∈ xs → mayV [x] = true ∧ CelsB [x]) (hob : CelsB (objC xs nms n n)) (hmo : mayV (objC xs nms n n) = true) (hT : TabS B w) (hB : B ≤ w.heap.size) :
    Calls Tryz.prog 72 #[.int .u8 7, .slice A n c, .func (.func 73) #[] #[.pointer (some ⟨rb, 0, none⟩)]] w fun e w' => ∃ O oc, e = .returned (.tuple #[.slice O (n + 1) oc, .int .i64 0]) ∧ OwnC w' w.heap.size (.slice O (n + 1) oc) (objC xs nms n n) ∧ Below w.heap.size w w' := by
  obtain ⟨i0, hi0, hz0, hs0, hb0⟩ := info_parts info_cell
  have HV := Lib.hid hv; have HM := Lib.hid hm; have HT := Lib.hid hT; have HA := Lib.hid ha; have HC := Lib.hid hc; have HOB := Lib.hid hob; have HMO := Lib.hid hmo
  have k0 : Below w.heap.size w (w.alloc (.cells #[.int .u8 7, .string ⟨#[]⟩, .string ⟨#[]⟩, .int .i64 0, .int .i64 (n : Int)] TCe)) := (Below.refl _ _).alloc (Nat.le_refl _) _
  have HK0 := Lib.hid k0
  have HO0 : Hid (OwnC (w.alloc (.cells #[.int .u8 7, .string ⟨#[]⟩, .string ⟨#[]⟩, .int .i64 0, .int .i64 (n : Int)] TCe)) w.heap.size (.slice (some ⟨w.heap.size, 0, none⟩) (0 + 1) 1) (objC xs nms n 0)) := Lib.hid (by
    have e : objC xs nms n 0 = [⟨7, ByteArray.empty, ByteArray.empty, 0, n⟩] := by unfold objC; simp
    rw [e]
    exact ⟨_, 1, _, rfl, own_of_blk (Blk.new w TCe _) (Nat.le_refl _) rfl (show 1 ≤ maxLen by decide), RelK.one (f := f5 (.int .u8 7) (.string ⟨#[]⟩) (.string ⟨#[]⟩) (.int .i64 0) (.int .i64 (n : Int))) rfl (fun j hj => by match j, hj with | 0, _ => rfl | 1, _ => rfl | 2, _ => rfl | 3, _ => rfl | 4, _ => rfl) ⟨⟨rfl, by simp⟩, ⟨rfl, by simp⟩, ⟨rfl, by simp⟩, ⟨rfl, by simp⟩, ⟨rfl, by simp only; omega⟩⟩⟩)
  have h1 : ¬ (2048 : Int) < (n : Int) := by omega
  clear hv hm hT ha hc hob hmo k0
  go_enter Tryz.func72, Tryz.ntmps72
  go_wp2
  go_loopw [23, 8] (fun iv ov W => ∃ (q oc : Nat) (O : Option Addr), iv = .int .i64 q ∧ ov = .slice O (q + 1) oc ∧ q ≤ n ∧ Hid (OwnC W w.heap.size (.slice O (q + 1) oc) (objC xs nms n q)) ∧ Hid (Below w.heap.size w W)) (fun iv _ _ => n - (intOf iv).toNat)
  case atStart => exact ⟨0, 1, _, rfl, rfl, by omega, HO0, HK0⟩
  case round =>
    obtain ⟨q, oc, O, rfl, rfl, hq, HO, HW⟩ := hrel
    have hWs := HW.out.size
    by_cases hlt : q < n
    · obtain ⟨b, off, D, dc, x, rfl, lb, c0, hD, hx⟩ := HV.out.keep HW.out q hlt
      obtain ⟨nm, hnm⟩ : ∃ nm, nms[q]? = some nm := ⟨_, List.getElem?_eq_getElem (by rw [HL.out]; exact hlt)⟩
      obtain ⟨m1, m2⟩ := HM.out x (mem_of_get hx)
      have HCK := Lib.hid (cell_Check B D dc 1 [x] wr hD (Lib.hid rfl) m2 (HT.out.next (HW.out.mono hB)) (by omega))
      simp only [m1, if_true] at HCK
      have HXX := Lib.hid hx; have HNM := Lib.hid hnm; have HDD := Lib.hid hD
      have i1 : (0 : Int) ≤ (q : Int) := by omega
      have i2 : (q : Int) < (n : Int) := by omega
      clear hD hx hnm m1 m2
      go_wp2_with fail
      refine HCK.out.mono ?_
      rintro e w1 ⟨rfl, k⟩
      have HK1 := Lib.hid (HW.out.trans (k.mono hWs))
      have HO1 := Lib.hid (OwnK.below HO.out k)
      obtain ⟨us', hrel', hsrc'⟩ := AtK.src (AtK.keep HDD.out (Keep.of k)) (fun f x h => RCel.one h)
      have HSR := Lib.hid hsrc'; have HRL' := Lib.hid hrel'
      obtain ⟨hql, us, how, hrl⟩ := HO1.out.slice
      have HOW := Lib.hid how; have HRL := Lib.hid hrl; have HQL := Lib.hid hql
      have Q1 : Hid (q + 1 + 1 ≤ maxLen) := Lib.hid (by simp only [maxLen]; omega)
      have Q2 : Hid ((q + 1 + 1) * 56 ≤ 140737488355328) := Lib.hid (by omega)
      have Q3 := Lib.hid HK1.out.size
      clear k hql how hrl hsrc' hrel' c0 lb
      go_wp2_with (first
      | (at_builtin
         go_must (refine wpList_append_src _ rfl (.tmp 35) (.tmp 36) 30 rfl w.heap.size TCe i0 _ 5 56 Tryz.underlying30 hi0 hz0 hs0 hb0 rfl (by decide) O oc (q + 1) us rfl HOW.out D 1 dc us' rfl HSR.out Q1.out Q2.out Q3.out ?_)
         intro A9 c9 w9 own9 gr9 _
         have HW9 := Lib.hid (HK1.out.grown gr9 Q3.out (fun g hg => (HOW.out.lt g hg).1))
         have HO9 : Hid (OwnC w9 w.heap.size (.slice A9 (q + 1 + 1) c9) (objC xs nms n q ++ [x])) := Lib.hid ⟨A9, c9, us ++ us', by rw [List.length_append, HQL.out]; rfl, by rw [List.length_append, HQL.out]; exact own9, HRL.out.app HRL'.out⟩
         clear own9 gr9)
      | fail)
      refine (mem_name N n nc rb q nms nm w9 ((HW9.out.cell (p := ⟨rb, 0, none⟩) hl).trans HC.out) (Nat.lt_of_lt_of_le hl HW9.out.size) (At.keep HA.out (Keep.of HW9.out)) HL HNM.out).mono ?_
      rintro e w2 ⟨rfl, rfl⟩
      obtain ⟨g, cur, y, f, hA9, hge, hbg, hy, hfy, _⟩ := HO9.out.gt (show q + 1 < q + 1 + 1 by omega)
      subst hA9
      have yf := hbg.frozen ((q + 1) * 5 + 1); have yl := hbg.lt; have yc := (hbg.cell ((q + 1) * 5 + 1)).trans (hfy 1 (by omega))
      have j1 : (0 : Int) ≤ ((q + 1 : Nat) : Int) := by omega
      have j2 : ((q + 1 : Nat) : Int) < ((q + 1 + 1 : Nat) : Int) := by omega
      have hnb : nm.size ≤ 140737488355328 := by
        obtain ⟨_, _, _, z, _, _, _, hz, hzz⟩ := At.gt HA.out HL hlt
        obtain rfl : z = nm := Option.some.inj (hzz.out.symm.trans HNM.out)
        exact hz.2
      have HO10 := Lib.hid (own_named HO9.out (show q + 1 < q + 1 + 1 by omega) (x := x) (nm := nm) (by rw [List.getElem?_append_right (by rw [HQL.out]; omega), HQL.out, Nat.sub_self]; rfl) hnb)
      have HW10 := Lib.hid (HW9.out.setCell (p := ⟨g, (q + 1) * 5 + 1, none⟩) hge (.string nm))
      clear hge hbg hy hfy hnb
      go_wp2
      go_roundw
      case rel => exact ⟨q + 1, c9, _, by go_num, rfl, by omega, Lib.hid (by rw [objC_succ HXX.out HNM.out]; exact HO10.out), HW10⟩
      case measure => simp [intOf]; omega
    · obtain rfl : q = n := by omega
      obtain ⟨hql, us, how, hrl⟩ := HO.out.slice
      have hat := (AtK.of_own how hrl hql.symm (by rw [hql]; omega)).2
      have HCK := Lib.hid (cell_Check B O oc (q + 1) (objC xs nms q q) wr hat (Lib.hid hql) HOB.out (HT.out.next (HW.out.mono hB)) (by omega))
      simp only [HMO.out, if_true] at HCK
      have i2 : ¬ (q : Int) < (q : Int) := by omega
      clear hql how hrl hat
      go_wp2_with fail
      refine HCK.out.mono ?_
      rintro e w1 ⟨rfl, k⟩
      have HF := Lib.hid (HW.out.trans (k.mono hWs))
      have HOF := Lib.hid (OwnK.below HO.out k)
      clear k
      go_wp2
      go_ret2
      exact ⟨O, oc, rfl, HOF.out, HF.out⟩
set_option maxHeartbeats 4000000 in
set_option maxRecDepth 100000 in
theorem cell_Members (B : Nat) (A N : Option Addr) (c n nc : Nat) (xs : List Cel) (nms : List ByteArray) (w : World) (hv : ValsAt w A n xs) (hn : n ≤ 100) (HX : Hid (xs.length = n)) (ha : At w N RStr nms) (HL : Hid (nms.length = n))
    (hm : ∀ x, x ∈ xs → mayV [x] = true ∧ CelsB [x]) (hob : CelsB (objC xs nms n n)) (hmo : mayV (objC xs nms n n) = true) (hT : TabS B w) (hB : B ≤ w.heap.size) :
    Calls Tryz.prog 37 #[.slice N n nc, .slice A n c] w fun e w' => ∃ O oc, e = .returned (.tuple #[.slice O (n + 1) oc, .int .i64 0]) ∧ OwnC w' w.heap.size (.slice O (n + 1) oc) (objC xs nms n n) ∧ Below w.heap.size w w' := by
  have k0 : Below w.heap.size w (w.alloc (.cells #[.slice N n nc] 61)) := (Below.refl _ _).alloc (Nat.le_refl _) _
  have HPU := Lib.hid (cell_put B A N c n nc w.heap.size xs nms _ (hv.keep k0) hn HX ((Blk.new w 61 #[.slice N n nc]).cell 0) (Blk.new w 61 #[.slice N n nc]).lt (At.keep ha (Keep.of k0)) HL hm hob hmo (hT.next (k0.mono hB)) (Nat.le_trans hB k0.size))
  have HK0 := Lib.hid k0
  have h1 : ((n : Int) != (n : Int)) = false := by simp
  clear hv ha hm hob hmo hT k0
  go_enter Tryz.func37, Tryz.ntmps37
  go_wp2_with fail
  refine HPU.out.mono ?_
  rintro e w1 ⟨O, oc, rfl, ho, k⟩
  have HF := Lib.hid (HK0.out.trans (k.mono HK0.out.size))
  have HOF := Lib.hid (OwnK.lower ho HK0.out.size)
  clear k ho
  go_wp2
  go_ret2
  exact ⟨O, oc, rfl, HOF.out, HF.out⟩
end Go.Proofs.YtbdkedjgfihamaaGreatDoor
