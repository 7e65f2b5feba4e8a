/- Walks: whether two automata are the same (the document's). -/
import Derived.Test.YtcmmmgblkbbdnaaGreatDoorZnh
import Derived.Test.YtcmmmgblkbbdnaaGreatDoorPdh
import Derived.Test.YtcmmmgblkbbdnaaGreatDoorQth
import Derived.RegionTactic
namespace Go.Proofs.YtcmmmgblkbbdnaaGreatDoor
open Go.RowKit Pv

set_option maxHeartbeats 2000000 in
set_option maxRecDepth 100000 in
theorem ref09_Same (A B : Option Addr) (c d n m : Nat) (acc acc' : Int) (a b : Au) (w : World) (ha : AtAu w A a) (hb : AtAu w B b) (HL : Hid (a.length = n)) (HM : Hid (b.length = m)) :
    Calls Tryz.prog 56 #[.agg #[.slice A n c, .int .i64 acc], .agg #[.slice B m d, .int .i64 acc']] w fun e w' => e = .returned (.bool (decide (a = b ∧ acc = acc'))) ∧ Below w.heap.size w w' := by
  have hW : Below w.heap.size w ((w.alloc (.cells #[.slice A n c, .int .i64 acc] TAuto)).alloc (.cells #[.slice B m d, .int .i64 acc'] TAuto)) := ((Below.refl _ _).alloc (Nat.le_refl _) _).alloc (by simp) _
  have BK := blk2 w #[.slice A n c, .int .i64 acc] #[.slice B m d, .int .i64 acc'] TAuto TAuto
  have BK1 := Lib.hid BK.1; have BK2 := Lib.hid BK.2
  obtain ⟨p0, p1, _, _⟩ := Blk.two BK.1
  obtain ⟨r0, r1, _, _⟩ := Blk.two BK.2
  have HW := Lib.hid hW
  obtain ⟨ans, hans⟩ : ∃ ans, decide (a = b ∧ acc = acc') = ans := ⟨_, rfl⟩
  rw [hans]
  have HANS := Lib.hid hans
  clear hans
  by_cases hlen : n = m
  case neg =>
    have h1 : ((n : Int) != (m : Int)) = true := by simp; omega
    have HN := Lib.hid (show false = ans by rw [← HANS.out]; exact (decide_eq_false fun h => hlen (by rw [← HL.out, ← HM.out, h.1])).symm)
    clear hlen ha hb BK hW
    go_enter Tryz.func56, Tryz.ntmps56
    go_wp2
    go_ret
    exact ⟨ret_bool HN.out, HW.out⟩
  have hl : n ≤ 140737488355328 := by have := ha.1; rwa [HL.out] at this
  subst hlen
  have h1 : ((n : Int) != (n : Int)) = false := by simp
  by_cases hacc : acc = acc'
  case neg =>
    have h2 : (acc != acc') = true := by simpa using hacc
    have HN := Lib.hid (show false = ans by rw [← HANS.out]; exact (decide_eq_false fun h => hacc h.2).symm)
    clear hacc ha hb BK hW
    go_enter Tryz.func56, Tryz.ntmps56
    go_wp2
    go_ret
    exact ⟨ret_bool HN.out, HW.out⟩
  subst hacc
  have h2 : (acc != acc) = false := by simp
  have HA := Lib.hid ha; have HB := Lib.hid hb
  clear ha hb BK hW
  go_enter Tryz.func56, Tryz.ntmps56
  go_wp2
  go_loopw [5] (fun iv wr => ∃ i : Nat, iv = .int .i64 i ∧ i ≤ n ∧ Below w.heap.size w wr ∧ Blk wr w.heap.size TAuto #[.slice A n c, .int .i64 acc] ∧ Blk wr (w.heap.size + 1) TAuto #[.slice B n d, .int .i64 acc] ∧ a.take i = b.take i) (fun iv _ => n - (intOf iv).toNat)
  case atStart => exact ⟨0, rfl, by omega, HW.out, BK1.out, BK2.out, by simp⟩
  case round =>
    clear p0 p1 r0 r1
    obtain ⟨i, rfl, hi, hbel, hb1, hb2, heq⟩ := hrel
    have B1 := Lib.hid hb1; have B2 := Lib.hid hb2; have HBE := Lib.hid hbel; have HEQ := Lib.hid heq
    clear hb1 hb2 hbel heq
    obtain ⟨p0, p1, _, _⟩ := Blk.two B1.out
    obtain ⟨r0, r1, _, _⟩ := Blk.two B2.out
    have hN1 := B1.out.lt; have hN2 := B2.out.lt
    by_cases hlt : i < n
    · obtain ⟨b1, o1, S1, m1, s1, es, rfl, hl1, hc1, hS1, HM1, _, HX⟩ := AtAu.gt (HA.out.keep (Keep.of HBE.out)) HL hlt
      obtain ⟨b2, o2, S2, m2, s2, es', rfl, hl2, hc2, hS2, HM2, _, HY⟩ := AtAu.gt (HB.out.keep (Keep.of HBE.out)) HM hlt
      have HNE := Lib.hid (show es ≠ es' → false = ans from fun h => by rw [← HANS.out]; exact (decide_eq_false fun hh => h (by obtain ⟨rfl, _⟩ := hh; exact Option.some.inj (HX.out.symm.trans HY.out))).symm)
      have hm1 : m1 ≤ 140737488355328 := by have := hS1.1; rwa [HM1.out] at this
      have HS1 := Lib.hid hS1; have HS2 := Lib.hid hS2
      clear hS1 hS2
      by_cases hmm : m1 = m2
      case neg =>
        have t1 : ((m1 : Int) != (m2 : Int)) = true := by simp; omega
        have HN := Lib.hid (HNE.out (fun e => hmm (by rw [← HM1.out, ← HM2.out, e])))
        clear hmm
        go_wp2
        refine wp_region_grown (by kernel_rfl) (by kernel_rfl) ?_
        have hgc__ := @Grown.cell
        repeat (go_big_quiet_step (fail))
        refine wpQuiet_nil ?_
        clear hgc__
        intro _ hw__
        obtain ⟨⟨w1, hb1⟩, hw__⟩ := hw__
        simp only at hw__
        subst hw__
        go_wp2
        go_ret
        exact ⟨ret_bool HN.out, HBE.out.trans (hb1.mono HBE.out.size)⟩
      subst hmm
      have t1 : ((m1 : Int) != (m1 : Int)) = false := by simp
      go_wp2
      refine wp_region_grown (by kernel_rfl) (by kernel_rfl) ?_
      have hgc__ := @Grown.cell
      repeat (go_big_quiet_step (fail))
      refine wpQuiet_nil ?_
      clear hgc__
      intro _ hw__
      obtain ⟨⟨w1, hb1⟩, hw__⟩ := hw__
      simp only at hw__
      subst hw__
      rename_i w1
      have C1 := Lib.hid (B1.out.below hb1 (B1.out.lt)); have C2 := Lib.hid (B2.out.below hb1 B2.out.lt)
      have E1 := Lib.hid (AtEd.keep HS1.out (Keep.of hb1)); have E2 := Lib.hid (AtEd.keep HS2.out (Keep.of hb1))
      have D1 := Lib.hid (((Keep.of hb1).cell _ _ hl1).trans hc1); have D2 := Lib.hid (((Keep.of hb1).cell _ _ hl2).trans hc2)
      have HBF := Lib.hid (HBE.out.trans (hb1.mono HBE.out.size))
      have L1 := Nat.lt_of_lt_of_le hl1 hb1.size; have L2 := Nat.lt_of_lt_of_le hl2 hb1.size
      clear hb1 p0 p1 r0 r1 hc1 hc2
      obtain ⟨p0, p1, _, _⟩ := Blk.two C1.out
      obtain ⟨r0, r1, _, _⟩ := Blk.two C2.out
      have d1 := D1.out; have d2 := D2.out
      go_wp2
      go_loopw [6] (fun kv wr => ∃ k : Nat, kv = .int .i64 k ∧ k ≤ m1 ∧ Below w1.heap.size w1 wr ∧ Blk wr w.heap.size TAuto #[.slice (some ⟨b1, o1, none⟩) n c, .int .i64 acc] ∧ Blk wr (w.heap.size + 1) TAuto #[.slice (some ⟨b2, o2, none⟩) n d, .int .i64 acc] ∧ es.take k = es'.take k) (fun kv _ => m1 - (intOf kv).toNat)
      case atStart => exact ⟨0, rfl, by omega, Below.refl _ _, C1.out, C2.out, by simp⟩
      case round =>
        clear p0 p1 r0 r1 d1 d2
        obtain ⟨k, rfl, hk, hbel, hb1, hb2, heq⟩ := hrel
        have G1 := Lib.hid hb1; have G2 := Lib.hid hb2; have GB := Lib.hid hbel; have GE := Lib.hid heq
        clear hb1 hb2 hbel heq
        obtain ⟨p0, p1, _, _⟩ := Blk.two G1.out
        obtain ⟨r0, r1, _, _⟩ := Blk.two G2.out
        have d1 := ((Keep.of GB.out).cell _ _ L1).trans D1.out
        have d2 := ((Keep.of GB.out).cell _ _ L2).trans D2.out
        by_cases hkt : k < m1
        · obtain ⟨q1, f1, tto, fr, T1, e1, x1, l1, rfl, hq1, ⟨a0, a1, a2⟩, hT1, HT1, _, hto, HZ⟩ := AtEd.gt (AtEd.keep E1.out (Keep.of GB.out)) HM1 hkt
          obtain ⟨q2, f2, to', fr', T2, e2, x2, l2, rfl, hq2, ⟨z0, z1, z2⟩, hT2, HT2, _, hto', HY2⟩ := AtEd.gt (AtEd.keep E2.out (Keep.of GB.out)) HM2 hkt
          have HNX := Lib.hid (show (⟨tto, fr, l1⟩ : Ed) ≠ ⟨to', fr', l2⟩ → es ≠ es' from fun h hh => h (by subst hh; exact Option.some.inj (HZ.out.symm.trans HY2.out)))
          have HS1' := Lib.hid hT1; have HS2' := Lib.hid hT2
          have K1 : Hid (wr.drew.cell? ⟨w.heap.size, 0, none⟩ = some (.slice (some ⟨b1, o1, none⟩) n c) ∧ wr.drew.cell? ⟨w.heap.size + 1, 0, none⟩ = some (.slice (some ⟨b2, o2, none⟩) n d) ∧ wr.drew.cell? ⟨b1, o1 + i, none⟩ = some (.slice (some ⟨q1, f1, none⟩) m1 s1) ∧ wr.drew.cell? ⟨b2, o2 + i, none⟩ = some (.slice (some ⟨q2, f2, none⟩) m1 s2) ∧ wr.drew.cell? ⟨q1, f1 + k * 3, none⟩ = some (.int .i64 tto) ∧ wr.drew.cell? ⟨q1, f1 + k * 3 + 1, none⟩ = some (.bool fr) ∧ wr.drew.cell? ⟨q1, f1 + k * 3 + 2, none⟩ = some (.slice T1 e1 x1) ∧ wr.drew.cell? ⟨q2, f2 + k * 3, none⟩ = some (.int .i64 to') ∧ wr.drew.cell? ⟨q2, f2 + k * 3 + 1, none⟩ = some (.bool fr') ∧ wr.drew.cell? ⟨q2, f2 + k * 3 + 2, none⟩ = some (.slice T2 e2 x2)) := Lib.hid ⟨p0, r0, d1, d2, a0, a1, a2, z0, z1, z2⟩
          clear hT1 hT2
          have KB := Lib.hid (fun (W : World) (hb : Below wr.heap.size wr W) => (show W.cell? ⟨w.heap.size, 0, none⟩ = some (.slice (some ⟨b1, o1, none⟩) n c) ∧ W.cell? ⟨w.heap.size + 1, 0, none⟩ = some (.slice (some ⟨b2, o2, none⟩) n d) ∧ W.cell? ⟨b1, o1 + i, none⟩ = some (.slice (some ⟨q1, f1, none⟩) m1 s1) ∧ W.cell? ⟨b2, o2 + i, none⟩ = some (.slice (some ⟨q2, f2, none⟩) m1 s2) ∧ W.cell? ⟨q1, f1 + k * 3, none⟩ = some (.int .i64 tto) ∧ W.cell? ⟨q1, f1 + k * 3 + 1, none⟩ = some (.bool fr) ∧ W.cell? ⟨q1, f1 + k * 3 + 2, none⟩ = some (.slice T1 e1 x1) ∧ W.cell? ⟨q2, f2 + k * 3, none⟩ = some (.int .i64 to') ∧ W.cell? ⟨q2, f2 + k * 3 + 1, none⟩ = some (.bool fr') ∧ W.cell? ⟨q2, f2 + k * 3 + 2, none⟩ = some (.slice T2 e2 x2) from by
            have kp := Keep.of hb
            have l1 := Nat.lt_of_lt_of_le L1 GB.out.size
            have l2 := Nat.lt_of_lt_of_le L2 GB.out.size
            exact ⟨(kp.cell _ _ G1.out.lt).trans p0, (kp.cell _ _ G2.out.lt).trans r0, (kp.cell _ _ l1).trans d1, (kp.cell _ _ l2).trans d2, (kp.cell _ _ hq1).trans a0, (kp.cell _ _ hq1).trans a1, (kp.cell _ _ hq1).trans a2, (kp.cell _ _ hq2).trans z0, (kp.cell _ _ hq2).trans z1, (kp.cell _ _ hq2).trans z2⟩))
          have HA1 : Below wr.heap.size wr (wr.alloc (.cells #[.int .i64 0, .bool false, .slice none 0 0] TEdge)).drew := ((Below.refl _ _).alloc (Nat.le_refl _) _).drew
          have HA2 : Below wr.heap.size wr ((wr.alloc (.cells #[.int .i64 0, .bool false, .slice none 0 0] TEdge)).alloc (.cells #[.int .i64 0, .bool false, .slice none 0 0] TEdge)).drew := (((Below.refl _ _).alloc (Nat.le_refl _) _).alloc (by simp) _).drew
          have KA1 := Lib.hid (KB.out _ HA1)
          have KA2 := Lib.hid (KB.out _ HA2)
          have HHA := Lib.hid HA2
          have BB := Lib.hid (blk2 wr #[.int .i64 0, .bool false, .slice none 0 0] #[.int .i64 0, .bool false, .slice none 0 0] TEdge TEdge)
          have HCS := Lib.hid (fun (W : World) (hb : Below wr.heap.size wr W) => (ref06_Same T1 T2 x1 x2 e1 e2 l1 l2 W (AtK.keep HS1'.out (Keep.of hb)) (AtK.keep HS2'.out (Keep.of hb)) HT1 HT2).mono (R' := fun e w' => e = .returned (.bool (decide (l1 = l2))) ∧ Below W.heap.size W w') fun e w' ⟨he, m, hm⟩ => ⟨he, hm ▸ below_drewN (Below.refl _ _) m⟩)
          clear HA1 HA2
          go_wp2
          refine wp_region_T 19 (fun W => W.cell? ⟨w.heap.size, 0, none⟩ = some (.slice (some ⟨b1, o1, none⟩) n c) ∧ W.cell? ⟨w.heap.size + 1, 0, none⟩ = some (.slice (some ⟨b2, o2, none⟩) n d) ∧ W.cell? ⟨b1, o1 + i, none⟩ = some (.slice (some ⟨q1, f1, none⟩) m1 s1) ∧ W.cell? ⟨b2, o2 + i, none⟩ = some (.slice (some ⟨q2, f2, none⟩) m1 s2) ∧ W.cell? ⟨q1, f1 + k * 3, none⟩ = some (.int .i64 tto) ∧ W.cell? ⟨q1, f1 + k * 3 + 1, none⟩ = some (.bool fr) ∧ W.cell? ⟨q1, f1 + k * 3 + 2, none⟩ = some (.slice T1 e1 x1) ∧ W.cell? ⟨q2, f2 + k * 3, none⟩ = some (.int .i64 to') ∧ W.cell? ⟨q2, f2 + k * 3 + 1, none⟩ = some (.bool fr') ∧ W.cell? ⟨q2, f2 + k * 3 + 2, none⟩ = some (.slice T2 e2 x2)) (by kernel_rfl) ?_
          refine wpAnyT_take (i := 0) (v := ?_) rfl (by kernel_rfl) (by kernel_rfl) (by kernel_rfl) (by kernel_rfl) (by kernel_rfl) (fun _ _ _ h => h) (.inl ⟨rfl, ?_⟩) K1.out ?_
          rotate_left
          · intro W__ hW__
            obtain ⟨h1, h2, h3, h4, h5, h6, h7, h8, h9, h10⟩ := hW__
            go_simp
            (try with_reducible rfl)
          simp only [Act.put, List.setIfInBounds_toArray]
          refine wpAnyT_take (i := 1) (v := ?_) rfl (by kernel_rfl) (by kernel_rfl) (by kernel_rfl) (by kernel_rfl) (by kernel_rfl) (fun _ _ _ h => h) (.inl ⟨rfl, ?_⟩) K1.out ?_
          rotate_left
          · intro W__ hW__
            obtain ⟨h1, h2, h3, h4, h5, h6, h7, h8, h9, h10⟩ := hW__
            go_simp
            (try with_reducible rfl)
          simp only [Act.put]
          refine wpAnyT_take (i := 2) (v := ?_) rfl (by kernel_rfl) (by kernel_rfl) (by kernel_rfl) (by kernel_rfl) (by kernel_rfl) (fun _ _ _ h => h) (.inl ⟨rfl, ?_⟩) K1.out ?_
          rotate_left
          · intro W__ hW__
            obtain ⟨h1, h2, h3, h4, h5, h6, h7, h8, h9, h10⟩ := hW__
            go_simp
            (try with_reducible rfl)
          simp only [Act.put]
          refine wpAnyT_take (i := 3) (v := ?_) rfl (by kernel_rfl) (by kernel_rfl) (by kernel_rfl) (by kernel_rfl) (by kernel_rfl) (fun _ _ _ h => h) (.inl ⟨rfl, ?_⟩) K1.out ?_
          rotate_left
          · intro W__ hW__
            obtain ⟨h1, h2, h3, h4, h5, h6, h7, h8, h9, h10⟩ := hW__
            go_simp
            (try with_reducible rfl)
          simp only [Act.put]
          refine wpAnyT_take (i := 4) (v := ?_) rfl (by kernel_rfl) (by kernel_rfl) (by kernel_rfl) (by kernel_rfl) (by kernel_rfl) (fun _ _ _ h => h) (.inl ⟨rfl, ?_⟩) K1.out ?_
          rotate_left
          · intro W__ hW__
            obtain ⟨h1, h2, h3, h4, h5, h6, h7, h8, h9, h10⟩ := hW__
            go_simp
            (try with_reducible rfl)
          simp only [Act.put]
          refine wpAnyT_take (i := 5) (v := ?_) rfl (by kernel_rfl) (by kernel_rfl) (by kernel_rfl) (by kernel_rfl) (by kernel_rfl) (fun _ _ _ h => h) (.inl ⟨rfl, ?_⟩) K1.out ?_
          rotate_left
          · intro W__ hW__
            obtain ⟨h1, h2, h3, h4, h5, h6, h7, h8, h9, h10⟩ := hW__
            go_simp
            (try with_reducible rfl)
          simp only [Act.put]
          refine wpAnyT_take (i := 6) (v := ?_) rfl (by kernel_rfl) (by kernel_rfl) (by kernel_rfl) (by kernel_rfl) (by kernel_rfl) (fun _ _ _ h => h) (.inl ⟨rfl, ?_⟩) K1.out ?_
          rotate_left
          · intro W__ hW__
            obtain ⟨h1, h2, h3, h4, h5, h6, h7, h8, h9, h10⟩ := hW__
            go_simp
            (try with_reducible rfl)
          simp only [Act.put]
          refine wpAnyT_take (i := 7) (v := ?_) rfl (by kernel_rfl) (by kernel_rfl) (by kernel_rfl) (by kernel_rfl) (by kernel_rfl) (fun _ _ _ h => h) (.inl ⟨rfl, ?_⟩) K1.out ?_
          rotate_left
          · intro W__ hW__
            obtain ⟨h1, h2, h3, h4, h5, h6, h7, h8, h9, h10⟩ := hW__
            go_simp
            (try with_reducible rfl)
          simp only [Act.put]
          refine wpAnyT_take (i := 8) (v := ?_) rfl (by kernel_rfl) (by kernel_rfl) (by kernel_rfl) (by kernel_rfl) (by kernel_rfl) (fun _ _ _ h => h) (.inl ⟨rfl, ?_⟩) K1.out ?_
          rotate_left
          · intro W__ hW__
            obtain ⟨h1, h2, h3, h4, h5, h6, h7, h8, h9, h10⟩ := hW__
            go_simp
            (try with_reducible rfl)
          simp only [Act.put]
          refine wpAnyT_take (i := 9) (v := ?_) rfl (by kernel_rfl) (by kernel_rfl) (by kernel_rfl) (by kernel_rfl) (by kernel_rfl) (fun _ _ _ h => h) (.inl ⟨rfl, ?_⟩) K1.out ?_
          rotate_left
          · intro W__ hW__
            obtain ⟨h1, h2, h3, h4, h5, h6, h7, h8, h9, h10⟩ := hW__
            go_simp
            (try with_reducible rfl)
          simp only [Act.put]
          refine wpAnyT_take (i := 10) (v := ?_) rfl (by kernel_rfl) (by kernel_rfl) (by kernel_rfl) (by kernel_rfl) (by kernel_rfl) (fun _ _ _ h => h) (.inl ⟨rfl, ?_⟩) K1.out ?_
          rotate_left
          · intro W__ hW__
            obtain ⟨h1, h2, h3, h4, h5, h6, h7, h8, h9, h10⟩ := hW__
            go_simp
            (try with_reducible rfl)
          simp only [Act.put]
          refine wpAnyT_take (i := 11) (v := ?_) rfl (by kernel_rfl) (by kernel_rfl) (by kernel_rfl) (by kernel_rfl) (by kernel_rfl) (fun _ _ _ h => h) (.inl ⟨rfl, ?_⟩) K1.out ?_
          rotate_left
          · intro W__ hW__
            obtain ⟨h1, h2, h3, h4, h5, h6, h7, h8, h9, h10⟩ := hW__
            go_simp
            (try with_reducible rfl)
          simp only [Act.put]
          refine wpAnyT_take (i := 12) (v := ?_) rfl (by kernel_rfl) (by kernel_rfl) (by kernel_rfl) (by kernel_rfl) (by kernel_rfl) (fun _ _ _ h => h) (.inl ⟨rfl, ?_⟩) K1.out ?_
          rotate_left
          · intro W__ hW__
            obtain ⟨h1, h2, h3, h4, h5, h6, h7, h8, h9, h10⟩ := hW__
            go_simp
            (try with_reducible rfl)
          simp only [Act.put]
          refine wpAnyT_take (i := 13) (v := ?_) rfl (by kernel_rfl) (by kernel_rfl) (by kernel_rfl) (by kernel_rfl) (by kernel_rfl) (fun _ _ _ h => h) (.inl ⟨rfl, ?_⟩) K1.out ?_
          rotate_left
          · intro W__ hW__
            obtain ⟨h1, h2, h3, h4, h5, h6, h7, h8, h9, h10⟩ := hW__
            go_simp
            (try with_reducible rfl)
          simp only [Act.put]
          refine wpAnyT_take (i := 14) (v := ?_) rfl (by kernel_rfl) (by kernel_rfl) (by kernel_rfl) (by kernel_rfl) (by kernel_rfl) (fun _ _ _ h => h) (.inl ⟨rfl, ?_⟩) K1.out ?_
          rotate_left
          · intro W__ hW__
            obtain ⟨h1, h2, h3, h4, h5, h6, h7, h8, h9, h10⟩ := hW__
            go_simp
            (try with_reducible rfl)
          simp only [Act.put]
          refine wpAnyT_take (i := 15) (v := ?_) rfl (by kernel_rfl) (by kernel_rfl) (by kernel_rfl) (by kernel_rfl) (by kernel_rfl) (fun _ _ _ h => h) (.inl ⟨rfl, ?_⟩) K1.out ?_
          rotate_left
          · intro W__ hW__
            obtain ⟨h1, h2, h3, h4, h5, h6, h7, h8, h9, h10⟩ := hW__
            go_simp
            (try with_reducible rfl)
          simp only [Act.put]
          refine wpAnyT_two (i := 16) (j := 17) rfl rfl (by kernel_rfl) rfl rfl (fun K__ hK__ => ?_) (fun K__ hK__ => ?_)
          · unfold Oper.wp
            go_simp
            refine hK__ _ _ KA1.out ?_
            clear hK__
            try simp only [Act.put, List.setIfInBounds_toArray, List.set_cons_zero, List.set_cons_succ]
            refine wpAnyT_one (i := 17) rfl (by kernel_rfl) rfl fun K__ hK__ => ?_
            unfold Oper.wp
            go_simp
            refine hK__ _ _ (KA2.out) ?_
            clear hK__
            try simp only [Act.put, List.setIfInBounds_toArray, List.set_cons_zero, List.set_cons_succ]
            have BX0 := Lib.hid (show Blk ((wr.alloc (.cells #[.int .i64 0, .bool false, .slice none 0 0] TEdge)).alloc (.cells #[.int .i64 0, .bool false, .slice none 0 0] TEdge)).drew (wr.heap.size) TEdge #[.int .i64 0, .bool false, .slice none 0 0] from BB.out.1)
            have BY0 := Lib.hid (show Blk ((wr.alloc (.cells #[.int .i64 0, .bool false, .slice none 0 0] TEdge)).alloc (.cells #[.int .i64 0, .bool false, .slice none 0 0] TEdge)).drew (wr.heap.size + 1) TEdge #[.int .i64 0, .bool false, .slice none 0 0] from BB.out.2)
            have hxy : (wr.heap.size) ≠ (wr.heap.size + 1) := by omega
            have hwx : wr.heap.size ≤ wr.heap.size := by omega
            have hwy : wr.heap.size ≤ wr.heap.size + 1 := by omega
            have HB0 := Lib.hid HHA.out
            generalize ((wr.alloc (.cells #[.int .i64 0, .bool false, .slice none 0 0] TEdge)).alloc (.cells #[.int .i64 0, .bool false, .slice none 0 0] TEdge)).drew = wz at *
            have BX1 := Lib.hid (((BX0.out.set 0 (.int .i64 tto)).set 1 (.bool fr)).set 2 (.slice T1 e1 x1))
            have BY1 := Lib.hid (((BY0.out.far (p := ⟨wr.heap.size, 0, none⟩) (fun e => hxy e.symm) (.int .i64 tto)).far (p := ⟨wr.heap.size, 1, none⟩) (fun e => hxy e.symm) (.bool fr)).far (p := ⟨wr.heap.size, 2, none⟩) (fun e => hxy e.symm) (.slice T1 e1 x1))
            have HB1 := Lib.hid (((HB0.out.setCell (p := ⟨wr.heap.size, 0, none⟩) hwx (.int .i64 tto)).setCell (p := ⟨wr.heap.size, 1, none⟩) hwx (.bool fr)).setCell (p := ⟨wr.heap.size, 2, none⟩) hwx (.slice T1 e1 x1))
            have KZ1 := Lib.hid (KB.out _ HB1.out)
            have BX2 := Lib.hid (((BX1.out.far (p := ⟨wr.heap.size + 1, 0, none⟩) hxy (.int .i64 to')).far (p := ⟨wr.heap.size + 1, 1, none⟩) hxy (.bool fr')).far (p := ⟨wr.heap.size + 1, 2, none⟩) hxy (.slice T2 e2 x2))
            have BY2 := Lib.hid (((BY1.out.set 0 (.int .i64 to')).set 1 (.bool fr')).set 2 (.slice T2 e2 x2))
            have HB2 := Lib.hid (((HB1.out.setCell (p := ⟨wr.heap.size + 1, 0, none⟩) hwy (.int .i64 to')).setCell (p := ⟨wr.heap.size + 1, 1, none⟩) hwy (.bool fr')).setCell (p := ⟨wr.heap.size + 1, 2, none⟩) hwy (.slice T2 e2 x2))
            have bx0 := BX0.out.cell 0; have bx1 := BX0.out.cell 1; have bx2 := BX0.out.cell 2
            have fx0 := BX0.out.frozen 0; have fx1 := BX0.out.frozen 1; have fx2 := BX0.out.frozen 2
            have by0 := BY1.out.cell 0; have by1 := BY1.out.cell 1; have by2 := BY1.out.cell 2
            have fy0 := BY1.out.frozen 0; have fy1 := BY1.out.frozen 1; have fy2 := BY1.out.frozen 2
            refine wpAnyT_one (i := 18) rfl (by kernel_rfl) rfl fun K__ hK__ => ?_
            unfold Oper.wp
            go_simp
            refine hK__ _ _ (KZ1.out) ?_
            clear hK__
            refine wpAnyT_end (i := 19) rfl (by kernel_rfl) rfl (by kernel_rfl) fun K__ hK__ => ?_
            unfold Oper.wp
            go_simp
            refine hK__ _ _ ?_
            clear hK__
            refine wpAnyT_done (by kernel_rfl) ?_ _
            clear bx0 bx1 bx2 fx0 fx1 fx2 by0 by1 by2 fy0 fy1 fy2 KA1 KA2 KZ1 BX1 BY1 HB1 HHA K1
            generalize ((((((wz.setCell ⟨wr.heap.size, 0, none⟩ (.int .i64 tto)).setCell ⟨wr.heap.size, 1, none⟩ (.bool fr)).setCell ⟨wr.heap.size, 2, none⟩ (.slice T1 e1 x1)).setCell ⟨wr.heap.size + 1, 0, none⟩ (.int .i64 to')).setCell ⟨wr.heap.size + 1, 1, none⟩ (.bool fr')).setCell ⟨wr.heap.size + 1, 2, none⟩ (.slice T2 e2 x2)) = w2 at *
            clear hxy hwx hwy BX0 BY0 HB0 BB p0 p1 r0 r1 d1 d2 a0 a1 a2 z0 z1 z2
            have u0 := BX2.out.cell 0; have u1 := BX2.out.cell 1; have u2 := BX2.out.cell 2
            have v0 := BY2.out.cell 0; have v1 := BY2.out.cell 1; have v2 := BY2.out.cell 2
            have HC := Lib.hid (HCS.out w2 HB2.out)
            have HBW := Lib.hid (HBF.out.trans ((GB.out.trans (HB2.out.mono GB.out.size)).mono HBF.out.size))
            have GBW := Lib.hid (GB.out.trans (HB2.out.mono GB.out.size))
            have J1 := Lib.hid (G1.out.below HB2.out G1.out.lt); have J2 := Lib.hid (G2.out.below HB2.out G2.out.lt)
            by_cases ct : tto = to'
            case neg =>
              have t3 : (tto != to') = true := by simpa using ct
              have HN := Lib.hid (HNE.out (HNX.out (fun e => ct (congrArg Ed.to e))))
              clear ct
              go_wp2
              go_ret
              exact ⟨ret_bool HN.out, HBW.out⟩
            subst ct
            have t3 : (tto != tto) = false := by simp
            by_cases cf : fr = fr'
            case neg =>
              have HN := Lib.hid (HNE.out (HNX.out (fun e => cf (congrArg Ed.free e))))
              have cf2 : (fr = true ∧ fr' = false) ∨ (fr = false ∧ fr' = true) := by cases fr <;> cases fr' <;> simp at cf ⊢
              clear cf
              rcases cf2 with ⟨rfl, rfl⟩ | ⟨rfl, rfl⟩
              all_goals
                go_wp2
                go_ret
                exact ⟨ret_bool HN.out, HBW.out⟩
            subst cf
            have t4 : (fr != fr) = false := by simp
            by_cases cl : l1 = l2
            · rw [decide_eq_true cl] at HC
              have HCL := Lib.hid cl
              clear cl
              go_wp2_with fail
              refine HC.out.mono ?_
              rintro e w3 ⟨rfl, hb3⟩
              have HB3 := Lib.hid (GBW.out.trans (hb3.mono GBW.out.size))
              have I1 := Lib.hid (J1.out.below hb3 J1.out.lt); have I2 := Lib.hid (J2.out.below hb3 J2.out.lt)
              clear hb3
              go_wp2
              go_roundw
              case rel => exact ⟨k + 1, by go_num, by omega, HB3.out, I1.out, I2.out, by rw [take_snoc HZ.out, take_snoc HY2.out, GE.out, HCL.out]⟩
              case measure => simp [intOf]; omega
            · rw [decide_eq_false cl] at HC
              have HN := Lib.hid (HNE.out (HNX.out (fun e => cl (congrArg Ed.set e))))
              clear cl
              go_wp2_with fail
              refine HC.out.mono ?_
              rintro e w3 ⟨rfl, hb3⟩
              have HB3 := Lib.hid (HBW.out.trans (hb3.mono HBW.out.size))
              clear hb3
              go_wp2
              go_ret
              exact ⟨ret_bool HN.out, HB3.out⟩
          · unfold Oper.wp
            go_simp
            refine hK__ _ _ KA1.out ?_
            clear hK__
            try simp only [Act.put, List.setIfInBounds_toArray, List.set_cons_zero, List.set_cons_succ]
            refine wpAnyT_one (i := 16) rfl (by kernel_rfl) rfl fun K__ hK__ => ?_
            unfold Oper.wp
            go_simp
            refine hK__ _ _ (KA2.out) ?_
            clear hK__
            try simp only [Act.put, List.setIfInBounds_toArray, List.set_cons_zero, List.set_cons_succ]
            have BX0 := Lib.hid (show Blk ((wr.alloc (.cells #[.int .i64 0, .bool false, .slice none 0 0] TEdge)).alloc (.cells #[.int .i64 0, .bool false, .slice none 0 0] TEdge)).drew (wr.heap.size + 1) TEdge #[.int .i64 0, .bool false, .slice none 0 0] from BB.out.2)
            have BY0 := Lib.hid (show Blk ((wr.alloc (.cells #[.int .i64 0, .bool false, .slice none 0 0] TEdge)).alloc (.cells #[.int .i64 0, .bool false, .slice none 0 0] TEdge)).drew (wr.heap.size) TEdge #[.int .i64 0, .bool false, .slice none 0 0] from BB.out.1)
            have hxy : (wr.heap.size + 1) ≠ (wr.heap.size) := by omega
            have hwx : wr.heap.size ≤ wr.heap.size + 1 := by omega
            have hwy : wr.heap.size ≤ wr.heap.size := by omega
            have HB0 := Lib.hid HHA.out
            generalize ((wr.alloc (.cells #[.int .i64 0, .bool false, .slice none 0 0] TEdge)).alloc (.cells #[.int .i64 0, .bool false, .slice none 0 0] TEdge)).drew = wz at *
            have BX1 := Lib.hid (((BX0.out.set 0 (.int .i64 tto)).set 1 (.bool fr)).set 2 (.slice T1 e1 x1))
            have BY1 := Lib.hid (((BY0.out.far (p := ⟨wr.heap.size + 1, 0, none⟩) (fun e => hxy e.symm) (.int .i64 tto)).far (p := ⟨wr.heap.size + 1, 1, none⟩) (fun e => hxy e.symm) (.bool fr)).far (p := ⟨wr.heap.size + 1, 2, none⟩) (fun e => hxy e.symm) (.slice T1 e1 x1))
            have HB1 := Lib.hid (((HB0.out.setCell (p := ⟨wr.heap.size + 1, 0, none⟩) hwx (.int .i64 tto)).setCell (p := ⟨wr.heap.size + 1, 1, none⟩) hwx (.bool fr)).setCell (p := ⟨wr.heap.size + 1, 2, none⟩) hwx (.slice T1 e1 x1))
            have KZ1 := Lib.hid (KB.out _ HB1.out)
            have BX2 := Lib.hid (((BX1.out.far (p := ⟨wr.heap.size, 0, none⟩) hxy (.int .i64 to')).far (p := ⟨wr.heap.size, 1, none⟩) hxy (.bool fr')).far (p := ⟨wr.heap.size, 2, none⟩) hxy (.slice T2 e2 x2))
            have BY2 := Lib.hid (((BY1.out.set 0 (.int .i64 to')).set 1 (.bool fr')).set 2 (.slice T2 e2 x2))
            have HB2 := Lib.hid (((HB1.out.setCell (p := ⟨wr.heap.size, 0, none⟩) hwy (.int .i64 to')).setCell (p := ⟨wr.heap.size, 1, none⟩) hwy (.bool fr')).setCell (p := ⟨wr.heap.size, 2, none⟩) hwy (.slice T2 e2 x2))
            have bx0 := BX0.out.cell 0; have bx1 := BX0.out.cell 1; have bx2 := BX0.out.cell 2
            have fx0 := BX0.out.frozen 0; have fx1 := BX0.out.frozen 1; have fx2 := BX0.out.frozen 2
            have by0 := BY1.out.cell 0; have by1 := BY1.out.cell 1; have by2 := BY1.out.cell 2
            have fy0 := BY1.out.frozen 0; have fy1 := BY1.out.frozen 1; have fy2 := BY1.out.frozen 2
            refine wpAnyT_one (i := 18) rfl (by kernel_rfl) rfl fun K__ hK__ => ?_
            unfold Oper.wp
            go_simp
            refine hK__ _ _ (KZ1.out) ?_
            clear hK__
            refine wpAnyT_end (i := 19) rfl (by kernel_rfl) rfl (by kernel_rfl) fun K__ hK__ => ?_
            unfold Oper.wp
            go_simp
            refine hK__ _ _ ?_
            clear hK__
            refine wpAnyT_done (by kernel_rfl) ?_ _
            clear bx0 bx1 bx2 fx0 fx1 fx2 by0 by1 by2 fy0 fy1 fy2 KA1 KA2 KZ1 BX1 BY1 HB1 HHA K1
            generalize ((((((wz.setCell ⟨wr.heap.size + 1, 0, none⟩ (.int .i64 tto)).setCell ⟨wr.heap.size + 1, 1, none⟩ (.bool fr)).setCell ⟨wr.heap.size + 1, 2, none⟩ (.slice T1 e1 x1)).setCell ⟨wr.heap.size, 0, none⟩ (.int .i64 to')).setCell ⟨wr.heap.size, 1, none⟩ (.bool fr')).setCell ⟨wr.heap.size, 2, none⟩ (.slice T2 e2 x2)) = w2 at *
            clear hxy hwx hwy BX0 BY0 HB0 BB p0 p1 r0 r1 d1 d2 a0 a1 a2 z0 z1 z2
            have u0 := BX2.out.cell 0; have u1 := BX2.out.cell 1; have u2 := BX2.out.cell 2
            have v0 := BY2.out.cell 0; have v1 := BY2.out.cell 1; have v2 := BY2.out.cell 2
            have HC := Lib.hid (HCS.out w2 HB2.out)
            have HBW := Lib.hid (HBF.out.trans ((GB.out.trans (HB2.out.mono GB.out.size)).mono HBF.out.size))
            have GBW := Lib.hid (GB.out.trans (HB2.out.mono GB.out.size))
            have J1 := Lib.hid (G1.out.below HB2.out G1.out.lt); have J2 := Lib.hid (G2.out.below HB2.out G2.out.lt)
            by_cases ct : tto = to'
            case neg =>
              have t3 : (tto != to') = true := by simpa using ct
              have HN := Lib.hid (HNE.out (HNX.out (fun e => ct (congrArg Ed.to e))))
              clear ct
              go_wp2
              go_ret
              exact ⟨ret_bool HN.out, HBW.out⟩
            subst ct
            have t3 : (tto != tto) = false := by simp
            by_cases cf : fr = fr'
            case neg =>
              have HN := Lib.hid (HNE.out (HNX.out (fun e => cf (congrArg Ed.free e))))
              have cf2 : (fr = true ∧ fr' = false) ∨ (fr = false ∧ fr' = true) := by cases fr <;> cases fr' <;> simp at cf ⊢
              clear cf
              rcases cf2 with ⟨rfl, rfl⟩ | ⟨rfl, rfl⟩
              all_goals
                go_wp2
                go_ret
                exact ⟨ret_bool HN.out, HBW.out⟩
            subst cf
            have t4 : (fr != fr) = false := by simp
            by_cases cl : l1 = l2
            · rw [decide_eq_true cl] at HC
              have HCL := Lib.hid cl
              clear cl
              go_wp2_with fail
              refine HC.out.mono ?_
              rintro e w3 ⟨rfl, hb3⟩
              have HB3 := Lib.hid (GBW.out.trans (hb3.mono GBW.out.size))
              have I1 := Lib.hid (J1.out.below hb3 J1.out.lt); have I2 := Lib.hid (J2.out.below hb3 J2.out.lt)
              clear hb3
              go_wp2
              go_roundw
              case rel => exact ⟨k + 1, by go_num, by omega, HB3.out, I1.out, I2.out, by rw [take_snoc HZ.out, take_snoc HY2.out, GE.out, HCL.out]⟩
              case measure => simp [intOf]; omega
            · rw [decide_eq_false cl] at HC
              have HN := Lib.hid (HNE.out (HNX.out (fun e => cl (congrArg Ed.set e))))
              clear cl
              go_wp2_with fail
              refine HC.out.mono ?_
              rintro e w3 ⟨rfl, hb3⟩
              have HB3 := Lib.hid (HBW.out.trans (hb3.mono HBW.out.size))
              clear hb3
              go_wp2
              go_ret
              exact ⟨ret_bool HN.out, HB3.out⟩
        · have hkm : k = m1 := by omega
          subst hkm
          have HES := Lib.hid (show es = es' by have := GE.out; rwa [List.take_of_length_le (by rw [HM1.out]; exact Nat.le_refl _), List.take_of_length_le (by rw [HM2.out]; exact Nat.le_refl _)] at this)
          have HBW := Lib.hid (HBF.out.trans (GB.out.mono HBF.out.size))
          go_wp2
          go_roundw
          case rel => exact ⟨i + 1, by go_num, by omega, HBW.out, G1.out, G2.out, by rw [take_snoc HX.out, take_snoc HY.out, HEQ.out, HES.out]⟩
          case measure => simp [intOf]; omega
    · have hin : i = n := by omega
      subst hin
      have HY := Lib.hid (show true = ans by
        rw [← HANS.out]
        have h3 : a = b := by have := HEQ.out; rwa [List.take_of_length_le (by rw [HL.out]; exact Nat.le_refl _), List.take_of_length_le (by rw [HM.out]; exact Nat.le_refl _)] at this
        simp [h3])
      go_wp2
      go_ret
      exact ⟨ret_bool HY.out, HBE.out⟩

end Go.Proofs.YtcmmmgblkbbdnaaGreatDoor
