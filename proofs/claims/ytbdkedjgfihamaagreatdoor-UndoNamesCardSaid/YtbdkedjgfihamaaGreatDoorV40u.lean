/- Walks: whether two values of cells are the same, by the document. PUT1 -/
import Derived.Test.YtbdkedjgfihamaaGreatDoorV32u
import Derived.Laws.StructEq
namespace Go.Proofs.YtbdkedjgfihamaaGreatDoor
open Go.RowKit Pv Go.Maps
set_option maxHeartbeats 4000000 in
set_option maxRecDepth 100000 in
theorem ref03_Same (A B : Option Addr) (c d n m : Nat) (l r : List Cel) (w : World) (ha : AtCel w A l) (hb : AtCel w B r) (HL : Hid (l.length = n)) (HM : Hid (r.length = m)) :
    Calls Tryz.prog 76 #[.slice A n c, .slice B m d] w fun e w' => e = .returned (.bool (decide (l = r))) ∧ Below w.heap.size w w' := by
  by_cases hlen : n = m
  case neg =>
    have h1 : ((n : Int) != (m : Int)) = true := by simp; omega
    have HN := Lib.hid (show decide (l = r) = false by simp; intro h; subst h; exact hlen (HL.out.symm.trans HM.out))
    clear hlen ha hb
    go_enter Tryz.func76, Tryz.ntmps76
    go_wp2
    go_ret
    exact ⟨ret_bool HN.out.symm, Below.refl _ _⟩
  have hl : n ≤ 140737488355328 := by have := ha.1; rwa [HL.out] at this
  subst hlen
  have h1 : ((n : Int) != (n : Int)) = false := by simp
  have HA : Hid (AtCel w A l) := Lib.hid ha; have HB : Hid (AtCel w B r) := Lib.hid hb
  clear ha hb
  go_enter Tryz.func76, Tryz.ntmps76
  go_wp2
  go_loopw [5] (fun i wr => ∃ q : Nat, i = .int .i64 q ∧ q ≤ n ∧ Hid (Below w.heap.size w wr) ∧ Hid (l.take q = r.take q)) (fun i _ => n - (intOf i).toNat)
  case atStart => exact ⟨0, rfl, by omega, Lib.hid (Below.refl _ _), Lib.hid (by simp)⟩
  case round =>
    obtain ⟨q, rfl, hq, HBE, HE⟩ := hrel
    by_cases hlt : q < n
    · obtain ⟨b1, o1, ⟨k, nm, tx, z, y⟩, rfl, ⟨lb1, c0, c1, c2, c3, c4⟩, _, HX⟩ := AtCel.g5 (AtK.keep HA.out (Keep.of HBE.out)) HL hlt
      obtain ⟨b2, o2, ⟨k', nm', tx', z', y'⟩, rfl, ⟨lb2, d0, d1, d2, d3, d4⟩, _, HY⟩ := AtCel.g5 (AtK.keep HB.out (Keep.of HBE.out)) HM hlt
      have HNE := Lib.hid (show (⟨k, nm, tx, z, y⟩ : Cel) ≠ ⟨k', nm', tx', z', y'⟩ → decide (l = r) = false from fun h => decide_eq_false fun hh => h (by subst hh; exact Option.some.inj (HX.out.symm.trans HY.out)))
      dsimp only at c0 c1 c2 c3 c4 d0 d1 d2 d3 d4
      have i1 : (0 : Int) ≤ (q : Int) := by omega
      have i2 : (q : Int) < (n : Int) := by omega
      by_cases e0 : k = k'
      · by_cases e1 : nm = nm'
        · by_cases e2 : tx = tx'
          · by_cases e3 : z = z'
            · by_cases e4 : y = y'
              · subst e0
                subst e1
                subst e2
                subst e3
                subst e4
                have t1 : (nm.toList == nm.toList) = true := by simp
                have t2 : (tx.toList == tx.toList) = true := by simp
                go_wp2
                go_quiet (fail)
                go_wp2
                go_roundw
                case rel => exact ⟨q + 1, by go_num, by omega, Lib.hid (below_drewN HBE.out _), Lib.hid (by rw [take_snoc HX.out, take_snoc HY.out, HE.out])⟩
                case measure => simp [intOf]; omega
              · have HN := Lib.hid (HNE.out (fun h => e4 (by injection h)))
                subst e0
                subst e1
                subst e2
                subst e3
                have t1 : (nm.toList == nm.toList) = true := by simp
                have t2 : (tx.toList == tx.toList) = true := by simp
                have t4 : (y == y') = false := by simpa using e4
                clear e4
                go_wp2
                go_quiet (fail)
                go_wp2
                go_ret
                exact ⟨ret_bool HN.out.symm, below_drewN HBE.out _⟩
            · have HN := Lib.hid (HNE.out (fun h => e3 (by injection h)))
              subst e0
              subst e1
              subst e2
              have t1 : (nm.toList == nm.toList) = true := by simp
              have t2 : (tx.toList == tx.toList) = true := by simp
              have t3 : (z == z') = false := by simpa using e3
              clear e3
              go_wp2
              go_quiet (fail)
              go_wp2
              go_ret
              exact ⟨ret_bool HN.out.symm, below_drewN HBE.out _⟩
          · have HN := Lib.hid (HNE.out (fun h => e2 (by injection h)))
            subst e0
            subst e1
            have t1 : (nm.toList == nm.toList) = true := by simp
            have t2 : (tx.toList == tx'.toList) = false := by rw [beq_eq_false_iff_ne]; exact fun h => e2 (toList_inj h)
            clear e2
            go_wp2
            go_quiet (fail)
            go_wp2
            go_ret
            exact ⟨ret_bool HN.out.symm, below_drewN HBE.out _⟩
        · have HN := Lib.hid (HNE.out (fun h => e1 (by injection h)))
          subst e0
          have t1 : (nm.toList == nm'.toList) = false := by rw [beq_eq_false_iff_ne]; exact fun h => e1 (toList_inj h)
          clear e1
          go_wp2
          go_quiet (fail)
          go_wp2
          go_ret
          exact ⟨ret_bool HN.out.symm, below_drewN HBE.out _⟩
      · have HN := Lib.hid (HNE.out (fun h => e0 (by injection h)))
        have t0 : (k == k') = false := by simpa using e0
        clear e0
        go_wp2
        go_quiet (fail)
        go_wp2
        go_ret
        exact ⟨ret_bool HN.out.symm, below_drewN HBE.out _⟩
    · have : q = n := by omega
      subst this
      have HY := Lib.hid (show decide (l = r) = true from decide_eq_true (by have := HE.out; rwa [List.take_of_length_le (by rw [HL.out]; omega), List.take_of_length_le (by rw [HM.out]; omega)] at this))
      go_wp2
      go_ret
      exact ⟨ret_bool HY.out.symm, HBE.out⟩
set_option maxHeartbeats 4000000 in
set_option maxRecDepth 100000 in
theorem ref27_SameRecord (D E : Option Addr) (m c n d : Nat) (x y : Rec) (w : World) (hx : AtCel w D x.data) (hy : AtCel w E y.data) (HL : Hid (x.data.length = m)) (HM : Hid (y.data.length = n)) :
    Calls Tryz.prog 43 #[.agg #[.string x.id, .slice D m c], .agg #[.string y.id, .slice E n d]] w fun e w' => e = .returned (.bool (decide (x = y))) ∧ Below w.heap.size w w' := by
  obtain ⟨xi, xd⟩ := x
  obtain ⟨yi, yd⟩ := y
  have hk0 : Below w.heap.size w ((w.alloc (.cells #[.string xi, .slice D m c] TRe)).alloc (.cells #[.string yi, .slice E n d] TRe)) := ((Below.refl _ _).alloc (Nat.le_refl _) _).alloc (by simp) _
  have HS := Lib.hid (ref03_Same D E c d m n xd yd _ (AtK.keep (R := RCel) hx (Keep.of hk0)) (AtK.keep (R := RCel) hy (Keep.of hk0)) HL HM)
  have HK0 := Lib.hid hk0
  obtain ⟨o, ho⟩ : ∃ o, decide ((⟨xi, xd⟩ : Rec) = ⟨yi, yd⟩) = o := ⟨_, rfl⟩
  rw [ho]
  dsimp only
  by_cases hid : xi = yi
  · subst hid
    have HO := Lib.hid (show o = decide (xd = yd) by rw [← ho]; simp)
    have t1 : (xi.toList == xi.toList) = true := by simp
    clear hx hy hk0 ho
    go_enter Tryz.func43, Tryz.ntmps43
    go_wp2_with fail
    refine HS.out.mono ?_
    rintro e w1 ⟨rfl, k⟩
    have HF := Lib.hid (HK0.out.trans (k.mono HK0.out.size))
    clear k
    go_wp2
    go_ret
    exact ⟨ret_bool HO.out.symm, HF.out⟩
  · have HO := Lib.hid (show o = false by rw [← ho]; exact decide_eq_false fun h => hid (by injection h))
    have t1 : (xi.toList == yi.toList) = false := by rw [beq_eq_false_iff_ne]; exact fun h => hid (toList_inj h)
    clear hx hy hk0 ho hid
    go_enter Tryz.func43, Tryz.ntmps43
    go_wp2
    go_ret
    exact ⟨ret_bool HO.out.symm, HK0.out⟩
end Go.Proofs.YtbdkedjgfihamaaGreatDoor

namespace Go.Proofs.YtbdkedjgfihamaaGreatDoor
open Go.RowKit Pv Go.Maps
set_option maxHeartbeats 4000000 in
set_option maxRecDepth 100000 in
theorem ref05_Same (A B : Option Addr) (c d n m : Nat) (l r : List ByteArray) (w : World) (ha : At w A RStr l) (hb : At w B RStr r) (HL : Hid (l.length = n)) (HM : Hid (r.length = m)) :
    Calls Tryz.prog 87 #[.slice A n c, .slice B m d] w fun e w' => e = .returned (.bool (decide (l = r))) ∧ Below w.heap.size w w' := by
  by_cases hlen : n = m
  case neg =>
    have h1 : ((n : Int) != (m : Int)) = true := by simp; omega
    have HN := Lib.hid (show decide (l = r) = false by simp; intro h; subst h; exact hlen (HL.out.symm.trans HM.out))
    clear hlen ha hb
    go_enter Tryz.func87, Tryz.ntmps87
    go_wp2
    go_ret
    exact ⟨ret_bool HN.out.symm, Below.refl _ _⟩
  have hl : n ≤ 140737488355328 := by have := ha.1; rwa [HL.out] at this
  subst hlen
  have h1 : ((n : Int) != (n : Int)) = false := by simp
  have HA := Lib.hid ha; have HB := Lib.hid hb
  clear ha hb
  go_enter Tryz.func87, Tryz.ntmps87
  go_wp2
  go_loopw [5] (fun i wr => ∃ q : Nat, i = .int .i64 q ∧ q ≤ n ∧ Hid (Below w.heap.size w wr) ∧ Hid (l.take q = r.take q)) (fun i _ => n - (intOf i).toNat)
  case atStart => exact ⟨0, rfl, by omega, Lib.hid (Below.refl _ _), Lib.hid (by simp)⟩
  case round =>
    obtain ⟨q, rfl, hq, HBE, HE⟩ := hrel
    by_cases hlt : q < n
    · obtain ⟨b1, o1, u1, x, rfl, lb1, c1, hx, HX⟩ := At.gt (At.keep HA.out (Keep.of HBE.out)) HL hlt
      obtain ⟨b2, o2, u2, y, rfl, lb2, c2, hy, HY⟩ := At.gt (At.keep HB.out (Keep.of HBE.out)) HM hlt
      obtain ⟨rfl, _⟩ := hx
      obtain ⟨rfl, _⟩ := hy
      have i1 : (0 : Int) ≤ (q : Int) := by omega
      have i2 : (q : Int) < (n : Int) := by omega
      by_cases he : x = y
      · subst he
        have t1 : (x.toList == x.toList) = true := by simp
        go_wp2
        go_quiet (fail)
        go_wp2
        go_roundw
        case rel => exact ⟨q + 1, by go_num, by omega, Lib.hid (below_drewN HBE.out _), Lib.hid (by rw [take_snoc HX.out, take_snoc HY.out, HE.out])⟩
        case measure => simp [intOf]; omega
      · have HN := Lib.hid (show decide (l = r) = false from decide_eq_false fun hh => he (by subst hh; exact Option.some.inj (HX.out.symm.trans HY.out)))
        have t1 : (x.toList == y.toList) = false := by rw [beq_eq_false_iff_ne]; exact fun h => he (toList_inj h)
        clear he
        go_wp2
        go_quiet (fail)
        go_wp2
        go_ret
        exact ⟨ret_bool HN.out.symm, below_drewN HBE.out _⟩
    · have : q = n := by omega
      subst this
      have HY := Lib.hid (show decide (l = r) = true from decide_eq_true (by have := HE.out; rwa [List.take_of_length_le (by rw [HL.out]; omega), List.take_of_length_le (by rw [HM.out]; omega)] at this))
      go_wp2
      go_ret
      exact ⟨ret_bool HY.out.symm, HBE.out⟩
set_option maxHeartbeats 8000000 in
set_option maxRecDepth 100000 in
theorem ref27_Same (U R V S : Option Addr) (un uc rn rc vn vc sn sc : Nat) (x y : Tab) (w : World) (hx : TabAt w U un R rn x) (hy : TabAt w V vn S sn y) :
    Calls Tryz.prog 59 #[.agg #[.string x.name, .int .i64 x.most, .slice U un uc, .slice R rn rc], .agg #[.string y.name, .int .i64 y.most, .slice V vn vc, .slice S sn sc]] w fun e w' => e = .returned (.bool (decide (x = y))) ∧ Below w.heap.size w w' := by
  obtain ⟨xn, xm, xu, xr⟩ := x
  obtain ⟨yn, ym, yu, yr⟩ := y
  have hk0 : Below w.heap.size w ((w.alloc (.cells #[.string xn, .int .i64 xm, .slice U un uc, .slice R rn rc] TTb)).alloc (.cells #[.string yn, .int .i64 ym, .slice V vn vc, .slice S sn sc] TTb)) := ((Below.refl _ _).alloc (Nat.le_refl _) _).alloc (by simp) _
  have hx0 := hx.keep (Keep.of hk0); have hy0 := hy.keep (Keep.of hk0)
  have HS := Lib.hid (ref05_Same U V uc vc un vn xu yu _ hx0.uniques hy0.uniques hx.un hy.un)
  have HX0 := Lib.hid hx0; have HY0 := Lib.hid hy0
  have HK0 := Lib.hid hk0
  have HB0 := Lib.hid ((Blk.new w TTb #[.string xn, .int .i64 xm, .slice U un uc, .slice R rn rc]).alloc (.cells #[.string yn, .int .i64 ym, .slice V vn vc, .slice S sn sc] TTb))
  have HB1 := Lib.hid (blkV2 w TTb TTb #[.string xn, .int .i64 xm, .slice U un uc, .slice R rn rc] #[.string yn, .int .i64 ym, .slice V vn vc, .slice S sn sc])
  have HP := Lib.hid (fun W (k : Below ((w.alloc (.cells #[.string xn, .int .i64 xm, .slice U un uc, .slice R rn rc] TTb)).alloc (.cells #[.string yn, .int .i64 ym, .slice V vn vc, .slice S sn sc] TTb)).heap.size ((w.alloc (.cells #[.string xn, .int .i64 xm, .slice U un uc, .slice R rn rc] TTb)).alloc (.cells #[.string yn, .int .i64 ym, .slice V vn vc, .slice S sn sc] TTb)) W) =>
    And.intro (HK0.out.trans (k.mono HK0.out.size)) (And.intro (HB0.out.below k HB0.out.lt) (HB1.out.below k HB1.out.lt)))
  have HRN := hx.rn; have HSN := hy.rn
  obtain ⟨o, ho⟩ : ∃ o, decide ((⟨xn, xm, xu, xr⟩ : Tab) = ⟨yn, ym, yu, yr⟩) = o := ⟨_, rfl⟩
  rw [ho]
  dsimp only
  by_cases hid : xn = yn
  case neg =>
    have HO := Lib.hid (show o = false by rw [← ho]; exact decide_eq_false fun h => hid (by injection h))
    have t1 : (xn.toList == yn.toList) = false := by rw [beq_eq_false_iff_ne]; exact fun h => hid (toList_inj h)
    clear hx hy hk0 ho hx0 hy0 hid
    go_enter Tryz.func59, Tryz.ntmps59
    go_wp2
    go_ret
    exact ⟨ret_bool HO.out.symm, HK0.out⟩
  subst hid
  have t1 : (xn.toList == xn.toList) = true := by simp
  by_cases hmo : xm = ym
  case neg =>
    have HO := Lib.hid (show o = false by rw [← ho]; exact decide_eq_false fun h => hmo (by injection h))
    have t2 : (xm == ym) = false := by simpa using hmo
    clear hx hy hk0 ho hx0 hy0 hmo
    go_enter Tryz.func59, Tryz.ntmps59
    go_wp2
    go_ret
    exact ⟨ret_bool HO.out.symm, HK0.out⟩
  subst hmo
  have t2 : (xm == xm) = true := by simp
  by_cases hu : xu = yu
  case neg =>
    have HO := Lib.hid (show o = false by rw [← ho]; exact decide_eq_false fun h => hu (by injection h))
    rw [decide_eq_false hu] at HS
    clear hx hy hk0 ho hx0 hy0 hu
    go_enter Tryz.func59, Tryz.ntmps59
    go_wp2_with fail
    refine HS.out.mono ?_
    rintro e w1 ⟨rfl, k⟩
    have HF := Lib.hid (HP.out _ k).1
    clear k
    go_wp2
    go_ret
    exact ⟨ret_bool HO.out.symm, HF.out⟩
  have HO := Lib.hid (show o = decide (xr = yr) by rw [← ho, hu]; simp)
  rw [decide_eq_true hu] at HS
  by_cases hlen : rn = sn
  case neg =>
    have h1 : ((rn : Int) == (sn : Int)) = false := by simp; omega
    have HN := Lib.hid (show decide (xr = yr) = false by simp; intro h; subst h; exact hlen (HRN.out.symm.trans HSN.out))
    clear hx hy hk0 ho hx0 hy0 hu hlen
    go_enter Tryz.func59, Tryz.ntmps59
    go_wp2_with fail
    refine HS.out.mono ?_
    rintro e w1 ⟨rfl, k⟩
    obtain ⟨h4, h2, h3⟩ := HP.out _ k
    have HF := Lib.hid h4
    have p3 := h2.cell 3; have q3 := h3.cell 3; have pl := h2.lt; have ql := h3.lt
    clear k h2 h3 h4
    go_wp2
    go_ret
    exact ⟨ret_bool (HO.out.trans HN.out).symm, HF.out⟩
  subst hlen
  have h1 : ((rn : Int) == (rn : Int)) = true := by simp
  have hl : rn ≤ 140737488355328 := by have := hx.rows.1; rwa [HRN.out] at this
  clear hx hy hk0 ho hx0 hy0 hu
  go_enter Tryz.func59, Tryz.ntmps59
  go_wp2_with fail
  refine HS.out.mono ?_
  rintro e w1 ⟨rfl, k⟩
  obtain ⟨h4, h2, h3⟩ := HP.out _ k
  have HF := Lib.hid h4; have HKK := Lib.hid k
  have p3 := h2.cell 3; have q3 := h3.cell 3; have pl := h2.lt; have ql := h3.lt
  clear k h2 h3 h4
  go_wp2
  clear p3 q3 pl ql
  go_loopw [5] (fun i W => ∃ q : Nat, i = .int .i64 q ∧ q ≤ rn ∧ Hid (Below ((w.alloc (.cells #[.string xn, .int .i64 xm, .slice U un uc, .slice R rn rc] TTb)).alloc (.cells #[.string xn, .int .i64 xm, .slice V vn vc, .slice S rn sc] TTb)).heap.size ((w.alloc (.cells #[.string xn, .int .i64 xm, .slice U un uc, .slice R rn rc] TTb)).alloc (.cells #[.string xn, .int .i64 xm, .slice V vn vc, .slice S rn sc] TTb)) W) ∧ Hid (xr.take q = yr.take q)) (fun i _ => rn - (intOf i).toNat)
  case atStart => exact ⟨0, rfl, by omega, HKK, Lib.hid (by simp)⟩
  case round =>
    obtain ⟨q, rfl, hq, HBE, HE⟩ := hrel
    obtain ⟨h4, h2, h3⟩ := HP.out _ HBE.out
    have HFR := Lib.hid h4
    have p3 := h2.cell 3; have q3 := h3.cell 3; have pl := h2.lt; have ql := h3.lt
    clear h2 h3 h4
    by_cases hlt : q < rn
    · obtain ⟨b1, o1, x, D, dm, dc, hA1, lb1, c0, c1, _, hD, HDL, _, HX⟩ := AtRec.g2 (HX0.out.keep (Keep.of HBE.out)).rows HRN hlt
      obtain ⟨b2, o2, y, E, em, ec, hA2, lb2, d0, d1, _, hE, HEL, _, HY⟩ := AtRec.g2 (HY0.out.keep (Keep.of HBE.out)).rows HSN hlt
      subst hA1; subst hA2
      have HT := Lib.hid (ref27_SameRecord D E dm dc em ec x y wr.drew hD hE HDL HEL)
      have i1 : (0 : Int) ≤ (q : Int) := by omega
      have i2 : (q : Int) < (rn : Int) := by omega
      clear hD hE
      by_cases he : x = y
      · rw [decide_eq_true he] at HT
        have HEQ := Lib.hid he
        clear he
        go_wp2
        go_region_with (go_at_call 43; refine HT.out.mono ?_; rintro e w5 ⟨rfl, k⟩; have HB5 := Lib.hid ((below_drewN HBE.out 1).trans (k.mono HBE.out.size)); clear k)
        all_goals
          go_wp2
          go_roundw
          case rel => exact ⟨q + 1, by go_num, by omega, HB5, Lib.hid (by rw [take_snoc HX.out, take_snoc HY.out, HE.out, HEQ.out])⟩
          case measure => simp [intOf]; omega
      · rw [decide_eq_false he] at HT
        have HN := Lib.hid (show decide (xr = yr) = false from decide_eq_false fun hh => he (by subst hh; exact Option.some.inj (HX.out.symm.trans HY.out)))
        clear he
        go_wp2
        go_region_with (go_at_call 43; refine HT.out.mono ?_; rintro e w5 ⟨rfl, k⟩; have HB5 := Lib.hid ((HP.out _ ((below_drewN HBE.out 1).trans (k.mono HBE.out.size))).1); clear k)
        all_goals
          go_wp2
          go_ret
          exact ⟨ret_bool (HO.out.trans HN.out).symm, HB5.out⟩
    · have : q = rn := by omega
      subst this
      have HY := Lib.hid (show decide (xr = yr) = true from decide_eq_true (by have := HE.out; rwa [List.take_of_length_le (by rw [HRN.out]; omega), List.take_of_length_le (by rw [HSN.out]; omega)] at this))
      go_wp2
      go_ret
      exact ⟨ret_bool (HO.out.trans HY.out).symm, HFR.out⟩
end Go.Proofs.YtbdkedjgfihamaaGreatDoor
