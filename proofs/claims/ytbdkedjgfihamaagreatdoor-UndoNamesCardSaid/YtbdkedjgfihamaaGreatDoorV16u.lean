/- Walks: whether two values of cells are the same, by the library's Equal. PUT1 -/
import Derived.Test.YtbdkedjgfihamaaGreatDoorV15u
import Derived.Laws.StructEq
namespace Go.Proofs.YtbdkedjgfihamaaGreatDoor
open Go.RowKit Pv Go.Maps
set_option maxHeartbeats 4000000 in
set_option maxRecDepth 100000 in
theorem equal_cels (A B : Option Addr) (c d n m : Nat) (l r : List Cel) (w : World) (ha : AtCel w A l) (hb : AtCel w B r) (HL : Hid (l.length = n)) (HM : Hid (r.length = m)) :
    Calls Tryz.prog 86 #[.slice A n c, .slice B m d] w fun e w' => e = .returned (.bool (decide (l = r))) ∧ Below w.heap.size w w' := by
  by_cases hlen : n = m
  case neg =>
    have h1 : ((n : Int) != (m : Int)) = true := by simp; omega
    have HN := Lib.hid (show decide (l = r) = false by simp; intro h; subst h; exact hlen (HL.out.symm.trans HM.out))
    clear hlen ha hb
    go_enter Tryz.func86, Tryz.ntmps86
    go_wp2
    go_ret
    exact ⟨ret_bool HN.out.symm, Below.refl _ _⟩
  have hl : n ≤ 140737488355328 := by have := ha.1; rwa [HL.out] at this
  subst hlen
  have h1 : ((n : Int) != (n : Int)) = false := by simp
  have HA : Hid (AtCel w A l) := Lib.hid ha; have HB : Hid (AtCel w B r) := Lib.hid hb
  clear ha hb
  go_enter Tryz.func86, Tryz.ntmps86
  go_wp2
  go_loopw [13] (fun i wr => ∃ q : Nat, i = .int .i64 q ∧ q ≤ n ∧ Hid (Below w.heap.size w wr) ∧ Hid (l.take q = r.take q)) (fun i _ => n - (intOf i).toNat)
  case atStart => exact ⟨0, rfl, by omega, Lib.hid (Below.refl _ _), Lib.hid (by simp)⟩
  case round =>
    obtain ⟨q, rfl, hq, HBE, HE⟩ := hrel
    by_cases hlt : q < n
    · obtain ⟨b1, o1, ⟨k, nm, tx, z, y⟩, rfl, ⟨lb1, c0, c1, c2, c3, c4⟩, _, HX⟩ := AtCel.g5 (AtK.keep HA.out (Keep.of HBE.out)) HL hlt
      obtain ⟨b2, o2, ⟨k', nm', tx', z', y'⟩, rfl, ⟨lb2, d0, d1, d2, d3, d4⟩, _, HY⟩ := AtCel.g5 (AtK.keep HB.out (Keep.of HBE.out)) HM hlt
      have HNE := Lib.hid (show (⟨k, nm, tx, z, y⟩ : Cel) ≠ ⟨k', nm', tx', z', y'⟩ → decide (l = r) = false from fun h => decide_eq_false fun hh => h (by subst hh; exact Option.some.inj (HX.out.symm.trans HY.out)))
      dsimp only at c0 c1 c2 c3 c4 d0 d1 d2 d3 d4
      have i1 : (0 : Int) ≤ (q : Int) := by omega
      have i2 : (q : Int) < (n : Int) := by omega
      by_cases e0 : k = k'
      · by_cases e1 : nm = nm'
        · by_cases e2 : tx = tx'
          · by_cases e3 : z = z'
            · by_cases e4 : y = y'
              · subst e0
                subst e1
                subst e2
                subst e3
                subst e4
                have t1 : (nm.toList == nm.toList) = true := by simp
                have t2 : (tx.toList == tx.toList) = true := by simp
                go_wp2
                go_quiet (fail)
                go_wp2
                go_roundw
                case rel => exact ⟨q + 1, by go_num, by omega, Lib.hid (below_drewN HBE.out _), Lib.hid (by rw [take_snoc HX.out, take_snoc HY.out, HE.out])⟩
                case measure => simp [intOf]; omega
              · have HN := Lib.hid (HNE.out (fun h => e4 (by injection h)))
                subst e0
                subst e1
                subst e2
                subst e3
                have t1 : (nm.toList == nm.toList) = true := by simp
                have t2 : (tx.toList == tx.toList) = true := by simp
                have t4 : (y == y') = false := by simpa using e4
                clear e4
                go_wp2
                go_quiet (fail)
                go_wp2
                go_ret
                exact ⟨ret_bool HN.out.symm, below_drewN HBE.out _⟩
            · have HN := Lib.hid (HNE.out (fun h => e3 (by injection h)))
              subst e0
              subst e1
              subst e2
              have t1 : (nm.toList == nm.toList) = true := by simp
              have t2 : (tx.toList == tx.toList) = true := by simp
              have t3 : (z == z') = false := by simpa using e3
              clear e3
              go_wp2
              go_quiet (fail)
              go_wp2
              go_ret
              exact ⟨ret_bool HN.out.symm, below_drewN HBE.out _⟩
          · have HN := Lib.hid (HNE.out (fun h => e2 (by injection h)))
            subst e0
            subst e1
            have t1 : (nm.toList == nm.toList) = true := by simp
            have t2 : (tx.toList == tx'.toList) = false := by rw [beq_eq_false_iff_ne]; exact fun h => e2 (toList_inj h)
            clear e2
            go_wp2
            go_quiet (fail)
            go_wp2
            go_ret
            exact ⟨ret_bool HN.out.symm, below_drewN HBE.out _⟩
        · have HN := Lib.hid (HNE.out (fun h => e1 (by injection h)))
          subst e0
          have t1 : (nm.toList == nm'.toList) = false := by rw [beq_eq_false_iff_ne]; exact fun h => e1 (toList_inj h)
          clear e1
          go_wp2
          go_quiet (fail)
          go_wp2
          go_ret
          exact ⟨ret_bool HN.out.symm, below_drewN HBE.out _⟩
      · have HN := Lib.hid (HNE.out (fun h => e0 (by injection h)))
        have t0 : (k == k') = false := by simpa using e0
        clear e0
        go_wp2
        go_quiet (fail)
        go_wp2
        go_ret
        exact ⟨ret_bool HN.out.symm, below_drewN HBE.out _⟩
    · have : q = n := by omega
      subst this
      have HY := Lib.hid (show decide (l = r) = true from decide_eq_true (by have := HE.out; rwa [List.take_of_length_le (by rw [HL.out]; omega), List.take_of_length_le (by rw [HM.out]; omega)] at this))
      go_wp2
      go_ret
      exact ⟨ret_bool HY.out.symm, HBE.out⟩
set_option maxHeartbeats 1000000 in
set_option maxRecDepth 100000 in
theorem cell_Same (A B : Option Addr) (c d n m : Nat) (l r : List Cel) (w : World) (ha : AtCel w A l) (hb : AtCel w B r) (HL : Hid (l.length = n)) (HM : Hid (r.length = m)) :
    Calls Tryz.prog 58 #[.slice A n c, .slice B m d] w fun e w' => e = .returned (.bool (decide (l = r))) ∧ Below w.heap.size w w' := by
  have HC := Lib.hid (equal_cels A B c d n m l r w ha hb HL HM)
  clear ha hb
  go_enter Tryz.func58, Tryz.ntmps58
  go_wp2_with fail
  refine HC.out.mono ?_
  rintro e w1 ⟨rfl, k⟩
  have K := Lib.hid k
  clear k
  go_wp2
  go_ret
  exact ⟨rfl, K.out⟩
end Go.Proofs.YtbdkedjgfihamaaGreatDoor
