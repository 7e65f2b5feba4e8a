/- Walks: subset.Check. -/
import Derived.Test.YtjnjbcigbnjmkaaWby
import Derived.Test.YtjnjbcigbnjmkaaDfay
namespace Go.Proofs.Ytjnjbcigbnjmkaa
open Go.RowKit Pv

set_option maxHeartbeats 2000000 in
set_option maxRecDepth 100000 in
theorem subset_Check (A1 A2 A3 : Option Addr) (c1 c2 c3 n1 n2 n3 : Nat) (d : Dfa) (w : World) (H : DfaAt w A1 A2 A3 n1 n2 n3 d) :
    Calls Try.prog 17 #[.agg #[.slice A1 n1 c1, .slice A2 n2 c2, .slice A3 n3 c3]] w fun e w' => e = .returned (.int .i64 d.checkE) ∧ Below w.heap.size w w' := by
  obtain ⟨h1, h2, h3, H1, H2, H3⟩ := H
  have hl1 : n1 ≤ 140737488355328 := by have := h1.1; rwa [H1.out] at this
  have hl2 : n2 ≤ 140737488355328 := by have := h2.1; rwa [H2.out] at this
  have hl3 : n3 ≤ 140737488355328 := by have := h3.1; rwa [H3.out] at this
  by_cases g1 : n1 < 1
  · have HN := Lib.hid (Dfa.okB_no (d := d) fun o => by have := o.c1; have := H1.out; omega)
    go_enter Try.func17, Try.ntmps17
    go_wp2
    go_ret
    exact ⟨ret_int (Dfa.checkE_no HN.out).symm, (by repeat (first | exact Below.refl _ _ | exact (Below.refl _ _).alloc (Nat.le_refl _) _ | apply below_drewN))⟩
  by_cases g2 : 256 < n1
  · have HN := Lib.hid (Dfa.okB_no (d := d) fun o => by have := o.c2; have := H1.out; omega)
    go_enter Try.func17, Try.ntmps17
    go_wp2
    go_ret
    exact ⟨ret_int (Dfa.checkE_no HN.out).symm, (by repeat (first | exact Below.refl _ _ | exact (Below.refl _ _).alloc (Nat.le_refl _) _ | apply below_drewN))⟩
  obtain ⟨b1, o1, u, x0, rfl, hb1, hx0, ⟨rfl, _, _⟩, HX0⟩ := h1.gt H1 (k := 0) (by omega)
  simp only [Nat.add_zero] at hx0
  by_cases g3 : x0 = 0
  case neg =>
    have h4 : (x0 != 0) = true := by simp [g3]
    have HN := Lib.hid (Dfa.okB_no (d := d) fun o => by have := o.c0; rw [HX0.out] at this; injection this with this; exact g3 this)
    clear g3
    go_enter Try.func17, Try.ntmps17
    go_wp2
    go_ret
    exact ⟨ret_int (Dfa.checkE_no HN.out).symm, (by repeat (first | exact Below.refl _ _ | exact (Below.refl _ _).alloc (Nat.le_refl _) _ | apply below_drewN))⟩
  subst g3
  by_cases g4 : n2 < 1
  · have HN := Lib.hid (Dfa.okB_no (d := d) fun o => by have := o.n1; have := H2.out; omega)
    go_enter Try.func17, Try.ntmps17
    go_wp2
    go_ret
    exact ⟨ret_int (Dfa.checkE_no HN.out).symm, (by repeat (first | exact Below.refl _ _ | exact (Below.refl _ _).alloc (Nat.le_refl _) _ | apply below_drewN))⟩
  by_cases g5 : 64 < n2
  · have HN := Lib.hid (Dfa.okB_no (d := d) fun o => by have := o.n2; have := H2.out; omega)
    go_enter Try.func17, Try.ntmps17
    go_wp2
    go_ret
    exact ⟨ret_int (Dfa.checkE_no HN.out).symm, (by repeat (first | exact Below.refl _ _ | exact (Below.refl _ _).alloc (Nat.le_refl _) _ | apply below_drewN))⟩
  by_cases g6 : n3 = n2
  case neg =>
    have h4 : ((n3 : Int) != (n2 : Int)) = true := by simp; omega
    have HN := Lib.hid (Dfa.okB_no (d := d) fun o => by have := o.a; have := H2.out; have := H3.out; omega)
    clear g6
    go_enter Try.func17, Try.ntmps17
    go_wp2
    go_ret
    exact ⟨ret_int (Dfa.checkE_no HN.out).symm, (by repeat (first | exact Below.refl _ _ | exact (Below.refl _ _).alloc (Nat.le_refl _) _ | apply below_drewN))⟩
  subst g6
  have h4 : ((n3 : Int) != (n3 : Int)) = false := by simp
  go_enter Try.func17, Try.ntmps17
  go_wp2
  go_loop [4, 6, 47] (fun l _ i => ∃ (k : Nat) (y : Int), i = .int .i64 k ∧ l = .int .i64 y ∧ k ≤ n1 ∧ (k = 0 → y = -1) ∧ (∀ j, k = j + 1 → d.cuts[j]? = some y) ∧ (∀ (i : Nat) a, i < k → d.cuts[i]? = some a → a ≤ 1114111) ∧ (∀ (i : Nat) a b, i + 1 < k → d.cuts[i]? = some a → d.cuts[i + 1]? = some b → a < b)) (fun _ _ i => n1 - (intOf i).toNat)
  case atStart => exact ⟨0, -1, rfl, rfl, by omega, fun _ => rfl, by intros; omega, by intros; omega, by intros; omega⟩
  case round =>
    obtain ⟨k, y, rfl, rfl, hk, hy0, hy1, hmx, hup⟩ := hrel
    have HU := Lib.hid hup; have HY0 := Lib.hid hy0; have HY1 := Lib.hid hy1; have HMX := Lib.hid hmx
    clear hup hy0 hy1 hmx
    by_cases hlt : k < n1
    · obtain ⟨u, x, _, hx, ⟨rfl, _, _⟩, HX⟩ := h1.gt2 H1 hlt
      clear h1 h2 h3
      by_cases hxy : x ≤ y
      · have HN := Lib.hid (Dfa.okB_no (d := d) fun o => by
          rcases Nat.eq_zero_or_pos k with h0 | h0
          · subst h0
            have := HY0.out rfl
            obtain rfl : 0 = x := Option.some.inj (HX0.out.symm.trans HX.out)
            omega
          · obtain ⟨j, rfl⟩ : ∃ j, k = j + 1 := ⟨k - 1, by omega⟩
            have := (o.up j y x (HY1.out j rfl) HX.out).1
            omega)
        go_wp2
        go_ret
        exact ⟨ret_int (Dfa.checkE_no HN.out).symm, (by repeat (first | exact Below.refl _ _ | exact (Below.refl _ _).alloc (Nat.le_refl _) _ | apply below_drewN))⟩
      by_cases hxm : 1114111 < x
      · have HN := Lib.hid (Dfa.okB_no (d := d) fun o => by
          rcases Nat.eq_zero_or_pos k with h0 | h0
          · subst h0
            obtain rfl : 0 = x := Option.some.inj (HX0.out.symm.trans HX.out)
            omega
          · obtain ⟨j, rfl⟩ : ∃ j, k = j + 1 := ⟨k - 1, by omega⟩
            have := (o.up j y x (HY1.out j rfl) HX.out).2
            omega)
        go_wp2
        go_ret
        exact ⟨ret_int (Dfa.checkE_no HN.out).symm, (by repeat (first | exact Below.refl _ _ | exact (Below.refl _ _).alloc (Nat.le_refl _) _ | apply below_drewN))⟩
      · go_wp2
        go_round
        case rel =>
          refine ⟨k + 1, x, by go_num, rfl, by omega, by omega, fun j hj => by cases hj; exact HX.out, fun i a hi ha => ?_, fun i a b hi ha hb => ?_⟩
          · by_cases hik : i = k
            · subst hik
              obtain rfl : x = a := Option.some.inj (HX.out.symm.trans ha)
              omega
            · exact HMX.out i a (by omega) ha
          · by_cases hik : i + 1 = k
            · subst hik
              obtain rfl : x = b := Option.some.inj (HX.out.symm.trans hb)
              obtain rfl : y = a := Option.some.inj ((HY1.out i rfl).symm.trans ha)
              omega
            · exact HU.out i a b (by omega) ha hb
        case measure => simp [intOf]; omega
    · have : k = n1 := by omega
      subst this
      clear h1 h3 hx0
      go_wp2
      go_loop [8, 63] (fun _ i => ∃ k' : Nat, i = .int .i64 k' ∧ k' ≤ n3 ∧ (∀ (i : Nat) r, i < k' → d.next[i]? = some r → r.length = d.cuts.length ∧ ∀ (j : Nat) x, r[j]? = some x → 0 ≤ x ∧ x < d.next.length)) (fun _ i => n3 - (intOf i).toNat)
      case atStart => exact ⟨0, rfl, by omega, fun i r hi => by omega⟩
      case round =>
        obtain ⟨k', rfl, hk', hrows⟩ := hrel
        have HR := Lib.hid hrows; clear hrows
        by_cases hlt' : k' < n3
        · obtain ⟨b2, o2, A', c', n', r, rfl, hb2, hr, hA', HN', _, hn', HR0⟩ := h2.gtS H2 hlt'
          clear h2
          by_cases hrn : n' = k
          case neg =>
            have h5 : ((n' : Int) != (k : Int)) = true := by simp; omega
            have HN := Lib.hid (Dfa.okB_no (d := d) fun o => by have := o.rl k' r HR0.out; have := HN'.out; have := H1.out; omega)
            clear hrn
            go_wp2
            go_ret
            exact ⟨ret_int (Dfa.checkE_no HN.out).symm, (by repeat (first | exact Below.refl _ _ | exact (Below.refl _ _).alloc (Nat.le_refl _) _ | apply below_drewN))⟩
          subst hrn
          have h5 : ((n' : Int) != (n' : Int)) = false := by simp
          have HMin := Lib.hid (fun (W : World) (kp : Keep w W) => slices_Min_int A' c' n' r W (hA'.keep kp) HN' (by omega))
          have HMax := Lib.hid (fun (W : World) (kp : Keep w W) => slices_Max_int A' c' n' r W (hA'.keep kp) HN' (by omega))
          clear hA'
          by_cases hneg : ∃ x ∈ r, x < 0
          · obtain ⟨x, hx, hx0⟩ := hneg
            have HN := Lib.hid (Dfa.okB_no (d := d) fun o => by
              obtain ⟨j, hj⟩ := List.getElem?_of_mem hx
              have := o.rx k' r HR0.out j x hj; omega)
            have HX := Lib.hid hx
            clear hx
            go_wp2_with (go_at_call 54; refine (HMin.out _ (Keep.alloc _ _)).mono ?_; rintro e w' ⟨m, rfl, _, hle, rfl⟩; have hm0 : m < 0 := Int.lt_of_le_of_lt (hle x HX.out) hx0; clear hle)
            go_ret
            exact ⟨ret_int (Dfa.checkE_no HN.out).symm, (by repeat (first | exact Below.refl _ _ | exact (Below.refl _ _).alloc (Nat.le_refl _) _ | apply below_drewN))⟩
          have HNG := Lib.hid hneg; clear hneg
          by_cases hbig : ∃ x ∈ r, (n3 : Int) ≤ x
          · obtain ⟨x, hx, hx0⟩ := hbig
            have HN := Lib.hid (Dfa.okB_no (d := d) fun o => by
              obtain ⟨j, hj⟩ := List.getElem?_of_mem hx
              have := o.rx k' r HR0.out j x hj; have := H2.out; omega)
            have HX := Lib.hid hx
            clear hx
            go_wp2_with (first | (go_at_call 54; refine (HMin.out _ (Keep.alloc _ _)).mono ?_; rintro e w' ⟨m, rfl, hm, _, rfl⟩; have hm0 : 0 ≤ m := Int.not_lt.1 (fun h => HNG.out ⟨m, hm, h⟩); clear hm) | (go_at_call 55; refine (HMax.out _ (Keep.alloc _ _)).mono ?_; rintro e w' ⟨m2, rfl, _, hle, rfl⟩; have hm2 : (n3 : Int) ≤ m2 := Int.le_trans hx0 (hle x HX.out); clear hle))
            go_ret
            exact ⟨ret_int (Dfa.checkE_no HN.out).symm, (by repeat (first | exact Below.refl _ _ | exact (Below.refl _ _).alloc (Nat.le_refl _) _ | apply below_drewN))⟩
          have HBG := Lib.hid hbig; clear hbig
          go_wp2_with (first | (go_at_call 54; refine (HMin.out _ (Keep.alloc _ _)).mono ?_; rintro e w' ⟨m, rfl, hm, _, rfl⟩; have hm0 : 0 ≤ m := Int.not_lt.1 (fun h => HNG.out ⟨m, hm, h⟩); clear hm) | (go_at_call 55; refine (HMax.out _ (Keep.alloc _ _)).mono ?_; rintro e w' ⟨m2, rfl, hm, _, rfl⟩; have hm2 : m2 < (n3 : Int) := Int.not_le.1 (fun h => HBG.out ⟨m2, hm, h⟩); clear hm))
          go_round
          case rel =>
            refine ⟨k' + 1, by go_num, by omega, fun i r' hi hr' => ?_⟩
            by_cases hik : i = k'
            · subst hik
              obtain rfl : r = r' := Option.some.inj (HR0.out.symm.trans hr')
              refine ⟨HN'.out.trans H1.out.symm, fun j x hx => ⟨Int.not_lt.1 fun h => HNG.out ⟨x, mem_of_get hx, h⟩, ?_⟩⟩
              have := Int.not_le.1 fun h => HBG.out ⟨x, mem_of_get hx, h⟩
              have := H2.out
              omega
            · exact HR.out i r' (by omega) hr'
          case measure => simp [intOf]; omega
        · have : k' = n3 := by omega
          subst this
          have HY := Lib.hid (Dfa.okB_yes (d := d) ⟨by have := H1.out; omega, by have := H1.out; omega, HX0.out, by have := H2.out; omega, by have := H2.out; omega, by have := H2.out; have := H3.out; omega,
            fun i a b ha hb => ⟨HU.out i a b (by have := lt_of_get hb; have := H1.out; omega) ha hb, HMX.out (i + 1) b (by have := lt_of_get hb; have := H1.out; omega) hb⟩, fun i r hr => (HR.out i r (by have := lt_of_get hr; have := H2.out; omega) hr).1,
            fun i r hr => (HR.out i r (by have := lt_of_get hr; have := H2.out; omega) hr).2⟩)
          clear h2
          go_wp2
          go_ret
          exact ⟨ret_int (Dfa.checkE_yes HY.out).symm, (by repeat (first | exact Below.refl _ _ | exact (Below.refl _ _).alloc (Nat.le_refl _) _ | apply below_drewN))⟩

end Go.Proofs.Ytjnjbcigbnjmkaa
