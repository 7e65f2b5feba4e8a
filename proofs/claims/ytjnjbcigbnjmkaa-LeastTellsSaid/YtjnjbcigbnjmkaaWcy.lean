/- Walks: the document's Dfa: whether one may be, a number's class. -/
import Derived.Test.YtjnjbcigbnjmkaaWby
import Derived.Test.YtjnjbcigbnjmkaaDfay
namespace Go.Proofs.Ytjnjbcigbnjmkaa
open Go.RowKit Pv

set_option maxHeartbeats 2000000 in
set_option maxRecDepth 100000 in
theorem ref10_May (A1 A2 A3 : Option Addr) (c1 c2 c3 n1 n2 n3 : Nat) (d : Dfa) (w : World) (H : DfaAt w A1 A2 A3 n1 n2 n3 d) :
    Calls Try.prog 51 #[.agg #[.slice A1 n1 c1, .slice A2 n2 c2, .slice A3 n3 c3]] w fun e w' => e = .returned (.bool d.okB) ∧ Below w.heap.size w w' := by
  obtain ⟨h1, h2, h3, H1, H2, H3⟩ := H
  have hl1 : n1 ≤ 140737488355328 := by have := h1.1; rwa [H1.out] at this
  have hl2 : n2 ≤ 140737488355328 := by have := h2.1; rwa [H2.out] at this
  have hl3 : n3 ≤ 140737488355328 := by have := h3.1; rwa [H3.out] at this
  by_cases g1 : n1 < 1
  · have HN := Lib.hid (Dfa.okB_no (d := d) fun o => by have := o.c1; have := H1.out; omega)
    go_enter Try.func51, Try.ntmps51
    go_wp2
    go_ret
    exact ⟨ret_bool HN.out.symm, (by repeat (first | exact Below.refl _ _ | exact (Below.refl _ _).alloc (Nat.le_refl _) _ | apply below_drewN))⟩
  by_cases g2 : 256 < n1
  · have HN := Lib.hid (Dfa.okB_no (d := d) fun o => by have := o.c2; have := H1.out; omega)
    go_enter Try.func51, Try.ntmps51
    go_wp2
    go_ret
    exact ⟨ret_bool HN.out.symm, (by repeat (first | exact Below.refl _ _ | exact (Below.refl _ _).alloc (Nat.le_refl _) _ | apply below_drewN))⟩
  obtain ⟨b1, o1, u, x0, rfl, hb1, hx0, ⟨rfl, _, _⟩, HX0⟩ := h1.gt H1 (k := 0) (by omega)
  simp only [Nat.add_zero] at hx0
  by_cases g3 : x0 = 0
  case neg =>
    have h4 : (x0 != 0) = true := by simp [g3]
    have HN := Lib.hid (Dfa.okB_no (d := d) fun o => by have := o.c0; rw [HX0.out] at this; injection this with this; exact g3 this)
    clear g3
    go_enter Try.func51, Try.ntmps51
    go_wp2
    go_ret
    exact ⟨ret_bool HN.out.symm, (by repeat (first | exact Below.refl _ _ | exact (Below.refl _ _).alloc (Nat.le_refl _) _ | apply below_drewN))⟩
  subst g3
  by_cases g4 : n2 < 1
  · have HN := Lib.hid (Dfa.okB_no (d := d) fun o => by have := o.n1; have := H2.out; omega)
    go_enter Try.func51, Try.ntmps51
    go_wp2
    go_ret
    exact ⟨ret_bool HN.out.symm, (by repeat (first | exact Below.refl _ _ | exact (Below.refl _ _).alloc (Nat.le_refl _) _ | apply below_drewN))⟩
  by_cases g5 : 64 < n2
  · have HN := Lib.hid (Dfa.okB_no (d := d) fun o => by have := o.n2; have := H2.out; omega)
    go_enter Try.func51, Try.ntmps51
    go_wp2
    go_ret
    exact ⟨ret_bool HN.out.symm, (by repeat (first | exact Below.refl _ _ | exact (Below.refl _ _).alloc (Nat.le_refl _) _ | apply below_drewN))⟩
  by_cases g6 : n3 = n2
  case neg =>
    have h4 : ((n3 : Int) != (n2 : Int)) = true := by simp; omega
    have HN := Lib.hid (Dfa.okB_no (d := d) fun o => by have := o.a; have := H2.out; have := H3.out; omega)
    clear g6
    go_enter Try.func51, Try.ntmps51
    go_wp2
    go_ret
    exact ⟨ret_bool HN.out.symm, (by repeat (first | exact Below.refl _ _ | exact (Below.refl _ _).alloc (Nat.le_refl _) _ | apply below_drewN))⟩
  subst g6
  have h4 : ((n3 : Int) != (n3 : Int)) = false := by simp
  go_enter Try.func51, Try.ntmps51
  go_wp2
  go_loopw [4] (fun i wr => ∃ k : Nat, i = .int .i64 k ∧ Drawn (w.alloc (.cells #[.slice (some ⟨b1, o1, none⟩) n1 c1, .slice A2 n3 c2, .slice A3 n3 c3] 26)) wr ∧ 1 ≤ k ∧ k ≤ n1 ∧ (∀ (i : Nat) a b, i + 1 < k → d.cuts[i]? = some a → d.cuts[i + 1]? = some b → a < b ∧ b ≤ 1114111)) (fun i _ => n1 - (intOf i).toNat)
  case atStart => exact ⟨1, rfl, (by repeat (first | exact Drawn.refl _ | apply Drawn.drewN | apply Drawn.drew)), by omega, by omega, fun i a b hi => by omega⟩
  case round =>
    obtain ⟨k, rfl, ⟨q, rfl⟩, hk1, hk, hup⟩ := hrel
    have HU := Lib.hid hup; clear hup
    by_cases hlt : k < n1
    · obtain ⟨u, x, _, hx, ⟨rfl, _, _⟩, HX⟩ := h1.gt2 H1 hlt
      obtain ⟨k, rfl⟩ : ∃ j, k = j + 1 := ⟨k - 1, by omega⟩
      obtain ⟨u, y, _, hy, ⟨rfl, _, _⟩, HY⟩ := h1.gt2 H1 (k := k) (by omega)
      clear h1 h2 h3
      by_cases hxy : x ≤ y
      · have HN := Lib.hid (Dfa.okB_no (d := d) fun o => by have := (o.up k y x HY.out HX.out).1; omega)
        have hd : decide (x ≤ y) = true := decide_eq_true hxy
        go_wp2
        go_quiet (fail)
        go_wp2
        go_ret
        exact ⟨ret_bool HN.out.symm, (by repeat (first | exact Below.refl _ _ | exact (Below.refl _ _).alloc (Nat.le_refl _) _ | apply below_drewN))⟩
      · have hd : decide (x ≤ y) = false := decide_eq_false hxy
        by_cases hxm : 1114111 < x
        · have HN := Lib.hid (Dfa.okB_no (d := d) fun o => by have := (o.up k y x HY.out HX.out).2; omega)
          go_wp2
          go_quiet (fail)
          go_wp2
          go_ret
          exact ⟨ret_bool HN.out.symm, (by repeat (first | exact Below.refl _ _ | exact (Below.refl _ _).alloc (Nat.le_refl _) _ | apply below_drewN))⟩
        · go_wp2
          go_quiet (fail)
          go_wp2
          go_roundw
          case rel =>
            refine ⟨k + 2, by go_num, (by repeat (first | exact Drawn.refl _ | apply Drawn.drewN | apply Drawn.drew)), by omega, by omega, fun i a b hi ha hb => ?_⟩
            by_cases hik : i = k
            · subst hik
              rw [HY.out] at ha; rw [HX.out] at hb
              injection ha with ha; injection hb with hb
              omega
            · exact HU.out i a b (by omega) ha hb
          case measure => simp [intOf]; omega
    · have : k = n1 := by omega
      subst this
      clear h1 h3
      go_wp2
      go_loopw [5, 6] (fun i j wr => ∃ k' : Nat, i = .int .i64 k' ∧ Drawn (w.alloc (.cells #[.slice (some ⟨b1, o1, none⟩) k c1, .slice A2 n3 c2, .slice A3 n3 c3] 26)) wr ∧ k' ≤ n3 ∧ (∀ (i : Nat) r, i < k' → d.next[i]? = some r → r.length = d.cuts.length ∧ ∀ (j : Nat) x, r[j]? = some x → 0 ≤ x ∧ x < d.next.length)) (fun i _ _ => n3 - (intOf i).toNat)
      case atStart => exact ⟨0, rfl, (by repeat (first | exact Drawn.refl _ | apply Drawn.drewN | apply Drawn.drew)), by omega, fun i r hi => by omega⟩
      case round =>
        obtain ⟨k', rfl, ⟨q', rfl⟩, hk', hrows⟩ := hrel
        have HR := Lib.hid hrows; clear hrows
        by_cases hlt' : k' < n3
        · obtain ⟨b2, o2, A', c', n', r, rfl, hb2, hr, hA', HN', _, hn', HR0⟩ := h2.gtS H2 hlt'
          clear h2
          by_cases hrn : n' = k
          case neg =>
            have h5 : ((n' : Int) != (k : Int)) = true := by simp; omega
            have HN := Lib.hid (Dfa.okB_no (d := d) fun o => by have := o.rl k' r HR0.out; have := HN'.out; have := H1.out; omega)
            clear hrn
            go_wp2
            go_quiet (fail)
            go_wp2
            go_ret
            exact ⟨ret_bool HN.out.symm, (by repeat (first | exact Below.refl _ _ | exact (Below.refl _ _).alloc (Nat.le_refl _) _ | apply below_drewN))⟩
          subst hrn
          have h5 : ((n' : Int) != (n' : Int)) = false := by simp
          go_wp2
          go_quiet (fail)
          go_wp2
          go_loopw [6] (fun j wr => ∃ m : Nat, j = .int .i64 m ∧ Drawn (w.alloc (.cells #[.slice (some ⟨b1, o1, none⟩) n' c1, .slice (some ⟨b2, o2, none⟩) n3 c2, .slice A3 n3 c3] 26)) wr ∧ m ≤ n' ∧ (∀ (j : Nat) x, j < m → r[j]? = some x → 0 ≤ x ∧ x < n3)) (fun j _ => n' - (intOf j).toNat)
          case atStart => exact ⟨0, rfl, (by repeat (first | exact Drawn.refl _ | apply Drawn.drewN | apply Drawn.drew)), by omega, fun j x hj => by omega⟩
          case round =>
            obtain ⟨m, rfl, ⟨q'', rfl⟩, hm, hxs⟩ := hrel
            have HX := Lib.hid hxs; clear hxs
            by_cases hlm : m < n'
            · obtain ⟨b3, o3, u, x, rfl, hb3, hx, ⟨rfl, _, _⟩, HX1⟩ := hA'.gt HN' hlm
              clear hA'
              by_cases hx0' : x < 0
              · have HN := Lib.hid (Dfa.okB_no (d := d) fun o => by have := o.rx k' r HR0.out m x HX1.out; omega)
                go_wp2
                go_ret
                exact ⟨ret_bool HN.out.symm, (by repeat (first | exact Below.refl _ _ | exact (Below.refl _ _).alloc (Nat.le_refl _) _ | apply below_drewN))⟩
              · by_cases hx1 : (n3 : Int) ≤ x
                · have HN := Lib.hid (Dfa.okB_no (d := d) fun o => by have := o.rx k' r HR0.out m x HX1.out; have := H2.out; omega)
                  go_wp2
                  go_ret
                  exact ⟨ret_bool HN.out.symm, (by repeat (first | exact Below.refl _ _ | exact (Below.refl _ _).alloc (Nat.le_refl _) _ | apply below_drewN))⟩
                · go_wp2
                  go_roundw
                  case rel =>
                    refine ⟨m + 1, by go_num, (by repeat (first | exact Drawn.refl _ | apply Drawn.drewN | apply Drawn.drew)), by omega, fun j y hj hy => ?_⟩
                    by_cases hjm : j = m
                    · subst hjm
                      rw [HX1.out] at hy
                      injection hy with hy
                      omega
                    · exact HX.out j y (by omega) hy
                  case measure => simp [intOf]; omega
            · have : m = n' := by omega
              subst this
              clear hA'
              go_wp2
              go_roundw
              case rel =>
                refine ⟨k' + 1, by go_num, (by repeat (first | exact Drawn.refl _ | apply Drawn.drewN | apply Drawn.drew)), by omega, fun i r' hi hr' => ?_⟩
                by_cases hik : i = k'
                · subst hik
                  rw [HR0.out] at hr'
                  injection hr' with hr'
                  subst hr'
                  exact ⟨HN'.out.trans H1.out.symm, fun j x hx => by have := HX.out j x (by have := lt_of_get hx; have := HN'.out; omega) hx; have := H2.out; omega⟩
                · exact HR.out i r' (by omega) hr'
              case measure => simp [intOf]; omega
        · have : k' = n3 := by omega
          subst this
          have HY := Lib.hid (Dfa.okB_yes (d := d) ⟨by have := H1.out; omega, by have := H1.out; omega, HX0.out, by have := H2.out; omega, by have := H2.out; omega, by have := H2.out; have := H3.out; omega,
            fun i a b ha hb => HU.out i a b (by have := lt_of_get hb; have := H1.out; omega) ha hb, fun i r hr => (HR.out i r (by have := lt_of_get hr; have := H2.out; omega) hr).1,
            fun i r hr => (HR.out i r (by have := lt_of_get hr; have := H2.out; omega) hr).2⟩)
          clear h2
          go_wp2
          go_ret
          exact ⟨ret_bool HY.out.symm, (by repeat (first | exact Below.refl _ _ | exact (Below.refl _ _).alloc (Nat.le_refl _) _ | apply below_drewN))⟩

end Go.Proofs.Ytjnjbcigbnjmkaa
