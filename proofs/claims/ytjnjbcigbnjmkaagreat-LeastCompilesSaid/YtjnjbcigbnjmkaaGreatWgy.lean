/- Walks: the document's Dfa: classes, walks. -/
import Derived.Deep.RegionHeld3
import Derived.Test.YtjnjbcigbnjmkaaGreatWcy
namespace Go.Proofs.YtjnjbcigbnjmkaaGreat
open Go.RowKit Pv

end Go.Proofs.YtjnjbcigbnjmkaaGreat

namespace Go.Proofs.YtjnjbcigbnjmkaaGreat
open Go.RowKit Pv

end Go.Proofs.YtjnjbcigbnjmkaaGreat

namespace Go.Proofs.YtjnjbcigbnjmkaaGreat
open Go.RowKit Pv

set_option maxHeartbeats 2000000 in
set_option maxRecDepth 100000 in
theorem ref10_Same (A1 A2 A3 B1 B2 B3 : Option Addr) (c1 c2 c3 n1 n2 n3 d1 d2 d3 m1 m2 m3 : Nat) (d o : Dfa) (w : World) (H : DfaAt w A1 A2 A3 n1 n2 n3 d) (K : DfaAt w B1 B2 B3 m1 m2 m3 o) :
    Calls Tryz.prog 6 #[.agg #[.slice A1 n1 c1, .slice A2 n2 c2, .slice A3 n3 c3], .agg #[.slice B1 m1 d1, .slice B2 m2 d2, .slice B3 m3 d3]] w fun e w' => e = .returned (.bool (yes (d = o))) ∧ Below w.heap.size w w' := by
  have hl2 : n2 ≤ 140737488355328 := by have := H.n.1; rwa [H.hn.out] at this
  have hl3 : n3 ≤ 140737488355328 := by have := H.a.1; rwa [H.ha.out] at this
  have hk : Keep w ((w.alloc (.cells #[.slice A1 n1 c1, .slice A2 n2 c2, .slice A3 n3 c3] 30)).alloc (.cells #[.slice B1 m1 d1, .slice B2 m2 d2, .slice B3 m3 d3] 30)) := (Keep.alloc _ _).trans (Keep.alloc _ _)
  have hb : Below w.heap.size w ((w.alloc (.cells #[.slice A1 n1 c1, .slice A2 n2 c2, .slice A3 n3 c3] 30)).alloc (.cells #[.slice B1 m1 d1, .slice B2 m2 d2, .slice B3 m3 d3] 30)) := ((Below.refl _ _).alloc (Nat.le_refl _) _).alloc (by simp) _
  have HC := Lib.hid (ref06_SameInts A1 B1 c1 d1 n1 m1 d.cuts o.cuts _ (H.c.keep hk) (K.c.keep hk) H.hc K.hc)
  have HB := Lib.hid hb
  have HK := Lib.hid hk
  clear hb hk
  by_cases e1 : d.cuts = o.cuts
  case neg =>
    rw [decide_eq_false e1] at HC
    have HN := Lib.hid (yes_f (p := d = o) (fun h => e1 (by rw [h])))
    clear e1 H K
    go_enter Tryz.func6, Tryz.ntmps6
    go_wp2_with (go_at_call 14; refine HC.out.mono ?_; rintro e w' ⟨rfl, nn, rfl⟩)
    go_ret
    exact ⟨ret_bool HN.out.symm, below_drewN HB.out _⟩
  rw [decide_eq_true e1] at HC
  have E1 := Lib.hid e1; clear e1
  by_cases e2 : n2 = m2
  case neg =>
    have h2 : ((n2 : Int) != (m2 : Int)) = true := by simp; omega
    have HN := Lib.hid (yes_f (p := d = o) (fun h => e2 (by rw [← H.hn.out, ← K.hn.out, h])))
    clear e2 H K
    go_enter Tryz.func6, Tryz.ntmps6
    go_wp2_with (go_at_call 14; refine HC.out.mono ?_; rintro e w' ⟨rfl, nn, rfl⟩)
    go_ret
    exact ⟨ret_bool HN.out.symm, below_drewN HB.out _⟩
  subst e2
  have h2 : ((n2 : Int) != (n2 : Int)) = false := by simp
  by_cases e3 : n3 = m3
  case neg =>
    have h3 : ((n3 : Int) != (m3 : Int)) = true := by simp; omega
    have HN := Lib.hid (yes_f (p := d = o) (fun h => e3 (by rw [← H.ha.out, ← K.ha.out, h])))
    clear e3 H K
    go_enter Tryz.func6, Tryz.ntmps6
    go_wp2_with (go_at_call 14; refine HC.out.mono ?_; rintro e w' ⟨rfl, nn, rfl⟩)
    go_ret
    exact ⟨ret_bool HN.out.symm, below_drewN HB.out _⟩
  subst e3
  have h3 : ((n3 : Int) != (n3 : Int)) = false := by simp
  go_enter Tryz.func6, Tryz.ntmps6
  go_wp2_with (go_at_call 14; refine HC.out.mono ?_; rintro e w' ⟨rfl, nn, rfl⟩)
  go_loopw [5] (fun i wr => ∃ k : Nat, i = .int .i64 k ∧ k ≤ n2 ∧ d.next.take k = o.next.take k ∧ Drawn ((w.alloc (.cells #[.slice A1 n1 c1, .slice A2 n2 c2, .slice A3 n3 c3] 30)).alloc (.cells #[.slice B1 m1 d1, .slice B2 n2 d2, .slice B3 n3 d3] 30)) wr) (fun i _ => n2 - (intOf i).toNat)
  case atStart => exact ⟨0, rfl, by omega, by simp, (by repeat (first | exact Drawn.refl _ | apply Drawn.drewN | apply Drawn.drew))⟩
  case round =>
    obtain ⟨k, rfl, hk, heq, ⟨q, rfl⟩⟩ := hrel
    have HE := Lib.hid heq; clear heq
    by_cases hlt : k < n2
    · obtain ⟨ab, ao, A', c', n', r, rfl, hab, hr, hA', HN', _, hn', HR⟩ := H.n.gtS H.hn hlt
      obtain ⟨bb, bo, B', d', m', s, rfl, hbb, hs, hB', HM', _, hm', HS⟩ := K.n.gtS K.hn hlt
      have HQ := Lib.hid (fun (W : World) (k : Keep w W) => ref06_SameInts A' B' c' d' n' m' r s W (hA'.keep k) (hB'.keep k) HN' HM')
      have g1 := (HK.out.cell _ (ao + k) hab).trans hr
      have g2 := (HK.out.cell _ (bo + k) hbb).trans hs
      have g3 : ((w.alloc (.cells #[.slice A1 n1 c1, .slice (some ⟨ab, ao, none⟩) n2 c2, .slice A3 n3 c3] 30)).alloc (.cells #[.slice B1 m1 d1, .slice (some ⟨bb, bo, none⟩) n2 d2, .slice B3 n3 d3] 30)).cell? ⟨w.heap.size, 1, none⟩ = some (.slice (some ⟨ab, ao, none⟩) n2 c2) := by simp
      have g4 : ((w.alloc (.cells #[.slice A1 n1 c1, .slice (some ⟨ab, ao, none⟩) n2 c2, .slice A3 n3 c3] 30)).alloc (.cells #[.slice B1 m1 d1, .slice (some ⟨bb, bo, none⟩) n2 d2, .slice B3 n3 d3] 30)).cell? ⟨w.heap.size + 1, 1, none⟩ = some (.slice (some ⟨bb, bo, none⟩) n2 d2) := by simp
      clear H K hA' hB' hr hs
      cases hrs : decide (r = s)
      all_goals
        rw [hrs] at HQ
        go_wp2
        go_region_held3 (fun W => W.cell? ⟨w.heap.size, 1, none⟩ = some (.slice (some ⟨ab, ao, none⟩) n2 c2) ∧ W.cell? ⟨w.heap.size + 1, 1, none⟩ = some (.slice (some ⟨bb, bo, none⟩) n2 d2) ∧ W.cell? ⟨ab, ao + k, none⟩ = some (.slice A' n' c') ∧ W.cell? ⟨bb, bo + k, none⟩ = some (.slice B' m' d') ∧ Drawn ((w.alloc (.cells #[.slice A1 n1 c1, .slice (some ⟨ab, ao, none⟩) n2 c2, .slice A3 n3 c3] 30)).alloc (.cells #[.slice B1 m1 d1, .slice (some ⟨bb, bo, none⟩) n2 d2, .slice B3 n3 d3] 30)) W)
          (refine ⟨?_, ?_, ?_, ?_, ?_⟩ <;> first | assumption | (repeat (first | exact Drawn.refl _ | apply Drawn.drewN | apply Drawn.drew)))
          ((go_at_call 14; refine (HQ.out _ (HK.out.trans ((Keep.drewN _ _).trans (Keep.drew _)))).mono ?_; rintro e w1 ⟨rfl, nn, rfl⟩))
      · have HN := Lib.hid (yes_f (p := d = o) (fun h => by
          subst h
          have := Option.some.inj (HR.out.symm.trans HS.out)
          exact (of_decide_eq_false hrs) this))
        go_wp2
        go_ret
        rename_i hS
        obtain ⟨_, _, _, _, hd⟩ := hS
        obtain ⟨_, hd⟩ := hd
        exact ⟨ret_bool HN.out.symm, by rw [hd]; exact below_drewN HB.out _⟩
      · go_wp2
        go_roundw
        case rel =>
          rename_i hS
          exact ⟨k + 1, by go_num, by omega, by rw [take_snoc HR.out, take_snoc HS.out, HE.out, of_decide_eq_true hrs], hS.2.2.2.2⟩
        case measure => simp [intOf]; omega
    · have : k = n2 := by omega
      subst this
      have E2 := Lib.hid (show d.next = o.next by have := HE.out; rwa [List.take_of_length_le (by rw [H.hn.out]; omega), List.take_of_length_le (by rw [K.hn.out]; omega)] at this)
      clear HE
      go_wp2
      go_loopw [6] (fun i wr => ∃ j : Nat, i = .int .i64 j ∧ j ≤ n3 ∧ d.accept.take j = o.accept.take j ∧ Drawn ((w.alloc (.cells #[.slice A1 n1 c1, .slice A2 k c2, .slice A3 n3 c3] 30)).alloc (.cells #[.slice B1 m1 d1, .slice B2 k d2, .slice B3 n3 d3] 30)) wr) (fun i _ => n3 - (intOf i).toNat)
      case atStart => exact ⟨0, rfl, by omega, by simp, (by repeat (first | exact Drawn.refl _ | apply Drawn.drewN | apply Drawn.drew))⟩
      case round =>
        obtain ⟨j, rfl, hj, heq, ⟨q', rfl⟩⟩ := hrel
        have HE := Lib.hid heq; clear heq
        by_cases hlt : j < n3
        · obtain ⟨ab, ao, u, x, rfl, hab, hx, rfl, HX⟩ := H.a.gt H.ha hlt
          obtain ⟨bb, bo, u, y, rfl, hbb, hy, rfl, HY⟩ := K.a.gt K.ha hlt
          clear H K
          by_cases hxy : x = y
          · subst hxy
            have h4 : (x == x) = true := by simp
            go_wp2
            go_quiet (fail)
            go_wp2
            go_roundw
            case rel => exact ⟨j + 1, by go_num, by omega, by rw [take_snoc HX.out, take_snoc HY.out, HE.out], (by repeat (first | exact Drawn.refl _ | apply Drawn.drewN | apply Drawn.drew))⟩
            case measure => simp [intOf]; omega
          · have h4 : (x == y) = false := by simp [hxy]
            have HN := Lib.hid (yes_f (p := d = o) (fun h => by
              subst h
              exact hxy (Option.some.inj (HX.out.symm.trans HY.out))))
            clear hxy
            go_wp2
            go_quiet (fail)
            go_wp2
            go_ret
            exact ⟨ret_bool HN.out.symm, below_drewN (below_drewN HB.out _) _⟩
        · have : j = n3 := by omega
          subst this
          have HY := Lib.hid (yes_t (p := d = o) (by
            have h := HE.out
            rw [List.take_of_length_le (by rw [H.ha.out]; omega), List.take_of_length_le (by rw [K.ha.out]; omega)] at h
            obtain ⟨x1, x2, x3⟩ := d
            obtain ⟨y1, y2, y3⟩ := o
            have a := E1.out; have b := E2.out
            simp only at a b h
            rw [a, b, h]))
          clear H K
          go_wp2
          go_ret
          exact ⟨ret_bool HY.out.symm, below_drewN HB.out _⟩

end Go.Proofs.YtjnjbcigbnjmkaaGreat
