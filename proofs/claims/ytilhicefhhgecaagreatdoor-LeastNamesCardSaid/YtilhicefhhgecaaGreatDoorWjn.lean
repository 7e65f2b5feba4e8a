/- Walks: subset's class, Class, Walk, Run, Same. -/
import Derived.Deep.RegionHeld3
import Derived.Test.YtilhicefhhgecaaGreatDoorWhn
import Derived.Test.YtilhicefhhgecaaGreatDoorDfan
namespace Go.Proofs.YtilhicefhhgecaaGreatDoor
open Go.RowKit Pv

set_option maxHeartbeats 1000000 in
theorem subset_class (A1 A2 A3 : Option Addr) (c1 c2 c3 n1 n2 n3 : Nat) (d : Dfa) (n : Int) (w : World) (H : DfaAt w A1 A2 A3 n1 n2 n3 d) (hok : d.Ok) (hn : 0 ≤ n) :
    Calls Tryz.prog 51 #[.agg #[.slice A1 n1 c1, .slice A2 n2 c2, .slice A3 n3 c3], .int .i64 n] w fun e w' => e = .returned (.int .i64 (lastLe d.cuts n d.cuts.length : Nat)) ∧ Below w.heap.size w w' := by
  have hs : ∀ (i j : Nat), i ≤ j → ∀ a b, d.cuts[i]? = some a → d.cuts[j]? = some b → a ≤ b := fun i j hij a b ha hb => by
    by_cases h : i = j
    · subst h; rw [ha] at hb; injection hb with hb; omega
    · have := hok.strict i a ha j b (by omega) hb; omega
  have HS := Lib.hid (fun (W : World) (k : Keep w W) => slices_BinarySearch_int A1 c1 n1 n d.cuts W (H.c.keep k) H.hc (Lib.hid hs))
  have hl1 : n1 ≤ 256 := by have := hok.c2; rwa [H.hc.out] at this
  have HOK := Lib.hid hok
  have H1 := H.hc
  clear hs H hok
  go_enter Tryz.func51, Tryz.ntmps51
  go_wp2_with (go_at_call 90; refine (HS.out _ (Keep.alloc _ _)).mono ?_; rintro e w' ⟨i, f, rfl, hi, h1, h2, hf, rfl⟩; have HF := Lib.hid (HOK.out.found hn (by rw [H1.out]; exact hi) h1 h2); have Hf := Lib.hid hf; clear h1 h2 hf; cases f)
  · have hf : d.cuts[i]? ≠ some n := of_decide_eq_false Hf.out.symm
    have h3 := HF.out.2 hf
    have HE := Lib.hid h3.2
    have hi0 := h3.1
    clear h3 hf
    go_wp2
    go_ret
    exact ⟨ret_int (by rw [HE.out]; omega), (by repeat (first | exact Below.refl _ _ | exact (Below.refl _ _).alloc (Nat.le_refl _) _ | apply below_drewN))⟩
  · have hf : d.cuts[i]? = some n := of_decide_eq_true Hf.out.symm
    have HE := Lib.hid (HF.out.1 hf)
    clear hf
    go_wp2
    go_ret
    exact ⟨ret_int (by rw [HE.out]), (by repeat (first | exact Below.refl _ _ | exact (Below.refl _ _).alloc (Nat.le_refl _) _ | apply below_drewN))⟩

set_option maxHeartbeats 1000000 in
theorem subset_Class (A1 A2 A3 : Option Addr) (c1 c2 c3 n1 n2 n3 : Nat) (d : Dfa) (n : Int) (w : World) (H : DfaAt w A1 A2 A3 n1 n2 n3 d) :
    Calls Tryz.prog 52 #[.agg #[.slice A1 n1 c1, .slice A2 n2 c2, .slice A3 n3 c3], .int .i64 n] w fun e w' => e = .returned (.tuple #[.int .i64 (d.classE n).1, .int .i64 (d.classE n).2]) ∧ Below w.heap.size w w' := by
  have HM := Lib.hid (subset_Check A1 A2 A3 c1 c2 c3 n1 n2 n3 d (w.alloc (.cells #[.slice A1 n1 c1, .slice A2 n2 c2, .slice A3 n3 c3] 26)) (H.keep (Keep.alloc _ _)))
  have HO := Lib.hid (fun (W : World) (k : Keep w W) (hok : d.Ok) (hn : 0 ≤ n) => subset_class A1 A2 A3 c1 c2 c3 n1 n2 n3 d n W (H.keep k) hok hn)
  clear H
  cases hok : d.okB
  · rw [Dfa.checkE_no hok] at HM
    have HE := Lib.hid (show d.classE n = (0, 8) by simp [Dfa.classE, hok])
    clear hok
    go_enter Tryz.func52, Tryz.ntmps52
    go_wp2_with (go_at_call 18; refine HM.out.mono ?_; rintro e w1 ⟨rfl, hb⟩)
    go_ret2
    exact ⟨ret_ii (by rw [HE.out]) (by rw [HE.out]), (box3 hb).2.2.2.2⟩
  · rw [Dfa.checkE_yes hok] at HM
    have HOK := Lib.hid hok
    clear hok
    by_cases h0 : n < 0
    · have HE := Lib.hid (show d.classE n = (0, 2) by simp [Dfa.classE, HOK.out, h0])
      go_enter Tryz.func52, Tryz.ntmps52
      go_wp2_with (go_at_call 18; refine HM.out.mono ?_; rintro e w1 ⟨rfl, hb⟩)
      go_ret2
      exact ⟨ret_ii (by rw [HE.out]) (by rw [HE.out]), (box3 hb).2.2.2.2⟩
    by_cases h1 : 1114111 < n
    · have HE := Lib.hid (show d.classE n = (0, 2) by simp [Dfa.classE, HOK.out, h1])
      go_enter Tryz.func52, Tryz.ntmps52
      go_wp2_with (go_at_call 18; refine HM.out.mono ?_; rintro e w1 ⟨rfl, hb⟩)
      go_ret2
      exact ⟨ret_ii (by rw [HE.out]) (by rw [HE.out]), (box3 hb).2.2.2.2⟩
    · have HE := Lib.hid (show d.classE n = (((lastLe d.cuts n d.cuts.length : Nat) : Int), (0 : Int)) by unfold Dfa.classE; rw [if_pos HOK.out, if_neg (by omega)])
      go_enter Tryz.func52, Tryz.ntmps52
      go_wp2_with (first | (go_at_call 18; refine HM.out.mono ?_; rintro e w1 ⟨rfl, hb⟩; obtain ⟨t0, t1, t2, t3, t4⟩ := box3 hb; clear hb) | (go_at_call 51; refine (HO.out _ (Keep.of t4) (Dfa.ok_of HOK.out) (by omega)).mono ?_; rintro e w2 ⟨rfl, hb2⟩))
      go_ret2
      exact ⟨ret_ii (by rw [HE.out]) (by rw [HE.out]), (box3_more t0 t1 t2 t3 t4 hb2).2.2.2.2⟩


end Go.Proofs.YtilhicefhhgecaaGreatDoor

namespace Go.Proofs.YtilhicefhhgecaaGreatDoor
open Go.RowKit Pv

set_option maxHeartbeats 2000000 in
set_option maxRecDepth 100000 in
theorem ref10_Same (A1 A2 A3 B1 B2 B3 : Option Addr) (c1 c2 c3 n1 n2 n3 d1 d2 d3 m1 m2 m3 : Nat) (d o : Dfa) (w : World) (H : DfaAt w A1 A2 A3 n1 n2 n3 d) (K : DfaAt w B1 B2 B3 m1 m2 m3 o) :
    Calls Tryz.prog 17 #[.agg #[.slice A1 n1 c1, .slice A2 n2 c2, .slice A3 n3 c3], .agg #[.slice B1 m1 d1, .slice B2 m2 d2, .slice B3 m3 d3]] w fun e w' => e = .returned (.bool (yes (d = o))) ∧ Below w.heap.size w w' := by
  have hl2 : n2 ≤ 140737488355328 := by have := H.n.1; rwa [H.hn.out] at this
  have hl3 : n3 ≤ 140737488355328 := by have := H.a.1; rwa [H.ha.out] at this
  have hk : Keep w ((w.alloc (.cells #[.slice A1 n1 c1, .slice A2 n2 c2, .slice A3 n3 c3] 26)).alloc (.cells #[.slice B1 m1 d1, .slice B2 m2 d2, .slice B3 m3 d3] 26)) := (Keep.alloc _ _).trans (Keep.alloc _ _)
  have hb : Below w.heap.size w ((w.alloc (.cells #[.slice A1 n1 c1, .slice A2 n2 c2, .slice A3 n3 c3] 26)).alloc (.cells #[.slice B1 m1 d1, .slice B2 m2 d2, .slice B3 m3 d3] 26)) := ((Below.refl _ _).alloc (Nat.le_refl _) _).alloc (by simp) _
  have HC := Lib.hid (ref06_SameInts A1 B1 c1 d1 n1 m1 d.cuts o.cuts _ (H.c.keep hk) (K.c.keep hk) H.hc K.hc)
  have HB := Lib.hid hb
  have HK := Lib.hid hk
  clear hb hk
  by_cases e1 : d.cuts = o.cuts
  case neg =>
    rw [decide_eq_false e1] at HC
    have HN := Lib.hid (yes_f (p := d = o) (fun h => e1 (by rw [h])))
    clear e1 H K
    go_enter Tryz.func17, Tryz.ntmps17
    go_wp2_with (go_at_call 53; refine HC.out.mono ?_; rintro e w' ⟨rfl, nn, rfl⟩)
    go_ret
    exact ⟨ret_bool HN.out.symm, below_drewN HB.out _⟩
  rw [decide_eq_true e1] at HC
  have E1 := Lib.hid e1; clear e1
  by_cases e2 : n2 = m2
  case neg =>
    have h2 : ((n2 : Int) != (m2 : Int)) = true := by simp; omega
    have HN := Lib.hid (yes_f (p := d = o) (fun h => e2 (by rw [← H.hn.out, ← K.hn.out, h])))
    clear e2 H K
    go_enter Tryz.func17, Tryz.ntmps17
    go_wp2_with (go_at_call 53; refine HC.out.mono ?_; rintro e w' ⟨rfl, nn, rfl⟩)
    go_ret
    exact ⟨ret_bool HN.out.symm, below_drewN HB.out _⟩
  subst e2
  have h2 : ((n2 : Int) != (n2 : Int)) = false := by simp
  by_cases e3 : n3 = m3
  case neg =>
    have h3 : ((n3 : Int) != (m3 : Int)) = true := by simp; omega
    have HN := Lib.hid (yes_f (p := d = o) (fun h => e3 (by rw [← H.ha.out, ← K.ha.out, h])))
    clear e3 H K
    go_enter Tryz.func17, Tryz.ntmps17
    go_wp2_with (go_at_call 53; refine HC.out.mono ?_; rintro e w' ⟨rfl, nn, rfl⟩)
    go_ret
    exact ⟨ret_bool HN.out.symm, below_drewN HB.out _⟩
  subst e3
  have h3 : ((n3 : Int) != (n3 : Int)) = false := by simp
  go_enter Tryz.func17, Tryz.ntmps17
  go_wp2_with (go_at_call 53; refine HC.out.mono ?_; rintro e w' ⟨rfl, nn, rfl⟩)
  go_loopw [5] (fun i wr => ∃ k : Nat, i = .int .i64 k ∧ k ≤ n2 ∧ d.next.take k = o.next.take k ∧ Drawn ((w.alloc (.cells #[.slice A1 n1 c1, .slice A2 n2 c2, .slice A3 n3 c3] 26)).alloc (.cells #[.slice B1 m1 d1, .slice B2 n2 d2, .slice B3 n3 d3] 26)) wr) (fun i _ => n2 - (intOf i).toNat)
  case atStart => exact ⟨0, rfl, by omega, by simp, (by repeat (first | exact Drawn.refl _ | apply Drawn.drewN | apply Drawn.drew))⟩
  case round =>
    obtain ⟨k, rfl, hk, heq, ⟨q, rfl⟩⟩ := hrel
    have HE := Lib.hid heq; clear heq
    by_cases hlt : k < n2
    · obtain ⟨ab, ao, A', c', n', r, rfl, hab, hr, hA', HN', _, hn', HR⟩ := H.n.gtS H.hn hlt
      obtain ⟨bb, bo, B', d', m', s, rfl, hbb, hs, hB', HM', _, hm', HS⟩ := K.n.gtS K.hn hlt
      have HQ := Lib.hid (fun (W : World) (k : Keep w W) => ref06_SameInts A' B' c' d' n' m' r s W (hA'.keep k) (hB'.keep k) HN' HM')
      have g1 := (HK.out.cell _ (ao + k) hab).trans hr
      have g2 := (HK.out.cell _ (bo + k) hbb).trans hs
      have g3 : ((w.alloc (.cells #[.slice A1 n1 c1, .slice (some ⟨ab, ao, none⟩) n2 c2, .slice A3 n3 c3] 26)).alloc (.cells #[.slice B1 m1 d1, .slice (some ⟨bb, bo, none⟩) n2 d2, .slice B3 n3 d3] 26)).cell? ⟨w.heap.size, 1, none⟩ = some (.slice (some ⟨ab, ao, none⟩) n2 c2) := by simp
      have g4 : ((w.alloc (.cells #[.slice A1 n1 c1, .slice (some ⟨ab, ao, none⟩) n2 c2, .slice A3 n3 c3] 26)).alloc (.cells #[.slice B1 m1 d1, .slice (some ⟨bb, bo, none⟩) n2 d2, .slice B3 n3 d3] 26)).cell? ⟨w.heap.size + 1, 1, none⟩ = some (.slice (some ⟨bb, bo, none⟩) n2 d2) := by simp
      clear H K hA' hB' hr hs
      cases hrs : decide (r = s)
      all_goals
        rw [hrs] at HQ
        go_wp2
        go_region_held3 (fun W => W.cell? ⟨w.heap.size, 1, none⟩ = some (.slice (some ⟨ab, ao, none⟩) n2 c2) ∧ W.cell? ⟨w.heap.size + 1, 1, none⟩ = some (.slice (some ⟨bb, bo, none⟩) n2 d2) ∧ W.cell? ⟨ab, ao + k, none⟩ = some (.slice A' n' c') ∧ W.cell? ⟨bb, bo + k, none⟩ = some (.slice B' m' d') ∧ Drawn ((w.alloc (.cells #[.slice A1 n1 c1, .slice (some ⟨ab, ao, none⟩) n2 c2, .slice A3 n3 c3] 26)).alloc (.cells #[.slice B1 m1 d1, .slice (some ⟨bb, bo, none⟩) n2 d2, .slice B3 n3 d3] 26)) W)
          (refine ⟨?_, ?_, ?_, ?_, ?_⟩ <;> first | assumption | (repeat (first | exact Drawn.refl _ | apply Drawn.drewN | apply Drawn.drew)))
          ((go_at_call 53; refine (HQ.out _ (HK.out.trans ((Keep.drewN _ _).trans (Keep.drew _)))).mono ?_; rintro e w1 ⟨rfl, nn, rfl⟩))
      · have HN := Lib.hid (yes_f (p := d = o) (fun h => by
          subst h
          have := Option.some.inj (HR.out.symm.trans HS.out)
          exact (of_decide_eq_false hrs) this))
        go_wp2
        go_ret
        rename_i hS
        obtain ⟨_, _, _, _, hd⟩ := hS
        obtain ⟨_, hd⟩ := hd
        exact ⟨ret_bool HN.out.symm, by rw [hd]; exact below_drewN HB.out _⟩
      · go_wp2
        go_roundw
        case rel =>
          rename_i hS
          exact ⟨k + 1, by go_num, by omega, by rw [take_snoc HR.out, take_snoc HS.out, HE.out, of_decide_eq_true hrs], hS.2.2.2.2⟩
        case measure => simp [intOf]; omega
    · have : k = n2 := by omega
      subst this
      have E2 := Lib.hid (show d.next = o.next by have := HE.out; rwa [List.take_of_length_le (by rw [H.hn.out]; omega), List.take_of_length_le (by rw [K.hn.out]; omega)] at this)
      clear HE
      go_wp2
      go_loopw [6] (fun i wr => ∃ j : Nat, i = .int .i64 j ∧ j ≤ n3 ∧ d.accept.take j = o.accept.take j ∧ Drawn ((w.alloc (.cells #[.slice A1 n1 c1, .slice A2 k c2, .slice A3 n3 c3] 26)).alloc (.cells #[.slice B1 m1 d1, .slice B2 k d2, .slice B3 n3 d3] 26)) wr) (fun i _ => n3 - (intOf i).toNat)
      case atStart => exact ⟨0, rfl, by omega, by simp, (by repeat (first | exact Drawn.refl _ | apply Drawn.drewN | apply Drawn.drew))⟩
      case round =>
        obtain ⟨j, rfl, hj, heq, ⟨q', rfl⟩⟩ := hrel
        have HE := Lib.hid heq; clear heq
        by_cases hlt : j < n3
        · obtain ⟨ab, ao, u, x, rfl, hab, hx, rfl, HX⟩ := H.a.gt H.ha hlt
          obtain ⟨bb, bo, u, y, rfl, hbb, hy, rfl, HY⟩ := K.a.gt K.ha hlt
          clear H K
          by_cases hxy : x = y
          · subst hxy
            have h4 : (x == x) = true := by simp
            go_wp2
            go_quiet (fail)
            go_wp2
            go_roundw
            case rel => exact ⟨j + 1, by go_num, by omega, by rw [take_snoc HX.out, take_snoc HY.out, HE.out], (by repeat (first | exact Drawn.refl _ | apply Drawn.drewN | apply Drawn.drew))⟩
            case measure => simp [intOf]; omega
          · have h4 : (x == y) = false := by simp [hxy]
            have HN := Lib.hid (yes_f (p := d = o) (fun h => by
              subst h
              exact hxy (Option.some.inj (HX.out.symm.trans HY.out))))
            clear hxy
            go_wp2
            go_quiet (fail)
            go_wp2
            go_ret
            exact ⟨ret_bool HN.out.symm, below_drewN (below_drewN HB.out _) _⟩
        · have : j = n3 := by omega
          subst this
          have HY := Lib.hid (yes_t (p := d = o) (by
            have h := HE.out
            rw [List.take_of_length_le (by rw [H.ha.out]; omega), List.take_of_length_le (by rw [K.ha.out]; omega)] at h
            obtain ⟨x1, x2, x3⟩ := d
            obtain ⟨y1, y2, y3⟩ := o
            have a := E1.out; have b := E2.out
            simp only at a b h
            rw [a, b, h]))
          clear H K
          go_wp2
          go_ret
          exact ⟨ret_bool HY.out.symm, below_drewN HB.out _⟩

end Go.Proofs.YtilhicefhhgecaaGreatDoor

namespace Go.Proofs.YtilhicefhhgecaaGreatDoor
open Go.RowKit Pv

set_option maxHeartbeats 2000000 in
set_option maxRecDepth 100000 in
theorem subset_Walk (A1 A2 A3 A4 : Option Addr) (c1 c2 c3 c4 n1 n2 n3 n4 : Nat) (d : Dfa) (s : Int) (pts : List Int) (w : World) (H : DfaAt w A1 A2 A3 n1 n2 n3 d) (hp : At w A4 RI pts) (HP : Hid (pts.length = n4)) :
    Calls Tryz.prog 15 #[.agg #[.slice A1 n1 c1, .slice A2 n2 c2, .slice A3 n3 c3], .int .i64 s, .slice A4 n4 c4] w fun e w' => e = .returned (.tuple #[.int .i64 (d.walkE s pts).1, .int .i64 (d.walkE s pts).2]) ∧ Below w.heap.size w w' := by
  have hl4 : n4 ≤ 140737488355328 := by have := hp.1; rwa [HP.out] at this
  have HM := Lib.hid (subset_Check A1 A2 A3 c1 c2 c3 n1 n2 n3 d (w.alloc (.cells #[.slice A1 n1 c1, .slice A2 n2 c2, .slice A3 n3 c3] 26)) (H.keep (Keep.alloc _ _)))
  have HT := Lib.hid (fun (W : World) (k : Keep w W) (n : Int) (hok : d.Ok) (hn : 0 ≤ n) => subset_class A1 A2 A3 c1 c2 c3 n1 n2 n3 d n W (H.keep k) hok hn)
  have HH := Lib.hid H
  have HN2 := H.hn
  clear H
  cases hok : d.okB
  · rw [Dfa.checkE_no hok] at HM
    have HE := Lib.hid (show d.walkE s pts = (0, 8) by simp [Dfa.walkE, hok])
    clear hok
    go_enter Tryz.func15, Tryz.ntmps15
    go_wp2_with (go_at_call 18; refine HM.out.mono ?_; rintro e w1 ⟨rfl, hb⟩)
    go_ret2
    exact ⟨ret_ii (by rw [HE.out]) (by rw [HE.out]), (box3 hb).2.2.2.2⟩
  rw [Dfa.checkE_yes hok] at HM
  have HOK := Lib.hid hok
  clear hok
  by_cases h1 : 1024 < n4
  · have HE := Lib.hid (show d.walkE s pts = (0, 4) by unfold Dfa.walkE; rw [if_pos HOK.out, if_pos (by rw [HP.out]; exact h1)])
    go_enter Tryz.func15, Tryz.ntmps15
    go_wp2_with (go_at_call 18; refine HM.out.mono ?_; rintro e w1 ⟨rfl, hb⟩)
    go_ret2
    exact ⟨ret_ii (by rw [HE.out]) (by rw [HE.out]), (box3 hb).2.2.2.2⟩
  by_cases h2 : s < 0
  · have HE := Lib.hid (show d.walkE s pts = (0, 2) by unfold Dfa.walkE; rw [if_pos HOK.out, if_neg (by rw [HP.out]; exact h1), if_pos (.inl h2)])
    go_enter Tryz.func15, Tryz.ntmps15
    go_wp2_with (go_at_call 18; refine HM.out.mono ?_; rintro e w1 ⟨rfl, hb⟩; obtain ⟨t0, t1, t2, t3, t4⟩ := box3 hb; clear hb)
    go_ret2
    exact ⟨ret_ii (by rw [HE.out]) (by rw [HE.out]), t4⟩
  by_cases h3 : (n2 : Int) ≤ s
  · have HE := Lib.hid (show d.walkE s pts = (0, 2) by unfold Dfa.walkE; rw [if_pos HOK.out, if_neg (by rw [HP.out]; exact h1), if_pos (.inr (by rw [HN2.out]; exact h3))])
    go_enter Tryz.func15, Tryz.ntmps15
    go_wp2_with (go_at_call 18; refine HM.out.mono ?_; rintro e w1 ⟨rfl, hb⟩; obtain ⟨t0, t1, t2, t3, t4⟩ := box3 hb; clear hb)
    go_ret2
    exact ⟨ret_ii (by rw [HE.out]) (by rw [HE.out]), t4⟩
  have HE0 := Lib.hid (show beyond pts → d.walkE s pts = (0, 2) from fun hb => by unfold Dfa.walkE; rw [if_pos HOK.out, if_neg (by rw [HP.out]; exact h1), if_neg (by rw [HN2.out]; omega), if_pos hb])
  have HE1 := Lib.hid (show ¬ beyond pts → d.walkE s pts = (((d.to s.toNat pts : Nat) : Int), (0 : Int)) from fun hb => by unfold Dfa.walkE; rw [if_pos HOK.out, if_neg (by rw [HP.out]; exact h1), if_neg (by rw [HN2.out]; omega), if_neg hb])
  obtain ⟨s0, rfl⟩ := Int.eq_ofNat_of_zero_le (show 0 ≤ s by omega)
  have hd1 : decide ((1024 : Int) < (n4 : Int)) = false := decide_eq_false (by omega)
  have hd2 : decide ((s0 : Int) < 0) = false := decide_eq_false (by omega)
  have hd3 : decide (n2 ≤ s0) = false := decide_eq_false (by omega)
  go_enter Tryz.func15, Tryz.ntmps15
  go_wp2_with (go_at_call 18; refine HM.out.mono ?_; rintro e w1 ⟨rfl, hb⟩; obtain ⟨t0, t1, t2, t3, t4⟩ := box3 hb; clear hb)
  have hn2 : n2 ≤ 64 := by have := (Dfa.ok_of HOK.out).n2; have := HN2.out; omega
  have hs0 : s0 < n2 := by omega
  go_loopw [1, 30] (fun s i wr => ∃ k s1 : Nat, i = .int .i64 k ∧ s = .int .i64 s1 ∧ s1 < n2 ∧ s1 = d.to s0 (pts.take k) ∧ k ≤ n4 ∧ (∀ (j : Nat) p, j < k → pts[j]? = some p → 0 ≤ p ∧ p ≤ 1114111) ∧ wr.cell? ⟨w.heap.size, 0, none⟩ = some (.slice A1 n1 c1) ∧ wr.cell? ⟨w.heap.size, 1, none⟩ = some (.slice A2 n2 c2) ∧ wr.cell? ⟨w.heap.size, 2, none⟩ = some (.slice A3 n3 c3) ∧ w.heap.size < wr.heap.size ∧ Below w.heap.size w wr) (fun _ i _ => n4 - (intOf i).toNat)
  case atStart => exact ⟨0, s0, rfl, rfl, hs0, by simp [Dfa.to], by omega, by intros; omega, t0, t1, t2, t3, t4⟩
  case round =>
    clear t0 t1 t2 t3 t4
    obtain ⟨k, s1, rfl, rfl, hs1, hto, hk, hall, hb0, hb1, hb2, hsz, hbel⟩ := hrel
    have HTO := Lib.hid hto; have HA := Lib.hid hall; clear hto hall
    by_cases hlt : k < n4
    · obtain ⟨b4, o4, u, p, rfl, hb4, hx4, ⟨rfl, _, _⟩, HX4⟩ := hp.gt HP hlt
      have g4 := (hbel.cell (p := ⟨b4, o4 + k, none⟩) hb4).trans hx4
      by_cases hp0 : p < 0
      · have HE := Lib.hid (HE0.out ⟨p, mem_of_get HX4.out, .inl hp0⟩)
        clear hp hx4
        go_wp2
        go_ret2
        exact ⟨ret_ii (by rw [HE.out]) (by rw [HE.out]), hbel⟩
      by_cases hp1 : 1114111 < p
      · have HE := Lib.hid (HE0.out ⟨p, mem_of_get HX4.out, .inr hp1⟩)
        clear hp hx4
        go_wp2
        go_ret2
        exact ⟨ret_ii (by rw [HE.out]) (by rw [HE.out]), hbel⟩
      obtain ⟨b2, o2, A', c', n', r, rfl, hbb2, hr, hA', HN', _, hn', HR⟩ := HH.out.n.gtS HN2 hs1
      obtain ⟨r', x, hr', hrl, hrx, hxe, hlt2⟩ := (Dfa.ok_of HOK.out).row (s := s1) (by rw [HN2.out]; exact hs1) p
      obtain rfl : r = r' := Option.some.inj (HR.out.symm.trans hr')
      have HF := Lib.hid (fun (W : World) (k : Keep w W) => HT.out W k p (Dfa.ok_of HOK.out) (by omega))
      generalize hc : lastLe d.cuts p d.cuts.length = cl at *
      have hcn : cl < n' := by have := lt_of_get hrx; rwa [HN'.out] at this
      obtain ⟨b3, o3, u, x', rfl, hb3, hx3, ⟨rfl, _, _⟩, HX3⟩ := hA'.gt HN' hcn
      obtain rfl : x' = x := Option.some.inj (HX3.out.symm.trans hrx)
      generalize hst : d.step s1 p = s2 at *
      subst hxe
      have HST := Lib.hid (show d.to s0 (pts.take (k + 1)) = s2 by rw [take_snoc HX4.out, Dfa.to_snoc, ← HTO.out, hst])
      have hs2 : s2 < n2 := by rw [HN2.out] at hlt2; exact hlt2
      have kb := Keep.of hbel
      have g2 := (kb.cell _ (o2 + s1) hbb2).trans hr
      have g3 := (kb.cell _ (o3 + cl) hb3).trans hx3
      have HB := Lib.hid hbel
      clear hx4 hr hx3 hst hrl hr' hrx hc hlt2 hA' hp kb hbel HT
      go_wp2
      go_region_held3 (fun W => W.cell? ⟨w.heap.size, 0, none⟩ = some (.slice A1 n1 c1) ∧ W.cell? ⟨w.heap.size, 1, none⟩ = some (.slice (some ⟨b2, o2, none⟩) n2 c2) ∧ W.cell? ⟨w.heap.size, 2, none⟩ = some (.slice A3 n3 c3) ∧ W.cell? ⟨b2, o2 + s1, none⟩ = some (.slice (some ⟨b3, o3, none⟩) n' c') ∧ W.cell? ⟨b3, o3 + cl, none⟩ = some (.int .i64 s2) ∧ w.heap.size < W.heap.size ∧ Below w.heap.size w W)
        (refine ⟨?_, ?_, ?_, ?_, ?_, ?_, ?_⟩ <;> first | assumption | exact HB.out.drew | exact cell_later hb (by assumption) | exact HB.out.drew.trans (hb.mono HB.out.size) | exact Nat.lt_of_lt_of_le hsz hb.size)
        ((go_at_call 51; refine (HF.out _ ((Keep.of HB.out).trans (Keep.drew _))).mono ?_; rintro e w1 ⟨rfl, hb⟩))
      go_wp2
      go_roundw
      case rel =>
        rename_i hS
        obtain ⟨t0, t1, t2, _, _, t3, t4⟩ := hS
        refine ⟨k + 1, s2, by go_num, rfl, hs2, HST.out.symm, by omega, fun j x hj hx => ?_, t0, t1, t2, t3, t4⟩
        by_cases hjk : j = k
        · subst hjk
          obtain rfl : p = x := Option.some.inj (HX4.out.symm.trans hx)
          omega
        · exact HA.out j x (by omega) hx
      case measure => simp [intOf]; omega
    · have : k = n4 := by omega
      subst this
      clear hp
      have HE := Lib.hid (HE1.out (by rintro ⟨p, hp, hx⟩; obtain ⟨j, hj⟩ := List.getElem?_of_mem hp; have := HA.out j p (by have := lt_of_get hj; rwa [HP.out] at this) hj; omega))
      have HTO2 := Lib.hid (show s1 = d.to s0 pts by rw [HTO.out, List.take_of_length_le (by rw [HP.out]; omega)])
      go_wp2
      go_ret2
      exact ⟨ret_ii (by rw [HE.out, HTO2.out]; rfl) (by rw [HE.out]), hbel⟩

end Go.Proofs.YtilhicefhhgecaaGreatDoor
