/- Walks: the document's Dfa: Class, Walk, Run. -/
import Derived.Test.YtjnjbcigbnjmkaaWd
namespace Go.Proofs.Ytjnjbcigbnjmkaa
open Go.RowKit Pv

set_option maxHeartbeats 1000000 in
theorem ref10_Class (A1 A2 A3 : Option Addr) (c1 c2 c3 n1 n2 n3 : Nat) (d : Dfa) (n : Int) (w : World) (H : DfaAt w A1 A2 A3 n1 n2 n3 d) :
    Calls Try.prog 12 #[.agg #[.slice A1 n1 c1, .slice A2 n2 c2, .slice A3 n3 c3], .int .i64 n] w fun e w' => e = .returned (.tuple #[.int .i64 (d.classE n).1, .int .i64 (d.classE n).2]) ∧ Below w.heap.size w w' := by
  have HM := Lib.hid (ref10_May A1 A2 A3 c1 c2 c3 n1 n2 n3 d (w.alloc (.cells #[.slice A1 n1 c1, .slice A2 n2 c2, .slice A3 n3 c3] 26)) (H.keep (Keep.alloc _ _)))
  have HO := Lib.hid (fun (W : World) (k : Keep w W) => ref10_Of A1 A2 A3 c1 c2 c3 n1 n2 n3 d n W (H.keep k))
  clear H
  cases hok : d.okB
  · rw [hok] at HM
    have HE := Lib.hid (show d.classE n = (0, 8) by simp [Dfa.classE, hok])
    clear hok
    go_enter Try.func12, Try.ntmps12
    go_wp2_with (go_at_call 51; refine HM.out.mono ?_; rintro e w1 ⟨rfl, hb⟩)
    go_ret2
    exact ⟨ret_ii (by rw [HE.out]) (by rw [HE.out]), (box3 hb).2.2.2.2⟩
  · rw [hok] at HM
    have HOK := Lib.hid hok
    clear hok
    by_cases h0 : n < 0
    · have HE := Lib.hid (show d.classE n = (0, 2) by simp [Dfa.classE, HOK.out, h0])
      go_enter Try.func12, Try.ntmps12
      go_wp2_with (go_at_call 51; refine HM.out.mono ?_; rintro e w1 ⟨rfl, hb⟩)
      go_ret2
      exact ⟨ret_ii (by rw [HE.out]) (by rw [HE.out]), (box3 hb).2.2.2.2⟩
    by_cases h1 : 1114111 < n
    · have HE := Lib.hid (show d.classE n = (0, 2) by simp [Dfa.classE, HOK.out, h1])
      go_enter Try.func12, Try.ntmps12
      go_wp2_with (go_at_call 51; refine HM.out.mono ?_; rintro e w1 ⟨rfl, hb⟩)
      go_ret2
      exact ⟨ret_ii (by rw [HE.out]) (by rw [HE.out]), (box3 hb).2.2.2.2⟩
    · have HE := Lib.hid (show d.classE n = (((lastLe d.cuts n d.cuts.length : Nat) : Int), (0 : Int)) by unfold Dfa.classE; rw [if_pos HOK.out, if_neg (by omega)])
      go_enter Try.func12, Try.ntmps12
      go_wp2_with (first | (go_at_call 51; refine HM.out.mono ?_; rintro e w1 ⟨rfl, hb⟩; obtain ⟨t0, t1, t2, t3, t4⟩ := box3 hb; clear hb) | (go_at_call 52; refine (HO.out _ (Keep.of t4)).mono ?_; rintro e w2 ⟨rfl, hb2⟩))
      go_ret2
      exact ⟨ret_ii (by rw [HE.out]) (by rw [HE.out]), (box3_more t0 t1 t2 t3 t4 hb2).2.2.2.2⟩

set_option maxHeartbeats 2000000 in
set_option maxRecDepth 100000 in
theorem ref10_Walk (A1 A2 A3 A4 : Option Addr) (c1 c2 c3 c4 n1 n2 n3 n4 : Nat) (d : Dfa) (s : Int) (pts : List Int) (w : World) (H : DfaAt w A1 A2 A3 n1 n2 n3 d) (hp : At w A4 RI pts) (HP : Hid (pts.length = n4)) :
    Calls Try.prog 14 #[.agg #[.slice A1 n1 c1, .slice A2 n2 c2, .slice A3 n3 c3], .int .i64 s, .slice A4 n4 c4] w fun e w' => e = .returned (.tuple #[.int .i64 (d.walkE s pts).1, .int .i64 (d.walkE s pts).2]) ∧ Below w.heap.size w w' := by
  have hl4 : n4 ≤ 140737488355328 := by have := hp.1; rwa [HP.out] at this
  have HM := Lib.hid (ref10_May A1 A2 A3 c1 c2 c3 n1 n2 n3 d (w.alloc (.cells #[.slice A1 n1 c1, .slice A2 n2 c2, .slice A3 n3 c3] 26)) (H.keep (Keep.alloc _ _)))
  have HT := Lib.hid (fun (W : World) (k : Keep w W) (hok : d.Ok) (s0 : Nat) (hs : s0 < n2) => ref10_To A1 A2 A3 A4 c1 c2 c3 c4 n1 n2 n3 n4 d s0 pts W (H.keep k) hok hs (hp.keep k) HP)
  have HN2 := H.hn
  clear H
  cases hok : d.okB
  · rw [hok] at HM
    have HE := Lib.hid (show d.walkE s pts = (0, 8) by simp [Dfa.walkE, hok])
    clear hok
    go_enter Try.func14, Try.ntmps14
    go_wp2_with (go_at_call 51; refine HM.out.mono ?_; rintro e w1 ⟨rfl, hb⟩)
    go_ret2
    exact ⟨ret_ii (by rw [HE.out]) (by rw [HE.out]), (box3 hb).2.2.2.2⟩
  rw [hok] at HM
  have HOK := Lib.hid hok
  clear hok
  by_cases h1 : 1024 < n4
  · have HE := Lib.hid (show d.walkE s pts = (0, 4) by unfold Dfa.walkE; rw [if_pos HOK.out, if_pos (by rw [HP.out]; exact h1)])
    go_enter Try.func14, Try.ntmps14
    go_wp2_with (go_at_call 51; refine HM.out.mono ?_; rintro e w1 ⟨rfl, hb⟩)
    go_ret2
    exact ⟨ret_ii (by rw [HE.out]) (by rw [HE.out]), (box3 hb).2.2.2.2⟩
  by_cases h2 : s < 0
  · have HE := Lib.hid (show d.walkE s pts = (0, 2) by unfold Dfa.walkE; rw [if_pos HOK.out, if_neg (by rw [HP.out]; exact h1), if_pos (.inl h2)])
    go_enter Try.func14, Try.ntmps14
    go_wp2_with (go_at_call 51; refine HM.out.mono ?_; rintro e w1 ⟨rfl, hb⟩; obtain ⟨t0, t1, t2, t3, t4⟩ := box3 hb; clear hb)
    go_ret2
    exact ⟨ret_ii (by rw [HE.out]) (by rw [HE.out]), t4⟩
  by_cases h3 : (n2 : Int) ≤ s
  · have HE := Lib.hid (show d.walkE s pts = (0, 2) by unfold Dfa.walkE; rw [if_pos HOK.out, if_neg (by rw [HP.out]; exact h1), if_pos (.inr (by rw [HN2.out]; exact h3))])
    go_enter Try.func14, Try.ntmps14
    go_wp2_with (go_at_call 51; refine HM.out.mono ?_; rintro e w1 ⟨rfl, hb⟩; obtain ⟨t0, t1, t2, t3, t4⟩ := box3 hb; clear hb)
    go_ret2
    exact ⟨ret_ii (by rw [HE.out]) (by rw [HE.out]), t4⟩
  have HE0 := Lib.hid (show beyond pts → d.walkE s pts = (0, 2) from fun hb => by unfold Dfa.walkE; rw [if_pos HOK.out, if_neg (by rw [HP.out]; exact h1), if_neg (by rw [HN2.out]; omega), if_pos hb])
  have HE1 := Lib.hid (show ¬ beyond pts → d.walkE s pts = (((d.to s.toNat pts : Nat) : Int), (0 : Int)) from fun hb => by unfold Dfa.walkE; rw [if_pos HOK.out, if_neg (by rw [HP.out]; exact h1), if_neg (by rw [HN2.out]; omega), if_neg hb])
  obtain ⟨s0, rfl⟩ := Int.eq_ofNat_of_zero_le (show 0 ≤ s by omega)
  go_enter Try.func14, Try.ntmps14
  go_wp2_with (go_at_call 51; refine HM.out.mono ?_; rintro e w1 ⟨rfl, hb⟩; obtain ⟨t0, t1, t2, t3, t4⟩ := box3 hb; clear hb)
  go_loop [8] (fun i => ∃ k : Nat, i = .int .i64 k ∧ k ≤ n4 ∧ ∀ (j : Nat) p, j < k → pts[j]? = some p → 0 ≤ p ∧ p ≤ 1114111) (fun i => n4 - (intOf i).toNat)
  case atStart => exact ⟨0, rfl, by omega, by intros; omega⟩
  case round =>
    obtain ⟨k, rfl, hk, hall⟩ := hrel
    have HA := Lib.hid hall; clear hall
    by_cases hlt : k < n4
    · obtain ⟨b4, o4, u, p, rfl, hb4, hx4, ⟨rfl, _, _⟩, HX4⟩ := hp.gt HP hlt
      have g4 := (t4.cell (p := ⟨b4, o4 + k, none⟩) hb4).trans hx4
      clear hp hx4
      by_cases hp0 : p < 0
      · have HE := Lib.hid (HE0.out ⟨p, mem_of_get HX4.out, .inl hp0⟩)
        go_wp2
        go_ret2
        exact ⟨ret_ii (by rw [HE.out]) (by rw [HE.out]), t4⟩
      by_cases hp1 : 1114111 < p
      · have HE := Lib.hid (HE0.out ⟨p, mem_of_get HX4.out, .inr hp1⟩)
        go_wp2
        go_ret2
        exact ⟨ret_ii (by rw [HE.out]) (by rw [HE.out]), t4⟩
      · go_wp2
        go_round
        case rel =>
          refine ⟨k + 1, by go_num, by omega, fun j x hj hx => ?_⟩
          by_cases hjk : j = k
          · subst hjk
            obtain rfl : p = x := Option.some.inj (HX4.out.symm.trans hx)
            omega
          · exact HA.out j x (by omega) hx
        case measure => simp [intOf]; omega
    · have : k = n4 := by omega
      subst this
      clear hp
      have HE := Lib.hid (HE1.out (by rintro ⟨p, hp, hx⟩; obtain ⟨j, hj⟩ := List.getElem?_of_mem hp; have := HA.out j p (by have := lt_of_get hj; rwa [HP.out] at this) hj; omega))
      go_wp2_with (go_at_call 53; refine (HT.out _ (Keep.of t4) (Dfa.ok_of HOK.out) s0 (by omega)).mono ?_; rintro e w2 ⟨rfl, hb2⟩)
      go_ret2
      exact ⟨ret_ii (by rw [HE.out]; rfl) (by rw [HE.out]), (box3_more t0 t1 t2 t3 t4 hb2).2.2.2.2⟩

end Go.Proofs.Ytjnjbcigbnjmkaa
