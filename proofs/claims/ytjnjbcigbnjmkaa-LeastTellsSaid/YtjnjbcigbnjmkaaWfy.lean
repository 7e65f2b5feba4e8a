/- Walks: the document's Dfa: Class, Walk, Run. -/
import Derived.Test.YtjnjbcigbnjmkaaWiy
namespace Go.Proofs.Ytjnjbcigbnjmkaa
open Go.RowKit Pv

set_option maxHeartbeats 1000000 in
theorem ref10_Class (A1 A2 A3 : Option Addr) (c1 c2 c3 n1 n2 n3 : Nat) (d : Dfa) (n : Int) (w : World) (H : DfaAt w A1 A2 A3 n1 n2 n3 d) :
    Calls Try.prog 12 #[.agg #[.slice A1 n1 c1, .slice A2 n2 c2, .slice A3 n3 c3], .int .i64 n] w fun e w' => e = .returned (.tuple #[.int .i64 (d.classE n).1, .int .i64 (d.classE n).2]) ∧ Below w.heap.size w w' := by
  have HM := Lib.hid (ref10_May A1 A2 A3 c1 c2 c3 n1 n2 n3 d (w.alloc (.cells #[.slice A1 n1 c1, .slice A2 n2 c2, .slice A3 n3 c3] 26)) (H.keep (Keep.alloc _ _)))
  have HO := Lib.hid (fun (W : World) (k : Keep w W) => ref10_Of A1 A2 A3 c1 c2 c3 n1 n2 n3 d n W (H.keep k))
  clear H
  cases hok : d.okB
  · rw [hok] at HM
    have HE := Lib.hid (show d.classE n = (0, 8) by simp [Dfa.classE, hok])
    clear hok
    go_enter Try.func12, Try.ntmps12
    go_wp2_with (go_at_call 51; refine HM.out.mono ?_; rintro e w1 ⟨rfl, hb⟩)
    go_ret2
    exact ⟨ret_ii (by rw [HE.out]) (by rw [HE.out]), (box3 hb).2.2.2.2⟩
  · rw [hok] at HM
    have HOK := Lib.hid hok
    clear hok
    by_cases h0 : n < 0
    · have HE := Lib.hid (show d.classE n = (0, 2) by simp [Dfa.classE, HOK.out, h0])
      go_enter Try.func12, Try.ntmps12
      go_wp2_with (go_at_call 51; refine HM.out.mono ?_; rintro e w1 ⟨rfl, hb⟩)
      go_ret2
      exact ⟨ret_ii (by rw [HE.out]) (by rw [HE.out]), (box3 hb).2.2.2.2⟩
    by_cases h1 : 1114111 < n
    · have HE := Lib.hid (show d.classE n = (0, 2) by simp [Dfa.classE, HOK.out, h1])
      go_enter Try.func12, Try.ntmps12
      go_wp2_with (go_at_call 51; refine HM.out.mono ?_; rintro e w1 ⟨rfl, hb⟩)
      go_ret2
      exact ⟨ret_ii (by rw [HE.out]) (by rw [HE.out]), (box3 hb).2.2.2.2⟩
    · have HE := Lib.hid (show d.classE n = (((lastLe d.cuts n d.cuts.length : Nat) : Int), (0 : Int)) by unfold Dfa.classE; rw [if_pos HOK.out, if_neg (by omega)])
      go_enter Try.func12, Try.ntmps12
      go_wp2_with (first | (go_at_call 51; refine HM.out.mono ?_; rintro e w1 ⟨rfl, hb⟩; obtain ⟨t0, t1, t2, t3, t4⟩ := box3 hb; clear hb) | (go_at_call 52; refine (HO.out _ (Keep.of t4)).mono ?_; rintro e w2 ⟨rfl, hb2⟩))
      go_ret2
      exact ⟨ret_ii (by rw [HE.out]) (by rw [HE.out]), (box3_more t0 t1 t2 t3 t4 hb2).2.2.2.2⟩

set_option maxHeartbeats 2000000 in
set_option maxRecDepth 100000 in
theorem ref10_Walk (A1 A2 A3 A4 : Option Addr) (c1 c2 c3 c4 n1 n2 n3 n4 : Nat) (d : Dfa) (s : Int) (pts : List Int) (w : World) (H : DfaAt w A1 A2 A3 n1 n2 n3 d) (hp : At w A4 RI pts) (HP : Hid (pts.length = n4)) :
    Calls Try.prog 14 #[.agg #[.slice A1 n1 c1, .slice A2 n2 c2, .slice A3 n3 c3], .int .i64 s, .slice A4 n4 c4] w fun e w' => e = .returned (.tuple #[.int .i64 (d.walkE s pts).1, .int .i64 (d.walkE s pts).2]) ∧ Below w.heap.size w w' := by
  have hl4 : n4 ≤ 140737488355328 := by have := hp.1; rwa [HP.out] at this
  have HM := Lib.hid (ref10_May A1 A2 A3 c1 c2 c3 n1 n2 n3 d (w.alloc (.cells #[.slice A1 n1 c1, .slice A2 n2 c2, .slice A3 n3 c3] 26)) (H.keep (Keep.alloc _ _)))
  have HT := Lib.hid (fun (W : World) (k : Keep w W) (hok : d.Ok) (s0 : Nat) (hs : s0 < n2) => ref10_To A1 A2 A3 A4 c1 c2 c3 c4 n1 n2 n3 n4 d s0 pts W (H.keep k) hok hs (hp.keep k) HP)
  have HN2 := H.hn
  clear H
  cases hok : d.okB
  · rw [hok] at HM
    have HE := Lib.hid (show d.walkE s pts = (0, 8) by simp [Dfa.walkE, hok])
    clear hok
    go_enter Try.func14, Try.ntmps14
    go_wp2_with (go_at_call 51; refine HM.out.mono ?_; rintro e w1 ⟨rfl, hb⟩)
    go_ret2
    exact ⟨ret_ii (by rw [HE.out]) (by rw [HE.out]), (box3 hb).2.2.2.2⟩
  rw [hok] at HM
  have HOK := Lib.hid hok
  clear hok
  by_cases h1 : 1024 < n4
  · have HE := Lib.hid (show d.walkE s pts = (0, 4) by unfold Dfa.walkE; rw [if_pos HOK.out, if_pos (by rw [HP.out]; exact h1)])
    go_enter Try.func14, Try.ntmps14
    go_wp2_with (go_at_call 51; refine HM.out.mono ?_; rintro e w1 ⟨rfl, hb⟩)
    go_ret2
    exact ⟨ret_ii (by rw [HE.out]) (by rw [HE.out]), (box3 hb).2.2.2.2⟩
  by_cases h2 : s < 0
  · have HE := Lib.hid (show d.walkE s pts = (0, 2) by unfold Dfa.walkE; rw [if_pos HOK.out, if_neg (by rw [HP.out]; exact h1), if_pos (.inl h2)])
    go_enter Try.func14, Try.ntmps14
    go_wp2_with (go_at_call 51; refine HM.out.mono ?_; rintro e w1 ⟨rfl, hb⟩; obtain ⟨t0, t1, t2, t3, t4⟩ := box3 hb; clear hb)
    go_ret2
    exact ⟨ret_ii (by rw [HE.out]) (by rw [HE.out]), t4⟩
  by_cases h3 : (n2 : Int) ≤ s
  · have HE := Lib.hid (show d.walkE s pts = (0, 2) by unfold Dfa.walkE; rw [if_pos HOK.out, if_neg (by rw [HP.out]; exact h1), if_pos (.inr (by rw [HN2.out]; exact h3))])
    go_enter Try.func14, Try.ntmps14
    go_wp2_with (go_at_call 51; refine HM.out.mono ?_; rintro e w1 ⟨rfl, hb⟩; obtain ⟨t0, t1, t2, t3, t4⟩ := box3 hb; clear hb)
    go_ret2
    exact ⟨ret_ii (by rw [HE.out]) (by rw [HE.out]), t4⟩
  have HE0 := Lib.hid (show beyond pts → d.walkE s pts = (0, 2) from fun hb => by unfold Dfa.walkE; rw [if_pos HOK.out, if_neg (by rw [HP.out]; exact h1), if_neg (by rw [HN2.out]; omega), if_pos hb])
  have HE1 := Lib.hid (show ¬ beyond pts → d.walkE s pts = (((d.to s.toNat pts : Nat) : Int), (0 : Int)) from fun hb => by unfold Dfa.walkE; rw [if_pos HOK.out, if_neg (by rw [HP.out]; exact h1), if_neg (by rw [HN2.out]; omega), if_neg hb])
  obtain ⟨s0, rfl⟩ := Int.eq_ofNat_of_zero_le (show 0 ≤ s by omega)
  go_enter Try.func14, Try.ntmps14
  go_wp2_with (go_at_call 51; refine HM.out.mono ?_; rintro e w1 ⟨rfl, hb⟩; obtain ⟨t0, t1, t2, t3, t4⟩ := box3 hb; clear hb)
  go_loop [8] (fun i => ∃ k : Nat, i = .int .i64 k ∧ k ≤ n4 ∧ ∀ (j : Nat) p, j < k → pts[j]? = some p → 0 ≤ p ∧ p ≤ 1114111) (fun i => n4 - (intOf i).toNat)
  case atStart => exact ⟨0, rfl, by omega, by intros; omega⟩
  case round =>
    obtain ⟨k, rfl, hk, hall⟩ := hrel
    have HA := Lib.hid hall; clear hall
    by_cases hlt : k < n4
    · obtain ⟨b4, o4, u, p, rfl, hb4, hx4, ⟨rfl, _, _⟩, HX4⟩ := hp.gt HP hlt
      have g4 := (t4.cell (p := ⟨b4, o4 + k, none⟩) hb4).trans hx4
      clear hp hx4
      by_cases hp0 : p < 0
      · have HE := Lib.hid (HE0.out ⟨p, mem_of_get HX4.out, .inl hp0⟩)
        go_wp2
        go_ret2
        exact ⟨ret_ii (by rw [HE.out]) (by rw [HE.out]), t4⟩
      by_cases hp1 : 1114111 < p
      · have HE := Lib.hid (HE0.out ⟨p, mem_of_get HX4.out, .inr hp1⟩)
        go_wp2
        go_ret2
        exact ⟨ret_ii (by rw [HE.out]) (by rw [HE.out]), t4⟩
      · go_wp2
        go_round
        case rel =>
          refine ⟨k + 1, by go_num, by omega, fun j x hj hx => ?_⟩
          by_cases hjk : j = k
          · subst hjk
            obtain rfl : p = x := Option.some.inj (HX4.out.symm.trans hx)
            omega
          · exact HA.out j x (by omega) hx
        case measure => simp [intOf]; omega
    · have : k = n4 := by omega
      subst this
      clear hp
      have HE := Lib.hid (HE1.out (by rintro ⟨p, hp, hx⟩; obtain ⟨j, hj⟩ := List.getElem?_of_mem hp; have := HA.out j p (by have := lt_of_get hj; rwa [HP.out] at this) hj; omega))
      go_wp2_with (go_at_call 53; refine (HT.out _ (Keep.of t4) (Dfa.ok_of HOK.out) s0 (by omega)).mono ?_; rintro e w2 ⟨rfl, hb2⟩)
      go_ret2
      exact ⟨ret_ii (by rw [HE.out]; rfl) (by rw [HE.out]), (box3_more t0 t1 t2 t3 t4 hb2).2.2.2.2⟩

end Go.Proofs.Ytjnjbcigbnjmkaa

namespace Go.Proofs.Ytjnjbcigbnjmkaa
open Go.RowKit Pv

set_option maxHeartbeats 1000000 in
theorem ref10_Run (A1 A2 A3 A4 : Option Addr) (c1 c2 c3 c4 n1 n2 n3 n4 : Nat) (d : Dfa) (pts : List Int) (w : World) (H : DfaAt w A1 A2 A3 n1 n2 n3 d) (hp : At w A4 RI pts) (HP : Hid (pts.length = n4)) :
    Calls Try.prog 16 #[.agg #[.slice A1 n1 c1, .slice A2 n2 c2, .slice A3 n3 c3], .slice A4 n4 c4] w fun e w' => e = .returned (.tuple #[.bool (d.runE pts).1, .int .i64 (d.runE pts).2]) ∧ Below w.heap.size w w' := by
  have HM := Lib.hid (ref10_Walk A1 A2 A3 A4 c1 c2 c3 c4 n1 n2 n3 n4 d 0 pts (w.alloc (.cells #[.slice A1 n1 c1, .slice A2 n2 c2, .slice A3 n3 c3] 26)) (H.keep (Keep.alloc _ _)) (hp.keep (Keep.alloc _ _)) HP)
  obtain ⟨s, hs⟩ : ∃ s, (d.walkE 0 pts).1 = s := ⟨_, rfl⟩
  obtain ⟨e, he⟩ : ∃ e, (d.walkE 0 pts).2 = e := ⟨_, rfl⟩
  rw [hs, he] at HM
  by_cases h0 : e = 0
  · subst h0
    have hok : d.okB = true := by
      cases hok : d.okB
      · simp [Dfa.walkE, hok] at he
      · rfl
    obtain ⟨s0, hs0, hlt⟩ : ∃ s0 : Nat, s = s0 ∧ s0 < n2 := by
      have hOK := Dfa.ok_of hok
      have hn := H.hn.out
      unfold Dfa.walkE at hs he
      rw [if_pos hok] at hs he
      by_cases g1 : 1024 < pts.length
      · rw [if_pos g1] at he; simp at he
      rw [if_neg g1] at hs he
      by_cases g2 : (0 : Int) < 0 ∨ (d.next.length : Int) ≤ 0
      · rw [if_pos g2] at he; simp at he
      rw [if_neg g2] at hs he
      by_cases g3 : beyond pts
      · rw [if_pos g3] at he; simp at he
      rw [if_neg g3] at hs he
      have := hOK.n1
      exact ⟨_, hs.symm, by have := hOK.to_lt pts (s := (0 : Int).toNat) (by simp; omega); omega⟩
    subst hs0
    have hn3 : n3 = n2 := by have := (Dfa.ok_of hok).a; rw [H.ha.out, H.hn.out] at this; exact this
    have hl4 : n2 ≤ 64 := by have := (Dfa.ok_of hok).n2; rwa [H.hn.out] at this
    subst hn3
    obtain ⟨b3, o3, u, x, rfl, hb3, hx3, rfl, HX3⟩ := H.a.gt H.ha hlt
    have HE := Lib.hid (show d.runE pts = (x, 0) by unfold Dfa.runE; rw [if_pos he, hs, Int.toNat_natCast, getD_of HX3.out])
    clear H hs he hp
    go_enter Try.func16, Try.ntmps16
    go_wp2_with (go_at_call 14; refine HM.out.mono ?_; rintro e w1 ⟨rfl, hb⟩; obtain ⟨t0, t1, t2, t3, t4⟩ := box3 hb; clear hb; have g3 := (t4.cell (p := ⟨b3, o3 + s0, none⟩) hb3).trans hx3)
    go_ret2
    exact ⟨ret_bi (by rw [HE.out]) (by rw [HE.out]), t4⟩
  · have h1 : (e != 0) = true := by simp [h0]
    have HE := Lib.hid (show d.runE pts = (false, e) by unfold Dfa.runE; rw [he, if_neg h0])
    clear H hs he hp h0
    go_enter Try.func16, Try.ntmps16
    go_wp2_with (go_at_call 14; refine HM.out.mono ?_; rintro e w1 ⟨rfl, hb⟩; obtain ⟨t0, t1, t2, t3, t4⟩ := box3 hb; clear hb)
    go_ret2
    exact ⟨ret_bi (by rw [HE.out]) (by rw [HE.out]), t4⟩

/-- What Great's no tells. -/
def GreatPost (d : Dfa) (s c : Nat) (w : World) (e : Ending) (w' : World) : Prop :=
  ∃ g : Bool, e = .returned (.bool g) ∧ (g = false → d.next.length ≤ s ∧ d.cuts.length ≤ c ∧ d.accept.length ≤ s ∧ ∀ (i : Nat) r, d.next[i]? = some r → r.length ≤ c) ∧ Below w.heap.size w w'
set_option maxHeartbeats 2000000 in
set_option maxRecDepth 100000 in
theorem ref10_Great (A1 A2 A3 : Option Addr) (c1 c2 c3 n1 n2 n3 : Nat) (d : Dfa) (s c : Nat) (w : World) (H : DfaAt w A1 A2 A3 n1 n2 n3 d) (hs : s ≤ 10000) (_hc : c ≤ 10000) :
    Calls Try.prog 9 #[.agg #[.slice A1 n1 c1, .slice A2 n2 c2, .slice A3 n3 c3], .int .i64 s, .int .i64 c] w (GreatPost d s c w) := by
  obtain ⟨h1, h2, h3, H1, H2, H3⟩ := H
  have hl1 : n1 ≤ 140737488355328 := by have := h1.1; rwa [H1.out] at this
  have hl2 : n2 ≤ 140737488355328 := by have := h2.1; rwa [H2.out] at this
  have hl3 : n3 ≤ 140737488355328 := by have := h3.1; rwa [H3.out] at this
  clear h1 h3
  go_enter Try.func9, Try.ntmps9
  go_wp2
  go_loop [7] (fun i => ∃ k : Nat, i = .int .i64 k ∧ k ≤ n2 ∧ k ≤ s + 1 ∧ ∀ (j : Nat) r, j < k → d.next[j]? = some r → r.length ≤ c) (fun i => n2 - (intOf i).toNat)
  case atStart => exact ⟨0, rfl, by omega, by omega, by intros; omega⟩
  case round =>
    obtain ⟨k, rfl, hk, hks, hall⟩ := hrel
    have HA := Lib.hid hall; clear hall
    by_cases hlt : k < n2
    · by_cases hle : k ≤ s
      · obtain ⟨b2, o2, A', c', n', r, rfl, hb2, hr, hA', HN', _, hn', HR⟩ := h2.gtS H2 hlt
        clear h2 hA'
        by_cases hrc : c < n'
        · go_wp2
          go_ret
          exact ⟨true, rfl, by simp, (by repeat (first | exact Below.refl _ _ | exact (Below.refl _ _).alloc (Nat.le_refl _) _ | apply below_drewN))⟩
        · go_wp2
          go_round
          case rel =>
            refine ⟨k + 1, by go_num, by omega, by omega, fun j x hj hx => ?_⟩
            by_cases hjk : j = k
            · subst hjk
              obtain rfl : r = x := Option.some.inj (HR.out.symm.trans hx)
              rw [HN'.out]; omega
            · exact HA.out j x (by omega) hx
          case measure => simp [intOf]; omega
      · clear h2
        go_wp2
        go_ret
        exact ⟨true, rfl, by simp, (by repeat (first | exact Below.refl _ _ | exact (Below.refl _ _).alloc (Nat.le_refl _) _ | apply below_drewN))⟩
    · have : k = n2 := by omega
      subst this
      clear h2
      by_cases g1 : s < k
      · go_wp2
        go_ret
        exact ⟨true, rfl, by simp, (by repeat (first | exact Below.refl _ _ | exact (Below.refl _ _).alloc (Nat.le_refl _) _ | apply below_drewN))⟩
      by_cases g2 : c < n1
      · go_wp2
        go_ret
        exact ⟨true, rfl, by simp, (by repeat (first | exact Below.refl _ _ | exact (Below.refl _ _).alloc (Nat.le_refl _) _ | apply below_drewN))⟩
      by_cases g3 : s < n3
      · go_wp2
        go_ret
        exact ⟨true, rfl, by simp, (by repeat (first | exact Below.refl _ _ | exact (Below.refl _ _).alloc (Nat.le_refl _) _ | apply below_drewN))⟩
      · go_wp2
        go_ret
        exact ⟨false, rfl, fun _ => ⟨by rw [H2.out]; omega, by rw [H1.out]; omega, by rw [H3.out]; omega, fun i r hr => HA.out i r (by have := lt_of_get hr; rwa [H2.out] at this) hr⟩, (by repeat (first | exact Below.refl _ _ | exact (Below.refl _ _).alloc (Nat.le_refl _) _ | apply below_drewN))⟩

end Go.Proofs.Ytjnjbcigbnjmkaa
