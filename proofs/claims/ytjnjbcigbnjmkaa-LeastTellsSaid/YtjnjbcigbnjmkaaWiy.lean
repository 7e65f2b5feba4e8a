/- Walks: the document's Dfa: classes, walks. -/
import Derived.Deep.RegionHeld3
import Derived.Test.YtjnjbcigbnjmkaaWcy
import Derived.Test.YtjnjbcigbnjmkaaWhy
namespace Go.Proofs.Ytjnjbcigbnjmkaa
open Go.RowKit Pv

set_option maxHeartbeats 1000000 in
theorem ref10_Of (A1 A2 A3 : Option Addr) (c1 c2 c3 n1 n2 n3 : Nat) (d : Dfa) (n : Int) (w : World) (H : DfaAt w A1 A2 A3 n1 n2 n3 d) :
    Calls Try.prog 52 #[.agg #[.slice A1 n1 c1, .slice A2 n2 c2, .slice A3 n3 c3], .int .i64 n] w fun e w' => e = .returned (.int .i64 (lastLe d.cuts n d.cuts.length : Nat)) ∧ Below w.heap.size w w' := by
  obtain ⟨h1, _, _, H1, _, _⟩ := H
  have hl1 : n1 ≤ 140737488355328 := by have := h1.1; rwa [H1.out] at this
  go_enter Try.func52, Try.ntmps52
  go_wp2
  go_loopw [5, 6] (fun c i wr => ∃ k : Nat, i = .int .i64 k ∧ c = .int .i64 (lastLe d.cuts n k : Nat) ∧ k ≤ n1 ∧ Drawn (w.alloc (.cells #[.slice A1 n1 c1, .slice A2 n2 c2, .slice A3 n3 c3] 26)) wr) (fun _ i _ => n1 - (intOf i).toNat)
  case atStart => exact ⟨0, rfl, rfl, by omega, (by repeat (first | exact Drawn.refl _ | apply Drawn.drewN | apply Drawn.drew))⟩
  case round =>
    obtain ⟨k, rfl, rfl, hk, ⟨q, rfl⟩⟩ := hrel
    obtain ⟨c, hc⟩ : ∃ c, lastLe d.cuts n k = c := ⟨_, rfl⟩
    have HC := Lib.hid hc
    rw [hc]
    clear hc
    by_cases hlt : k < n1
    · obtain ⟨b1, o1, u, x, rfl, hb1, hx, ⟨rfl, _, _⟩, HX⟩ := h1.gt H1 hlt
      clear h1
      have HS := Lib.hid (show lastLe d.cuts n (k + 1) = if x ≤ n then k else c by rw [lastLe, getD_of HX.out, HC.out])
      by_cases hxn : x ≤ n
      · go_wp2
        go_roundw
        case rel => exact ⟨k + 1, by go_num, by rw [HS.out, if_pos hxn], by omega, (by repeat (first | exact Drawn.refl _ | apply Drawn.drewN | apply Drawn.drew))⟩
        case measure => simp [intOf]; omega
      · go_wp2
        go_roundw
        case rel => exact ⟨k + 1, by go_num, by rw [HS.out, if_neg hxn], by omega, (by repeat (first | exact Drawn.refl _ | apply Drawn.drewN | apply Drawn.drew))⟩
        case measure => simp [intOf]; omega
    · have : k = n1 := by omega
      subst this
      go_wp2
      go_ret
      exact ⟨ret_int (by rw [H1.out, HC.out]), (by repeat (first | exact Below.refl _ _ | exact (Below.refl _ _).alloc (Nat.le_refl _) _ | apply below_drewN))⟩

theorem ref10_Check (A1 A2 A3 : Option Addr) (c1 c2 c3 n1 n2 n3 : Nat) (d : Dfa) (w : World) (H : DfaAt w A1 A2 A3 n1 n2 n3 d) :
    Calls Try.prog 18 #[.agg #[.slice A1 n1 c1, .slice A2 n2 c2, .slice A3 n3 c3]] w fun e w' => e = .returned (.int .i64 d.checkE) ∧ Below w.heap.size w w' := by
  have HM := Lib.hid (ref10_May A1 A2 A3 c1 c2 c3 n1 n2 n3 d (w.alloc (.cells #[.slice A1 n1 c1, .slice A2 n2 c2, .slice A3 n3 c3] 26)) (H.keep (Keep.alloc _ _)))
  cases hok : d.okB
  · rw [hok] at HM
    have HE := Lib.hid (Dfa.checkE_no hok)
    clear H hok
    go_enter Try.func18, Try.ntmps18
    go_wp2_with (go_at_call 51; refine HM.out.mono ?_; rintro e w1 ⟨rfl, hb⟩)
    go_ret
    exact ⟨ret_int HE.out.symm, (box3 hb).2.2.2.2⟩
  · rw [hok] at HM
    have HE := Lib.hid (Dfa.checkE_yes hok)
    clear H hok
    go_enter Try.func18, Try.ntmps18
    go_wp2_with (go_at_call 51; refine HM.out.mono ?_; rintro e w1 ⟨rfl, hb⟩)
    go_ret
    exact ⟨ret_int HE.out.symm, (box3 hb).2.2.2.2⟩

set_option maxHeartbeats 1000000 in
theorem ref10_To (A1 A2 A3 A4 : Option Addr) (c1 c2 c3 c4 n1 n2 n3 n4 : Nat) (d : Dfa) (s0 : Nat) (pts : List Int) (w : World) (H : DfaAt w A1 A2 A3 n1 n2 n3 d) (hok : d.Ok) (hs : s0 < n2) (hp : At w A4 RI pts) (HP : Hid (pts.length = n4)) :
    Calls Try.prog 53 #[.agg #[.slice A1 n1 c1, .slice A2 n2 c2, .slice A3 n3 c3], .int .i64 s0, .slice A4 n4 c4] w fun e w' => e = .returned (.int .i64 (d.to s0 pts : Nat)) ∧ Below w.heap.size w w' := by
  have hl4 : n4 ≤ 140737488355328 := by have := hp.1; rwa [HP.out] at this
  have hn2 : n2 ≤ 64 := by have := hok.n2; have := H.hn.out; omega
  have HOK := Lib.hid hok; have HS := Lib.hid hs; clear hok hs
  go_enter Try.func53, Try.ntmps53
  go_wp2
  go_loopw [1, 7] (fun s i wr => ∃ k s1 : Nat, i = .int .i64 k ∧ s = .int .i64 s1 ∧ s1 < n2 ∧ s1 = d.to s0 (pts.take k) ∧ k ≤ n4 ∧ wr.cell? ⟨w.heap.size, 0, none⟩ = some (.slice A1 n1 c1) ∧ wr.cell? ⟨w.heap.size, 1, none⟩ = some (.slice A2 n2 c2) ∧ wr.cell? ⟨w.heap.size, 2, none⟩ = some (.slice A3 n3 c3) ∧ w.heap.size < wr.heap.size ∧ Below w.heap.size w wr) (fun _ i _ => n4 - (intOf i).toNat)
  case atStart => exact ⟨0, s0, rfl, rfl, HS.out, by simp [Dfa.to], by omega, by simp, by simp, by simp, by simp, (by repeat (first | exact Below.refl _ _ | exact (Below.refl _ _).alloc (Nat.le_refl _) _ | apply below_drewN))⟩
  case round =>
    obtain ⟨k, s1, rfl, rfl, hs1, hto, hk, hb0, hb1, hb2, hsz, hbel⟩ := hrel
    have HT := Lib.hid hto; clear hto
    by_cases hlt : k < n4
    · obtain ⟨b4, o4, u, p, rfl, hb4, hx4, ⟨rfl, _, _⟩, HX4⟩ := hp.gt HP hlt
      obtain ⟨b2, o2, A', c', n', r, rfl, hbb2, hr, hA', HN', _, hn', HR⟩ := H.n.gtS H.hn hs1
      obtain ⟨r', x, hr', hrl, hrx, hxe, hlt2⟩ := HOK.out.row (s := s1) (by rw [H.hn.out]; exact hs1) p
      obtain rfl : r = r' := Option.some.inj (HR.out.symm.trans hr')
      have HF := Lib.hid (ref10_Of A1 (some ⟨b2, o2, none⟩) A3 c1 c2 c3 n1 n2 n3 d p)
      generalize hc : lastLe d.cuts p d.cuts.length = cl at *
      have hcn : cl < n' := by have := lt_of_get hrx; rwa [HN'.out] at this
      obtain ⟨b3, o3, u, x', rfl, hb3, hx3, ⟨rfl, _, _⟩, HX3⟩ := hA'.gt HN' hcn
      obtain rfl : x' = x := Option.some.inj (HX3.out.symm.trans hrx)
      generalize hst : d.step s1 p = s2 at *
      subst hxe
      have HST := Lib.hid (show d.to s0 (pts.take (k + 1)) = s2 by rw [take_snoc HX4.out, Dfa.to_snoc, ← HT.out, hst])
      have hs2 : s2 < n2 := by rw [H.hn.out] at hlt2; exact hlt2
      have kb := Keep.of hbel
      have g4 := (kb.cell _ _ hb4).trans hx4
      have g2 := (kb.cell _ _ hbb2).trans hr
      have g3 := (kb.cell _ _ hb3).trans hx3
      have HH := Lib.hid H
      have HB := Lib.hid hbel
      clear hx4 hr hx3 hst hrl hr' hrx hc hlt2 hA' hp kb hbel H
      go_wp2
      go_region_held3 (fun W => W.cell? ⟨w.heap.size, 0, none⟩ = some (.slice A1 n1 c1) ∧ W.cell? ⟨w.heap.size, 1, none⟩ = some (.slice (some ⟨b2, o2, none⟩) n2 c2) ∧ W.cell? ⟨w.heap.size, 2, none⟩ = some (.slice A3 n3 c3) ∧ W.cell? ⟨b4, o4 + k, none⟩ = some (.int .i64 p) ∧ W.cell? ⟨b2, o2 + s1, none⟩ = some (.slice (some ⟨b3, o3, none⟩) n' c') ∧ W.cell? ⟨b3, o3 + cl, none⟩ = some (.int .i64 s2) ∧ w.heap.size < W.heap.size ∧ Below w.heap.size w W)
        (refine ⟨?_, ?_, ?_, ?_, ?_, ?_, ?_, ?_⟩ <;> first | assumption | exact HB.out.drew | exact cell_later hb (by assumption) | exact HB.out.drew.trans (hb.mono HB.out.size) | exact Nat.lt_of_lt_of_le hsz hb.size)
        ((go_at_call 52; refine (HF.out _ (HH.out.keep ((Keep.of HB.out).trans (Keep.drew _)))).mono ?_; rintro e w1 ⟨rfl, hb⟩))
      go_wp2
      go_roundw
      case rel =>
        rename_i hS
        obtain ⟨t0, t1, t2, _, _, _, t3, t4⟩ := hS
        exact ⟨k + 1, s2, by go_num, rfl, hs2, HST.out.symm, by omega, t0, t1, t2, t3, t4⟩
      case measure => simp [intOf]; omega
    · have : k = n4 := by omega
      subst this
      go_wp2
      go_ret
      exact ⟨ret_int (by rw [HT.out, List.take_of_length_le (by rw [HP.out]; omega)]), hbel⟩

end Go.Proofs.Ytjnjbcigbnjmkaa

namespace Go.Proofs.Ytjnjbcigbnjmkaa
open Go.RowKit Pv

set_option maxHeartbeats 1000000 in
theorem subset_class (A1 A2 A3 : Option Addr) (c1 c2 c3 n1 n2 n3 : Nat) (d : Dfa) (n : Int) (w : World) (H : DfaAt w A1 A2 A3 n1 n2 n3 d) (hok : d.Ok) (hn : 0 ≤ n) :
    Calls Try.prog 50 #[.agg #[.slice A1 n1 c1, .slice A2 n2 c2, .slice A3 n3 c3], .int .i64 n] w fun e w' => e = .returned (.int .i64 (lastLe d.cuts n d.cuts.length : Nat)) ∧ Below w.heap.size w w' := by
  have hs : ∀ (i j : Nat), i ≤ j → ∀ a b, d.cuts[i]? = some a → d.cuts[j]? = some b → a ≤ b := fun i j hij a b ha hb => by
    by_cases h : i = j
    · subst h; rw [ha] at hb; injection hb with hb; omega
    · have := hok.strict i a ha j b (by omega) hb; omega
  have HS := Lib.hid (fun (W : World) (k : Keep w W) => slices_BinarySearch_int A1 c1 n1 n d.cuts W (H.c.keep k) H.hc (Lib.hid hs))
  have hl1 : n1 ≤ 256 := by have := hok.c2; rwa [H.hc.out] at this
  have HOK := Lib.hid hok
  have H1 := H.hc
  clear hs H hok
  go_enter Try.func50, Try.ntmps50
  go_wp2_with (go_at_call 104; refine (HS.out _ (Keep.alloc _ _)).mono ?_; rintro e w' ⟨i, f, rfl, hi, h1, h2, hf, rfl⟩; have HF := Lib.hid (HOK.out.found hn (by rw [H1.out]; exact hi) h1 h2); have Hf := Lib.hid hf; clear h1 h2 hf; cases f)
  · have hf : d.cuts[i]? ≠ some n := of_decide_eq_false Hf.out.symm
    have h3 := HF.out.2 hf
    have HE := Lib.hid h3.2
    have hi0 := h3.1
    clear h3 hf
    go_wp2
    go_ret
    exact ⟨ret_int (by rw [HE.out]; omega), (by repeat (first | exact Below.refl _ _ | exact (Below.refl _ _).alloc (Nat.le_refl _) _ | apply below_drewN))⟩
  · have hf : d.cuts[i]? = some n := of_decide_eq_true Hf.out.symm
    have HE := Lib.hid (HF.out.1 hf)
    clear hf
    go_wp2
    go_ret
    exact ⟨ret_int (by rw [HE.out]), (by repeat (first | exact Below.refl _ _ | exact (Below.refl _ _).alloc (Nat.le_refl _) _ | apply below_drewN))⟩

set_option maxHeartbeats 1000000 in
theorem subset_Class (A1 A2 A3 : Option Addr) (c1 c2 c3 n1 n2 n3 : Nat) (d : Dfa) (n : Int) (w : World) (H : DfaAt w A1 A2 A3 n1 n2 n3 d) :
    Calls Try.prog 11 #[.agg #[.slice A1 n1 c1, .slice A2 n2 c2, .slice A3 n3 c3], .int .i64 n] w fun e w' => e = .returned (.tuple #[.int .i64 (d.classE n).1, .int .i64 (d.classE n).2]) ∧ Below w.heap.size w w' := by
  have HM := Lib.hid (subset_Check A1 A2 A3 c1 c2 c3 n1 n2 n3 d (w.alloc (.cells #[.slice A1 n1 c1, .slice A2 n2 c2, .slice A3 n3 c3] 26)) (H.keep (Keep.alloc _ _)))
  have HO := Lib.hid (fun (W : World) (k : Keep w W) (hok : d.Ok) (hn : 0 ≤ n) => subset_class A1 A2 A3 c1 c2 c3 n1 n2 n3 d n W (H.keep k) hok hn)
  clear H
  cases hok : d.okB
  · rw [Dfa.checkE_no hok] at HM
    have HE := Lib.hid (show d.classE n = (0, 8) by simp [Dfa.classE, hok])
    clear hok
    go_enter Try.func11, Try.ntmps11
    go_wp2_with (go_at_call 17; refine HM.out.mono ?_; rintro e w1 ⟨rfl, hb⟩)
    go_ret2
    exact ⟨ret_ii (by rw [HE.out]) (by rw [HE.out]), (box3 hb).2.2.2.2⟩
  · rw [Dfa.checkE_yes hok] at HM
    have HOK := Lib.hid hok
    clear hok
    by_cases h0 : n < 0
    · have HE := Lib.hid (show d.classE n = (0, 2) by simp [Dfa.classE, HOK.out, h0])
      go_enter Try.func11, Try.ntmps11
      go_wp2_with (go_at_call 17; refine HM.out.mono ?_; rintro e w1 ⟨rfl, hb⟩)
      go_ret2
      exact ⟨ret_ii (by rw [HE.out]) (by rw [HE.out]), (box3 hb).2.2.2.2⟩
    by_cases h1 : 1114111 < n
    · have HE := Lib.hid (show d.classE n = (0, 2) by simp [Dfa.classE, HOK.out, h1])
      go_enter Try.func11, Try.ntmps11
      go_wp2_with (go_at_call 17; refine HM.out.mono ?_; rintro e w1 ⟨rfl, hb⟩)
      go_ret2
      exact ⟨ret_ii (by rw [HE.out]) (by rw [HE.out]), (box3 hb).2.2.2.2⟩
    · have HE := Lib.hid (show d.classE n = (((lastLe d.cuts n d.cuts.length : Nat) : Int), (0 : Int)) by unfold Dfa.classE; rw [if_pos HOK.out, if_neg (by omega)])
      go_enter Try.func11, Try.ntmps11
      go_wp2_with (first | (go_at_call 17; refine HM.out.mono ?_; rintro e w1 ⟨rfl, hb⟩; obtain ⟨t0, t1, t2, t3, t4⟩ := box3 hb; clear hb) | (go_at_call 50; refine (HO.out _ (Keep.of t4) (Dfa.ok_of HOK.out) (by omega)).mono ?_; rintro e w2 ⟨rfl, hb2⟩))
      go_ret2
      exact ⟨ret_ii (by rw [HE.out]) (by rw [HE.out]), (box3_more t0 t1 t2 t3 t4 hb2).2.2.2.2⟩


end Go.Proofs.Ytjnjbcigbnjmkaa
