/- Walks: subset's class, Class, Walk, Run, Same. -/
import Derived.Deep.RegionHeld3
import Derived.Test.YtjnjbcigbnjmkaaWh
namespace Go.Proofs.Ytjnjbcigbnjmkaa
open Go.RowKit Pv

set_option maxHeartbeats 1000000 in
theorem subset_class (A1 A2 A3 : Option Addr) (c1 c2 c3 n1 n2 n3 : Nat) (d : Dfa) (n : Int) (w : World) (H : DfaAt w A1 A2 A3 n1 n2 n3 d) (hok : d.Ok) (hn : 0 ≤ n) :
    Calls Try.prog 50 #[.agg #[.slice A1 n1 c1, .slice A2 n2 c2, .slice A3 n3 c3], .int .i64 n] w fun e w' => e = .returned (.int .i64 (lastLe d.cuts n d.cuts.length : Nat)) ∧ Below w.heap.size w w' := by
  have hs : ∀ (i j : Nat), i ≤ j → ∀ a b, d.cuts[i]? = some a → d.cuts[j]? = some b → a ≤ b := fun i j hij a b ha hb => by
    by_cases h : i = j
    · subst h; rw [ha] at hb; injection hb with hb; omega
    · have := hok.strict i a ha j b (by omega) hb; omega
  have HS := Lib.hid (fun (W : World) (k : Keep w W) => slices_BinarySearch_int A1 c1 n1 n d.cuts W (H.c.keep k) H.hc (Lib.hid hs))
  have hl1 : n1 ≤ 256 := by have := hok.c2; rwa [H.hc.out] at this
  have HOK := Lib.hid hok
  have H1 := H.hc
  clear hs H hok
  go_enter Try.func50, Try.ntmps50
  go_wp2_with (go_at_call 104; refine (HS.out _ (Keep.alloc _ _)).mono ?_; rintro e w' ⟨i, f, rfl, hi, h1, h2, hf, rfl⟩; have HF := Lib.hid (HOK.out.found hn (by rw [H1.out]; exact hi) h1 h2); have Hf := Lib.hid hf; clear h1 h2 hf; cases f)
  · have hf : d.cuts[i]? ≠ some n := of_decide_eq_false Hf.out.symm
    have h3 := HF.out.2 hf
    have HE := Lib.hid h3.2
    have hi0 := h3.1
    clear h3 hf
    go_wp2
    go_ret
    exact ⟨ret_int (by rw [HE.out]; omega), (by repeat (first | exact Below.refl _ _ | exact (Below.refl _ _).alloc (Nat.le_refl _) _ | apply below_drewN))⟩
  · have hf : d.cuts[i]? = some n := of_decide_eq_true Hf.out.symm
    have HE := Lib.hid (HF.out.1 hf)
    clear hf
    go_wp2
    go_ret
    exact ⟨ret_int (by rw [HE.out]), (by repeat (first | exact Below.refl _ _ | exact (Below.refl _ _).alloc (Nat.le_refl _) _ | apply below_drewN))⟩

set_option maxHeartbeats 1000000 in
theorem subset_Class (A1 A2 A3 : Option Addr) (c1 c2 c3 n1 n2 n3 : Nat) (d : Dfa) (n : Int) (w : World) (H : DfaAt w A1 A2 A3 n1 n2 n3 d) :
    Calls Try.prog 11 #[.agg #[.slice A1 n1 c1, .slice A2 n2 c2, .slice A3 n3 c3], .int .i64 n] w fun e w' => e = .returned (.tuple #[.int .i64 (d.classE n).1, .int .i64 (d.classE n).2]) ∧ Below w.heap.size w w' := by
  have HM := Lib.hid (subset_Check A1 A2 A3 c1 c2 c3 n1 n2 n3 d (w.alloc (.cells #[.slice A1 n1 c1, .slice A2 n2 c2, .slice A3 n3 c3] 26)) (H.keep (Keep.alloc _ _)))
  have HO := Lib.hid (fun (W : World) (k : Keep w W) (hok : d.Ok) (hn : 0 ≤ n) => subset_class A1 A2 A3 c1 c2 c3 n1 n2 n3 d n W (H.keep k) hok hn)
  clear H
  cases hok : d.okB
  · rw [Dfa.checkE_no hok] at HM
    have HE := Lib.hid (show d.classE n = (0, 8) by simp [Dfa.classE, hok])
    clear hok
    go_enter Try.func11, Try.ntmps11
    go_wp2_with (go_at_call 17; refine HM.out.mono ?_; rintro e w1 ⟨rfl, hb⟩)
    go_ret2
    exact ⟨ret_ii (by rw [HE.out]) (by rw [HE.out]), (box3 hb).2.2.2.2⟩
  · rw [Dfa.checkE_yes hok] at HM
    have HOK := Lib.hid hok
    clear hok
    by_cases h0 : n < 0
    · have HE := Lib.hid (show d.classE n = (0, 2) by simp [Dfa.classE, HOK.out, h0])
      go_enter Try.func11, Try.ntmps11
      go_wp2_with (go_at_call 17; refine HM.out.mono ?_; rintro e w1 ⟨rfl, hb⟩)
      go_ret2
      exact ⟨ret_ii (by rw [HE.out]) (by rw [HE.out]), (box3 hb).2.2.2.2⟩
    by_cases h1 : 1114111 < n
    · have HE := Lib.hid (show d.classE n = (0, 2) by simp [Dfa.classE, HOK.out, h1])
      go_enter Try.func11, Try.ntmps11
      go_wp2_with (go_at_call 17; refine HM.out.mono ?_; rintro e w1 ⟨rfl, hb⟩)
      go_ret2
      exact ⟨ret_ii (by rw [HE.out]) (by rw [HE.out]), (box3 hb).2.2.2.2⟩
    · have HE := Lib.hid (show d.classE n = (((lastLe d.cuts n d.cuts.length : Nat) : Int), (0 : Int)) by unfold Dfa.classE; rw [if_pos HOK.out, if_neg (by omega)])
      go_enter Try.func11, Try.ntmps11
      go_wp2_with (first | (go_at_call 17; refine HM.out.mono ?_; rintro e w1 ⟨rfl, hb⟩; obtain ⟨t0, t1, t2, t3, t4⟩ := box3 hb; clear hb) | (go_at_call 50; refine (HO.out _ (Keep.of t4) (Dfa.ok_of HOK.out) (by omega)).mono ?_; rintro e w2 ⟨rfl, hb2⟩))
      go_ret2
      exact ⟨ret_ii (by rw [HE.out]) (by rw [HE.out]), (box3_more t0 t1 t2 t3 t4 hb2).2.2.2.2⟩


end Go.Proofs.Ytjnjbcigbnjmkaa
