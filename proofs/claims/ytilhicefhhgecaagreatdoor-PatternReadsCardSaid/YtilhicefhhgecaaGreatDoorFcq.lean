/- Walks: a number put into a rising list; all sets' places; where they turn (the document's). PUT1 -/
import Derived.Test.YtilhicefhhgecaaGreatDoorFaq
import Derived.Test.YtilhicefhhgecaaGreatDoorHsq
import Derived.Test.YtilhicefhhgecaaGreatDoorZcq
import Derived.Test.YtilhicefhhgecaaGreatDoorTaq
import Derived.Test.YtilhicefhhgecaaGreatDoorZgq
import Derived.Test.YtilhicefhhgecaaGreatDoorQvq
namespace Pv
open Go Go.RowKit
theorem atI_step {n x : Int} {l : List Int} {k : Nat} (h : k ≤ atI n l) (hx : l[k]? = some x) (hlt : x < n) : k + 1 ≤ atI n l := by
  by_cases e : k = atI n l
  · subst e; have := atI_next hx; omega
  · omega
theorem atI_stop {n x : Int} {l : List Int} {k : Nat} (h : k ≤ atI n l) (hx : l[k]? = some x) (hlt : ¬ x < n) : k = atI n l := by
  by_cases e : k = atI n l
  · exact e
  · have : x ∈ l.take (atI n l) := by
      refine mem_of_get (k := k) ?_
      rw [List.getElem?_take_of_lt (by omega)]; exact hx
    have := atI_low this
    omega
theorem withL_over {l : List Int} {n : Int} (h : 1114111 < n) : withL l n = l := by unfold withL; rw [if_pos (.inl h)]
theorem withL_at {l : List Int} {n : Int} {k : Nat} (h : k = atI n l) (hx : l[k]? = some n) : withL l n = l := by unfold withL; rw [if_pos (.inr (by rw [← h]; exact hx))]
theorem withL_put {l : List Int} {n : Int} {k : Nat} (h0 : ¬ 1114111 < n) (h : k = atI n l) (hx : l[k]? ≠ some n) : withL l n = (l.take k ++ [n]) ++ l.drop k := by
  unfold withL
  rw [if_neg (by rw [← h]; simp only [not_or]; exact ⟨h0, hx⟩), ← h, List.append_assoc]
  rfl
end Pv
namespace Go.Proofs.YtilhicefhhgecaaGreatDoor
open Go.RowKit Pv

theorem own_src {w : World} {b e m c : Nat} {g : Nat} {l : List Int} (h : w.ownsRow b e 1 (.slice (some ⟨g, 0, none⟩) m c) m (l.map (Value.int .i64))) (i k : Nat) (hk : i + k ≤ m) : Pv.Src w (some ⟨g, i, none⟩) 1 k (((l.drop i).take k).map (Value.int .i64)) := by
  have hlen : l.length = m := by have := h.1; simpa using this
  refine ⟨by simp; omega, fun u hu => by obtain ⟨x, _, rfl⟩ := List.mem_map.1 hu; rfl, fun hp => ?_⟩
  obtain ⟨g', e1, hlt, _⟩ := own_get1 h (k := 0) (u := .int .i64 (l[0]'(by omega))) (by simp)
  obtain rfl : g = g' := by simpa using e1
  refine ⟨g, i, rfl, hlt, fun j u hu => ?_⟩
  rw [List.getElem?_map, List.getElem?_take] at hu
  split at hu
  · rename_i hj
    rw [List.getElem?_drop] at hu
    obtain ⟨g2, e2, _, h3⟩ := own_get1 h (k := i + j) (u := u) (by rw [List.getElem?_map]; exact hu)
    obtain rfl : g = g2 := by simpa using e2
    exact h3
  · simp at hu

set_option maxHeartbeats 2000000 in
set_option maxRecDepth 100000 in
theorem ref06_with (B : Nat) (A : Option Addr) (c m : Nat) (l : List Int) (n : Int) (w : World) (h : w.ownsRow B 3 1 (.slice A m c) m (l.map (Value.int .i64))) (hm : 0 < m) (hm2 : m ≤ 1000000) :
    Calls Tryz.prog 268 #[.slice A m c, .int .i64 n] w fun e w' => (∃ v, e = .returned v ∧ OwnI w' B v (withL l n)) ∧ Below w.heap.size w w' := by
  have HL : Hid (l.length = m) := Lib.hid (by have := h.1; simpa using this)
  obtain ⟨i0, hi0, hz0, hs0, hb0⟩ := info_parts info_int9
  obtain ⟨g, rfl, hg, _⟩ := own_get1 h (k := 0) (u := .int .i64 (l[0]'(by rw [HL.out]; exact hm))) (by simp)
  have hmc : m ≤ c := by
    rcases h.2 with ⟨hv, _⟩ | ⟨_, cap, _, hv, _, _, hnc, _⟩
    · cases hv
    · injection hv with _ _ e3; omega
  have HO := Lib.hid h
  have HBg : Hid (B ≤ w.heap.size) := Lib.hid (by have := own_ge h g rfl; omega)
  clear h
  go_enter Tryz.func268, Tryz.ntmps268
  go_wp2
  go_loop [5] (fun i => ∃ k : Nat, i = .int .i64 k ∧ k ≤ m ∧ Hid (k ≤ atI n l)) (fun i => m - (intOf i).toNat)
  case atStart => exact ⟨0, rfl, by omega, Lib.hid (by omega)⟩
  case round =>
    obtain ⟨k, rfl, hk, HK⟩ := hrel
    have i1 : (0 : Int) ≤ (k : Int) := by omega
    by_cases hlt : k < m
    · have i2 : (k : Int) < (m : Int) := by omega
      obtain ⟨x, HX⟩ : ∃ x, Hid (l[k]? = some x) := ⟨l[k]'(by rw [HL.out]; exact hlt), Lib.hid (by simp)⟩
      obtain ⟨g', e', _, hc⟩ := own_get1 HO.out (k := k) (u := .int .i64 x) (by rw [List.getElem?_map, HX.out]; rfl)
      simp only [Option.some.injEq, Addr.mk.injEq, and_true] at e'
      subst e'
      by_cases hx : x < n
      · have HK2 := Lib.hid (atI_step HK.out HX.out hx)
        go_wp2
        go_round
        case rel => exact ⟨k + 1, by go_num, by omega, HK2⟩
        case measure => simp [intOf]; omega
      · have HKE := Lib.hid (atI_stop HK.out HX.out hx)
        by_cases hn : 1114111 < n
        · have HW := Lib.hid (withL_over (l := l) hn)
          go_wp2
          go_ret
          exact ⟨⟨_, rfl, by rw [HW.out]; have := HL.out; subst this; exact ⟨_, _, rfl, HO.out⟩⟩, Below.refl _ _⟩
        · by_cases hxn : x = n
          · subst hxn
            have HW := Lib.hid (withL_at HKE.out HX.out)
            go_wp2
            go_ret
            exact ⟨⟨_, rfl, by rw [HW.out]; have := HL.out; subst this; exact ⟨_, _, rfl, HO.out⟩⟩, Below.refl _ _⟩
          · have HW := Lib.hid (withL_put hn HKE.out (by rw [HX.out]; simpa using hxn))
            have hne : (x == n) = false := by simpa using hxn
            have S1 := Lib.hid (own_src HO.out 0 k (by omega))
            have S3 := Lib.hid (own_src HO.out k (m - k) (by omega))
            have Q1 : Hid (0 + k ≤ maxLen) := Lib.hid (by simp only [maxLen]; omega)
            have Q2 : Hid ((0 + k) * 8 ≤ 140737488355328) := Lib.hid (by omega)
            have Q4 : Hid (k + 1 ≤ maxLen) := Lib.hid (by simp only [maxLen]; omega)
            have Q5 : Hid ((k + 1) * 8 ≤ 140737488355328) := Lib.hid (by omega)
            have Q6 : Hid (k + 1 + (m - k) ≤ maxLen) := Lib.hid (by simp only [maxLen]; omega)
            have Q7 : Hid ((k + 1 + (m - k)) * 8 ≤ 140737488355328) := Lib.hid (by omega)
            go_wp2_with (first
              | (at_builtin
                 refine wpList_append_src _ rfl (.tmp 38) (.tmp 41) 22 rfl w.heap.size 3 i0 (.int .i64 0) 1 8 Tryz.underlying22 hi0 hz0 hs0 hb0 rfl (by decide) none 0 0 [] rfl (World.ownsRow_nil _ _ _ _) (some ⟨g, 0, none⟩) k c _ rfl S1.out Q1.out Q2.out (Nat.le_refl _) ?_
                 intro A1 c1 w1 own1 gr1 _
                 simp only [Nat.zero_add, List.nil_append] at own1
                 have hb1 := (Below.refl w.heap.size w).grown gr1 (Nat.le_refl _) (fun g hg => by cases hg)
                 have B1 := Lib.hid (hb1.alloc hb1.size (.cells #[.int .i64 n] 3))
                 have O1 := Lib.hid (own1.alloc (.cells #[.int .i64 n] 3))
                 have SR1 := Lib.hid (Pv.Src.one (w := w1) (x := .int .i64 n) (t := 3) rfl)
                 have Z1 : Hid (w.heap.size ≤ (w1.alloc (.cells #[.int .i64 n] 3)).heap.size) := Lib.hid B1.out.size
                 clear own1 gr1 hb1)
              | (at_builtin
                 refine wpList_append_src _ rfl (.tmp 43) (.tmp 45) 22 rfl w.heap.size 3 i0 (.int .i64 0) 1 8 Tryz.underlying22 hi0 hz0 hs0 hb0 rfl (by decide) A1 c1 k _ rfl O1.out _ 1 1 _ rfl SR1.out Q4.out Q5.out Z1.out ?_
                 intro A2 c2 w2 own2 gr2 _
                 have hb2 := B1.out.grown gr2 Z1.out (fun g hg => (O1.out.lt g hg).1)
                 have B2 := Lib.hid hb2
                 have O2 := Lib.hid own2
                 have S4 := Lib.hid (S3.out.keep (Keep.of B2.out))
                 clear own2 gr2 hb2)
              | (at_builtin
                 go_must (refine wpList_append_src _ rfl (.tmp 47) (.tmp 50) 22 rfl w.heap.size 3 i0 (.int .i64 0) 1 8 Tryz.underlying22 hi0 hz0 hs0 hb0 rfl (by decide) A2 c2 (k + 1) _ rfl O2.out (some ⟨g, k, none⟩) (m - k) (c - k) _ rfl S4.out Q6.out Q7.out B2.out.size ?_)
                 intro A3 c3 w3 own3 gr3 _
                 have hb3 := B2.out.grown gr3 B2.out.size (fun g hg => (O2.out.lt g hg).1)
                 have B3 := Lib.hid hb3
                 have O3 := Lib.hid own3
                 clear own3 gr3 hb3))
            go_ret
            refine ⟨⟨_, rfl, ?_⟩, B3.out⟩
            have e : (l.take k ++ [n] ++ l.drop k).map (Value.int .i64) = (l.take k).map (Value.int .i64) ++ [.int .i64 n] ++ (l.drop k).map (Value.int .i64) := by simp
            have e1 : (l.drop k).take (m - k) = l.drop k := List.take_of_length_le (by rw [List.length_drop, HL.out]; omega)
            have e2 : (l.take k ++ [n] ++ l.drop k).length = k + 1 + (m - k) := by have := HL.out; simp; omega
            have O4 := O3.out
            rw [e1, List.drop_zero, ← e] at O4
            rw [HW.out]
            refine OwnI.lower ?_ HBg.out
            refine ⟨A3, c3, ?_, ?_⟩
            · rw [e2]; rfl
            · rw [e2]; exact O4
    · obtain rfl : k = m := by omega
      have HKE : Hid (k = atI n l) := Lib.hid (by have := HK.out; have h2 := atI_le n l; rw [HL.out] at h2; omega)
      have HN : Hid (l[k]? = none) := Lib.hid (List.getElem?_eq_none (by rw [HL.out]; omega))
      by_cases hn : 1114111 < n
      · have HW := Lib.hid (withL_over (l := l) hn)
        go_wp2
        go_ret
        exact ⟨⟨_, rfl, by rw [HW.out]; have := HL.out; subst this; exact ⟨_, _, rfl, HO.out⟩⟩, Below.refl _ _⟩
      · have HW := Lib.hid (withL_put hn HKE.out (by rw [HN.out]; simp))
        have S1 := Lib.hid (own_src HO.out 0 k (by omega))
        have Q1 : Hid (0 + k ≤ maxLen) := Lib.hid (by simp only [maxLen]; omega)
        have Q2 : Hid ((0 + k) * 8 ≤ 140737488355328) := Lib.hid (by omega)
        have Q4 : Hid (k + 1 ≤ maxLen) := Lib.hid (by simp only [maxLen]; omega)
        have Q5 : Hid ((k + 1) * 8 ≤ 140737488355328) := Lib.hid (by omega)
        have Q6 : Hid (k + 1 + 0 ≤ maxLen) := Lib.hid (by simp only [maxLen]; omega)
        have Q7 : Hid ((k + 1 + 0) * 8 ≤ 140737488355328) := Lib.hid (by omega)
        go_wp2_with (first
          | (at_builtin
             refine wpList_append_src _ rfl (.tmp 38) (.tmp 41) 22 rfl w.heap.size 3 i0 (.int .i64 0) 1 8 Tryz.underlying22 hi0 hz0 hs0 hb0 rfl (by decide) none 0 0 [] rfl (World.ownsRow_nil _ _ _ _) (some ⟨g, 0, none⟩) k c _ rfl S1.out Q1.out Q2.out (Nat.le_refl _) ?_
             intro A1 c1 w1 own1 gr1 _
             simp only [Nat.zero_add, List.nil_append] at own1
             have hb1 := (Below.refl w.heap.size w).grown gr1 (Nat.le_refl _) (fun g hg => by cases hg)
             have B1 := Lib.hid (hb1.alloc hb1.size (.cells #[.int .i64 n] 3))
             have O1 := Lib.hid (own1.alloc (.cells #[.int .i64 n] 3))
             have SR1 := Lib.hid (Pv.Src.one (w := w1) (x := .int .i64 n) (t := 3) rfl)
             have Z1 : Hid (w.heap.size ≤ (w1.alloc (.cells #[.int .i64 n] 3)).heap.size) := Lib.hid B1.out.size
             clear own1 gr1 hb1)
          | (at_builtin
             refine wpList_append_src _ rfl (.tmp 43) (.tmp 45) 22 rfl w.heap.size 3 i0 (.int .i64 0) 1 8 Tryz.underlying22 hi0 hz0 hs0 hb0 rfl (by decide) A1 c1 k _ rfl O1.out _ 1 1 _ rfl SR1.out Q4.out Q5.out Z1.out ?_
             intro A2 c2 w2 own2 gr2 _
             have hb2 := B1.out.grown gr2 Z1.out (fun g hg => (O1.out.lt g hg).1)
             have B2 := Lib.hid hb2
             have O2 := Lib.hid own2
             have S4 : Hid (∀ A, Pv.Src w2 A 1 0 []) := Lib.hid (fun A => ⟨rfl, by simp, fun h => absurd h (by omega)⟩)
             clear own2 gr2 hb2)
          | (at_builtin
             go_must (refine wpList_append_src _ rfl (.tmp 47) (.tmp 50) 22 rfl w.heap.size 3 i0 (.int .i64 0) 1 8 Tryz.underlying22 hi0 hz0 hs0 hb0 rfl (by decide) A2 c2 (k + 1) _ rfl O2.out _ 0 (c - k) _ rfl (S4.out _) Q6.out Q7.out B2.out.size ?_)
             intro A3 c3 w3 own3 gr3 _
             have hb3 := B2.out.grown gr3 B2.out.size (fun g hg => (O2.out.lt g hg).1)
             have B3 := Lib.hid hb3
             have O3 := Lib.hid own3
             clear own3 gr3 hb3))
        all_goals
          go_ret
          refine ⟨⟨_, rfl, ?_⟩, B3.out⟩
          have e : (l.take k ++ [n] ++ l.drop k).map (Value.int .i64) = (l.take k).map (Value.int .i64) ++ [.int .i64 n] ++ (l.drop k).map (Value.int .i64) := by simp
          have e1 : l.drop k = [] := List.drop_eq_nil_of_le (by rw [HL.out]; omega)
          have e2 : (l.take k ++ [n] ++ l.drop k).length = k + 1 + 0 := by have := HL.out; simp; omega
          have O4 := O3.out
          rw [e1, List.map_nil] at e
          rw [List.drop_zero, ← e] at O4
          rw [HW.out, e1]
          rw [e1] at e2
          refine OwnI.lower ?_ HBg.out
          refine ⟨A3, c3, ?_, ?_⟩
          · rw [e2]; rfl
          · rw [e2]; exact O4
end Go.Proofs.YtilhicefhhgecaaGreatDoor

namespace Pv
open Go Go.RowKit
theorem plcL_snoc {S : List (List Rng)} {i : Nat} {s : List Rng} (h : S[i]? = some s) : plcL (S.take (i + 1)) = s.foldl plc1 (plcL (S.take i)) := by
  unfold plcL; rw [take_snoc h, List.foldl_append]; rfl
theorem plc1_snoc {l : List Int} {s : List Rng} {k : Nat} {r : Rng} (h : s[k]? = some r) : (s.take (k + 1)).foldl plc1 l = withL (withL ((s.take k).foldl plc1 l) r.lo) (r.hi + 1) := by
  rw [take_snoc h, List.foldl_append]; rfl
theorem withL_pos {l : List Int} {n : Int} (h : 0 < l.length) : 0 < (withL l n).length := by
  unfold withL
  split
  · exact h
  · simp; have := atI_le n l; omega
end Pv
namespace Go.Proofs.YtilhicefhhgecaaGreatDoor
open Go.RowKit Pv

theorem own_lit (w : World) (b : Nat) (x : Value) (t : TypeId) (hb : b ≤ w.heap.size) : (w.alloc (.cells #[x] t)).ownsRow b t 1 (.slice (some ⟨w.heap.size, 0, none⟩) 1 1) 1 [x] :=
  ⟨rfl, .inr ⟨w.heap.size, 1, #[x], rfl, hb, Blk.new w t #[x], Nat.le_refl _, by simp [maxLen], rfl, rfl⟩⟩
/-- Sets from an address on. -/
abbrev AtSets (w : World) (A : Option Addr) (S : List (List Rng)) : Prop := At w A (IsSet w) S
theorem AtSets.gt {w : World} {A : Option Addr} {S : List (List Rng)} {n i : Nat} (h : AtSets w A S) (HL : Hid (S.length = n)) (hi : i < n) :
    ∃ b off T q tc s, A = some ⟨b, off, none⟩ ∧ b < w.heap.size ∧ w.cell? ⟨b, off + i, none⟩ = some (.slice T q tc) ∧ AtSet w T s ∧ Hid (s.length = q) ∧ q ≤ tc ∧ Hid (S[i]? = some s) := by
  obtain ⟨b, off, u, s, e, hb, hc, ⟨T, tc, rfl, hs, hm⟩, hx⟩ := At.gt h HL hi
  exact ⟨b, off, T, s.length, tc, s, e, hb, hc, hs, rfl, hm, hx⟩

end Go.Proofs.YtilhicefhhgecaaGreatDoor
