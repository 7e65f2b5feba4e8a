/- Walks: a number put into a rising list; all sets' places; where they turn (the document's). PUT1 -/
import Derived.Test.YtjnjbcigbnjmkaaGreatFay
import Derived.Test.YtjnjbcigbnjmkaaGreatTzy
import Derived.Test.YtjnjbcigbnjmkaaGreatZey
import Derived.Test.YtjnjbcigbnjmkaaGreatBfy
import Derived.Test.YtjnjbcigbnjmkaaGreatLsy
import Derived.Test.YtjnjbcigbnjmkaaGreatQvy
namespace Pv
open Go Go.RowKit
theorem atI_step {n x : Int} {l : List Int} {k : Nat} (h : k ≤ atI n l) (hx : l[k]? = some x) (hlt : x < n) : k + 1 ≤ atI n l := by
  by_cases e : k = atI n l
  · subst e; have := atI_next hx; omega
  · omega
theorem atI_stop {n x : Int} {l : List Int} {k : Nat} (h : k ≤ atI n l) (hx : l[k]? = some x) (hlt : ¬ x < n) : k = atI n l := by
  by_cases e : k = atI n l
  · exact e
  · have : x ∈ l.take (atI n l) := by
      refine mem_of_get (k := k) ?_
      rw [List.getElem?_take_of_lt (by omega)]; exact hx
    have := atI_low this
    omega
theorem withL_over {l : List Int} {n : Int} (h : 1114111 < n) : withL l n = l := by unfold withL; rw [if_pos (.inl h)]
theorem withL_at {l : List Int} {n : Int} {k : Nat} (h : k = atI n l) (hx : l[k]? = some n) : withL l n = l := by unfold withL; rw [if_pos (.inr (by rw [← h]; exact hx))]
theorem withL_put {l : List Int} {n : Int} {k : Nat} (h0 : ¬ 1114111 < n) (h : k = atI n l) (hx : l[k]? ≠ some n) : withL l n = (l.take k ++ [n]) ++ l.drop k := by
  unfold withL
  rw [if_neg (by rw [← h]; simp only [not_or]; exact ⟨h0, hx⟩), ← h, List.append_assoc]
  rfl
end Pv
namespace Go.Proofs.YtjnjbcigbnjmkaaGreat
open Go.RowKit Pv

theorem own_src {w : World} {b e m c : Nat} {g : Nat} {l : List Int} (h : w.ownsRow b e 1 (.slice (some ⟨g, 0, none⟩) m c) m (l.map (Value.int .i64))) (i k : Nat) (hk : i + k ≤ m) : Src w (some ⟨g, i, none⟩) 1 k (((l.drop i).take k).map (Value.int .i64)) := by
  have hlen : l.length = m := by have := h.1; simpa using this
  refine ⟨by simp; omega, fun u hu => by obtain ⟨x, _, rfl⟩ := List.mem_map.1 hu; rfl, fun hp => ?_⟩
  obtain ⟨g', e1, hlt, _⟩ := own_get1 h (k := 0) (u := .int .i64 (l[0]'(by omega))) (by simp)
  obtain rfl : g = g' := by simpa using e1
  refine ⟨g, i, rfl, hlt, fun j u hu => ?_⟩
  rw [List.getElem?_map, List.getElem?_take] at hu
  split at hu
  · rename_i hj
    rw [List.getElem?_drop] at hu
    obtain ⟨g2, e2, _, h3⟩ := own_get1 h (k := i + j) (u := u) (by rw [List.getElem?_map]; exact hu)
    obtain rfl : g = g2 := by simpa using e2
    exact h3
  · simp at hu

set_option maxHeartbeats 2000000 in
set_option maxRecDepth 100000 in
theorem ref06_with (B : Nat) (A : Option Addr) (c m : Nat) (l : List Int) (n : Int) (w : World) (h : w.ownsRow B 3 1 (.slice A m c) m (l.map (Value.int .i64))) (hm : 0 < m) (hm2 : m ≤ 1000000) :
    Calls Tryz.prog 83 #[.slice A m c, .int .i64 n] w fun e w' => (∃ v, e = .returned v ∧ OwnI w' B v (withL l n)) ∧ Below w.heap.size w w' := by
  have HL : Hid (l.length = m) := Lib.hid (by have := h.1; simpa using this)
  obtain ⟨i0, hi0, hz0, hs0, hb0⟩ := info_parts info_int9
  obtain ⟨g, rfl, hg, _⟩ := own_get1 h (k := 0) (u := .int .i64 (l[0]'(by rw [HL.out]; exact hm))) (by simp)
  have hmc : m ≤ c := by
    rcases h.2 with ⟨hv, _⟩ | ⟨_, cap, _, hv, _, _, hnc, _⟩
    · cases hv
    · injection hv with _ _ e3; omega
  have HO := Lib.hid h
  have HBg : Hid (B ≤ w.heap.size) := Lib.hid (by have := own_ge h g rfl; omega)
  clear h
  go_enter Tryz.func83, Tryz.ntmps83
  go_wp2
  go_loop [5] (fun i => ∃ k : Nat, i = .int .i64 k ∧ k ≤ m ∧ Hid (k ≤ atI n l)) (fun i => m - (intOf i).toNat)
  case atStart => exact ⟨0, rfl, by omega, Lib.hid (by omega)⟩
  case round =>
    obtain ⟨k, rfl, hk, HK⟩ := hrel
    have i1 : (0 : Int) ≤ (k : Int) := by omega
    by_cases hlt : k < m
    · have i2 : (k : Int) < (m : Int) := by omega
      obtain ⟨x, HX⟩ : ∃ x, Hid (l[k]? = some x) := ⟨l[k]'(by rw [HL.out]; exact hlt), Lib.hid (by simp)⟩
      obtain ⟨g', e', _, hc⟩ := own_get1 HO.out (k := k) (u := .int .i64 x) (by rw [List.getElem?_map, HX.out]; rfl)
      simp only [Option.some.injEq, Addr.mk.injEq, and_true] at e'
      subst e'
      by_cases hx : x < n
      · have HK2 := Lib.hid (atI_step HK.out HX.out hx)
        go_wp2
        go_round
        case rel => exact ⟨k + 1, by go_num, by omega, HK2⟩
        case measure => simp [intOf]; omega
      · have HKE := Lib.hid (atI_stop HK.out HX.out hx)
        by_cases hn : 1114111 < n
        · have HW := Lib.hid (withL_over (l := l) hn)
          go_wp2
          go_ret
          exact ⟨⟨_, rfl, by rw [HW.out]; have := HL.out; subst this; exact ⟨_, _, rfl, HO.out⟩⟩, Below.refl _ _⟩
        · by_cases hxn : x = n
          · subst hxn
            have HW := Lib.hid (withL_at HKE.out HX.out)
            go_wp2
            go_ret
            exact ⟨⟨_, rfl, by rw [HW.out]; have := HL.out; subst this; exact ⟨_, _, rfl, HO.out⟩⟩, Below.refl _ _⟩
          · have HW := Lib.hid (withL_put hn HKE.out (by rw [HX.out]; simpa using hxn))
            have hne : (x == n) = false := by simpa using hxn
            have S1 := Lib.hid (own_src HO.out 0 k (by omega))
            have S3 := Lib.hid (own_src HO.out k (m - k) (by omega))
            have Q1 : Hid (0 + k ≤ maxLen) := Lib.hid (by simp only [maxLen]; omega)
            have Q2 : Hid ((0 + k) * 8 ≤ 140737488355328) := Lib.hid (by omega)
            have Q4 : Hid (k + 1 ≤ maxLen) := Lib.hid (by simp only [maxLen]; omega)
            have Q5 : Hid ((k + 1) * 8 ≤ 140737488355328) := Lib.hid (by omega)
            have Q6 : Hid (k + 1 + (m - k) ≤ maxLen) := Lib.hid (by simp only [maxLen]; omega)
            have Q7 : Hid ((k + 1 + (m - k)) * 8 ≤ 140737488355328) := Lib.hid (by omega)
            go_wp2_with (first
              | (at_builtin
                 refine wpList_append_src _ rfl (.tmp 38) (.tmp 41) 26 rfl w.heap.size 3 i0 (.int .i64 0) 1 8 Tryz.underlying26 hi0 hz0 hs0 hb0 rfl (by decide) none 0 0 [] rfl (World.ownsRow_nil _ _ _ _) (some ⟨g, 0, none⟩) k c _ rfl S1.out Q1.out Q2.out (Nat.le_refl _) ?_
                 intro A1 c1 w1 own1 gr1 _
                 simp only [Nat.zero_add, List.nil_append] at own1
                 have hb1 := (Below.refl w.heap.size w).grown gr1 (Nat.le_refl _) (fun g hg => by cases hg)
                 have B1 := Lib.hid (hb1.alloc hb1.size (.cells #[.int .i64 n] 3))
                 have O1 := Lib.hid (own1.alloc (.cells #[.int .i64 n] 3))
                 have SR1 := Lib.hid (Src.one (w := w1) (x := .int .i64 n) (t := 3) rfl)
                 have Z1 : Hid (w.heap.size ≤ (w1.alloc (.cells #[.int .i64 n] 3)).heap.size) := Lib.hid B1.out.size
                 clear own1 gr1 hb1)
              | (at_builtin
                 refine wpList_append_src _ rfl (.tmp 43) (.tmp 45) 26 rfl w.heap.size 3 i0 (.int .i64 0) 1 8 Tryz.underlying26 hi0 hz0 hs0 hb0 rfl (by decide) A1 c1 k _ rfl O1.out _ 1 1 _ rfl SR1.out Q4.out Q5.out Z1.out ?_
                 intro A2 c2 w2 own2 gr2 _
                 have hb2 := B1.out.grown gr2 Z1.out (fun g hg => (O1.out.lt g hg).1)
                 have B2 := Lib.hid hb2
                 have O2 := Lib.hid own2
                 have S4 := Lib.hid (S3.out.keep (Keep.of B2.out))
                 clear own2 gr2 hb2)
              | (at_builtin
                 go_must (refine wpList_append_src _ rfl (.tmp 47) (.tmp 50) 26 rfl w.heap.size 3 i0 (.int .i64 0) 1 8 Tryz.underlying26 hi0 hz0 hs0 hb0 rfl (by decide) A2 c2 (k + 1) _ rfl O2.out (some ⟨g, k, none⟩) (m - k) (c - k) _ rfl S4.out Q6.out Q7.out B2.out.size ?_)
                 intro A3 c3 w3 own3 gr3 _
                 have hb3 := B2.out.grown gr3 B2.out.size (fun g hg => (O2.out.lt g hg).1)
                 have B3 := Lib.hid hb3
                 have O3 := Lib.hid own3
                 clear own3 gr3 hb3))
            go_ret
            refine ⟨⟨_, rfl, ?_⟩, B3.out⟩
            have e : (l.take k ++ [n] ++ l.drop k).map (Value.int .i64) = (l.take k).map (Value.int .i64) ++ [.int .i64 n] ++ (l.drop k).map (Value.int .i64) := by simp
            have e1 : (l.drop k).take (m - k) = l.drop k := List.take_of_length_le (by rw [List.length_drop, HL.out]; omega)
            have e2 : (l.take k ++ [n] ++ l.drop k).length = k + 1 + (m - k) := by have := HL.out; simp; omega
            have O4 := O3.out
            rw [e1, List.drop_zero, ← e] at O4
            rw [HW.out]
            refine OwnI.lower ?_ HBg.out
            refine ⟨A3, c3, ?_, ?_⟩
            · rw [e2]; rfl
            · rw [e2]; exact O4
    · obtain rfl : k = m := by omega
      have HKE : Hid (k = atI n l) := Lib.hid (by have := HK.out; have h2 := atI_le n l; rw [HL.out] at h2; omega)
      have HN : Hid (l[k]? = none) := Lib.hid (List.getElem?_eq_none (by rw [HL.out]; omega))
      by_cases hn : 1114111 < n
      · have HW := Lib.hid (withL_over (l := l) hn)
        go_wp2
        go_ret
        exact ⟨⟨_, rfl, by rw [HW.out]; have := HL.out; subst this; exact ⟨_, _, rfl, HO.out⟩⟩, Below.refl _ _⟩
      · have HW := Lib.hid (withL_put hn HKE.out (by rw [HN.out]; simp))
        have S1 := Lib.hid (own_src HO.out 0 k (by omega))
        have Q1 : Hid (0 + k ≤ maxLen) := Lib.hid (by simp only [maxLen]; omega)
        have Q2 : Hid ((0 + k) * 8 ≤ 140737488355328) := Lib.hid (by omega)
        have Q4 : Hid (k + 1 ≤ maxLen) := Lib.hid (by simp only [maxLen]; omega)
        have Q5 : Hid ((k + 1) * 8 ≤ 140737488355328) := Lib.hid (by omega)
        have Q6 : Hid (k + 1 + 0 ≤ maxLen) := Lib.hid (by simp only [maxLen]; omega)
        have Q7 : Hid ((k + 1 + 0) * 8 ≤ 140737488355328) := Lib.hid (by omega)
        go_wp2_with (first
          | (at_builtin
             refine wpList_append_src _ rfl (.tmp 38) (.tmp 41) 26 rfl w.heap.size 3 i0 (.int .i64 0) 1 8 Tryz.underlying26 hi0 hz0 hs0 hb0 rfl (by decide) none 0 0 [] rfl (World.ownsRow_nil _ _ _ _) (some ⟨g, 0, none⟩) k c _ rfl S1.out Q1.out Q2.out (Nat.le_refl _) ?_
             intro A1 c1 w1 own1 gr1 _
             simp only [Nat.zero_add, List.nil_append] at own1
             have hb1 := (Below.refl w.heap.size w).grown gr1 (Nat.le_refl _) (fun g hg => by cases hg)
             have B1 := Lib.hid (hb1.alloc hb1.size (.cells #[.int .i64 n] 3))
             have O1 := Lib.hid (own1.alloc (.cells #[.int .i64 n] 3))
             have SR1 := Lib.hid (Src.one (w := w1) (x := .int .i64 n) (t := 3) rfl)
             have Z1 : Hid (w.heap.size ≤ (w1.alloc (.cells #[.int .i64 n] 3)).heap.size) := Lib.hid B1.out.size
             clear own1 gr1 hb1)
          | (at_builtin
             refine wpList_append_src _ rfl (.tmp 43) (.tmp 45) 26 rfl w.heap.size 3 i0 (.int .i64 0) 1 8 Tryz.underlying26 hi0 hz0 hs0 hb0 rfl (by decide) A1 c1 k _ rfl O1.out _ 1 1 _ rfl SR1.out Q4.out Q5.out Z1.out ?_
             intro A2 c2 w2 own2 gr2 _
             have hb2 := B1.out.grown gr2 Z1.out (fun g hg => (O1.out.lt g hg).1)
             have B2 := Lib.hid hb2
             have O2 := Lib.hid own2
             have S4 : Hid (∀ A, Src w2 A 1 0 []) := Lib.hid (fun A => ⟨rfl, by simp, fun h => absurd h (by omega)⟩)
             clear own2 gr2 hb2)
          | (at_builtin
             go_must (refine wpList_append_src _ rfl (.tmp 47) (.tmp 50) 26 rfl w.heap.size 3 i0 (.int .i64 0) 1 8 Tryz.underlying26 hi0 hz0 hs0 hb0 rfl (by decide) A2 c2 (k + 1) _ rfl O2.out _ 0 (c - k) _ rfl (S4.out _) Q6.out Q7.out B2.out.size ?_)
             intro A3 c3 w3 own3 gr3 _
             have hb3 := B2.out.grown gr3 B2.out.size (fun g hg => (O2.out.lt g hg).1)
             have B3 := Lib.hid hb3
             have O3 := Lib.hid own3
             clear own3 gr3 hb3))
        all_goals
          go_ret
          refine ⟨⟨_, rfl, ?_⟩, B3.out⟩
          have e : (l.take k ++ [n] ++ l.drop k).map (Value.int .i64) = (l.take k).map (Value.int .i64) ++ [.int .i64 n] ++ (l.drop k).map (Value.int .i64) := by simp
          have e1 : l.drop k = [] := List.drop_eq_nil_of_le (by rw [HL.out]; omega)
          have e2 : (l.take k ++ [n] ++ l.drop k).length = k + 1 + 0 := by have := HL.out; simp; omega
          have O4 := O3.out
          rw [e1, List.map_nil] at e
          rw [List.drop_zero, ← e] at O4
          rw [HW.out, e1]
          rw [e1] at e2
          refine OwnI.lower ?_ HBg.out
          refine ⟨A3, c3, ?_, ?_⟩
          · rw [e2]; rfl
          · rw [e2]; exact O4
end Go.Proofs.YtjnjbcigbnjmkaaGreat

namespace Pv
open Go Go.RowKit
theorem plcL_snoc {S : List (List Rng)} {i : Nat} {s : List Rng} (h : S[i]? = some s) : plcL (S.take (i + 1)) = s.foldl plc1 (plcL (S.take i)) := by
  unfold plcL; rw [take_snoc h, List.foldl_append]; rfl
theorem plc1_snoc {l : List Int} {s : List Rng} {k : Nat} {r : Rng} (h : s[k]? = some r) : (s.take (k + 1)).foldl plc1 l = withL (withL ((s.take k).foldl plc1 l) r.lo) (r.hi + 1) := by
  rw [take_snoc h, List.foldl_append]; rfl
theorem withL_pos {l : List Int} {n : Int} (h : 0 < l.length) : 0 < (withL l n).length := by
  unfold withL
  split
  · exact h
  · simp; have := atI_le n l; omega
end Pv
namespace Go.Proofs.YtjnjbcigbnjmkaaGreat
open Go.RowKit Pv

theorem own_lit (w : World) (b : Nat) (x : Value) (t : TypeId) (hb : b ≤ w.heap.size) : (w.alloc (.cells #[x] t)).ownsRow b t 1 (.slice (some ⟨w.heap.size, 0, none⟩) 1 1) 1 [x] :=
  ⟨rfl, .inr ⟨w.heap.size, 1, #[x], rfl, hb, Blk.new w t #[x], Nat.le_refl _, by simp [maxLen], rfl, rfl⟩⟩
/-- Sets from an address on. -/
abbrev AtSets (w : World) (A : Option Addr) (S : List (List Rng)) : Prop := At w A (IsSet w) S
theorem AtSets.keep {w w' : World} {A : Option Addr} {S : List (List Rng)} (h : AtSets w A S) (k : Keep w w') : AtSets w' A S := At.keepR h k fun _ _ h => SlK.keep h k
theorem AtSets.gt {w : World} {A : Option Addr} {S : List (List Rng)} {n i : Nat} (h : AtSets w A S) (HL : Hid (S.length = n)) (hi : i < n) :
    ∃ b off T q tc s, A = some ⟨b, off, none⟩ ∧ b < w.heap.size ∧ w.cell? ⟨b, off + i, none⟩ = some (.slice T q tc) ∧ AtSet w T s ∧ Hid (s.length = q) ∧ q ≤ tc ∧ Hid (S[i]? = some s) := by
  obtain ⟨b, off, u, s, e, hb, hc, ⟨T, tc, rfl, hs, hm⟩, hx⟩ := At.gt h HL hi
  exact ⟨b, off, T, s.length, tc, s, e, hb, hc, hs, rfl, hm, hx⟩

set_option maxHeartbeats 2000000 in
set_option maxRecDepth 100000 in
theorem ref06_places (A : Option Addr) (c n : Nat) (S : List (List Rng)) (w : World) (h : AtSets w A S) (HL : Hid (S.length = n)) (hn : n ≤ 256) (hs : ∀ s ∈ S, SetOk s) :
    Calls Tryz.prog 60 #[.slice A n c] w fun e w' => (∃ v, e = .returned v ∧ OwnI w' w.heap.size v (plcL S)) ∧ Below w.heap.size w w' := by
  have HA := Lib.hid h; have HSL := Lib.hid hs
  have O0 := Lib.hid (own_lit w w.heap.size (.int .i64 0) 3 (Nat.le_refl _))
  have HB0 := Lib.hid ((Below.refl w.heap.size w).alloc (Nat.le_refl _) (.cells #[.int .i64 0] 3))
  clear h hs
  go_enter Tryz.func60, Tryz.ntmps60
  go_wp2
  go_loopw [4, 3] (fun iv lv wr => ∃ (i m : Nat) (B : Option Addr) (bc : Nat), iv = .int .i64 i ∧ i ≤ n ∧ lv = .slice B m bc ∧ 0 < m ∧ m ≤ 1 + 512 * i ∧ Hid (m = (plcL (S.take i)).length) ∧ Hid (wr.ownsRow w.heap.size 3 1 (.slice B m bc) m ((plcL (S.take i)).map (Value.int .i64))) ∧ Hid (Below w.heap.size w wr)) (fun iv _ _ => n - (intOf iv).toNat)
  case atStart => exact ⟨0, 1, _, 1, rfl, by omega, rfl, by omega, by omega, Lib.hid rfl, O0, HB0⟩
  case round =>
    obtain ⟨i, m, B, bc, rfl, hi, rfl, hm, hm2, HM, HO, HB⟩ := hrel
    by_cases hlt : i < n
    · obtain ⟨b1, o1, T, q, tc, s, rfl, hb1, c0, hset, HQ, hqc, HX⟩ := AtSets.gt HA.out HL hlt
      have HSET := Lib.hid hset
      have HC1 := Lib.hid (show ∀ W, Below w.heap.size w W → W.cell? ⟨b1, o1 + i, none⟩ = some (.slice T q tc) from fun W hb => ((Keep.of hb).cell _ _ hb1).trans c0)
      have hq : q ≤ 256 := by have := (HSL.out s (mem_of_get HX.out)).few; rwa [HQ.out] at this
      have HSN := Lib.hid (plcL_snoc HX.out)
      have i1 : (0 : Int) ≤ (i : Int) := by omega
      have i2 : (i : Int) < (n : Int) := by omega
      have HONE := Lib.hid (HSL.out s (mem_of_get HX.out)).one
      clear hset c0 HX
      go_wp2
      go_loopw [5, 3] (fun kv lv wr2 => ∃ (k m : Nat) (B : Option Addr) (bc : Nat), kv = .int .i64 k ∧ k ≤ q ∧ lv = .slice B m bc ∧ 0 < m ∧ m ≤ 1 + 512 * i + 2 * k ∧ Hid (m = ((s.take k).foldl plc1 (plcL (S.take i))).length) ∧ Hid (wr2.ownsRow w.heap.size 3 1 (.slice B m bc) m (((s.take k).foldl plc1 (plcL (S.take i))).map (Value.int .i64))) ∧ Hid (Below w.heap.size w wr2)) (fun kv _ _ => q - (intOf kv).toNat)
      case atStart => exact ⟨0, m, B, bc, rfl, by omega, rfl, hm, by omega, Lib.hid HM.out, Lib.hid HO.out, HB⟩
      case round =>
        clear HO HM hm hm2 HB
        obtain ⟨k, m, B, bc, rfl, hk, rfl, hm, hm2, HM, HO, HB⟩ := hrel
        have c1 := HC1.out _ HB.out
        by_cases hkt : k < q
        · obtain ⟨b2, o2, lo, hi', rfl, hb2, c2, c3, _, _, HY⟩ := AtSet.gt (HSET.out.keep (Keep.of HB.out)) HQ hkt
          have i3 : (0 : Int) ≤ (k : Int) := by omega
          have i4 : (k : Int) < (q : Int) := by omega
          have HSK := Lib.hid (plc1_snoc (l := plcL (S.take i)) HY.out)
          have hone := HONE.out k _ HY.out
          simp only at hone
          obtain ⟨x1, x2, x3⟩ := hone
          have hp1 := HO.out
          have HS : Hid (wr.drew.cell? ⟨b1, o1 + i, none⟩ = some (.slice (some ⟨b2, o2, none⟩) q tc) ∧ wr.drew.cell? ⟨b2, o2 + k * 2, none⟩ = some (.int .i64 lo) ∧ wr.drew.cell? ⟨b2, o2 + k * 2 + 1, none⟩ = some (.int .i64 hi')) := Lib.hid ⟨c1, c2, c3⟩
          have HBD := Lib.hid HB.out.drew
          have HCB := Lib.hid (ref06_with w.heap.size B bc m _ lo wr.drew (ownsRow_drewN HO.out 1) hm (by omega))
          clear hp1
          go_wp2
          refine wp_region_T 20 (fun W => W.cell? ⟨b1, o1 + i, none⟩ = some (.slice (some ⟨b2, o2, none⟩) q tc) ∧ W.cell? ⟨b2, o2 + k * 2, none⟩ = some (.int .i64 lo) ∧ W.cell? ⟨b2, o2 + k * 2 + 1, none⟩ = some (.int .i64 hi')) (by kernel_rfl) ?_
          refine wpAnyT_take (i := 0) (v := ?_) rfl (by kernel_rfl) (by kernel_rfl) (by kernel_rfl) (by kernel_rfl) (by kernel_rfl) (fun _ _ _ h => h) (.inl ⟨rfl, ?_⟩) HS.out ?_
          rotate_left
          · intro W__ hW__
            obtain ⟨h1, h2, h3⟩ := hW__
            go_simp
            (try with_reducible rfl)
          try simp only [Act.put]
          refine wpAnyT_take (i := 1) (v := ?_) rfl (by kernel_rfl) (by kernel_rfl) (by kernel_rfl) (by kernel_rfl) (by kernel_rfl) (fun _ _ _ h => h) (.inl ⟨rfl, ?_⟩) HS.out ?_
          rotate_left
          · intro W__ hW__
            obtain ⟨h1, h2, h3⟩ := hW__
            go_simp
            (try with_reducible rfl)
          try simp only [Act.put]
          refine wpAnyT_take (i := 2) (v := ?_) rfl (by kernel_rfl) (by kernel_rfl) (by kernel_rfl) (by kernel_rfl) (by kernel_rfl) (fun _ _ _ h => h) (.inl ⟨rfl, ?_⟩) HS.out ?_
          rotate_left
          · intro W__ hW__
            obtain ⟨h1, h2, h3⟩ := hW__
            go_simp
            (try with_reducible rfl)
          try simp only [Act.put]
          refine wpAnyT_take (i := 3) (v := ?_) rfl (by kernel_rfl) (by kernel_rfl) (by kernel_rfl) (by kernel_rfl) (by kernel_rfl) (fun _ _ _ h => h) (.inl ⟨rfl, ?_⟩) HS.out ?_
          rotate_left
          · intro W__ hW__
            obtain ⟨h1, h2, h3⟩ := hW__
            go_simp
            (try with_reducible rfl)
          try simp only [Act.put]
          refine wpAnyT_take (i := 4) (v := ?_) rfl (by kernel_rfl) (by kernel_rfl) (by kernel_rfl) (by kernel_rfl) (by kernel_rfl) (fun _ _ _ h => h) (.inl ⟨rfl, ?_⟩) HS.out ?_
          rotate_left
          · intro W__ hW__
            obtain ⟨h1, h2, h3⟩ := hW__
            go_simp
            (try with_reducible rfl)
          try simp only [Act.put]
          refine wpAnyT_take (i := 5) (v := ?_) rfl (by kernel_rfl) (by kernel_rfl) (by kernel_rfl) (by kernel_rfl) (by kernel_rfl) (fun _ _ _ h => h) (.inl ⟨rfl, ?_⟩) HS.out ?_
          rotate_left
          · intro W__ hW__
            obtain ⟨h1, h2, h3⟩ := hW__
            go_simp
            (try with_reducible rfl)
          try simp only [Act.put]
          refine wpAnyT_take (i := 6) (v := ?_) rfl (by kernel_rfl) (by kernel_rfl) (by kernel_rfl) (by kernel_rfl) (by kernel_rfl) (fun _ _ _ h => h) (.inl ⟨rfl, ?_⟩) HS.out ?_
          rotate_left
          · intro W__ hW__
            obtain ⟨h1, h2, h3⟩ := hW__
            go_simp
            (try with_reducible rfl)
          try simp only [Act.put]
          refine wpAnyT_take (i := 7) (v := ?_) rfl (by kernel_rfl) (by kernel_rfl) (by kernel_rfl) (by kernel_rfl) (by kernel_rfl) (fun _ _ _ h => h) (.inl ⟨rfl, ?_⟩) HS.out ?_
          rotate_left
          · intro W__ hW__
            obtain ⟨h1, h2, h3⟩ := hW__
            go_simp
            (try with_reducible rfl)
          try simp only [Act.put]
          refine wpAnyT_take (i := 8) (v := ?_) rfl (by kernel_rfl) (by kernel_rfl) (by kernel_rfl) (by kernel_rfl) (by kernel_rfl) (fun _ _ _ h => h) (.inl ⟨rfl, ?_⟩) HS.out ?_
          rotate_left
          · intro W__ hW__
            obtain ⟨h1, h2, h3⟩ := hW__
            go_simp
            (try with_reducible rfl)
          try simp only [Act.put]
          refine wpAnyT_take (i := 10) (v := ?_) rfl (by kernel_rfl) (by kernel_rfl) (by kernel_rfl) (by kernel_rfl) (by kernel_rfl) (fun _ _ _ h => h) (.inl ⟨rfl, ?_⟩) HS.out ?_
          rotate_left
          · intro W__ hW__
            obtain ⟨h1, h2, h3⟩ := hW__
            go_simp
            (try with_reducible rfl)
          try simp only [Act.put]
          refine wpAnyT_take (i := 11) (v := ?_) rfl (by kernel_rfl) (by kernel_rfl) (by kernel_rfl) (by kernel_rfl) (by kernel_rfl) (fun _ _ _ h => h) (.inl ⟨rfl, ?_⟩) HS.out ?_
          rotate_left
          · intro W__ hW__
            obtain ⟨h1, h2, h3⟩ := hW__
            go_simp
            (try with_reducible rfl)
          try simp only [Act.put]
          refine wpAnyT_take (i := 12) (v := ?_) rfl (by kernel_rfl) (by kernel_rfl) (by kernel_rfl) (by kernel_rfl) (by kernel_rfl) (fun _ _ _ h => h) (.inl ⟨rfl, ?_⟩) HS.out ?_
          rotate_left
          · intro W__ hW__
            obtain ⟨h1, h2, h3⟩ := hW__
            go_simp
            (try with_reducible rfl)
          try simp only [Act.put]
          refine wpAnyT_take (i := 13) (v := ?_) rfl (by kernel_rfl) (by kernel_rfl) (by kernel_rfl) (by kernel_rfl) (by kernel_rfl) (fun _ _ _ h => h) (.inl ⟨rfl, ?_⟩) HS.out ?_
          rotate_left
          · intro W__ hW__
            obtain ⟨h1, h2, h3⟩ := hW__
            go_simp
            (try with_reducible rfl)
          try simp only [Act.put]
          refine wpAnyT_take (i := 14) (v := ?_) rfl (by kernel_rfl) (by kernel_rfl) (by kernel_rfl) (by kernel_rfl) (by kernel_rfl) (fun _ _ _ h => h) (.inl ⟨rfl, ?_⟩) HS.out ?_
          rotate_left
          · intro W__ hW__
            obtain ⟨h1, h2, h3⟩ := hW__
            go_simp
            (try with_reducible rfl)
          try simp only [Act.put]
          refine wpAnyT_take (i := 15) (v := ?_) rfl (by kernel_rfl) (by kernel_rfl) (by kernel_rfl) (by kernel_rfl) (by kernel_rfl) (fun _ _ _ h => h) (.inl ⟨rfl, ?_⟩) HS.out ?_
          rotate_left
          · intro W__ hW__
            obtain ⟨h1, h2, h3⟩ := hW__
            go_simp
            (try with_reducible rfl)
          try simp only [Act.put]
          refine wpAnyT_take (i := 16) (v := ?_) rfl (by kernel_rfl) (by kernel_rfl) (by kernel_rfl) (by kernel_rfl) (by kernel_rfl) (fun _ _ _ h => h) (.inl ⟨rfl, ?_⟩) HS.out ?_
          rotate_left
          · intro W__ hW__
            obtain ⟨h1, h2, h3⟩ := hW__
            go_simp
            (try with_reducible rfl)
          try simp only [Act.put]
          refine wpAnyT_take (i := 17) (v := ?_) rfl (by kernel_rfl) (by kernel_rfl) (by kernel_rfl) (by kernel_rfl) (by kernel_rfl) (fun _ _ _ h => h) (.inl ⟨rfl, ?_⟩) HS.out ?_
          rotate_left
          · intro W__ hW__
            obtain ⟨h1, h2, h3⟩ := hW__
            go_simp
            (try with_reducible rfl)
          try simp only [Act.put]
          refine wpAnyT_take (i := 18) (v := ?_) rfl (by kernel_rfl) (by kernel_rfl) (by kernel_rfl) (by kernel_rfl) (by kernel_rfl) (fun _ _ _ h => h) (.inl ⟨rfl, ?_⟩) HS.out ?_
          rotate_left
          · intro W__ hW__
            obtain ⟨h1, h2, h3⟩ := hW__
            go_simp
            (try with_reducible rfl)
          try simp only [Act.put]
          refine wpAnyT_one (i := 9) rfl (by kernel_rfl) rfl fun K__ hK__ => ?_
          unfold Oper.wp
          go_simp
          refine HCB.out.mono ?_
          rintro e w3 ⟨⟨v2, rfl, A2, c2', rfl, ho2⟩, hb3⟩
          have HK3 := Lib.hid ((Keep.drew wr).trans (Keep.of hb3))
          have HB3 := Lib.hid (HBD.out.trans (hb3.mono HBD.out.size))
          have HL2 := Lib.hid (withL_len ((s.take k).foldl plc1 (plcL (S.take i))) lo)
          have HP2 := Lib.hid (withL_pos (l := (s.take k).foldl plc1 (plcL (S.take i))) (n := lo) (by rw [← HM.out]; exact hm))
          rw [← HM.out] at HL2
          obtain ⟨m2, HM2⟩ : ∃ m2, Hid (m2 = (withL ((s.take k).foldl plc1 (plcL (S.take i))) lo).length) := ⟨_, Lib.hid rfl⟩
          rw [← HM2.out] at ho2 HL2 HP2
          have hm22 := HL2.out; have hm23 := HP2.out
          have HCC := Lib.hid (ref06_with w.heap.size A2 c2' m2 _ (hi' + 1) w3 ho2 hm23 (by omega))
          have HS3 : Hid (w3.cell? ⟨b1, o1 + i, none⟩ = some (.slice (some ⟨b2, o2, none⟩) q tc) ∧ w3.cell? ⟨b2, o2 + k * 2, none⟩ = some (.int .i64 lo) ∧ w3.cell? ⟨b2, o2 + k * 2 + 1, none⟩ = some (.int .i64 hi')) := Lib.hid ⟨HC1.out _ HB3.out, (HK3.out.cell _ _ hb2).trans c2, (HK3.out.cell _ _ hb2).trans c3⟩
          clear ho2 hb3
          rw [← HM2.out]
          refine hK__ _ _ HS3.out ?_
          clear hK__
          refine wpAnyT_one (i := 19) rfl (by kernel_rfl) rfl fun K__ hK__ => ?_
          unfold Oper.wp
          go_simp
          have hwr : IntKind.i64.wrap (hi' + 1) = hi' + 1 := by rw [IntKind.wrap_i64]; omega
          rw [hwr]
          refine HCC.out.mono ?_
          rintro e w4 ⟨⟨v4, rfl, A4, c4', rfl, ho4⟩, hb4⟩
          have HB4 := Lib.hid (HB3.out.trans (hb4.mono HB3.out.size))
          have HS4 : Hid (w4.cell? ⟨b1, o1 + i, none⟩ = some (.slice (some ⟨b2, o2, none⟩) q tc) ∧ w4.cell? ⟨b2, o2 + k * 2, none⟩ = some (.int .i64 lo) ∧ w4.cell? ⟨b2, o2 + k * 2 + 1, none⟩ = some (.int .i64 hi')) := Lib.hid ⟨HC1.out _ HB4.out, ((Keep.of hb4).cell _ _ (World.block_lt_of_cell? _ _ HS3.out.2.1)).trans HS3.out.2.1, ((Keep.of hb4).cell _ _ (World.block_lt_of_cell? _ _ HS3.out.2.1)).trans HS3.out.2.2⟩
          have HL4 := Lib.hid (withL_len (withL ((s.take k).foldl plc1 (plcL (S.take i))) lo) (hi' + 1))
          have HP4 := Lib.hid (withL_pos (l := withL ((s.take k).foldl plc1 (plcL (S.take i))) lo) (n := hi' + 1) (by rw [← HM2.out]; exact hm23))
          rw [← HM2.out] at HL4
          rw [← HSK.out] at ho4 HL4 HP4 ⊢
          obtain ⟨m4, HM4⟩ : ∃ m4, Hid (m4 = ((s.take (k + 1)).foldl plc1 (plcL (S.take i))).length) := ⟨_, Lib.hid rfl⟩
          rw [← HM4.out] at ho4 HL4 HP4 ⊢
          have hm42 := HL4.out; have hm43 := HP4.out
          have HO4 := Lib.hid ho4
          clear ho4 hb4
          refine hK__ _ _ HS4.out ?_
          clear hK__
          refine wpAnyT_end (i := 20) rfl (by kernel_rfl) rfl (by kernel_rfl) fun K__ hK__ => ?_
          unfold Oper.wp
          go_simp
          refine hK__ _ _ ?_
          clear hK__
          refine wpAnyT_done (by kernel_rfl) ?_ _
          clear c1 c2 c3
          go_wp2
          go_roundw
          case rel => exact ⟨k + 1, m4, A4, c4', by go_num, by omega, rfl, hm43, by omega, HM4, HO4, HB4⟩
          case measure => simp [intOf]; omega
        · obtain rfl : k = q := by omega
          have HTK := Lib.hid (show s.take k = s from List.take_of_length_le (by rw [HQ.out]; omega))
          go_wp2
          go_roundw
          case rel => exact ⟨i + 1, m, B, bc, by go_num, by omega, rfl, hm, by omega, Lib.hid (by rw [HSN.out, HM.out, HTK.out]), Lib.hid (by have := HO.out; rw [HTK.out] at this; rw [HSN.out]; exact this), HB⟩
          case measure => simp [intOf]; omega
    · obtain rfl : i = n := by omega
      have HTK := Lib.hid (show S.take i = S from List.take_of_length_le (by rw [HL.out]; omega))
      go_wp2
      go_ret
      have hm3 := HM.out
      subst hm3
      exact ⟨⟨_, rfl, by have := HO.out; rw [HTK.out] at this ⊢; exact ⟨B, bc, rfl, this⟩⟩, HB.out⟩
end Go.Proofs.YtjnjbcigbnjmkaaGreat
