/- Walks: the library's Sort, Compact, DeleteFunc at numbers, on a row of the call's own; the closures of ranges.Cuts. PUT1 -/
import Derived.Test.YtilhicefhhgecaaGreatDoorFgn
import Derived.Test.YtilhicefhhgecaaGreatDoorSln
import Derived.Test.YtilhicefhhgecaaGreatDoorZbn
import Derived.Sort.OwnSortedInts
import Derived.Test.YtilhicefhhgecaaGreatDoorLsn
namespace Go.Proofs.YtilhicefhhgecaaGreatDoor
open Go.RowKit Go.Sort Go.Shelf Pv

/-- Cut to its first elements. -/
theorem own_cut {w : World} {base e g m c k : Nat} {us : List Value} (h : w.ownsRow base e 1 (.slice (some ⟨g, 0, none⟩) m c) m us) (hk : k ≤ m) : w.ownsRow base e 1 (.slice (some ⟨g, 0, none⟩) k c) k (us.take k) := by
  have h1 := h.1
  refine ⟨by rw [List.length_take]; omega, .inr ?_⟩
  rcases h.2 with ⟨h0, _⟩ | ⟨g', cap, cur, hv, hg, hh, hn, hc, hs, ht⟩
  · cases h0
  · cases hv
    exact ⟨g, c, cur, rfl, hg, hh, by omega, hc, hs, by rw [← ht, List.take_take]; congr 1; omega⟩
theorem grow_none (w : World) : grow w #[] = w := by simp [grow]
section
variable {base g m c : Nat} {l : List Int} {w : World}
theorem sortO (h : w.ownsRow base 3 1 (.slice (some ⟨g, 0, none⟩) m c) m (l.map (Value.int .i64))) (hm : Hid (l.length = m)) (hm9 : m ≤ 1000000) :
    Calls Tryz.prog 58 #[.slice (some ⟨g, 0, none⟩) m c] w fun e w' => e = .returned (.tuple #[]) ∧ w'.ownsRow base 3 1 (.slice (some ⟨g, 0, none⟩) m c) m ((l.mergeSort fun x y => decide (x ≤ y)).map (Value.int .i64)) ∧ w.grownBy w' (some g) := by
  have hm := hm.out
  subst hm
  rcases h.2 with ⟨h0, _⟩ | ⟨g', cap, cur, hv, hg, hh, hn, hc, hs, ht⟩
  · cases h0
  cases hv
  rw [Nat.mul_one] at ht
  have hlt : g < w.heap.size := (Array.getElem?_eq_some_iff.1 hh).1
  refine (AnyM.slices_Sort_int Tryz.sortA g 0 c l w (holds_of_blockI hh ht) hlt (by omega)).mono ?_
  rintro e w' ⟨rfl, n, os, rfl⟩
  exact ⟨rfl, ownsRow_sortedI (List.length_mergeSort _) hg hh hn hc hs, grownBy_sortedI _⟩
theorem compactO (h : w.ownsRow base 3 1 (.slice (some ⟨g, 0, none⟩) m c) m (l.map (Value.int .i64))) (hm : Hid (l.length = m)) :
    Calls Tryz.prog 59 #[.slice (some ⟨g, 0, none⟩) m c] w fun e w' => e = .returned (.slice (some ⟨g, 0, none⟩) (Lib.compact l).length c) ∧ w'.ownsRow base 3 1 (.slice (some ⟨g, 0, none⟩) (Lib.compact l).length c) (Lib.compact l).length ((Lib.compact l).map (Value.int .i64)) ∧ w.grownBy w' (some g) := by
  have hm := hm.out
  subst hm
  rcases h.2 with ⟨h0, _⟩ | ⟨g', cap, cur, hv, hg, hh, hn, hc, hs, ht⟩
  · cases h0
  cases hv
  rw [Nat.mul_one] at ht
  have hle : (Lib.compact l).length ≤ l.length := by
    unfold Lib.compact Lib.compactUpTo
    rw [List.length_map]
    have := List.length_filter_le (Lib.keeps l.toArray) (List.range l.toArray.size)
    simpa using this
  refine (AnyG.slices_Compact_int Tryz.compactA g 0 c l w (holds_of_blockI hh ht) (by unfold maxLen at hc; omega) hn).mono ?_
  rintro e w' ⟨rfl, q, rfl⟩
  have h1 := ownsRow_sortedI (n := q) (os := #[]) (ss := l) (ts := Lib.compact l ++ List.replicate (l.length - (Lib.compact l).length) 0) (by simp; omega) hg hh hn hc hs
  have h2 := grownBy_sortedI (w := w) (g := g) (n := q) (os := #[]) (Lib.compact l ++ List.replicate (l.length - (Lib.compact l).length) 0).toArray
  rw [grow_none] at h1 h2
  refine ⟨rfl, ?_, h2⟩
  have h3 := own_cut h1 hle
  rwa [List.map_append, List.take_left' (by simp)] at h3

set_option maxHeartbeats 1000000 in
theorem cuts2_at (w : World) (x : Int) : Calls Tryz.prog 124 #[.int .i64 x] w fun e w' => e = .returned (.bool (decide (1114111 < x))) ∧ w' = w := by
  by_cases h : 1114111 < x
  · have e1 : decide ((1114111 : Int) < x) = true := decide_eq_true h
    rw [e1]
    go_enter Tryz.func124, Tryz.ntmps124
    go_wp2
    go_ret
    exact ⟨rfl, rfl⟩
  · have e1 : decide ((1114111 : Int) < x) = false := decide_eq_false h
    rw [e1]
    go_enter Tryz.func124, Tryz.ntmps124
    go_wp2
    go_ret
    exact ⟨rfl, rfl⟩
theorem deleteO (h : w.ownsRow base 3 1 (.slice (some ⟨g, 0, none⟩) m c) m (l.map (Value.int .i64))) (hm : Hid (l.length = m)) :
    Calls Tryz.prog 123 #[.slice (some ⟨g, 0, none⟩) m c, .func (.func 124) #[] #[]] w fun e w' => e = .returned (.slice (some ⟨g, 0, none⟩) (l.filter fun x => !decide (1114111 < x)).length c) ∧ w'.ownsRow base 3 1 (.slice (some ⟨g, 0, none⟩) (l.filter fun x => !decide (1114111 < x)).length c) (l.filter fun x => !decide (1114111 < x)).length ((l.filter fun x => !decide (1114111 < x)).map (Value.int .i64)) ∧ w.grownBy w' (some g) := by
  have hm := hm.out
  subst hm
  rcases h.2 with ⟨h0, _⟩ | ⟨g', cap, cur, hv, hg, hh, hn, hc, hs, ht⟩
  · cases h0
  cases hv
  rw [Nat.mul_one] at ht
  have hle := List.length_filter_le (fun x => !decide (1114111 < x)) l
  have hg1 : ∀ (W : World) (x : Int), FnGives Tryz.prog 124 #[] #[.int .i64 x] (.bool (decide (1114111 < x))) W := fun W x => (cuts2_at W x).mono fun e w' ⟨h1, h2⟩ => ⟨h1, 0, by rw [h2]; rfl⟩
  have hd := AnyE.slices_DeleteFunc Tryz.deleteA (Value.int .i64) (fun _ => rfl) (fun x => decide (1114111 < x)) 124 #[] (enters_of Tryz.func124 (by kernel_rfl) rfl) 0 (fun w => by kernel_rfl) g 0 c l.toArray w (fun W x _ => hg1 W x) (fun _ _ _ x _ => hg1 _ x) (holds_of_blockI hh ht) (by simp; unfold maxLen at hc; omega) (by simpa using hn)
  simp only [List.size_toArray] at hd
  refine hd.mono ?_
  rintro e w' ⟨rfl, q, rfl⟩
  have h1 := ownsRow_sortedI (n := q) (os := #[]) (ss := l) (ts := (l.filter fun x => !decide (1114111 < x)) ++ List.replicate (l.length - (l.filter fun x => !decide (1114111 < x)).length) 0) (by simp; omega) hg hh hn hc hs
  have h2 := grownBy_sortedI (w := w) (g := g) (n := q) (os := #[]) ((l.filter fun x => !decide (1114111 < x)) ++ List.replicate (l.length - (l.filter fun x => !decide (1114111 < x)).length) 0).toArray
  rw [grow_none] at h1 h2
  refine ⟨rfl, ?_, h2⟩
  have h3 := own_cut h1 hle
  rwa [List.map_append, List.take_left' (by simp)] at h3
end
end Go.Proofs.YtilhicefhhgecaaGreatDoor

namespace Pv
open Go Go.RowKit
def rawR (s : List Rng) : List Int := s.flatMap fun r => [r.lo, r.hi + 1]
theorem rawR_snoc {s : List Rng} {k : Nat} {r : Rng} (h : s[k]? = some r) : rawR (s.take (k + 1)) = rawR (s.take k) ++ [r.lo, r.hi + 1] := by
  unfold rawR; rw [take_snoc h, List.flatMap_append]; simp
theorem rawL_snoc {S : List (List Rng)} {i : Nat} {s : List Rng} (h : S[i]? = some s) : rawL (S.take (i + 1)) = rawL (S.take i) ++ rawR s := by
  unfold rawL rawR; rw [take_snoc h, List.flatMap_append]; simp
end Pv
namespace Go.Proofs.YtilhicefhhgecaaGreatDoor
open Go.RowKit Pv

theorem src_pair {w : World} {x y : Value} {t : TypeId} (h1 : x.oneCell' = true) (h2 : y.oneCell' = true) : Pv.Src (w.alloc (.cells #[x, y] t)) (some ⟨w.heap.size, 0, none⟩) 1 2 [x, y] := by
  refine ⟨rfl, by simp [h1, h2], fun _ => ⟨w.heap.size, 0, rfl, by simp, fun j u hu => ?_⟩⟩
  match j with
  | 0 => simp at hu; subst hu; simp
  | 1 => simp at hu; subst hu; simp
  | j + 2 => simp at hu
set_option maxHeartbeats 1000000 in
set_option maxRecDepth 100000 in
theorem cuts1_at (base : Nat) (B : Option Addr) (bc m : Nat) (us : List Value) (lo hi : Int) (w : World) (h : w.ownsRow base TLI 1 (.slice B m bc) m us) (hb : base ≤ w.heap.size) (hm : m ≤ 1000000000) (h1 : 0 ≤ hi ∧ hi ≤ 1114111) :
    Calls Tryz.prog 122 #[.slice B m bc, .agg #[.int .i64 lo, .int .i64 hi]] w fun e w' => ∃ B' bc', e = .returned (.slice B' (m + 2) bc') ∧ w'.ownsRow base TLI 1 (.slice B' (m + 2) bc') (m + 2) (us ++ [.int .i64 lo, .int .i64 (hi + 1)]) ∧ Below base w w' := by
  obtain ⟨i0, hi0, hz0, hs0, hb0⟩ := info_parts info_int9
  have HO := Lib.hid ((h.alloc (.cells #[.int .i64 lo, .int .i64 hi] TRng)).alloc (.cells #[.int .i64 lo, .int .i64 (hi + 1)] TLI))
  have HB := Lib.hid (((Below.refl base w).alloc hb (.cells #[.int .i64 lo, .int .i64 hi] TRng)).alloc (by simp; omega) (.cells #[.int .i64 lo, .int .i64 (hi + 1)] TLI))
  have hwr : IntKind.i64.wrap (hi + 1) = hi + 1 := by rw [IntKind.wrap_i64]; omega
  have SR := src_pair (w := w.alloc (.cells #[.int .i64 lo, .int .i64 hi] TRng)) (x := .int .i64 lo) (y := .int .i64 (hi + 1)) (t := TLI) rfl rfl
  rw [show (w.alloc (.cells #[.int .i64 lo, .int .i64 hi] TRng)).heap.size = w.heap.size + 1 by simp] at SR
  have SR := Lib.hid SR
  have Q1 : Hid (m + 2 ≤ maxLen) := Lib.hid (by simp only [maxLen]; omega)
  have Q2 : Hid ((m + 2) * 8 ≤ 140737488355328) := Lib.hid (by omega)
  clear h
  go_enter Tryz.func122, Tryz.ntmps122
  go_wp2_with (at_builtin
               go_must (refine wpList_append_src _ rfl (.tmp 5) (.tmp 11) 22 rfl base TLI i0 (.int .i64 0) 1 8 Tryz.underlying22 hi0 hz0 hs0 hb0 rfl (by decide) B bc m us rfl HO.out _ 2 2 _ rfl SR.out Q1.out Q2.out (Nat.le_trans hb HB.out.size) ?_)
               intro A2 c2 w2 own2 gr2 _
               have O2 := Lib.hid own2
               have B2 := Lib.hid (HB.out.grown gr2 (Nat.le_trans hb HB.out.size) (fun g hg => (HO.out.lt g hg).1))
               clear own2 gr2)
  go_ret
  exact ⟨A2, c2, rfl, O2.out, B2.out⟩

set_option maxHeartbeats 1000000 in
set_option maxRecDepth 100000 in
theorem fold_cuts (base : Nat) (A B : Option Addr) (n c bc m : Nat) (s : List Rng) (l : List Int) (w : World) (hs : AtSet w A s) (HL : Hid (s.length = n)) (hok : SetOk s) (hlt : ∀ b o, A = some ⟨b, o, none⟩ → 0 < n → b < base) (h : w.ownsRow base TLI 1 (.slice B m bc) m (l.map (Value.int .i64))) (HM : Hid (l.length = m)) (hb : base ≤ w.heap.size) (hm : m ≤ 1000000) :
    Calls Tryz.prog 121 #[.slice A n c, .slice B m bc, .func (.func 122) #[] #[]] w fun e w' => ∃ B' m' bc', e = .returned (.slice B' m' bc') ∧ w'.ownsRow base TLI 1 (.slice B' m' bc') m' ((l ++ rawR s).map (Value.int .i64)) ∧ Hid ((l ++ rawR s).length = m') ∧ m' = m + 2 * n ∧ Below base w w' := by
  have HS := Lib.hid hs; have HO := Lib.hid h; have HB0 := Lib.hid (Below.refl base w)
  have HONE := Lib.hid hok.one
  have HLT := Lib.hid hlt
  have hn : n ≤ 256 := by have := hok.few; rwa [HL.out] at this
  clear hs h hok hlt
  go_enter Tryz.func121, Tryz.ntmps121
  go_wp2
  go_loopw [11, 1] (fun iv lv wr => ∃ (i q : Nat) (B : Option Addr) (bc : Nat), iv = .int .i64 i ∧ i ≤ n ∧ lv = .slice B q bc ∧ Hid (q = m + 2 * i) ∧ Hid ((l ++ rawR (s.take i)).length = q) ∧ Hid (wr.ownsRow base TLI 1 (.slice B q bc) q ((l ++ rawR (s.take i)).map (Value.int .i64))) ∧ Hid (Below base w wr)) (fun iv _ _ => n - (intOf iv).toNat)
  case atStart => exact ⟨0, m, B, bc, rfl, by omega, rfl, Lib.hid (by omega), Lib.hid (by simp [rawR, HM.out]), Lib.hid (by simpa [rawR] using HO.out), HB0⟩
  case round =>
    clear HO HM HB0
    obtain ⟨i, q, B, bc, rfl, hi, rfl, HQ, HM, HO, HB⟩ := hrel
    have hq9 : q ≤ 1000512 := by have := HQ.out; omega
    have i1 : (0 : Int) ≤ (i : Int) := by omega
    have hbw : base ≤ wr.heap.size := Nat.le_trans hb HB.out.size
    by_cases hlt : i < n
    · obtain ⟨b1, o1, lo, hi', rfl, hb1, c1, c2, _, _, HY⟩ := AtSet.gt HS.out HL hlt
      have i2 : (i : Int) < (n : Int) := by omega
      have hone := HONE.out i _ HY.out
      simp only at hone
      obtain ⟨x1, x2, x3⟩ := hone
      have hbb := HLT.out b1 o1 rfl (by omega)
      have c1' := (HB.out.cell (p := ⟨b1, o1 + i * 2, none⟩) hbb).trans c1
      have c2' := (HB.out.cell (p := ⟨b1, o1 + i * 2 + 1, none⟩) hbb).trans c2
      have HB1 := Lib.hid (HB.out.alloc hbw (.cells #[.int .i64 lo, .int .i64 hi'] TRng))
      have HC := Lib.hid (cuts1_at base B bc q _ lo hi' (wr.alloc (.cells #[.int .i64 lo, .int .i64 hi'] TRng)) (HO.out.alloc _) (by simp; omega) (by omega) ⟨by omega, by omega⟩)
      have HSN := Lib.hid (rawR_snoc HY.out)
      clear c1 c2
      go_wp2_with (go_at_call 122; refine HC.out.mono ?_; rintro e w2 ⟨B2, bc2, rfl, ow2, hb2⟩; have O2 := Lib.hid ow2; have B2' := Lib.hid (HB1.out.trans hb2); clear ow2 hb2)
      go_roundw
      case rel => exact ⟨i + 1, q + 2, B2, bc2, by go_num, by omega, rfl, Lib.hid (by have := HQ.out; omega), Lib.hid (by rw [HSN.out, ← List.append_assoc, List.length_append, HM.out]; rfl), Lib.hid (by rw [HSN.out, ← List.append_assoc, List.map_append]; exact O2.out), B2'⟩
      case measure => simp [intOf]; omega
    · obtain rfl : i = n := by omega
      have HTK := Lib.hid (show s.take i = s from List.take_of_length_le (by rw [HL.out]; exact Nat.le_refl _))
      rw [HTK.out] at HM HO
      go_wp2
      go_ret
      exact ⟨B, q, bc, rfl, HO.out, HM, HQ.out, HB.out⟩

set_option maxHeartbeats 2000000 in
set_option maxRecDepth 100000 in
theorem ranges_Cuts (A : Option Addr) (c n : Nat) (S : List (List Rng)) (w : World) (h : AtSets w A S) (HL : Hid (S.length = n)) (hs : ∀ s ∈ S, SetOk s) :
    Calls Tryz.prog 85 #[.slice A n c] w fun e w' => ((256 < n ∧ e = .returned (.tuple #[.slice none 0 0, .int .i64 4])) ∨ (n ≤ 256 ∧ ∃ v, e = .returned (.tuple #[v, .int .i64 0]) ∧ OwnI w' w.heap.size v (plcL S))) ∧ Below w.heap.size w w' := by
  have HA := Lib.hid h; have HSL := Lib.hid hs
  have O0 := Lib.hid (own_lit w w.heap.size (.int .i64 0) TLI (Nat.le_refl _))
  have HB0 := Lib.hid ((Below.refl w.heap.size w).alloc (Nat.le_refl _) (.cells #[.int .i64 0] TLI))
  clear h hs
  by_cases h256 : 256 < n
  · go_enter Tryz.func85, Tryz.ntmps85
    go_wp2
    go_ret2
    exact ⟨.inl ⟨h256, rfl⟩, Below.refl _ _⟩
  have hn : n ≤ 256 := by omega
  go_enter Tryz.func85, Tryz.ntmps85
  go_wp2
  go_loopw [14, 4] (fun iv lv wr => ∃ (i q : Nat) (B : Option Addr) (bc : Nat), iv = .int .i64 i ∧ i ≤ n ∧ lv = .slice B q bc ∧ 0 < q ∧ q ≤ 1 + 512 * i ∧ Hid ((rawL (S.take i)).length = q) ∧ Hid (wr.ownsRow w.heap.size TLI 1 (.slice B q bc) q ((rawL (S.take i)).map (Value.int .i64))) ∧ Hid (Below w.heap.size w wr)) (fun iv _ _ => n - (intOf iv).toNat)
  case atStart => exact ⟨0, 1, _, 1, rfl, by omega, rfl, by omega, by omega, Lib.hid rfl, O0, HB0⟩
  case round =>
    clear O0 HB0
    obtain ⟨i, q, B, bc, rfl, hi, rfl, hq0, hq, HM, HO, HB⟩ := hrel
    have i1 : (0 : Int) ≤ (i : Int) := by omega
    have hbw : w.heap.size ≤ wr.heap.size := HB.out.size
    by_cases hlt : i < n
    · obtain ⟨b1, o1, T, t, tc, s, rfl, hb1, c0, hset, HQ, hqc, HX⟩ := AtSets.gt HA.out HL hlt
      have i2 : (i : Int) < (n : Int) := by omega
      have hok := HSL.out s (mem_of_get HX.out)
      have ht : t ≤ 256 := by have := hok.few; rwa [HQ.out] at this
      have c0' := (HB.out.cell (p := ⟨b1, o1 + i, none⟩) hb1).trans c0
      have HSE := Lib.hid (hset.keep (Keep.of HB.out))
      have HTL := Lib.hid (show ∀ b o, T = some ⟨b, o, none⟩ → 0 < t → b < w.heap.size from fun b o e h0 => by
        obtain ⟨b', o', lo', hi', e', hb', _⟩ := AtSet.gt hset HQ h0
        rw [e] at e'; injection e' with e'; injection e' with e1; omega)
      have HOK := Lib.hid hok
      have HSN := Lib.hid (rawL_snoc HX.out)
      clear hset hok c0
      have HCK := Lib.hid (ranges_Check T tc t s wr HSE.out HQ)
      rw [setE_yes (setB_yes HOK.out)] at HCK
      go_wp2_with fail
      refine HCK.out.mono ?_
      rintro e w1 ⟨rfl, hb1'⟩
      have HB1 := Lib.hid (HB.out.trans (hb1'.mono hbw))
      have HF := Lib.hid (fold_cuts w.heap.size T B t tc bc q s _ w1 (HSE.out.keep (Keep.of hb1')) HQ HOK.out HTL.out (ownsRow_below HO.out hb1') HM HB1.out.size (by omega))
      clear hb1'
      go_wp2_with fail
      refine HF.out.mono ?_
      rintro e w2 ⟨B2, m2, bc2, rfl, ow2, HM2, hm2, hb2⟩
      have O2 := Lib.hid ow2
      have HB2 := Lib.hid (HB1.out.trans hb2)
      have hm3 : m2 ≤ 1 + 512 * (i + 1) := by omega
      have hm4 : 0 < m2 := by omega
      clear ow2 hb2 hm2
      go_wp2
      go_roundw
      case rel => exact ⟨i + 1, m2, B2, bc2, by go_num, by omega, rfl, hm4, hm3, Lib.hid (by rw [HSN.out]; exact HM2.out), Lib.hid (by rw [HSN.out]; exact O2.out), HB2⟩
      case measure => simp [intOf]; omega
    · obtain rfl : i = n := by omega
      have HTK := Lib.hid (show S.take i = S from List.take_of_length_le (by rw [HL.out]; exact Nat.le_refl _))
      rw [HTK.out] at HM HO
      obtain ⟨g, rfl⟩ : ∃ g, B = some ⟨g, 0, none⟩ := by
        rcases HO.out.2 with ⟨_, h0⟩ | ⟨g, cap, cur, hv, _⟩
        · omega
        · injection hv with hv; exact ⟨g, hv⟩
      have hg : w.heap.size ≤ g := (HO.out.lt g rfl).1
      have HS1 := Lib.hid (sortO HO.out HM (by omega))
      go_wp2_with fail
      refine HS1.out.mono ?_
      rintro e w1 ⟨rfl, ow1, gr1⟩
      have HB1 := Lib.hid (HB.out.grown gr1 hbw (fun b hb => by injection hb with hb; omega))
      have HS2 := Lib.hid (compactO ow1 (Lib.hid (by rw [List.length_mergeSort, HM.out])))
      clear gr1 ow1
      go_wp2_with fail
      refine HS2.out.mono ?_
      rintro e w2 ⟨rfl, ow2, gr2⟩
      have HB2 := Lib.hid (HB1.out.grown gr2 HB1.out.size (fun b hb => by injection hb with hb; omega))
      obtain ⟨k2, hk2⟩ : ∃ k, (Lib.compact ((rawL S).mergeSort fun x y => decide (x ≤ y))).length = k := ⟨_, rfl⟩
      have HK2 := Lib.hid hk2
      rw [hk2] at ow2 ⊢
      have HS3 := Lib.hid (deleteO ow2 HK2)
      clear gr2 ow2 hk2
      go_wp2_with fail
      refine HS3.out.mono ?_
      rintro e w3 ⟨rfl, ow3, gr3⟩
      have HB3 := Lib.hid (HB2.out.grown gr3 HB2.out.size (fun b hb => by injection hb with hb; omega))
      have HP := Lib.hid (cutsP_eq S)
      have O3 := Lib.hid ow3
      clear gr3 ow3
      generalize hk3 : ((Lib.compact ((rawL S).mergeSort fun x y => decide (x ≤ y))).filter fun x => !decide (1114111 < x)) = L3 at *
      have HL3 : Hid (L3 = plcL S) := Lib.hid (by rw [← hk3]; exact HP.out)
      clear hk3
      generalize hk4 : L3.length = k3 at *
      have HK3 := Lib.hid hk4
      clear hk4
      go_wp2
      go_ret2
      refine ⟨.inr ⟨hn, _, rfl, ?_⟩, HB3.out⟩
      have h1 := O3.out; have h2 := HL3.out; have h3 := HK3.out
      subst h2; subst h3
      exact ⟨_, _, rfl, h1⟩
end Go.Proofs.YtilhicefhhgecaaGreatDoor
