/- Walks: slices.Reverse, Grow and Concat at ints. PUT1 -/
import Derived.Test.YtilhicefhhgecaaGreatDoorSln
import Derived.Test.YtilhicefhhgecaaGreatDoorFkn
import Derived.Test.YtilhicefhhgecaaGreatDoorGnn
import Derived.Test.YtilhicefhhgecaaGreatDoorWjn
import Derived.Test.YtilhicefhhgecaaGreatDoorGcn
namespace Go.Proofs.YtilhicefhhgecaaGreatDoor
open Go.RowKit Go.Shelf Go.Sort Pv

variable {w : World} {base g m c : Nat} {l : List Int}
theorem reverseO (h : w.ownsRow base 3 1 (.slice (some ⟨g, 0, none⟩) m c) m (l.map (Value.int .i64))) (hm : Hid (l.length = m)) :
    Calls Tryz.prog 61 #[.slice (some ⟨g, 0, none⟩) m c] w fun e w' => e = .returned (.tuple #[]) ∧ w'.ownsRow base 3 1 (.slice (some ⟨g, 0, none⟩) m c) m (l.reverse.map (Value.int .i64)) ∧ w.grownBy w' (some g) := by
  have hm := hm.out
  subst hm
  rcases h.2 with ⟨h0, _⟩ | ⟨g', cap, cur, hv, hg, hh, hn, hc, hs, ht⟩
  · cases h0
  cases hv
  rw [Nat.mul_one] at ht
  refine (AnyG.slices_Reverse_int Tryz.reverseA g 0 c l w (holds_of_blockI hh ht) (by unfold maxLen at hc; omega)).mono ?_
  rintro e w' ⟨rfl, n, rfl⟩
  have h1 := ownsRow_sortedI (n := n) (os := #[]) (ss := l) (ts := l.reverse) (by simp) hg hh hn hc hs
  have h2 := grownBy_sortedI (w := w) (g := g) (n := n) (os := #[]) l.reverse.toArray
  rw [grow_none] at h1 h2
  exact ⟨rfl, h1, h2⟩
theorem reverse0 (w : World) : Calls Tryz.prog 61 #[.slice none 0 0] w fun e w' => e = .returned (.tuple #[]) ∧ w' = w := AnyG.slices_Reverse_int_empty Tryz.reverseA none 0 w
theorem At.srcI {A : Option Addr} {l : List Int} (h : At w A RI l) : ∃ us, us = l.map (Value.int .i64) ∧ Pv.Src w A 1 l.length us := by
  obtain ⟨us, hr, hs⟩ := At.src h (fun u x h => by rw [h.1]; rfl)
  refine ⟨us, ?_, hs⟩
  refine List.ext_getElem? fun i => ?_
  by_cases hi : i < us.length
  · have hi2 : i < l.length := by rw [← hr.1]; exact hi
    have := (hr.2 i us[i] l[i] (List.getElem?_eq_getElem hi) (List.getElem?_eq_getElem hi2)).1
    rw [List.getElem?_eq_getElem hi, this, List.getElem?_map, List.getElem?_eq_getElem hi2]; rfl
  · have hi2 : ¬ i < l.length := by rw [← hr.1]; exact hi
    rw [List.getElem?_eq_none (by omega), List.getElem?_eq_none (by simp; omega)]
theorem grow0 (n : Nat) (w : World) (h0 : 0 < n) (hn : n ≤ 1000000) : Calls Tryz.prog 96 #[.slice none 0 0, .int .i64 n] w fun e w' => ∃ c, e = .returned (.slice (some ⟨w.heap.size, 0, none⟩) 0 c) ∧ w'.ownsRow w.heap.size TLI 1 (.slice (some ⟨w.heap.size, 0, none⟩) 0 c) 0 [] ∧ Below w.heap.size w w' := by
  obtain ⟨i0, hi0, hz0, hs0, hb0⟩ := info_parts info_int9
  refine (Any8.slices_Grow_grow Tryz.growA i0 (.int .i64 0) hi0 hz0 (by omega) none 0 0 n [] w (Nat.le_refl _) (by omega) (by rw [hb0]; omega) (by omega) (by simp) (fun _ => rfl) (fun a h => by cases h)).mono ?_
  rintro e w' ⟨rfl, rfl⟩
  have hcap : n ≤ grownCap w (0 + n) 0 (Tryz.growA_ren.t 25) := by have := grownCap_ge w (0 + n) 0 (Tryz.growA_ren.t 25); omega
  have hmax : grownCap w (0 + n) 0 (Tryz.growA_ren.t 25) ≤ maxLen := grownCap_le_maxLen w (0 + n) 0 _ (by unfold maxLen; omega)
  refine ⟨_, rfl, ⟨by simp, .inr ⟨w.heap.size, _, _, rfl, Nat.le_refl _, heap_alloc_new _ _, Nat.zero_le _, hmax, ?_, by simp⟩⟩, ((Below.refl _ w).drew).alloc (Nat.le_refl _) _⟩
  simp only [Nat.zero_add] at hcap ⊢
  simp [size_zeroCells, Value.cells]
  omega

set_option maxHeartbeats 4000000 in
set_option maxRecDepth 100000 in
theorem concat2 (A B : Option Addr) (g cap c1 d1 n1 m1 : Nat) (a b : List Int) (w : World) (h0 : w.cell? ⟨g, 0, none⟩ = some (.slice A n1 c1)) (h1 : w.cell? ⟨g, 1, none⟩ = some (.slice B m1 d1)) (ha : At w A RI a) (hb : At w B RI b) (HL : Hid (a.length = n1)) (HM : Hid (b.length = m1)) (hn : n1 ≤ 256) (hm : m1 ≤ 256) (hp : 1 ≤ n1) :
    Calls Tryz.prog 57 #[.slice (some ⟨g, 0, none⟩) 2 cap] w fun e w' => ∃ G c, e = .returned (.slice (some ⟨G, 0, none⟩) (n1 + m1) c) ∧ w'.ownsRow w.heap.size TLI 1 (.slice (some ⟨G, 0, none⟩) (n1 + m1) c) (n1 + m1) ((a ++ b).map (Value.int .i64)) ∧ Below w.heap.size w w' := by
  obtain ⟨i0, hi0, hz0, hs0, hb0⟩ := info_parts info_int9
  have hg := World.block_lt_of_cell? _ _ h0
  have HA := Lib.hid ha; have HB := Lib.hid hb
  have HG := Lib.hid (grow0 (n1 + m1) w (by omega) (by omega))
  rw [show ((n1 + m1 : Nat) : Int) = (n1 : Int) + (m1 : Int) by omega] at HG
  clear ha hb
  go_enter Tryz.func57, Tryz.ntmps57
  go_wp2
  go_loop [11, 3] (fun iv sv => ∃ k s : Nat, iv = .int .i64 k ∧ sv = .int .i64 s ∧ ((k = 0 ∧ s = 0) ∨ (k = 1 ∧ s = n1) ∨ (k = 2 ∧ s = n1 + m1))) (fun iv _ => 2 - (intOf iv).toNat)
  case atStart => exact ⟨0, 0, rfl, rfl, .inl ⟨rfl, rfl⟩⟩
  case round =>
    obtain ⟨k, s, rfl, rfl, hks⟩ := hrel
    rcases hks with ⟨rfl, rfl⟩ | ⟨rfl, rfl⟩ | ⟨rfl, rfl⟩
    · have g1 : (0 : Int) ≤ (n1 : Int) := by omega
      go_wp2
      go_round
      case rel => exact ⟨1, n1, by go_num, by go_num, .inr (.inl ⟨rfl, rfl⟩)⟩
      case measure => simp [intOf]
    · have g1 : (0 : Int) ≤ (s : Int) + (m1 : Int) := by omega
      go_wp2
      go_round
      case rel => exact ⟨2, s + m1, by go_num, by go_num, .inr (.inr ⟨rfl, rfl⟩)⟩
      case measure => simp [intOf]
    · go_wp2_with fail
      refine HG.out.mono ?_
      rintro e w1 ⟨c0, rfl, own0, hb1⟩
      have HO0 := Lib.hid own0; have HB1 := Lib.hid hb1
      clear own0 hb1
      go_wp2
      go_loopw [27, 6] (fun iv ov W => ∃ (k q rc : Nat) (R : Option Addr) (l : List Int), iv = .int .i64 k ∧ ov = .slice R q rc ∧ ((k = 0 ∧ q = 0 ∧ l = []) ∨ (k = 1 ∧ q = n1 ∧ l = a) ∨ (k = 2 ∧ q = n1 + m1 ∧ l = a ++ b)) ∧ Hid (W.ownsRow w.heap.size TLI 1 (.slice R q rc) q (l.map (Value.int .i64))) ∧ Hid (Below w.heap.size w W)) (fun iv _ _ => 2 - (intOf iv).toNat)
      case atStart => exact ⟨0, 0, c0, _, [], rfl, rfl, .inl ⟨rfl, rfl, rfl⟩, HO0, HB1⟩
      case round =>
        clear HO0 HB1
        obtain ⟨k, q, rc, R, l, rfl, rfl, hk, HO, HW⟩ := hrel
        have k0 := ((Keep.of HW.out).cell _ _ hg).trans h0
        have k1 := ((Keep.of HW.out).cell _ _ hg).trans h1
        have hgw := World.block_lt_of_cell? _ _ k0
        have hW := HW.out.size
        rcases hk with ⟨rfl, rfl, rfl⟩ | ⟨rfl, rfl, rfl⟩ | ⟨rfl, rfl, rfl⟩
        · obtain ⟨us, hus, hsrc⟩ := At.srcI (HA.out.keep (Keep.of HW.out))
          rw [HL.out] at hsrc
          subst hus
          have SRA := Lib.hid hsrc
          have Q1 : Hid (0 + n1 ≤ maxLen) := Lib.hid (by simp only [maxLen]; omega)
          have Q2 : Hid ((0 + n1) * 8 ≤ 140737488355328) := Lib.hid (by omega)
          clear hsrc
          go_wp2_with (first
          | (at_builtin
             go_must (refine wpList_append_src _ rfl (.tmp 31) (.tmp 32) 22 rfl w.heap.size TLI i0 (.int .i64 0) 1 8 Tryz.underlying22 hi0 hz0 hs0 hb0 rfl (by decide) R rc 0 _ rfl HO.out A n1 c1 _ rfl SRA.out Q1.out Q2.out hW ?_)
             intro A9 c9 w9 own9 gr9 _
             simp only [Nat.zero_add, List.map_nil, List.nil_append] at own9
             have HO9 := Lib.hid own9
             have HB9 := Lib.hid (HW.out.grown gr9 hW (fun g hg => (HO.out.lt g hg).1))
             clear own9 gr9))
          go_roundw
          case rel => exact ⟨1, n1, c9, A9, a, by go_num, by simp, .inr (.inl ⟨rfl, rfl, rfl⟩), HO9, HB9⟩
          case measure => simp [intOf]
        · obtain ⟨us, hus, hsrc⟩ := At.srcI (HB.out.keep (Keep.of HW.out))
          rw [HM.out] at hsrc
          subst hus
          have SRA := Lib.hid hsrc
          have Q1 : Hid (q + m1 ≤ maxLen) := Lib.hid (by simp only [maxLen]; omega)
          have Q2 : Hid ((q + m1) * 8 ≤ 140737488355328) := Lib.hid (by omega)
          clear hsrc
          go_wp2_with (first
          | (at_builtin
             go_must (refine wpList_append_src _ rfl (.tmp 31) (.tmp 32) 22 rfl w.heap.size TLI i0 (.int .i64 0) 1 8 Tryz.underlying22 hi0 hz0 hs0 hb0 rfl (by decide) R rc q _ rfl HO.out B m1 d1 _ rfl SRA.out Q1.out Q2.out hW ?_)
             intro A9 c9 w9 own9 gr9 _
             have HO9 := Lib.hid own9
             have HB9 := Lib.hid (HW.out.grown gr9 hW (fun g hg => (HO.out.lt g hg).1))
             clear own9 gr9))
          go_roundw
          case rel => exact ⟨2, q + m1, c9, A9, l ++ b, by go_num, rfl, .inr (.inr ⟨rfl, rfl, rfl⟩), Lib.hid (by rw [List.map_append]; exact HO9.out), HB9⟩
          case measure => simp [intOf]
        · go_wp2
          go_ret
          rcases HO.out.2 with ⟨h2, h3⟩ | ⟨G, cap', cur, h2, _⟩
          · omega
          · have h2' := h2
            injection h2 with e1 _ e3
            subst e1; subst e3
            exact ⟨G, rc, rfl, by rw [← List.map_append]; exact HO.out, HW.out⟩
end Go.Proofs.YtilhicefhhgecaaGreatDoor

namespace Pv
open Go Go.RowKit
theorem sortc_eq {a b : List Int} (ha : Rise a) (hb : Rise b) : Lib.compact ((a ++ b).mergeSort fun x y => decide (x ≤ y)) = mergeL a b := by
  have hs : ((a ++ b).mergeSort fun x y => decide (x ≤ y)).Pairwise (· ≤ ·) := by
    have h := List.pairwise_mergeSort (le := fun x y : Int => decide (x ≤ y)) (fun a b c h1 h2 => by simp at *; omega) (fun a b => by simp; omega) (a ++ b)
    exact h.imp fun h => by simpa using h
  refine rise_ext (compact_rise hs) (mergeL_rise a b ha hb) fun x => ?_
  rw [compact_mem, (List.mergeSort_perm _ _).mem_iff, mergeL_mem, List.mem_append]
theorem Dfa.Ok.rise {d : Dfa} (h : d.Ok) : Rise d.cuts := by
  rw [Rise, List.pairwise_iff_getElem]
  intro i j hi hj hij
  exact h.strict i _ (List.getElem?_eq_getElem hi) j _ hij (List.getElem?_eq_getElem hj)
theorem Dfa.Ok.bd {d : Dfa} (h : d.Ok) {x : Int} (hx : x ∈ d.cuts) : 0 ≤ x ∧ x ≤ 1114111 := by
  obtain ⟨i, hi⟩ := List.getElem?_of_mem hx
  match i with
  | 0 => rw [h.c0] at hi; obtain rfl := Option.some.inj hi; omega
  | i + 1 =>
    have h1 := lt_of_get hi
    obtain ⟨y, hy⟩ : ∃ y, d.cuts[i]? = some y := ⟨_, List.getElem?_eq_getElem (by omega)⟩
    have h2 := h.up i y x hy hi
    have h3 := h.strict 0 0 h.c0 (i + 1) x (by omega) hi
    omega
theorem mergeL_bd {d o : Dfa} (hd : d.Ok) (ho : o.Ok) {x : Int} (hx : x ∈ mergeL d.cuts o.cuts) : 0 ≤ x ∧ x ≤ 1114111 := by
  rcases (mergeL_mem _ _ _).1 hx with h | h
  · exact hd.bd h
  · exact ho.bd h
theorem classE_in {d : Dfa} (h : d.Ok) {x : Int} (h0 : 0 ≤ x) (h1 : x ≤ 1114111) : d.classE x = (((lastLe d.cuts x d.cuts.length : Nat) : Int), 0) := by
  unfold Dfa.classE
  rw [if_pos (Dfa.okB_yes h), if_neg (by omega)]
/-- A number's class. -/
def clsO (d : Dfa) (x : Int) : Nat := lastLe d.cuts x d.cuts.length
/-- Two states, from which pair they came, and by which number. -/
structure Wy where
  a : Nat
  b : Nat
  fr : Int
  vi : Int
def WyOk (ws : List Wy) (l : List Pr) : Prop := ws.length = l.length ∧ ∀ (i : Nat) x p, ws[i]? = some x → l[i]? = some p → x.a = p.a ∧ x.b = p.b ∧ ((i = 0 ∧ x.fr = -1 ∧ p.w = []) ∨ ∃ (f : Nat) (q : Pr), f < i ∧ x.fr = (f : Int) ∧ l[f]? = some q ∧ p.w = q.w ++ [x.vi])
theorem WyOk.one : WyOk [⟨0, 0, -1, 0⟩] [⟨0, 0, []⟩] := ⟨rfl, fun i x p hx hp => by
  match i with
  | 0 => simp at hx hp; subst hx; subst hp; exact ⟨rfl, rfl, .inl ⟨rfl, rfl, rfl⟩⟩
  | i + 1 => simp at hx⟩
theorem WyOk.add {ws : List Wy} {l : List Pr} (h : WyOk ws l) {i a b : Nat} {y : Int} {q : Pr} (hq : l[i]? = some q) : WyOk (ws ++ [⟨a, b, i, y⟩]) (l ++ [⟨a, b, q.w ++ [y]⟩]) := by
  refine ⟨by simp [h.1], fun j x p hx hp => ?_⟩
  by_cases hj : j < l.length
  · rw [List.getElem?_append_left hj] at hp
    rw [List.getElem?_append_left (by rw [h.1]; exact hj)] at hx
    obtain ⟨h1, h2, h3⟩ := h.2 j x p hx hp
    refine ⟨h1, h2, h3.imp_right fun ⟨f, r, h4, h5, h6, h7⟩ => ⟨f, r, h4, h5, ?_, h7⟩⟩
    rw [List.getElem?_append_left (lt_of_get h6)]; exact h6
  · have hj2 := lt_of_get hp
    rw [List.length_append] at hj2
    simp only [List.length_singleton] at hj2
    obtain rfl : j = l.length := by omega
    rw [List.getElem?_append_right (Nat.le_refl _)] at hp
    rw [← h.1, List.getElem?_append_right (Nat.le_refl _)] at hx
    simp at hx hp
    subst hx; subst hp
    exact ⟨rfl, rfl, .inr ⟨i, q, lt_of_get hq, rfl, by rw [List.getElem?_append_left (lt_of_get hq)]; exact hq, rfl⟩⟩
end Pv
namespace Go.Proofs.YtilhicefhhgecaaGreatDoor
open Go.RowKit Pv

set_option maxHeartbeats 1000000 in
set_option maxRecDepth 100000 in
theorem apart_class (A1 A2 A3 : Option Addr) (c1 c2 c3 n1 n n3 : Nat) (d : Dfa) (x : Int) (w : World) (H : DfaAt w A1 A2 A3 n1 n n3 d) (hok : d.Ok) (h0 : 0 ≤ x) (h1 : x ≤ 1114111) :
    Calls Tryz.prog 60 #[.agg #[.slice A1 n1 c1, .slice A2 n c2, .slice A3 n3 c3], .int .i64 x] w fun e w' => e = .returned (.int .i64 (clsO d x : Nat)) ∧ Below w.heap.size w w' := by
  have hW := (Below.refl w.heap.size w).alloc (Nat.le_refl _) (.cells #[.slice A1 n1 c1, .slice A2 n c2, .slice A3 n3 c3] TDfa)
  have HW := Lib.hid hW
  have HC := subset_Class A1 A2 A3 c1 c2 c3 n1 n n3 d x _ (H.keep (Keep.of hW))
  rw [classE_in hok h0 h1] at HC
  have HC := Lib.hid HC
  obtain ⟨k, hk⟩ : ∃ k, clsO d x = k := ⟨_, rfl⟩
  have hk' : lastLe d.cuts x d.cuts.length = k := hk
  rw [hk'] at HC
  rw [hk]
  clear hW H hk hk' hok
  go_enter Tryz.func60, Tryz.ntmps60
  go_wp2_with fail
  refine HC.out.mono ?_
  rintro e w2 ⟨rfl, hb2⟩
  have B2 := Lib.hid (HW.out.trans (hb2.mono HW.out.size))
  clear hb2
  go_wp2
  go_ret
  exact ⟨rfl, B2.out⟩
end Go.Proofs.YtilhicefhhgecaaGreatDoor
