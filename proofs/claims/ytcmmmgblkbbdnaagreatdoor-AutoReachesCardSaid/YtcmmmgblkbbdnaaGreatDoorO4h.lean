/- Walks: what free edges lead to, by the program. PUT1 -/
import Derived.Test.YtcmmmgblkbbdnaaGreatDoorZih
import Derived.Test.YtcmmmgblkbbdnaaGreatDoorAuh
import Derived.Test.YtcmmmgblkbbdnaaGreatDoorTi0h
namespace Pv
open Go Go.RowKit
/-- The edges of states that are not yet met. -/
def unm (a : Au) (L : List Int) : Nat := ((List.range a.length).map fun s : Nat => if (s : Int) ∈ L then 0 else (a.getD s []).length).sum
theorem unm_sum {f : Nat → Nat} {L : List Int} {s : Nat} (hs : (s : Int) ∉ L) : ∀ xs : List Nat, xs.Nodup →
    (xs.map fun x : Nat => if (x : Int) ∈ L then 0 else f x).sum = (xs.map fun x : Nat => if (x : Int) ∈ L ++ [(s : Int)] then 0 else f x).sum + if s ∈ xs then f s else 0
  | [], _ => by simp
  | x :: xs, h => by
    have ih := unm_sum (f := f) hs xs (List.nodup_cons.1 h).2
    simp only [List.map_cons, List.sum_cons]
    by_cases e : x = s
    · subst e
      have hx := (List.nodup_cons.1 h).1
      rw [if_neg hx] at ih
      rw [if_neg hs, if_pos (by simp), if_pos (by simp)]
      omega
    · have h1 : ((x : Int) ∈ L ++ [(s : Int)]) ↔ ((x : Int) ∈ L) := by
        rw [List.mem_append, List.mem_singleton]
        exact ⟨fun h => h.resolve_right (by omega), .inl⟩
      have h2 : (s ∈ x :: xs) ↔ (s ∈ xs) := by rw [List.mem_cons]; exact ⟨fun h => h.resolve_left (fun h => e h.symm), .inr⟩
      by_cases h3 : (x : Int) ∈ L
      · rw [if_pos h3, if_pos (h1.2 h3)]
        simp only [h2]
        omega
      · rw [if_neg h3, if_neg (fun h => h3 (h1.1 h))]
        simp only [h2]
        omega
theorem unm_snoc {a : Au} {L : List Int} {s : Nat} {es : List Ed} (hs : (s : Int) ∉ L) (he : a[s]? = some es) : unm a L = unm a (L ++ [(s : Int)]) + es.length := by
  unfold unm
  rw [unm_sum (f := fun s => (a.getD s []).length) hs _ List.nodup_range, if_pos (by simpa using lt_of_get he)]
  simp [List.getD, he]
theorem unm_nil (a : Au) : unm a [] = edgesS a := by
  have h : ∀ a : Au, ((List.range a.length).map fun s => (a.getD s []).length).sum = edgesS a := by
    intro a
    unfold edgesS
    congr 1
    apply List.ext_getElem?
    intro i
    rw [List.getElem?_map, List.getElem?_map]
    by_cases hi : i < a.length
    · rw [List.getElem?_range hi, List.getElem?_eq_getElem hi]; simp [List.getD, hi]
    · rw [List.getElem?_eq_none (by simpa using Nat.le_of_not_lt hi), List.getElem?_eq_none (Nat.le_of_not_lt hi)]; rfl
  rw [← h a]
  unfold unm
  simp
/-- States that wait, states that are met; D: edges that have been looked at. -/
structure RchR (a : Au) (S : Nat → Prop) (n : Nat) (W L : List Int) (D : Nat → Ed → Prop) : Prop where
  win : ∀ x, x ∈ W → ∃ s : Nat, s < n ∧ x = (s : Int) ∧ Clo a S s
  lin : ∀ x, x ∈ L → ∃ s : Nat, s < n ∧ x = (s : Int) ∧ Clo a S s
  base : ∀ s, S s → (s : Int) ∈ L ∨ (s : Int) ∈ W
  clos : ∀ (s : Nat) x (t : Nat), (s : Int) ∈ L → D s x → x.free = true → x.to = (t : Int) → (t : Int) ∈ L ∨ (t : Int) ∈ W
abbrev DAll (a : Au) : Nat → Ed → Prop := fun s x => ∃ es, a[s]? = some es ∧ x ∈ es
abbrev DOne (a : Au) (s : Nat) (es : List Ed) (k : Nat) : Nat → Ed → Prop := fun s' x => (s' ≠ s ∧ ∃ es, a[s']? = some es ∧ x ∈ es) ∨ (s' = s ∧ x ∈ es.take k)
section
variable {a : Au} {S : Nat → Prop} {n : Nat} {W L : List Int} {D : Nat → Ed → Prop}
theorem RchR.old {x : Int} (h : RchR a S n (W ++ [x]) L D) (hx : x ∈ L) : RchR a S n W L D := by
  have hm : ∀ y, y ∈ L ∨ y ∈ W ++ [x] → y ∈ L ∨ y ∈ W := fun y hy => by
    rcases hy with hy | hy
    · exact .inl hy
    · rcases List.mem_append.1 hy with hy | hy
      · exact .inr hy
      · rw [List.mem_singleton] at hy; subst hy; exact .inl hx
  exact ⟨fun y hy => h.win y (by simp [hy]), h.lin, fun s hs => hm _ (h.base s hs), fun s y t h1 h2 h3 h4 => hm _ (h.clos s y t h1 h2 h3 h4)⟩
theorem RchR.new {s : Nat} {es : List Ed} (h : RchR a S n (W ++ [(s : Int)]) L (DAll a)) : RchR a S n W (L ++ [(s : Int)]) (DOne a s es 0) := by
  have hm : ∀ y, y ∈ L ∨ y ∈ W ++ [(s : Int)] → y ∈ L ++ [(s : Int)] ∨ y ∈ W := fun y hy => by
    rcases hy with hy | hy
    · exact .inl (by simp [hy])
    · rcases List.mem_append.1 hy with hy | hy
      · exact .inr hy
      · exact .inl (by simp at hy; simp [hy])
  refine ⟨fun y hy => h.win y (by simp [hy]), fun y hy => ?_, fun t ht => hm _ (h.base t ht), fun t y u h1 h2 h3 h4 => ?_⟩
  · rcases List.mem_append.1 hy with hy | hy
    · exact h.lin y hy
    · exact h.win y (by simp at hy; simp [hy])
  · rcases h2 with ⟨h2, h5⟩ | ⟨_, h2⟩
    · refine hm _ (h.clos t y u ?_ h5 h3 h4)
      rcases List.mem_append.1 h1 with h1 | h1
      · exact h1
      · rw [List.mem_singleton] at h1; omega
    · simp at h2
theorem RchR.skip {s k : Nat} {es : List Ed} {x : Ed} (h : RchR a S n W L (DOne a s es k)) (hx : es[k]? = some x) (hf : x.free = false) : RchR a S n W L (DOne a s es (k + 1)) :=
  ⟨h.win, h.lin, h.base, fun t y u h1 h2 h3 h4 => by
    rcases h2 with h2 | ⟨h2, h5⟩
    · exact h.clos t y u h1 (.inl h2) h3 h4
    · rw [take_snoc hx] at h5
      rcases List.mem_append.1 h5 with h5 | h5
      · exact h.clos t y u h1 (.inr ⟨h2, h5⟩) h3 h4
      · rw [List.mem_singleton] at h5; subst h5; rw [hf] at h3; cases h3⟩
theorem RchR.push {s k q : Nat} {es : List Ed} {x : Ed} (h : RchR a S n W L (DOne a s es k)) (hx : es[k]? = some x) (hf : x.free = true) (hs : Clo a S s) (he : a[s]? = some es) (hq : x.to = (q : Int)) (hqn : q < n) : RchR a S n (W ++ [(q : Int)]) L (DOne a s es (k + 1)) :=
  ⟨fun y hy => by
    rcases List.mem_append.1 hy with hy | hy
    · exact h.win y hy
    · rw [List.mem_singleton] at hy; exact ⟨q, hqn, hy, .step hs ⟨es, x, he, mem_of_get hx, hf, hq⟩⟩,
   h.lin, fun t ht => (h.base t ht).imp_right fun h => by simp [h], fun t y u h1 h2 h3 h4 => by
    rcases h2 with h2 | ⟨h2, h5⟩
    · exact (h.clos t y u h1 (.inl h2) h3 h4).imp_right fun h => by simp [h]
    · rw [take_snoc hx] at h5
      rcases List.mem_append.1 h5 with h5 | h5
      · exact (h.clos t y u h1 (.inr ⟨h2, h5⟩) h3 h4).imp_right fun h => by simp [h]
      · rw [List.mem_singleton] at h5; subst h5
        exact .inr (by rw [hq] at h4; simp [h4])⟩
theorem RchR.all {s k : Nat} {es : List Ed} (h : RchR a S n W L (DOne a s es k)) (he : a[s]? = some es) (hk : es.length ≤ k) : RchR a S n W L (DAll a) :=
  ⟨h.win, h.lin, h.base, fun t y u h1 h2 h3 h4 => by
    refine h.clos t y u h1 ?_ h3 h4
    obtain ⟨es', h5, h6⟩ := h2
    by_cases e : t = s
    · subst e
      obtain rfl := Option.some.inj (h5.symm.trans he)
      exact .inr ⟨rfl, by rw [List.take_of_length_le hk]; exact h6⟩
    · exact .inl ⟨e, es', h5, h6⟩⟩
theorem RchR.start {l : List Int} (h : InAu n l) : RchR a (Of l) n l [] D :=
  ⟨fun x hx => ⟨x.toNat, by have := h x hx; omega, by have := h x hx; omega, .base (by show ((x.toNat : Nat) : Int) ∈ l; rw [Int.toNat_of_nonneg (h x hx).1]; exact hx)⟩, fun x hx => by simp at hx, fun s hs => .inr hs, fun s x t h1 => by simp at h1⟩
theorem RchR.fin (h : RchR a S n [] L (DAll a)) (x : Int) : x ∈ L ↔ x ∈ stL n (Clo a S) := by
  rw [stL_mem]
  constructor
  · intro hx; obtain ⟨s, h1, h2, h3⟩ := h.lin x hx; exact ⟨s, h1, h3, h2⟩
  · rintro ⟨s, h1, h2, rfl⟩
    refine Clo.least (T := fun s => (s : Int) ∈ L) (fun s hs => (h.base s hs).resolve_right (by simp)) (fun s t hs ⟨es, y, h3, h4, h5, h6⟩ => ?_) h2
    exact (h.clos s y t hs ⟨es, h3, h4⟩ h5 h6).resolve_right (by simp)
end
/-- What the call owns, without its last element. -/
theorem ownsRow_less {w : World} {b e n c : Nat} {A : Option Addr} {us : List Value} {u : Value} (h : w.ownsRow b e 1 (.slice A (n + 1) c) (n + 1) (us ++ [u])) : w.ownsRow b e 1 (.slice A n c) n us := by
  refine ⟨by have := h.1; simp at this ⊢; exact this, ?_⟩
  rcases h.2 with ⟨hv, h0⟩ | ⟨g, cap, cur, hv, hg, hh, hnc, hcm, hcs, htk⟩
  · omega
  · injection hv with e1 e2 e3
    subst e1; subst e3
    refine .inr ⟨g, c, cur, rfl, hg, hh, by omega, hcm, hcs, ?_⟩
    have hl : us.length = n := by have := h.1; simp at this; exact this
    have := congrArg (List.take n) htk
    rw [List.take_take, List.take_left' hl] at this
    rw [← this]
    congr 1
    omega
end Pv
namespace Go.Proofs.YtcmmmgblkbbdnaaGreatDoor
open Go.RowKit Go.Maps Pv

/-- Where the program's reach stands: N: how much is still to do. -/
def RchN (w : World) (A : Option Addr) (n c : Nat) (acc : Int) (a : Au) (S : Nat → Prop) (m : Nat) (N : Nat) (wv : Value) (wr : World) : Prop :=
  ∃ (W L : List Int) (lA : Option Addr) (j lc : Nat), wv = .slice lA j lc ∧ j = W.length ∧ wr.ownsRow (w.heap.size + 2) 3 1 (.slice lA j lc) j (W.map (Value.int .i64)) ∧ wr.ownsMap Tryz.prog 3 unitElem (w.heap.size + 1) L.length (setM L) ∧
    RchR a S n W L (DAll a) ∧ j + unm a L = N ∧ L.length + N ≤ m + 1024 ∧ Blk wr w.heap.size TAuto #[.slice A n c, .int .i64 acc] ∧ Below w.heap.size w wr

set_option maxHeartbeats 4000000 in
set_option maxRecDepth 100000 in
theorem auto_reach (A : Option Addr) (c n : Nat) (acc : Int) (a : Au) (lA : Option Addr) (lc m : Nat) (l : List Int) (w : World) (ha : AtAu w A a) (HL : Hid (a.length = n)) (hl : At w lA RI l) (HM : Hid (l.length = m)) (hok : AuOk a acc) (hin : InAu n l) (hm : m ≤ 1000000) :
    Calls Tryz.prog 61 #[.agg #[.slice A n c, .int .i64 acc], .slice lA m lc] w fun e w' => ∃ v, e = .returned v ∧ OwnI w' w.heap.size v (stL n (Clo a (Of l))) ∧ Below w.heap.size w w' := by
  have hmm := @run_makeMap Tryz.prog
  obtain ⟨i0, hi0, hz0, hs0, hb0⟩ := info_parts info_int9
  have hn : n ≤ 256 := by have := hok.few; rwa [HL.out] at this
  have HA := Lib.hid ha; have HOK := Lib.hid hok
  have HB0 := Lib.hid (((Below.refl w.heap.size w).alloc (Nat.le_refl _) (.cells #[.slice A n c, .int .i64 acc] TAuto)).alloc (by simp) (.map #[] 0))
  have e1 : (w.alloc (.cells #[.slice A n c, .int .i64 acc] TAuto)).heap.size = w.heap.size + 1 := by simp
  have e2 : ((w.alloc (.cells #[.slice A n c, .int .i64 acc] TAuto)).alloc (.map #[] 0)).heap.size = w.heap.size + 2 := by simp
  have HCL := clone_int lA m lc l ((w.alloc (.cells #[.slice A n c, .int .i64 acc] TAuto)).alloc (.map #[] 0)) hm (hl.keep (Keep.of HB0.out)) HM
  rw [e2] at HCL
  have HCL := Lib.hid HCL
  have M0 := Lib.hid (World.ownsMap_made (H := Unit) (w.alloc (.cells #[.slice A n c, .int .i64 acc] TAuto)) Tryz.prog 3 unitElem)
  rw [e1] at M0
  have K0 := Lib.hid ((Blk.new w TAuto #[.slice A n c, .int .i64 acc]).alloc (.map #[] 0))
  have HS0 := Lib.hid (RchR.start (a := a) (D := DAll a) hin)
  have HU0 := Lib.hid (show m + unm a [] ≤ m + 1024 by have := hok.edges; rw [unm_nil]; omega)
  clear ha hl hok hin e1
  go_enter Tryz.func61, Tryz.ntmps61
  go_wp2_with (go_at_call 97; refine HCL.out.mono ?_; rintro e w1 ⟨A1, c1, rfl, how, hb1⟩; have HOW := Lib.hid how; have HBX := Lib.hid hb1; clear how hb1)
  have HR0 : Hid (RchN w A n c acc a (Of l) m (m + unm a []) (.slice A1 m c1) w1) := Lib.hid ⟨l, [], A1, m, c1, rfl, HM.out.symm, HOW.out, ownsMap_block M0.out (HBX.out.block _ (by simp)), HS0.out, rfl, by have := HU0.out; simp; omega, K0.out.below HBX.out (by simp), HB0.out.trans (HBX.out.mono (by simp))⟩
  clear e2
  go_loopw [6] (fun wv wr => ∃ N, RchN w A n c acc a (Of l) m N wv wr) (fun wv wr => leastN fun N => RchN w A n c acc a (Of l) m N wv wr)
  case atStart => exact ⟨_, HR0.out⟩
  case round =>
    clear HR0 HOW HBX
    obtain ⟨N0, hN0⟩ : ∃ N0, N0 = leastN fun N => RchN w A n c acc a (Of l) m N u6 wr := ⟨_, rfl⟩
    have hR := leastN_spec hrel
    rw [← hN0] at hR
    clear hrel
    have HN0 := Lib.hid hN0
    clear hN0
    obtain ⟨W, L, lA, j, lc, rfl, hj, how, hmap, hrch, hN, hLN, hK, hB⟩ := hR
    have HW := Lib.hid how; have HMP := Lib.hid hmap; have HRC := Lib.hid hrch; have HK := Lib.hid hK; have HB := Lib.hid hB
    have HJ := Lib.hid hj; have HNN := Lib.hid hN
    have hjl : j ≤ m + 1024 := by omega
    have hLl : L.length ≤ m + 1024 := by omega
    have HLN := Lib.hid hLN
    clear how hmap hrch hK hB hj hN hLN
    by_cases hj0 : j = 0
    · subst hj0
      have hW0 : W = [] := List.eq_nil_of_length_eq_zero HJ.out.symm
      subst hW0
      have HC := Lib.hid (auto_list (w.heap.size + 1) L.length L wr HMP.out (by omega) HRC.out.fin)
      go_wp2_with (go_at_call 98; refine HC.out.mono ?_; rintro e w2 ⟨v, rfl, hv, hb2⟩; have HV := Lib.hid (hv.lower HB.out.size); have HB3 := Lib.hid (HB.out.trans (hb2.mono HB.out.size)); clear hv hb2)
      go_ret
      exact ⟨v, rfl, HV.out, HB3.out⟩
    · obtain ⟨q, rfl⟩ : ∃ q, j = q + 1 := ⟨j - 1, by omega⟩
      obtain ⟨W0, x, hWx⟩ : ∃ W0 x, W = W0 ++ [x] := ⟨W.dropLast, W.getLast (by intro h; rw [h] at HJ; have := HJ.out; simp at this), (List.dropLast_concat_getLast _).symm⟩
      subst hWx
      have HQ : Hid (q = W0.length) := Lib.hid (by have := HJ.out; simp at this; exact this)
      obtain ⟨s, hsn, rfl, hclo⟩ := HRC.out.win x (by simp)
      obtain ⟨g, rfl, hgl, hgc⟩ := own_get1 (k := q) (u := .int .i64 (s : Int)) HW.out (by rw [List.map_append, List.getElem?_append_right (by rw [List.length_map, ← HQ.out]; exact Nat.le_refl _), List.length_map, ← HQ.out]; simp)
      have HPOP : Hid (wr.ownsRow (w.heap.size + 2) 3 1 (.slice (some ⟨g, 0, none⟩) q lc) q (W0.map (Value.int .i64))) := Lib.hid (ownsRow_less (u := .int .i64 (s : Int)) (by have := HW.out; rwa [List.map_append] at this))
      have hcap : q + 1 ≤ lc := by
        rcases HW.out.2 with ⟨hv, h0⟩ | ⟨g', cap, cur, hv, hg', hh, hnc, _⟩
        · omega
        · injection hv with e1 e2 e3
          omega
      have hkey := key_int s (by omega)
      have HCLO := Lib.hid hclo
      obtain ⟨p0, p1, _, _⟩ := Blk.two HK.out
      have hN := HK.out.lt
      have hml := HMP.out.lt
      have i1 : (0 : Int) ≤ (q : Int) := by omega
      have i2 : ((q : Int) + 1 - 1) = (q : Int) := by omega
      have i3 : (0 : Int) ≤ (s : Int) := by omega
      have i4 : (s : Int) < (n : Int) := by omega
      have HLK := Lib.hid (setM_has L (s : Int))
      clear hclo hj0 i2
      by_cases hmem : (s : Int) ∈ L
      · have hh : Maps.has (setM L) (litI (s : Int)) = true := by rw [HLK.out]; exact decide_eq_true hmem
        have HRO := Lib.hid (HRC.out.old hmem)
        clear hmem
        go_wp2_with (first
          | (at_lookup; go_must (refine wpList_lookup_own_unit _ rfl _ _ 149 rfl 3 150 law_int Tryz.underlying149 (zero_unit _) (w.heap.size + 1) L.length (setM L) rfl HMP.out _ _ rfl hkey ?_)))
        have HFN : Hid (RchN w A n c acc a (Of l) m (q + unm a L) (.slice (some ⟨g, 0, none⟩) q lc) (wr.alloc (.cells #[] 150))) := Lib.hid ⟨W0, L, _, q, lc, rfl, HQ.out, HPOP.out.alloc _, ownsMap_block HMP.out (Below.heap_alloc _ _ _ hml), HRO.out, rfl, by have h1 := HNN.out; have h2 := HLN.out; omega, HK.out.alloc _, HB.out.alloc HB.out.size _⟩
        go_roundw
        case rel => exact ⟨_, HFN.out⟩
        case measure => exact Nat.lt_of_le_of_lt (leastN_le HFN.out) (Nat.lt_of_lt_of_eq (by have h1 := HNN.out; omega : q + unm a L < N0) HN0.out)
      · have hh : Maps.has (setM L) (litI (s : Int)) = false := by rw [HLK.out]; exact decide_eq_false hmem
        obtain ⟨b2, o2, S, e, cs, es, rfl, hb2, c2, hS, HE, hec, HY⟩ := AtAu.gt HA.out HL hsn
        have HES := Lib.hid hS
        have he : e ≤ 1024 := by have h1 := le_edgesS (mem_of_get HY.out); have h2 := HOK.out.edges; rw [HE.out] at h1; omega
        have HEX := Lib.hid (HOK.out.each es (mem_of_get HY.out))
        have HC2 := Lib.hid c2; have HH2 := Lib.hid hb2
        have HRN := Lib.hid (HRC.out.new (es := es))
        have HUN := Lib.hid (show unm a L = unm a (L ++ [(s : Int)]) + e by rw [unm_snoc hmem HY.out, HE.out])
        have MX : Hid (L.length < maxLen) := Lib.hid (by simp only [maxLen]; omega)
        clear hmem hS
        have c2 := ((Keep.of HB.out).cell _ _ hb2).trans c2
        have hb2 := Nat.lt_of_lt_of_le hb2 HB.out.size
        have MA := Lib.hid (ownsMap_block (w' := wr.alloc (.cells #[] 150)) HMP.out (Below.heap_alloc _ _ _ hml))
        go_wp2_with (first
          | (at_lookup; go_must (refine wpList_lookup_own_unit _ rfl _ _ 149 rfl 3 150 law_int Tryz.underlying149 (zero_unit _) (w.heap.size + 1) L.length (setM L) rfl HMP.out _ _ rfl hkey ?_))
          | (at_mapUpdate
             go_must (refine wpList_mapUpdate_own _ rfl _ _ _ 149 rfl 3 150 law_int Tryz.underlying149 (unitElem (H := Unit)) (w.heap.size + 1) L.length _ rfl MA.out MX.out _ _ _ rfl rfl hkey _ [] unitElem_mk ?_)
             intro w4 hown4 hgrow4
             have OW4 := Lib.hid hown4; have GW4 := Lib.hid hgrow4
             have B4 := Lib.hid ((HB.out.alloc HB.out.size (.cells #[] 150)).grown hgrow4 (by have := HB.out.size; simp; omega) (fun g hg => by cases hg; omega))
             have K4 := Lib.hid ((HK.out.alloc (.cells #[] 150)).grown hgrow4 (by simp))
             obtain ⟨p0, p1, _, _⟩ := Blk.two K4.out
             have hN := K4.out.lt
             have c2 := ((Keep.of B4.out).cell _ _ HH2.out).trans HC2.out
             have hb2 := Nat.lt_of_lt_of_le HH2.out B4.out.size
             clear hown4 hgrow4))
        have O4 := Lib.hid ((HPOP.out.alloc (.cells #[] 150)).kept GW4.out (.inr (fun h => by have := own_ge HPOP.out _ h; omega)))
        have M4 := Lib.hid (show w4.ownsMap Tryz.prog 3 unitElem (w.heap.size + 1) (L.length + 1) (setM (L ++ [(s : Int)])) by have := OW4.out; rwa [setM_put] at this)
        have HJ0 := Lib.hid (show q + unm a (L ++ [(s : Int)]) + (e - 0) + 1 ≤ N0 by have h1 := HNN.out; have h2 := HUN.out; omega)
        have HN0L := Lib.hid (show N0 ≤ m + 1024 by have := HLN.out; omega)
        clear OW4 GW4
        go_loopw [45, 6] (fun kv wv wr => ∃ (k j : Nat) (W : List Int) (lA : Option Addr) (lc : Nat), kv = .int .i64 k ∧ k ≤ e ∧ wv = .slice lA j lc ∧ j ≤ m + 1024 ∧ Hid (j = W.length) ∧ Hid (wr.ownsRow (w.heap.size + 2) 3 1 (.slice lA j lc) j (W.map (Value.int .i64))) ∧ Hid (wr.ownsMap Tryz.prog 3 unitElem (w.heap.size + 1) (L.length + 1) (setM (L ++ [(s : Int)]))) ∧ Hid (RchR a (Of l) n W (L ++ [(s : Int)]) (DOne a s es k)) ∧ Hid (j + unm a (L ++ [(s : Int)]) + (e - k) + 1 ≤ N0) ∧ Hid (Blk wr w.heap.size TAuto #[.slice (some ⟨b2, o2, none⟩) n c, .int .i64 acc]) ∧ Hid (Below w.heap.size w wr)) (fun kv _ _ => e - (intOf kv).toNat)
        case atStart => exact ⟨0, q, W0, _, lc, rfl, by omega, rfl, by omega, HQ, O4, M4, HRN, HJ0, K4, B4⟩
        case round =>
          clear p0 p1 c2 hb2 O4 M4 HJ0 K4 B4
          obtain ⟨k, j, W, lA, lc, rfl, hk, rfl, hjm, HJ, HW, HMP, HRC, HJN, HK, HB⟩ := hrel
          by_cases hkt : k < e
          · obtain ⟨b3, o3, tto, fr, T, tq, tc, sl, rfl, hb3, ⟨d0, d1, d2⟩, hset, HTQ, htc, hto, HZ⟩ := AtEd.gt (AtEd.keep HES.out (Keep.of HB.out)) HE hkt
            have hx := HEX.out _ (mem_of_get HZ.out)
            simp only at hx
            obtain ⟨x0, x1, x2, x3⟩ := hx
            obtain ⟨tto, rfl⟩ := Int.eq_ofNat_of_zero_le x0
            rw [HL.out] at x1
            have hton : tto < n := by omega
            have i5 : (0 : Int) ≤ (k : Int) := by omega
            have i6 : (k : Int) < (e : Int) := by omega
            have hml := HMP.out.lt
            have HBN := Lib.hid (HB.out.alloc HB.out.size (.cells #[.int .i64 tto, .bool fr, .slice T tq tc] TEdge))
            have HKN := Lib.hid (HK.out.alloc (.cells #[.int .i64 tto, .bool fr, .slice T tq tc] TEdge))
            have HWN := Lib.hid (HW.out.alloc (.cells #[.int .i64 tto, .bool fr, .slice T tq tc] TEdge))
            have HMN := Lib.hid (ownsMap_block (w' := wr.alloc (.cells #[.int .i64 tto, .bool fr, .slice T tq tc] TEdge)) HMP.out (Below.heap_alloc _ _ _ hml))
            clear hset x2 x3
            cases fr
            case false =>
              have HRS := Lib.hid (HRC.out.skip HZ.out rfl)
              have HJ2 := Lib.hid (show j + unm a (L ++ [(s : Int)]) + (e - (k + 1)) + 1 ≤ N0 by have := HJN.out; omega)
              go_wp2
              go_roundw
              case rel => exact ⟨k + 1, j, W, lA, lc, by go_num, by omega, rfl, hjm, HJ, HWN, HMN, HRS, HJ2, HKN, HBN⟩
              case measure => simp [intOf]; omega
            case true =>
              have HRS := Lib.hid (HRC.out.push HZ.out rfl HCLO.out HY.out rfl hton)
              have HJ2 := Lib.hid (show (j + 1) + unm a (L ++ [(s : Int)]) + (e - (k + 1)) + 1 ≤ N0 by have := HJN.out; omega)
              have hjm2 : j + 1 ≤ m + 1024 := by have h1 := HJ2.out; have h2 := HN0L.out; omega
              have Q1 : Hid (j + 1 ≤ maxLen) := Lib.hid (by simp only [maxLen]; omega)
              have Q2 : Hid ((j + 1) * 8 ≤ 140737488355328) := Lib.hid (by omega)
              have BN2 := Lib.hid (HBN.out.alloc HBN.out.size (.cells #[.int .i64 tto] 3))
              have KN2 := Lib.hid (HKN.out.alloc (.cells #[.int .i64 tto] 3))
              have MN2 := Lib.hid (ownsMap_block (w' := (wr.alloc (.cells #[.int .i64 tto, .bool true, .slice T tq tc] TEdge)).alloc (.cells #[.int .i64 tto] 3)) HMN.out (Below.heap_alloc _ _ _ HMN.out.lt))
              have Q3 : Hid (w.heap.size + 2 ≤ ((wr.alloc (.cells #[.int .i64 tto, .bool true, .slice T tq tc] TEdge)).alloc (.cells #[.int .i64 tto] 3)).heap.size) := Lib.hid (by simp; omega)
              have Q4 : Hid (w.heap.size ≤ ((wr.alloc (.cells #[.int .i64 tto, .bool true, .slice T tq tc] TEdge)).alloc (.cells #[.int .i64 tto] 3)).heap.size) := Lib.hid (by have := Q3.out; omega)
              have SRC := Pv.Src.one (w := wr.alloc (.cells #[.int .i64 tto, .bool true, .slice T tq tc] TEdge)) (x := .int .i64 tto) (t := 3) rfl
              rw [show (wr.alloc (.cells #[.int .i64 tto, .bool true, .slice T tq tc] TEdge)).heap.size = wr.heap.size + 1 by simp] at SRC
              have SRC := Lib.hid SRC
              have OW := Lib.hid (HWN.out.alloc (.cells #[.int .i64 tto] 3))
              go_wp2_with (first
                | (at_builtin
                   go_must (refine wpList_append_src _ rfl (.tmp 51) (.tmp 54) 27 rfl (w.heap.size + 2) 3 i0 (.int .i64 0) 1 8 Tryz.underlying27 hi0 hz0 hs0 hb0 rfl (by decide) lA lc j _ rfl OW.out _ 1 1 _ rfl SRC.out Q1.out Q2.out Q3.out ?_)
                   intro A5 c5 w5 own5 gr5 _
                   have hge : ∀ g, (Value.slice lA j lc).ownBlock = some g → w.heap.size + 2 ≤ g := fun g hg => (OW.out.lt g hg).1
                   have B5 := Lib.hid (BN2.out.grown gr5 Q4.out (fun g hg => by have := hge g hg; omega))
                   have K5 := Lib.hid (KN2.out.grown gr5 (fun h => by have := hge _ h.symm; omega))
                   have M5 := Lib.hid (World.ownsMap.kept MN2.out gr5 (fun h => by have := hge _ h.symm; omega))
                   have O5 := Lib.hid own5
                   clear own5 gr5 hge))
              go_roundw
              case rel => exact ⟨k + 1, j + 1, W ++ [(tto : Int)], A5, c5, by go_num, by omega, rfl, hjm2, Lib.hid (by rw [List.length_append, ← HJ.out]; rfl), Lib.hid (by rw [List.map_append]; exact O5.out), M5, HRS, HJ2, K5, B5⟩
              case measure => simp [intOf]; omega
          · obtain rfl : k = e := by omega
            have HFN : Hid (RchN w (some ⟨b2, o2, none⟩) n c acc a (Of l) m (j + unm a (L ++ [(s : Int)])) (.slice lA j lc) wr) := Lib.hid ⟨W, L ++ [(s : Int)], lA, j, lc, rfl, HJ.out, HW.out, by rw [List.length_append]; exact HMP.out, HRC.out.all HY.out (by rw [HE.out]; exact Nat.le_refl _), rfl, by have h1 := HJN.out; have h2 := HLN.out; rw [List.length_append, List.length_singleton]; omega, HK.out, HB.out⟩
            go_wp2
            go_roundw
            case rel => exact ⟨_, HFN.out⟩
            case measure => exact Nat.lt_of_le_of_lt (leastN_le HFN.out) (Nat.lt_of_lt_of_eq (by have h1 := HJN.out; omega : j + unm a (L ++ [(s : Int)]) < N0) HN0.out)
end Go.Proofs.YtcmmmgblkbbdnaaGreatDoor

namespace Pv
open Go Go.RowKit Go.Proofs.YtcmmmgblkbbdnaaGreatDoor
theorem of_stL {n : Nat} {S : Nat → Prop} (h : ∀ s, S s → s < n) : Of (stL n S) = S := by
  funext s
  refine propext ⟨fun hs => ?_, fun hs => (stL_of (h s hs)).2 hs⟩
  obtain ⟨t, h1, h2, h3⟩ := stL_mem.1 (show (s : Int) ∈ stL n S from hs)
  obtain rfl : s = t := by omega
  exact h2
/-- The states behind numbers. -/
def runA (a : Au) (l : List Int) : Nat → Prop := l.foldl (fun S p => Clo a (Stp a p S)) (Clo a (fun s => s = 0))
theorem runA_snoc (a : Au) (l : List Int) (p : Int) : runA a (l ++ [p]) = Clo a (Stp a p (runA a l)) := by simp [runA, List.foldl_append]
theorem of_zero : Of [(0 : Int)] = fun s => s = 0 := by
  funext s
  refine propext ?_
  simp only [Of, List.mem_singleton]
  omega
theorem stp_in {a : Au} {acc : Int} {p : Int} {S : Nat → Prop} (h : AuOk a acc) {t : Nat} (ht : Stp a p S t) : t < a.length := by
  obtain ⟨s, _, es, x, h1, h2, h3, h4, h5⟩ := ht
  have := (h.each es (mem_of_get h1) x h2).2.1
  omega
theorem runA_in {a : Au} {acc : Int} (h : AuOk a acc) (l : List Int) : ∀ s, runA a l s → s < a.length := by
  have h0 : ∀ s, runA a [] s → s < a.length := fun s hs => clo_in h (fun s hs => by subst hs; have := h.pos; omega) hs
  rcases List.eq_nil_or_concat l with rfl | ⟨l', p, rfl⟩
  · exact h0
  · intro s hs
    rw [List.concat_eq_append, runA_snoc] at hs
    exact clo_in h (fun t ht => stp_in h ht) hs
noncomputable def runB (a : Au) (acc : Int) (l : List Int) : Bool := if auB a acc = true ∧ l.length ≤ 1024 then decide (acc ∈ stL a.length (runA a l)) else false
noncomputable def runE (a : Au) (acc : Int) (l : List Int) : Int := if auB a acc = true then (if l.length ≤ 1024 then 0 else 4) else 8
end Pv
namespace Go.Proofs.YtcmmmgblkbbdnaaGreatDoor
open Go.RowKit Go.Maps Pv

set_option maxHeartbeats 1000000 in
set_option maxRecDepth 100000 in
theorem auto_Reach (A : Option Addr) (c n : Nat) (acc : Int) (a : Au) (lA : Option Addr) (lc m : Nat) (l : List Int) (w : World) (ha : AtAu w A a) (HL : Hid (a.length = n)) (hl : At w lA RI l) (HM : Hid (l.length = m)) (hm : m ≤ 1000000) :
    Calls Tryz.prog 30 #[.agg #[.slice A n c, .int .i64 acc], .slice lA m lc] w fun e w' => (∃ v, e = .returned (.tuple #[v, .int .i64 (askE a acc l)]) ∧ OwnI w' w.heap.size v (reachL a acc l)) ∧ Below w.heap.size w w' := by
  have HB0 := Lib.hid ((Below.refl w.heap.size w).alloc (Nat.le_refl _) (.cells #[.slice A n c, .int .i64 acc] TAuto))
  have K0 := Lib.hid (Blk.new w TAuto #[.slice A n c, .int .i64 acc])
  have HAK := Lib.hid (auto_asked A c n acc a lA lc m l _ (ha.keep (Keep.of HB0.out)) HL (hl.keep (Keep.of HB0.out)) HM)
  have HA := Lib.hid ha; have HLL := Lib.hid hl
  have hc := acase a acc l
  clear ha hl
  cases hc
  case ok h h2 e =>
    have HLE := Lib.hid (reachL_yes e)
    rw [e] at HAK
    rw [e, HLE.out]
    rw [HL.out] at h2 HLE ⊢
    have HC := Lib.hid (fun W (hb : Below w.heap.size w W) => auto_reach A c n acc a lA lc m l W (HA.out.keep (Keep.of hb)) HL (HLL.out.keep (Keep.of hb)) HM h h2 hm)
    clear e h h2
    go_enter Tryz.func30, Tryz.ntmps30
    go_wp2_with (go_at_call 66; refine HAK.out.mono ?_; rintro e w1 ⟨rfl, hb1⟩; have HB1 := Lib.hid (HB0.out.trans (hb1.mono (by simp))); obtain ⟨p0, p1, _, _⟩ := Blk.two (K0.out.below hb1 (by simp)); clear hb1)
    refine (HC.out _ HB1.out).mono ?_
    rintro e w2 ⟨v, rfl, hv, hb2⟩
    have HV := Lib.hid (hv.lower HB1.out.size)
    have HB2 := Lib.hid (HB1.out.trans (hb2.mono HB1.out.size))
    clear hv hb2
    go_wp2
    go_ret2
    exact ⟨⟨v, rfl, HV.out⟩, HB2.out⟩
  all_goals
    rename_i e
    have HLE := Lib.hid (reachL_no e (by omega))
    rw [e] at HAK
    rw [e, HLE.out]
    clear e
    go_enter Tryz.func30, Tryz.ntmps30
    go_wp2_with (go_at_call 66; refine HAK.out.mono ?_; rintro e w1 ⟨rfl, hb1⟩; have HB1 := Lib.hid (HB0.out.trans (hb1.mono (by simp))); clear hb1)
    go_ret2
    exact ⟨⟨_, rfl, OwnI.nil _ _⟩, HB1.out⟩

set_option maxHeartbeats 1000000 in
set_option maxRecDepth 100000 in
theorem auto_Step (A : Option Addr) (c n : Nat) (acc : Int) (a : Au) (lA : Option Addr) (lc m : Nat) (l : List Int) (p : Int) (w : World) (ha : AtAu w A a) (HL : Hid (a.length = n)) (hl : At w lA RI l) (HM : Hid (l.length = m)) (hm : m ≤ 1000000) :
    Calls Tryz.prog 31 #[.agg #[.slice A n c, .int .i64 acc], .slice lA m lc, .int .i64 p] w fun e w' => (∃ v, e = .returned (.tuple #[v, .int .i64 (askE a acc l)]) ∧ OwnI w' w.heap.size v (stepL a acc l p)) ∧ Below w.heap.size w w' := by
  have HB0 := Lib.hid ((Below.refl w.heap.size w).alloc (Nat.le_refl _) (.cells #[.slice A n c, .int .i64 acc] TAuto))
  have K0 := Lib.hid (Blk.new w TAuto #[.slice A n c, .int .i64 acc])
  have HAK := Lib.hid (auto_asked A c n acc a lA lc m l _ (ha.keep (Keep.of HB0.out)) HL (hl.keep (Keep.of HB0.out)) HM)
  have HA := Lib.hid ha; have HLL := Lib.hid hl
  have hc := acase a acc l
  clear ha hl
  cases hc
  case ok h h2 e =>
    have HLE := Lib.hid (stepL_yes (p := p) e)
    rw [e] at HAK
    rw [e, HLE.out]
    rw [HL.out] at h2 HLE ⊢
    have HC := Lib.hid (fun W (hb : Below w.heap.size w W) => auto_step A c n acc a lA lc m l p W (HA.out.keep (Keep.of hb)) HL (HLL.out.keep (Keep.of hb)) HM h h2 hm)
    clear e h h2
    go_enter Tryz.func31, Tryz.ntmps31
    go_wp2_with (go_at_call 66; refine HAK.out.mono ?_; rintro e w1 ⟨rfl, hb1⟩; have HB1 := Lib.hid (HB0.out.trans (hb1.mono (by simp))); obtain ⟨p0, p1, _, _⟩ := Blk.two (K0.out.below hb1 (by simp)); clear hb1)
    refine (HC.out _ HB1.out).mono ?_
    rintro e w2 ⟨v, rfl, hv, hb2⟩
    have HV := Lib.hid (hv.lower HB1.out.size)
    have HB2 := Lib.hid (HB1.out.trans (hb2.mono HB1.out.size))
    clear hv hb2
    go_wp2
    go_ret2
    exact ⟨⟨v, rfl, HV.out⟩, HB2.out⟩
  all_goals
    rename_i e
    have HLE := Lib.hid (stepL_no (p := p) e (by omega))
    rw [e] at HAK
    rw [e, HLE.out]
    clear e
    go_enter Tryz.func31, Tryz.ntmps31
    go_wp2_with (go_at_call 66; refine HAK.out.mono ?_; rintro e w1 ⟨rfl, hb1⟩; have HB1 := Lib.hid (HB0.out.trans (hb1.mono (by simp))); clear hb1)
    go_ret2
    exact ⟨⟨_, rfl, OwnI.nil _ _⟩, HB1.out⟩

end Go.Proofs.YtcmmmgblkbbdnaaGreatDoor

namespace Pv
open Go Go.RowKit

def labE (x : Ed) : Option (List Rng) := if x.free then none else some x.set
theorem edgA_new (a : Au) (u : Nat) (l : Option (List Rng)) (v : Nat) : EdgA (a ++ [[]]) u l v ↔ EdgA a u l v := by
  unfold EdgA
  constructor
  · rintro ⟨es, x, h1, h2, h3⟩
    rcases Nat.lt_or_ge u a.length with hu | hu
    · rw [List.getElem?_append_left hu] at h1; exact ⟨es, x, h1, h2, h3⟩
    · rw [List.getElem?_append_right hu] at h1
      match hk : u - a.length with
      | 0 => rw [hk] at h1; simp at h1; subst h1; simp at h2
      | k + 1 => rw [hk] at h1; simp at h1
  · rintro ⟨es, x, h1, h2, h3⟩
    exact ⟨es, x, by rw [List.getElem?_append_left (lt_of_get h1)]; exact h1, h2, h3⟩
theorem auEdge_at (a : Au) (s : Nat) (x : Ed) : (auEdge a s x)[s]? = (a[s]?).map (· ++ [x]) := by unfold auEdge; rw [List.getElem?_modify]; simp
theorem auEdge_off {a : Au} {s u : Nat} (x : Ed) (h : s ≠ u) : (auEdge a s x)[u]? = a[u]? := by unfold auEdge; rw [List.getElem?_modify]; simp [h]
theorem edgA_edge {a : Au} {s : Nat} (hs : s < a.length) (x : Ed) (u : Nat) (l : Option (List Rng)) (v : Nat) : EdgA (auEdge a s x) u l v ↔ EdgA a u l v ∨ (u = s ∧ l = labE x ∧ x.to = (v : Int)) := by
  unfold EdgA
  have e0 : a[s]? = some (a[s]'hs) := List.getElem?_eq_getElem hs
  constructor
  · rintro ⟨es, y, h1, h2, h3, h4⟩
    by_cases e : s = u
    · subst e
      rw [auEdge_at, e0] at h1
      obtain rfl := Option.some.inj h1
      rcases List.mem_append.1 h2 with h2 | h2
      · exact .inl ⟨_, y, e0, h2, h3, h4⟩
      · simp at h2; subst h2; exact .inr ⟨rfl, h4, h3⟩
    · rw [auEdge_off x e] at h1
      exact .inl ⟨es, y, h1, h2, h3, h4⟩
  · rintro (⟨es, y, h1, h2, h3, h4⟩ | ⟨rfl, h2, h3⟩)
    · by_cases e : s = u
      · subst e
        exact ⟨es ++ [x], y, by rw [auEdge_at, h1]; rfl, by simp [h2], h3, h4⟩
      · exact ⟨es, y, by rw [auEdge_off x e]; exact h1, h2, h3, h4⟩
    · exact ⟨(a[u]'hs) ++ [x], x, by rw [auEdge_at, e0]; rfl, by simp, h3, h2⟩
theorem edgA_frees {m : Nat} : ∀ (es : List Nat) (a : Au), (∀ e, e ∈ es → e < a.length) → ∀ u l v, EdgA (auFrees m a es) u l v ↔ EdgA a u l v ∨ (u ∈ es ∧ l = none ∧ v = m)
  | [], a, _, u, l, v => by simp [auFrees]
  | e :: es, a, h, u, l, v => by
    rw [auFrees, edgA_frees es _ (fun x hx => by rw [auEdge_length]; exact h x (by simp [hx])), edgA_edge (h e (by simp))]
    simp only [labE, if_true, List.mem_cons]
    constructor
    · rintro ((h1 | ⟨h1, h2, h3⟩) | ⟨h1, h2, h3⟩)
      · exact .inl h1
      · exact .inr ⟨.inl h1, h2, by omega⟩
      · exact .inr ⟨.inr h1, h2, h3⟩
    · rintro (h1 | ⟨h1 | h1, h2, h3⟩)
      · exact .inl (.inl h1)
      · exact .inl (.inr ⟨h1, h2, by omega⟩)
      · exact .inr ⟨h1, h2, h3⟩
theorem edgA_join {a : Au} {es : List Nat} (h : ∀ e, e ∈ es → e < a.length) (u : Nat) (l : Option (List Rng)) (v : Nat) : EdgA (auJoin a es) u l v ↔ EdgA a u l v ∨ (u ∈ es ∧ l = none ∧ v = a.length) := by
  unfold auJoin
  rw [edgA_frees _ _ (fun e he => by have := h e he; simp; omega), edgA_new]
section
variable (pts : List Int)
/-- A way of leading that lays L. -/
def FrF (f : Au → Nat → Au × Nat) (L : Nat → Nat → Prop) : Prop := ∀ a s, s < a.length → ∃ G, (∀ u l v, EdgA (f a s).1 u l v ↔ EdgA a u l v ∨ G u l v) ∧ Fr pts G a.length (f a s).1.length s (f a s).2 L
variable {pts}
theorem FrF.ends {f : Au → Nat → Au × Nat} {L : Nat → Nat → Prop} (h : FrF pts f L) {a : Au} {s : Nat} (hs : s < a.length) : (f a s).2 < (f a s).1.length ∧ a.length ≤ (f a s).1.length := by
  obtain ⟨G, _, k⟩ := h a s hs
  have := k.en; have := k.le
  omega
theorem FrF.iter {f : Au → Nat → Au × Nat} {L : Nat → Nat → Prop} (h : FrF pts f L) : ∀ n, FrF pts (Pv.iter f n) (Pw L n)
  | 0 => fun a s hs => ⟨fun _ _ _ => False, fun _ _ _ => by simp [Pv.iter], Fr.none pts hs⟩
  | n + 1 => fun a s hs => by
    obtain ⟨G1, e1, k1⟩ := h a s hs
    obtain ⟨G2, e2, k2⟩ := FrF.iter h n (f a s).1 (f a s).2 (h.ends hs).1
    refine ⟨Gor G1 G2, fun u l v => ?_, ?_⟩
    · show EdgA (Pv.iter f n (f a s).1 (f a s).2).1 u l v ↔ _
      rw [e2, e1, or_assoc]
    · refine (k1.comp k2).ext fun i j => ?_
      rw [← pwL_iff (n + 1)]
      show _ ↔ ∃ m, L i m ∧ PwL L n m j
      simp only [pwL_iff]
theorem FrF.iters {f : Au → Nat → Au × Nat} {L : Nat → Nat → Prop} (h : FrF pts f L) : ∀ n a s, s < a.length → ∃ G, (∀ u l v, EdgA (Pv.iters f n a s).1 u l v ↔ EdgA a u l v ∨ G u l v) ∧ FrL pts G a.length (Pv.iters f n a s).1.length s (Pv.iters f n a s).2 (fun i j => ∃ k, k ≤ n ∧ Pw L k i j)
  | 0, a, s, hs => by
    refine ⟨fun _ _ _ => False, fun _ _ _ => by simp [Pv.iters], (FrL.one pts hs).ext fun i j => ⟨fun e => ⟨0, Nat.le_refl _, e⟩, ?_⟩⟩
    rintro ⟨k, h1, h2⟩
    obtain rfl : k = 0 := by omega
    exact h2
  | n + 1, a, s, hs => by
    obtain ⟨G1, e1, k1⟩ := h a s hs
    obtain ⟨G2, e2, k2⟩ := FrF.iters h n (f a s).1 (f a s).2 (h.ends hs).1
    refine ⟨Gor G1 G2, fun u l v => ?_, ?_⟩
    · show EdgA (Pv.iters f n (f a s).1 (f a s).2).1 u l v ↔ _
      rw [e2, e1, or_assoc]
    · refine (FrL.comp k1 k2).ext fun i j => ?_
      constructor
      · rintro (rfl | ⟨m, h1, k, h2, h3⟩)
        · exact ⟨0, by omega, rfl⟩
        · exact ⟨k + 1, by omega, (pwL_iff _ _ _).1 ⟨m, h1, (pwL_iff _ _ _).2 h3⟩⟩
      · rintro ⟨k, h2, h3⟩
        cases k with
        | zero => exact .inl h3
        | succ k =>
          obtain ⟨m, h4, h5⟩ := (pwL_iff _ _ _).2 h3
          exact .inr ⟨m, h4, k, by omega, (pwL_iff _ _ _).1 h5⟩
theorem FrL.joined {a : Au} {r : Au × List Nat} {s : Nat} {L : Nat → Nat → Prop} {G : Gr} (e : ∀ u l v, EdgA r.1 u l v ↔ EdgA a u l v ∨ G u l v) (k : FrL pts G a.length r.1.length s r.2 L) : ∃ G, (∀ u l v, EdgA (joinOf r).1 u l v ↔ EdgA a u l v ∨ G u l v) ∧ Fr pts G a.length (joinOf r).1.length s (joinOf r).2 L := by
  have hl := k.lo; have hle := k.le
  refine ⟨Gor G (fun u l v => u ∈ r.2 ∧ l = Option.none ∧ v = r.1.length), fun u l v => ?_, ?_⟩
  · show EdgA (auJoin r.1 r.2) u l v ↔ _
    rw [edgA_join (fun x hx => by have := k.en x hx; omega), e, or_assoc]
  · rw [joinOf_length]; exact k.join
mutual
theorem leadT_fr : ∀ (T : Tr) (d : Nat), T.Ok d → FrF pts (leadT T) (spT pts T)
  | .mk x ks, d, hok => fun a s hs => by
    have hone := hok.one
    have hkids := fun k hk => hok.kid (k := k) hk
    have hd : FrF pts (leadHd ks) (spHd pts ks) := leadHd_fr ks (d - 1) hkids
    rw [leadT]
    by_cases h0 : x.kind = 0
    · rw [if_pos h0]
      obtain ⟨G, e, k⟩ := FrL.joined (r := (a, [s])) (fun u l v => by simp) (FrL.one pts hs)
      exact ⟨G, e, k.ext fun i j => by rw [spT, if_pos h0]⟩
    rw [if_neg h0]
    by_cases h1 : x.kind = 1
    · rw [if_pos h1]
      refine ⟨fun u l v => u = s ∧ l = some x.set ∧ v = a.length, fun u l v => ?_, ?_⟩
      · rw [edgA_edge (by simp; omega), edgA_new]
        simp only [labE, Bool.false_eq_true, if_false]
        constructor
        · rintro (h | ⟨h1, h2, h3⟩)
          · exact .inl h
          · exact .inr ⟨h1, h2, by omega⟩
        · rintro (h | ⟨h1, h2, h3⟩)
          · exact .inl h
          · exact .inr ⟨h1, h2, by omega⟩
      · have hlen : (auEdge (a ++ [[]]) s ⟨a.length, false, x.set⟩).length = a.length + 1 := by simp [auEdge_length]
        simp only [hlen]
        refine ⟨fun u l v h => .inl h.1, fun u l v h => by have := h.2.2; omega, hs, by omega, .inr ⟨by omega, by omega⟩, fun i j => ?_⟩
        rw [spT, if_neg h0, if_pos h1]
        constructor
        · intro p
          cases p with
          | nil => omega
          | cons k1 kr =>
            rcases k1 with ⟨⟨_, h2, _⟩, _⟩ | ⟨st, p, ⟨_, h2, h3⟩, h4, h5, h6⟩
            · cases h2
            · obtain rfl := Option.some.inj h2
              subst h3; subst h6
              cases kr with
              | nil => exact ⟨p, h4, h5, rfl⟩
              | cons k2 _ => obtain ⟨l, hl⟩ := k2.edge; have := hl.1; omega
        · rintro ⟨p, h4, h5, rfl⟩
          exact .one (.inr ⟨x.set, p, ⟨rfl, rfl, rfl⟩, h4, h5, rfl⟩)
    rw [if_neg h1]
    by_cases h2 : x.kind = 2
    · rw [if_pos h2]
      obtain ⟨G, e, k⟩ := leadCat_fr ks (d - 1) hkids a s hs
      exact ⟨G, e, k.ext fun i j => by rw [spT, if_neg h0, if_neg h1, if_pos h2]⟩
    rw [if_neg h2]
    by_cases h3 : x.kind = 3
    · rw [if_pos h3]
      obtain ⟨G, e, k⟩ := leadAlt_fr ks (d - 1) hkids a s hs
      obtain ⟨G, e, k⟩ := FrL.joined e k
      exact ⟨G, e, k.ext fun i j => by rw [spT, if_neg h0, if_neg h1, if_neg h2, if_pos h3]⟩
    rw [if_neg h3]
    have hI := hd.iter x.least.toNat
    obtain ⟨G1, e1, k1⟩ := hI a s hs
    have hE := hI.ends hs
    have hlang : ∀ i j, spT pts (.mk x ks) i j ↔ Ag (spHd pts ks) x.least.toNat x.most i j := fun i j => by rw [spT, if_neg h0, if_neg h1, if_neg h2, if_neg h3]
    by_cases hm : x.most < 0
    · rw [if_pos hm]
      generalize hr : Pv.iter (leadHd ks) x.least.toNat a s = r at *
      have hj : ∀ u l v, EdgA (auJoin r.1 [r.2]) u l v ↔ EdgA r.1 u l v ∨ (u = r.2 ∧ l = none ∧ v = r.1.length) := fun u l v => by
        rw [edgA_join (fun x hx => by simp at hx; subst hx; exact hE.1)]
        simp
      obtain ⟨G2, e2, k2⟩ := hd (auJoin r.1 [r.2]) r.1.length (by rw [auJoin_length]; omega)
      have hE2 := hd.ends (a := auJoin r.1 [r.2]) (s := r.1.length) (by rw [auJoin_length]; omega)
      rw [auJoin_length] at k2 hE2
      have k3 := Fr.star hE.1 k2
      have k4 := k1.comp k3
      refine ⟨Gor G1 (Gor (Gor (fun u l v => u = r.2 ∧ l = Option.none ∧ v = r.1.length) G2) (fun u l v => u = (leadHd ks (auJoin r.1 [r.2]) r.1.length).2 ∧ l = Option.none ∧ v = r.1.length)), fun u l v => ?_, ?_⟩
      · show EdgA (auEdge (leadHd ks (auJoin r.1 [r.2]) r.1.length).1 (leadHd ks (auJoin r.1 [r.2]) r.1.length).2 ⟨r.1.length, true, []⟩) u l v ↔ _
        rw [edgA_edge hE2.1, e2, hj, e1]
        simp only [labE, if_true, Gor]
        constructor
        · rintro ((((h | h) | h) | h) | ⟨h1, h2, h3⟩)
          · exact .inl h
          · exact .inr (.inl h)
          · exact .inr (.inr (.inl (.inl h)))
          · exact .inr (.inr (.inl (.inr h)))
          · exact .inr (.inr (.inr ⟨h1, h2, by omega⟩))
        · rintro (h | h | (h | h) | ⟨h1, h2, h3⟩)
          · exact .inl (.inl (.inl (.inl h)))
          · exact .inl (.inl (.inl (.inr h)))
          · exact .inl (.inl (.inr h))
          · exact .inl (.inr h)
          · exact .inr ⟨h1, h2, by omega⟩
      · have hlen : (starOf (leadHd ks) r).1.length = (leadHd ks (auJoin r.1 [r.2]) r.1.length).1.length := by simp [starOf, auEdge_length]
        have hend : (starOf (leadHd ks) r).2 = r.1.length := rfl
        rw [hlen, hend]
        refine k4.ext fun i j => ?_
        rw [hlang]
        unfold Ag
        constructor
        · rintro ⟨m, p1, k, p2⟩
          exact ⟨x.least.toNat + k, by omega, .inl hm, Pw.add.2 ⟨m, p1, p2⟩⟩
        · rintro ⟨k, q1, _, q2⟩
          obtain ⟨c, rfl⟩ : ∃ c, k = x.least.toNat + c := ⟨k - x.least.toNat, by omega⟩
          obtain ⟨m, p1, p2⟩ := Pw.add.1 q2
          exact ⟨m, p1, c, p2⟩
    · rw [if_neg hm]
      generalize hr : Pv.iter (leadHd ks) x.least.toNat a s = r at *
      obtain ⟨G2, e2, k2⟩ := FrF.iters hd (x.most - x.least).toNat r.1 r.2 hE.1
      obtain ⟨G3, e3, k3⟩ := FrL.joined e2 k2
      refine ⟨Gor G1 G3, fun u l v => ?_, ?_⟩
      · rw [e3, e1, or_assoc]
      · refine (k1.comp k3).ext fun i j => ?_
        rw [hlang]
        have hbd : 0 ≤ x.least ∧ x.least ≤ x.most := by
          rcases hone with h | h | h | h <;> omega
        unfold Ag
        constructor
        · rintro ⟨m, p1, k, p2, p3⟩
          exact ⟨x.least.toNat + k, by omega, .inr (by omega), Pw.add.2 ⟨m, p1, p3⟩⟩
        · rintro ⟨k, q1, q2, q3⟩
          obtain ⟨c, rfl⟩ : ∃ c, k = x.least.toNat + c := ⟨k - x.least.toNat, by omega⟩
          obtain ⟨m, p1, p2⟩ := Pw.add.1 q3
          exact ⟨m, p1, c, by omega, p2⟩
theorem leadHd_fr : ∀ (ks : List Tr) (d : Nat), (∀ k, k ∈ ks → k.Ok d) → FrF pts (leadHd ks) (spHd pts ks)
  | [], _, _ => fun a s hs => ⟨fun _ _ _ => False, fun _ _ _ => by simp [leadHd], (Fr.none pts hs).ext fun i j => by rw [spHd]⟩
  | k :: ks, d, h => fun a s hs => by
    have h0 : FrF pts (leadT k) (spT pts k) := leadT_fr k d (h k (by simp))
    obtain ⟨G, e, f⟩ := h0 a s hs
    exact ⟨G, fun u l v => by rw [leadHd]; exact e u l v, by rw [leadHd]; exact f.ext fun i j => by rw [spHd]⟩
theorem leadCat_fr : ∀ (ks : List Tr) (d : Nat), (∀ k, k ∈ ks → k.Ok d) → FrF pts (leadCat ks) (spCat pts ks)
  | [], _, _ => fun a s hs => ⟨fun _ _ _ => False, fun _ _ _ => by simp [leadCat], (Fr.none pts hs).ext fun i j => by rw [spCat]⟩
  | k :: ks, d, h => fun a s hs => by
    have h0 : FrF pts (leadT k) (spT pts k) := leadT_fr k d (h k (by simp))
    obtain ⟨G1, e1, k1⟩ := h0 a s hs
    obtain ⟨G2, e2, k2⟩ := leadCat_fr ks d (fun x hx => h x (by simp [hx])) (leadT k a s).1 (leadT k a s).2 (h0.ends hs).1
    refine ⟨Gor G1 G2, fun u l v => ?_, ?_⟩
    · rw [leadCat, e2, e1, or_assoc]
    · rw [leadCat]
      exact (k1.comp k2).ext fun i j => by rw [spCat]
theorem leadAlt_fr : ∀ (ks : List Tr) (d : Nat), (∀ k, k ∈ ks → k.Ok d) → ∀ a s, s < a.length → ∃ G, (∀ u l v, EdgA (leadAlt ks a s).1 u l v ↔ EdgA a u l v ∨ G u l v) ∧ FrL pts G a.length (leadAlt ks a s).1.length s (leadAlt ks a s).2 (spAlt pts ks)
  | [], _, _, a, s, hs => ⟨fun _ _ _ => False, fun _ _ _ => by simp [leadAlt], (FrL.none pts hs).ext fun i j => by rw [spAlt]⟩
  | k :: ks, d, h, a, s, hs => by
    have h0 : FrF pts (leadT k) (spT pts k) := leadT_fr k d (h k (by simp))
    obtain ⟨G1, e1, k1⟩ := h0 a s hs
    obtain ⟨G2, e2, k2⟩ := leadAlt_fr ks d (fun x hx => h x (by simp [hx])) (leadT k a s).1 s (by have := (h0.ends hs).2; omega)
    refine ⟨Gor G1 G2, fun u l v => ?_, ?_⟩
    · rw [leadAlt, e2, e1, or_assoc]
    · rw [leadAlt]
      exact (FrL.alt k1 k2).ext fun i j => by rw [spAlt]
end
end
/-- Where a run comes to: the ways from the first state. -/
theorem clo_path {a : Au} {pts : List Int} {S : Nat → Prop} {i : Nat} (hS : ∀ s, S s → Pt pts (EdgA a) 0 0 s i) {s : Nat} (h : Clo a S s) : Pt pts (EdgA a) 0 0 s i := by
  induction h with
  | base h => exact hS _ h
  | step _ h2 ih =>
    obtain ⟨es, x, h3, h4, h5, h6⟩ := h2
    exact ih.trans (.one (.inl ⟨⟨es, x, h3, h4, h6, by rw [h5]; rfl⟩, rfl⟩))
theorem runA_free {a : Au} {l : List Int} {u v : Nat} (h : runA a l u) (h2 : FreeTo a u v) : runA a l v := by
  rcases List.eq_nil_or_concat l with rfl | ⟨m, z, rfl⟩
  · exact .step h h2
  · rw [List.concat_eq_append, runA_snoc] at h ⊢
    exact .step h h2
theorem run_path {a : Au} (pts : List Int) : ∀ i, i ≤ pts.length → ∀ s, runA a (pts.take i) s ↔ Pt pts (EdgA a) 0 0 s i := by
  have h1 : ∀ i, i ≤ pts.length → ∀ s, runA a (pts.take i) s → Pt pts (EdgA a) 0 0 s i := by
    intro i
    induction i with
    | zero => intro _ s h; exact clo_path (fun s hs => by obtain rfl : s = 0 := hs; exact .nil _ _) h
    | succ i ih =>
      intro hi s h
      have e : pts[i]? = some (pts[i]'(by omega)) := List.getElem?_eq_getElem _
      rw [take_snoc e, runA_snoc] at h
      refine clo_path (fun t ht => ?_) h
      obtain ⟨u, hu, es, x, h3, h4, h5, h6, h7⟩ := ht
      exact (ih (by omega) u hu).trans (.one (.inr ⟨x.set, _, ⟨es, x, h3, h4, h7, by rw [h5]; rfl⟩, e, h6, rfl⟩))
  have h2 : ∀ {u i s j : Nat}, Pt pts (EdgA a) u i s j → i ≤ pts.length → runA a (pts.take i) u → j ≤ pts.length ∧ runA a (pts.take j) s := by
    intro u i s j p
    induction p with
    | nil => exact fun h1 h2 => ⟨h1, h2⟩
    | cons k1 _ ih =>
      intro hi hr
      rename_i u i v j _ _ _
      rcases k1 with ⟨⟨es, x, h3, h4, h5, h6⟩, rfl⟩ | ⟨st, p, ⟨es, x, h3, h4, h5, h6⟩, h7, h8, rfl⟩
      · refine ih hi ?_
        have hfree : x.free = true := by
          cases hf : x.free with
          | true => rfl
          | false => rw [hf] at h6; cases h6
        have hstep : FreeTo a u v := ⟨es, x, h3, h4, hfree, h5⟩
        exact runA_free hr hstep
      · have hlt := lt_of_get h7
        refine ih (by omega) ?_
        rw [take_snoc h7, runA_snoc]
        have hfree : x.free = false := by
          cases hf : x.free with
          | true => rw [hf] at h6; cases h6
          | false => rfl
        rw [hfree] at h6
        obtain rfl := Option.some.inj h6
        exact .base ⟨u, hr, es, x, h3, h4, hfree, h8, h5⟩
  intro i hi s
  exact ⟨h1 i hi s, fun p => (h2 p (Nat.zero_le _) (.base rfl)).2⟩
/-- THE LANGUAGE: a pattern's automaton accepts just what the pattern matches. -/
theorem lead_lang {T : Tr} {d : Nat} (h : T.Ok d) (pts : List Int) : runA (leadT T [[]] 0).1 pts (leadT T [[]] 0).2 ↔ spT pts T 0 pts.length := by
  obtain ⟨G, e, k⟩ := leadT_fr (pts := pts) T d h [[]] 0 (by simp)
  have h1 := run_path (a := (leadT T [[]] 0).1) pts pts.length (Nat.le_refl _) (leadT T [[]] 0).2
  rw [List.take_length] at h1
  rw [h1, ← k.lang]
  have e2 : EdgA (leadT T [[]] 0).1 = G := by
    funext u l v
    refine propext ((e u l v).trans ⟨fun h => ?_, .inr⟩)
    rcases h with ⟨es, x, h1, h2, _⟩ | h
    · match u with
      | 0 => simp at h1; subst h1; simp at h2
      | u + 1 => simp at h1
    · exact h
  rw [e2]
end Pv
