/- Walks: slices.Grow and Concat at nodes. PUT1 -/
import Derived.Test.YtilhicefhhgecaaGreatDoorRbq
import Derived.Test.YtilhicefhhgecaaGreatDoorSlq
import Derived.Laws.NewBlocks
import Derived.Test.YtilhicefhhgecaaGreatDoorRcq
namespace Pv
open Go Go.RowKit
theorem take_flat {α : Type} {ll : List (List α)} {k : Nat} {x : List α} (h : ll[k]? = some x) : (ll.take (k + 1)).flatten = (ll.take k).flatten ++ x := by
  rw [take_snoc h]; simp
theorem take_flat_le {α : Type} (ll : List (List α)) (k : Nat) : (ll.take k).flatten.length ≤ ll.flatten.length := by
  have h : ll = ll.take k ++ ll.drop k := (List.take_append_drop k ll).symm
  have e : ll.flatten.length = ((ll.take k).flatten ++ (ll.drop k).flatten).length := by
    rw [← List.flatten_append, ← h]
  rw [e, List.length_append]
  omega
end Pv
namespace Go.Proofs.YtilhicefhhgecaaGreatDoor
open Go.RowKit Go.Shelf Pv
theorem ORx.one {w : World} {b : Nat} {f : Nat → Value} {x : Rx} (h : ORx w b f x) : ∀ j, j < 5 → (f j).oneCell' = true := by
  intro j hj
  match j, hj with
  | 0, _ => obtain ⟨h0, _⟩ := h.kind; rw [h0]; rfl
  | 1, _ => exact OwnK.one h.set
  | 2, _ => exact RI.one h.many
  | 3, _ => exact RI.one h.least
  | 4, _ => exact RI.one h.most
theorem grow_rx (n : Nat) (w : World) (h0 : 0 < n) (hn : n ≤ 100000) : Calls Tryz.prog 167 #[.slice none 0 0, .int .i64 n] w fun e w' => ∃ c, e = .returned (.slice (some ⟨w.heap.size, 0, none⟩) 0 c) ∧ w'.ownsRow w.heap.size TNx 5 (.slice (some ⟨w.heap.size, 0, none⟩) 0 c) 0 [] ∧ Below w.heap.size w w' := by
  obtain ⟨i0, hi0, hz0, hs0, hb0⟩ := info_parts info_rx
  refine (Any8.slices_Grow_grow Tryz.growX i0 _ hi0 hz0 (by omega) none 0 0 n [] w (Nat.le_refl _) (by omega) (by rw [hb0]; omega) (by omega) (by simp) (fun _ => rfl) (fun a h => by cases h)).mono ?_
  rintro e w' ⟨rfl, rfl⟩
  have hcap : n ≤ grownCap w (0 + n) 0 (Tryz.growX_ren.t 25) := by have := grownCap_ge w (0 + n) 0 (Tryz.growX_ren.t 25); omega
  have hmax : grownCap w (0 + n) 0 (Tryz.growX_ren.t 25) ≤ maxLen := grownCap_le_maxLen w (0 + n) 0 _ (by unfold maxLen; omega)
  refine ⟨_, rfl, ⟨by simp, .inr ⟨w.heap.size, _, _, rfl, Nat.le_refl _, heap_alloc_new _ _, Nat.zero_le _, hmax, ?_, by simp⟩⟩, ((Below.refl _ w).drew).alloc (Nat.le_refl _) _⟩
  simp only [Nat.zero_add] at hcap ⊢
  simp [size_zeroCells, Value.cells]
  omega

set_option maxHeartbeats 4000000 in
set_option maxRecDepth 100000 in
theorem concat_rx (A : Option Addr) (c n m : Nat) (ll : List (List Rx)) (b : Nat) (w : World) (h : At w A (fun u t => OwnRx w b u t) ll) (HL : Hid (ll.length = n)) (HM : Hid (ll.flatten.length = m)) (hb : b ≤ w.heap.size) (h1 : 1 ≤ m) (h2 : m ≤ 100000) (h3 : n ≤ 100000) :
    Calls Tryz.prog 118 #[.slice A n c] w fun e w' => ∃ G k d, e = .returned (.slice G k d) ∧ OwnRx w' b (.slice G k d) ll.flatten ∧ Below w.heap.size w w' := by
  obtain ⟨i0, hi0, hz0, hs0, hb0⟩ := info_parts info_rx
  have HA := Lib.hid h
  have HG := Lib.hid (grow_rx m w (by omega) (by omega))
  have HB := Lib.hid hb
  clear h hb
  go_enter Tryz.func118, Tryz.ntmps118
  go_wp2
  go_loop [11, 3] (fun iv sv => ∃ k s : Nat, iv = .int .i64 k ∧ sv = .int .i64 s ∧ k ≤ n ∧ s ≤ m ∧ Hid ((ll.take k).flatten.length = s)) (fun iv _ => n - (intOf iv).toNat)
  case atStart => exact ⟨0, 0, rfl, rfl, by omega, by omega, Lib.hid (by simp)⟩
  case round =>
    obtain ⟨k, s, rfl, rfl, hk, hs, HS⟩ := hrel
    by_cases hlt : k < n
    · obtain ⟨g, off, u, x, rfl, hg, c1, hR, HX⟩ := HA.out.gt HL hlt
      obtain ⟨A', c', us', rfl, _, _⟩ := hR
      have hT : Hid ((ll.take (k + 1)).flatten.length = s + x.length) := Lib.hid (by rw [take_flat HX.out, List.length_append, HS.out])
      have hle : s + x.length ≤ m := by have := take_flat_le ll (k + 1); rw [hT.out, HM.out] at this; exact this
      obtain ⟨p, hp⟩ : ∃ p, x.length = p := ⟨_, rfl⟩
      rw [hp] at c1 hT hle
      clear hp
      have g1 : (0 : Int) ≤ (s : Int) + (p : Int) := by omega
      go_wp2
      go_round
      case rel => exact ⟨k + 1, s + p, by go_num, by go_num, by omega, by omega, hT⟩
      case measure => simp [intOf]; omega
    · obtain rfl : k = n := by omega
      have hs2 : Hid (s = m) := Lib.hid (by rw [← HS.out, ← HM.out, List.take_of_length_le (by rw [HL.out]; exact Nat.le_refl _)])
      rw [hs2.out]
      clear HS hs2 hs
      go_wp2_with fail
      refine HG.out.mono ?_
      rintro e w1 ⟨c0, rfl, own0, hb1⟩
      have HO0 := Lib.hid own0; have HB1 := Lib.hid hb1
      clear own0 hb1
      go_wp2
      go_loopw [27, 6] (fun iv ov W => ∃ (i q rc : Nat) (R : Option Addr) (us : List Value), iv = .int .i64 i ∧ ov = .slice R q rc ∧ i ≤ k ∧ q ≤ m ∧ Hid ((ll.take i).flatten.length = q) ∧ Hid (W.ownsRow w.heap.size TNx 5 (.slice R q rc) q us) ∧ Hid (RelK 5 (ORx w b) us (ll.take i).flatten) ∧ Hid (Below w.heap.size w W)) (fun iv _ _ => k - (intOf iv).toNat)
      case atStart => exact ⟨0, 0, c0, _, [], rfl, rfl, by omega, by omega, Lib.hid (by simp), HO0, Lib.hid (by simpa using RelK.nil), HB1⟩
      case round =>
        clear HO0 HB1
        obtain ⟨i, q, rc, R, us, rfl, rfl, hi, hq, HQ, HO, HR, HW⟩ := hrel
        have hW := HW.out.size
        by_cases hlt : i < k
        · obtain ⟨g, off, u, x, rfl, hg, c1, hR, HX⟩ := HA.out.gt HL hlt
          have hT : Hid ((ll.take (i + 1)).flatten.length = q + x.length) := Lib.hid (by rw [take_flat HX.out, List.length_append, HQ.out])
          have hle : q + x.length ≤ m := by have := take_flat_le ll (i + 1); rw [hT.out, HM.out] at this; exact this
          have hle2 : x.length ≤ 100000 := by omega
          obtain ⟨A', c', us0, rfl, ho, hr⟩ := hR
          obtain ⟨_, hat⟩ := AtK.of_own ho hr rfl (by omega)
          obtain ⟨vs, hrv, hsrc⟩ := AtK.src (hat.keep (Keep.of HW.out)) (fun _ _ h => h.one)
          have c2 := ((Keep.of HW.out).cell _ _ hg).trans c1
          have hgw := World.block_lt_of_cell? _ _ c2
          have SRA := Lib.hid hsrc
          have RV := Lib.hid hrv
          have Q1 : Hid (q + x.length ≤ maxLen) := Lib.hid (by simp only [maxLen]; omega)
          have Q2 : Hid ((q + x.length) * 56 ≤ 140737488355328) := Lib.hid (by omega)
          clear hsrc hrv ho hr hat c1
          obtain ⟨p, hp⟩ : ∃ p, x.length = p := ⟨_, rfl⟩
          rw [hp] at c2 hT hle hle2 Q1 Q2 SRA
          clear hp
          go_wp2_with (first
          | (at_builtin
             go_must (refine wpList_append_src _ rfl (.tmp 31) (.tmp 32) 29 rfl w.heap.size TNx i0 _ 5 56 Tryz.underlying29 hi0 hz0 hs0 hb0 rfl (by decide) R rc q _ rfl HO.out A' p c' _ rfl SRA.out Q1.out Q2.out hW ?_)
             intro A9 c9 w9 own9 gr9 _
             have HO9 := Lib.hid own9
             have HB9 := Lib.hid (HW.out.grown gr9 hW (fun g hg => (HO.out.lt g hg).1))
             clear own9 gr9))
          go_roundw
          case rel => exact ⟨i + 1, q + p, c9, A9, _, by go_num, rfl, by omega, by omega, hT, HO9, Lib.hid (by rw [take_flat HX.out]; exact HR.out.app RV.out), HB9⟩
          case measure => simp [intOf]; omega
        · obtain rfl : i = k := by omega
          go_wp2
          go_ret
          have e : ll.take i = ll := List.take_of_length_le (by rw [HL.out]; exact Nat.le_refl _)
          have hq2 := HQ.out
          have hr2 := HR.out
          rw [e] at hq2 hr2
          refine ⟨R, q, rc, rfl, ?_, HW.out⟩
          have ho : OwnK wr w.heap.size TNx 5 (ORx wr b) (.slice R q rc) ll.flatten := ⟨R, rc, us, by rw [hq2], by rw [hq2]; exact HO.out, hr2.mono fun f x _ hx => hx.up fun _ _ hs => OwnK.below hs HW.out⟩
          exact OwnK.lower ho HB.out
end Go.Proofs.YtilhicefhhgecaaGreatDoor

namespace Go.Proofs.YtilhicefhhgecaaGreatDoor
open Go.RowKit Pv
/-- Nodes handed back, in new memory but for what was there. -/
def RxP (w : World) (b : Nat) (t : List Rx) (e : Ending) (w' : World) : Prop := ∃ A n c, e = .returned (.slice A n c) ∧ OwnRx w' b (.slice A n c) t ∧ Below w.heap.size w w'
/-- One node. -/
theorem rx_node {w' : World} {b : Nat} {k m x y : Int} {v : Value} {l : List Rng} (h : OwnSet w' b v l) (hk : 0 ≤ k ∧ k ≤ 255) (hm : -9223372036854775808 ≤ m ∧ m ≤ 9223372036854775807) (hx : -9223372036854775808 ≤ x ∧ x ≤ 9223372036854775807) (hy : -9223372036854775808 ≤ y ∧ y ≤ 9223372036854775807) :
    RelK 5 (ORx w' b) [.int .u8 k, v, .int .i64 m, .int .i64 x, .int .i64 y] [⟨k, l, m, x, y⟩] :=
  RelK.one (f := fun j => [Value.int .u8 k, v, .int .i64 m, .int .i64 x, .int .i64 y].getD j undef) rfl (fun j hj => by
    rcases (show j = 0 ∨ j = 1 ∨ j = 2 ∨ j = 3 ∨ j = 4 by omega) with rfl | rfl | rfl | rfl | rfl <;> rfl) ⟨⟨rfl, hk.1, hk.2⟩, h, ⟨rfl, hm⟩, ⟨rfl, hx⟩, ⟨rfl, hy⟩⟩

set_option maxHeartbeats 1000000 in
set_option maxRecDepth 100000 in
theorem rd_put0 (k : Int) (A : Option Addr) (c b : Nat) (w : World) (hb : b ≤ w.heap.size) : Calls Tryz.prog 76 #[.int .u8 k, .slice A 0 c] w (RxP w b [⟨0, [], 0, 0, 0⟩]) := by
  have HB := Lib.hid hb
  clear hb
  go_enter Tryz.func76, Tryz.ntmps76
  go_wp2
  go_ret
  exact ⟨_, _, _, rfl, ⟨_, _, _, rfl, own_five w b _ _ _ _ _ _ HB.out, rx_node OwnK.nil (by omega) (by omega) (by omega) (by omega)⟩, (Below.refl _ _).alloc (Nat.le_refl _) _⟩

set_option maxHeartbeats 1000000 in
set_option maxRecDepth 100000 in
theorem rd_put1 (k : Int) (v : Value) (B b : Nat) (t : List Rx) (w : World) (h : OwnRows w B b v [t]) : Calls Tryz.prog 76 #[.int .u8 k, v] w (RxP w b t) := by
  obtain ⟨g, n, c, u, rfl, hn, hg, hc, hu⟩ := rows_get (k := 0) h rfl
  simp only [List.length_singleton] at hn
  subst hn
  have hu2 := hu
  obtain ⟨A', c', us, rfl, _, _⟩ := hu2
  have HU := Lib.hid hu
  clear hu h
  go_enter Tryz.func76, Tryz.ntmps76
  go_wp2
  go_ret
  exact ⟨_, _, _, rfl, HU.out, Below.refl _ _⟩

set_option maxHeartbeats 1000000 in
set_option maxRecDepth 100000 in
theorem rd_put2 (k : Int) (A : Option Addr) (c n m B b : Nat) (ll : List (List Rx)) (w : World) (h : OwnRows w B b (.slice A n c) ll) (HL : Hid (ll.length = n)) (HM : Hid (ll.flatten.length = m)) (hb : b ≤ w.heap.size) (hn : 2 ≤ n) (h1 : 1 ≤ m) (h2 : m ≤ 100000) (h3 : n ≤ 100000) (hk : 0 ≤ k ∧ k ≤ 255) :
    Calls Tryz.prog 76 #[.int .u8 k, .slice A n c] w (RxP w b (⟨k, [], n, 0, 0⟩ :: ll.flatten)) := by
  obtain ⟨i0, hi0, hz0, hs0, hb0⟩ := info_parts info_rx
  have hW0 : Below w.heap.size w (w.alloc (.cells #[.int .u8 k, .slice none 0 0, .int .i64 n, .int .i64 0, .int .i64 0] TNx)) := (Below.refl _ _).alloc (Nat.le_refl _) _
  have HW0 := Lib.hid hW0
  obtain ⟨A1, c1, us0, hv0, h4, h5⟩ := rows_shape (rows_below h hW0)
  injection hv0 with e1 e2 e3
  subst e1; subst e3
  obtain ⟨_, _, hat0⟩ := At.of_own h4 h5 (by rw [HL.out]; omega)
  have HC := Lib.hid (concat_rx A c n m ll b _ hat0 HL HM (by simp; omega) h1 h2 h3)
  clear h4 h5 hat0 e2
  have HO := Lib.hid (own_five w w.heap.size TNx (.int .u8 k) (.slice none 0 0) (.int .i64 n) (.int .i64 0) (.int .i64 0) (Nat.le_refl _))
  have e0 : ((n : Int) == 0) = false := by simp; omega
  have e1 : ((n : Int) == 1) = false := by simp; omega
  have HB := Lib.hid hb; have HK := Lib.hid hk
  clear h hb hW0 hk
  go_enter Tryz.func76, Tryz.ntmps76
  go_wp2_with fail
  refine HC.out.mono ?_
  rintro e w1 ⟨G, q, d, rfl, hrx, hb1⟩
  have HX := Lib.hid hrx; have HB1 := Lib.hid hb1
  have HW1 := Lib.hid (HW0.out.trans (hb1.mono HW0.out.size))
  have HO1 := Lib.hid (ownsRow_below HO.out hb1)
  have hsz := HW1.out.size
  obtain ⟨_, _, us, hv, ho, hr⟩ := hrx
  injection hv with g1 g2 g3
  subst g1; subst g2; subst g3
  rw [HM.out] at ho HX
  obtain ⟨_, hat⟩ := AtK.of_own ho hr HM.out.symm (by rw [HM.out]; omega)
  obtain ⟨vs, hrv, hsrc⟩ := AtK.src hat (fun _ _ h => h.one)
  rw [HM.out] at hsrc
  have SRA := Lib.hid hsrc; have RV := Lib.hid hrv
  clear hb1 ho hr hat hsrc hrv
  rw [HM.out]
  have Q1 : Hid (1 + m ≤ maxLen) := Lib.hid (by simp only [maxLen]; omega)
  have Q2 : Hid ((1 + m) * 56 ≤ 140737488355328) := Lib.hid (by omega)
  go_wp2_with (first
  | (at_builtin
     go_must (refine wpList_append_src _ rfl (.tmp 20) (.tmp 22) 29 rfl w.heap.size TNx i0 _ 5 56 Tryz.underlying29 hi0 hz0 hs0 hb0 rfl (by decide) (some ⟨w.heap.size, 0, none⟩) 1 1 _ rfl HO1.out G m d _ rfl SRA.out Q1.out Q2.out hsz ?_)
     intro A9 c9 w9 own9 gr9 _
     have HO9 := Lib.hid own9; have HG9 := Lib.hid gr9
     clear own9 gr9))
  go_ret
  refine ⟨_, _, _, rfl, ?_, HW1.out.grown HG9.out hsz (fun g hg => (HO1.out.lt g hg).1)⟩
  have hl : (⟨k, [], n, 0, 0⟩ :: ll.flatten : List Rx).length = 1 + m := by rw [List.length_cons, HM.out]; omega
  have hrel := (rx_node (w' := w9) (b := b) (k := k) (m := n) (x := 0) (y := 0) (OwnK.nil) HK.out (by omega) (by omega) (by omega)).app (RV.out.mono fun f x _ hx => hx.up fun _ _ hs => OwnK.grown hs HO1.out (by decide) HG9.out)
  refine OwnK.lower (base := w.heap.size) ?_ HB.out
  exact ⟨A9, c9, _, by rw [hl], by rw [hl]; exact HO9.out, hrel⟩
/-- Lists of nodes as one. -/
theorem rd_put (k : Int) (v : Value) (B b : Nat) (ll : List (List Rx)) (w : World) (h : OwnRows w B b v ll) (hb : b ≤ w.heap.size) (hl : ∀ p, p ∈ ll → 1 ≤ p.length) (hm : ll.flatten.length ≤ 100000) (hk : 0 ≤ k ∧ k ≤ 255) :
    Calls Tryz.prog 76 #[.int .u8 k, v] w (RxP w b (putB k ll)) := by
  match ll, h, hl, hm with
  | [], h, _, _ =>
    obtain ⟨A, c, us, rfl, _, _⟩ := rows_shape h
    exact rd_put0 k A c b w hb
  | [t], h, _, _ => exact rd_put1 k v B b t w h
  | p :: q :: ll, h, hl, hm =>
    have h1 := hl p (by simp)
    have h2 := hl q (by simp)
    have h3 := flat_ge hl
    have h4 : (p :: q :: ll).length = ll.length + 2 := rfl
    have h5 : (p :: q :: ll).flatten.length = p.length + (q.length + ll.flatten.length) := by rw [List.flatten_cons, List.flatten_cons, List.length_append, List.length_append]
    obtain ⟨A, c, us, rfl, _, _⟩ := rows_shape h
    exact rd_put2 k A c _ _ B b _ w h (Lib.hid rfl) (Lib.hid rfl) hb (by omega) (by omega) hm (by omega) hk
end Go.Proofs.YtilhicefhhgecaaGreatDoor
