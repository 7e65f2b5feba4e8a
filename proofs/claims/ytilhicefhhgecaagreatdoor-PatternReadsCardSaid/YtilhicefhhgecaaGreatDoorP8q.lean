/- Walks: slices.Grow and Concat at ranges (printed from Rg). PUT1 -/
import Derived.Test.YtilhicefhhgecaaGreatDoorRhq
import Derived.Test.YtilhicefhhgecaaGreatDoorSlq
namespace Go.Proofs.YtilhicefhhgecaaGreatDoor
open Go.RowKit Go.Shelf Pv
theorem grow_rg (n : Nat) (w : World) (h0 : 0 < n) (hn : n ≤ 100000) : Calls Tryz.prog 238 #[.slice none 0 0, .int .i64 n] w fun e w' => ∃ c, e = .returned (.slice (some ⟨w.heap.size, 0, none⟩) 0 c) ∧ w'.ownsRow w.heap.size TRg 2 (.slice (some ⟨w.heap.size, 0, none⟩) 0 c) 0 [] ∧ Below w.heap.size w w' := by
  obtain ⟨i0, hi0, hz0, hs0, hb0⟩ := info_parts info_range
  refine (Any8.slices_Grow_grow Tryz.growR i0 _ hi0 hz0 (by omega) none 0 0 n [] w (Nat.le_refl _) (by omega) (by rw [hb0]; omega) (by omega) (by simp) (fun _ => rfl) (fun a h => by cases h)).mono ?_
  rintro e w' ⟨rfl, rfl⟩
  have hcap : n ≤ grownCap w (0 + n) 0 (Tryz.growR_ren.t 25) := by have := grownCap_ge w (0 + n) 0 (Tryz.growR_ren.t 25); omega
  have hmax : grownCap w (0 + n) 0 (Tryz.growR_ren.t 25) ≤ maxLen := grownCap_le_maxLen w (0 + n) 0 _ (by unfold maxLen; omega)
  refine ⟨_, rfl, ⟨by simp, .inr ⟨w.heap.size, _, _, rfl, Nat.le_refl _, heap_alloc_new _ _, Nat.zero_le _, hmax, ?_, by simp⟩⟩, ((Below.refl _ w).drew).alloc (Nat.le_refl _) _⟩
  simp only [Nat.zero_add] at hcap ⊢
  simp [size_zeroCells, Value.cells]
  omega

set_option maxHeartbeats 4000000 in
set_option maxRecDepth 100000 in
theorem concat_rg (A : Option Addr) (c n m : Nat) (ll : List (List Rng)) (b : Nat) (w : World) (h : At w A (fun u t => OwnSet w b u t) ll) (HL : Hid (ll.length = n)) (HM : Hid (ll.flatten.length = m)) (hb : b ≤ w.heap.size) (h1 : 1 ≤ m) (h2 : m ≤ 100000) (h3 : n ≤ 100000) :
    Calls Tryz.prog 221 #[.slice A n c] w fun e w' => ∃ G k d, e = .returned (.slice G k d) ∧ OwnSet w' b (.slice G k d) ll.flatten ∧ Below w.heap.size w w' := by
  obtain ⟨i0, hi0, hz0, hs0, hb0⟩ := info_parts info_range
  have HA := Lib.hid h
  have HG := Lib.hid (grow_rg m w (by omega) (by omega))
  have HB := Lib.hid hb
  clear h hb
  go_enter Tryz.func221, Tryz.ntmps221
  go_wp2
  go_loop [11, 3] (fun iv sv => ∃ k s : Nat, iv = .int .i64 k ∧ sv = .int .i64 s ∧ k ≤ n ∧ s ≤ m ∧ Hid ((ll.take k).flatten.length = s)) (fun iv _ => n - (intOf iv).toNat)
  case atStart => exact ⟨0, 0, rfl, rfl, by omega, by omega, Lib.hid (by simp)⟩
  case round =>
    obtain ⟨k, s, rfl, rfl, hk, hs, HS⟩ := hrel
    by_cases hlt : k < n
    · obtain ⟨g, off, u, x, rfl, hg, c1, hR, HX⟩ := HA.out.gt HL hlt
      obtain ⟨A', c', us', rfl, _, _⟩ := hR
      have hT : Hid ((ll.take (k + 1)).flatten.length = s + x.length) := Lib.hid (by rw [take_flat HX.out, List.length_append, HS.out])
      have hle : s + x.length ≤ m := by have := take_flat_le ll (k + 1); rw [hT.out, HM.out] at this; exact this
      obtain ⟨p, hp⟩ : ∃ p, x.length = p := ⟨_, rfl⟩
      rw [hp] at c1 hT hle
      clear hp
      have g1 : (0 : Int) ≤ (s : Int) + (p : Int) := by omega
      go_wp2
      go_round
      case rel => exact ⟨k + 1, s + p, by go_num, by go_num, by omega, by omega, hT⟩
      case measure => simp [intOf]; omega
    · obtain rfl : k = n := by omega
      have hs2 : Hid (s = m) := Lib.hid (by rw [← HS.out, ← HM.out, List.take_of_length_le (by rw [HL.out]; exact Nat.le_refl _)])
      rw [hs2.out]
      clear HS hs2 hs
      go_wp2_with fail
      refine HG.out.mono ?_
      rintro e w1 ⟨c0, rfl, own0, hb1⟩
      have HO0 := Lib.hid own0; have HB1 := Lib.hid hb1
      clear own0 hb1
      go_wp2
      go_loopw [27, 6] (fun iv ov W => ∃ (i q rc : Nat) (R : Option Addr) (us : List Value), iv = .int .i64 i ∧ ov = .slice R q rc ∧ i ≤ k ∧ q ≤ m ∧ Hid ((ll.take i).flatten.length = q) ∧ Hid (W.ownsRow w.heap.size TRg 2 (.slice R q rc) q us) ∧ Hid (RelK 2 RRng us (ll.take i).flatten) ∧ Hid (Below w.heap.size w W)) (fun iv _ _ => k - (intOf iv).toNat)
      case atStart => exact ⟨0, 0, c0, _, [], rfl, rfl, by omega, by omega, Lib.hid (by simp), HO0, Lib.hid (by simpa using RelK.nil), HB1⟩
      case round =>
        clear HO0 HB1
        obtain ⟨i, q, rc, R, us, rfl, rfl, hi, hq, HQ, HO, HR, HW⟩ := hrel
        have hW := HW.out.size
        by_cases hlt : i < k
        · obtain ⟨g, off, u, x, rfl, hg, c1, hR, HX⟩ := HA.out.gt HL hlt
          have hT : Hid ((ll.take (i + 1)).flatten.length = q + x.length) := Lib.hid (by rw [take_flat HX.out, List.length_append, HQ.out])
          have hle : q + x.length ≤ m := by have := take_flat_le ll (i + 1); rw [hT.out, HM.out] at this; exact this
          have hle2 : x.length ≤ 100000 := by omega
          obtain ⟨A', c', us0, rfl, ho, hr⟩ := hR
          obtain ⟨_, hat⟩ := AtK.of_own ho hr rfl (by omega)
          obtain ⟨vs, hrv, hsrc⟩ := AtK.src (hat.keep (Keep.of HW.out)) (fun f x h j hj => by match j, hj with | 0, _ => exact RI.one h.1 | 1, _ => exact RI.one h.2)
          have c2 := ((Keep.of HW.out).cell _ _ hg).trans c1
          have hgw := World.block_lt_of_cell? _ _ c2
          have SRA := Lib.hid hsrc
          have RV := Lib.hid hrv
          have Q1 : Hid (q + x.length ≤ maxLen) := Lib.hid (by simp only [maxLen]; omega)
          have Q2 : Hid ((q + x.length) * 16 ≤ 140737488355328) := Lib.hid (by omega)
          clear hsrc hrv ho hr hat c1
          obtain ⟨p, hp⟩ : ∃ p, x.length = p := ⟨_, rfl⟩
          rw [hp] at c2 hT hle hle2 Q1 Q2 SRA
          clear hp
          go_wp2_with (first
          | (at_builtin
             go_must (refine wpList_append_src _ rfl (.tmp 31) (.tmp 32) 50 rfl w.heap.size TRg i0 _ 2 16 Tryz.underlying50 hi0 hz0 hs0 hb0 rfl (by decide) R rc q _ rfl HO.out A' p c' _ rfl SRA.out Q1.out Q2.out hW ?_)
             intro A9 c9 w9 own9 gr9 _
             have HO9 := Lib.hid own9
             have HB9 := Lib.hid (HW.out.grown gr9 hW (fun g hg => (HO.out.lt g hg).1))
             clear own9 gr9))
          go_roundw
          case rel => exact ⟨i + 1, q + p, c9, A9, _, by go_num, rfl, by omega, by omega, hT, HO9, Lib.hid (by rw [take_flat HX.out]; exact HR.out.app RV.out), HB9⟩
          case measure => simp [intOf]; omega
        · obtain rfl : i = k := by omega
          go_wp2
          go_ret
          have e : ll.take i = ll := List.take_of_length_le (by rw [HL.out]; exact Nat.le_refl _)
          have hq2 := HQ.out
          have hr2 := HR.out
          rw [e] at hq2 hr2
          refine ⟨R, q, rc, rfl, ?_, HW.out⟩
          have ho : OwnSet wr w.heap.size (.slice R q rc) ll.flatten := ⟨R, rc, us, by rw [hq2], by rw [hq2]; exact HO.out, hr2⟩
          exact OwnK.lower ho HB.out
end Go.Proofs.YtilhicefhhgecaaGreatDoor
