/- THE LAW TongueNames, walked (printed by genl8d.py). PUT1 -/
import Derived.Test.YtcmmmgblkbbdnaaGreatDoorL8bh
import Derived.Test.YtcmmmgblkbbdnaaGreatDoorL9fh
import Derived.Test.YtcmmmgblkbbdnaaGreatDoorTi0h
namespace Pv
open Go Go.RowKit
theorem sp97 {pts : List Int} {i j : Nat} : spT pts (chX 97) i j ↔ pts[i]? = some 97 ∧ j = i + 1 := by
  unfold chX
  rw [spT]
  simp only [InSet]
  constructor
  · rintro ⟨p, h1, ⟨k, x, h2, h3, h4⟩, h5⟩
    obtain rfl | ⟨k, rfl⟩ : k = 0 ∨ ∃ m, k = m + 1 := by
      cases k with
      | zero => exact .inl rfl
      | succ m => exact .inr ⟨m, rfl⟩
    · simp at h2
      subst h2
      simp only at h3 h4
      have : p = 97 := by omega
      subst this
      exact ⟨h1, h5⟩
    · simp at h2
  · rintro ⟨h1, h5⟩
    exact ⟨97, h1, ⟨0, _, rfl, by simp, by simp⟩, h5⟩
theorem sp6 {pts : List Int} {j : Nat} : spT pts t6 0 j ↔ ∃ k, Pw (spHd pts [chX 97]) k 0 j := by
  unfold t6 reX
  rw [spT]
  simp [Ag]
theorem pw6 {pts : List Int} : ∀ {k j : Nat}, Pw (spHd pts [chX 97]) k 0 j → j = k ∧ ∀ m, m < k → pts[m]? = some 97
  | 0, j, h => by simp only [Pw] at h; exact ⟨h.symm, fun m hm => by omega⟩
  | k + 1, j, ⟨m, h1, h2⟩ => by
    obtain ⟨rfl, h3⟩ := pw6 h1
    simp only [spHd] at h2
    obtain ⟨h4, rfl⟩ := sp97.1 h2
    exact ⟨rfl, fun q hq => by
      rcases (show q < m ∨ q = m by omega) with h | rfl
      · exact h3 q h
      · exact h4⟩
theorem wp6 {pts : List Int} : ∀ {k : Nat}, (∀ m, m < k → pts[m]? = some 97) → Pw (spHd pts [chX 97]) k 0 k
  | 0, _ => rfl
  | k + 1, h => ⟨k, wp6 fun m hm => h m (by omega), by simp only [spHd]; exact sp97.2 ⟨h k (by omega), rfl⟩⟩
theorem sp6is {pts : List Int} {j : Nat} : spT pts t6 0 j ↔ ∀ m, m < j → pts[m]? = some 97 := by
  rw [sp6]
  constructor
  · rintro ⟨k, h⟩
    obtain ⟨rfl, h⟩ := pw6 h
    exact h
  · exact fun h => ⟨j, wp6 h⟩
theorem ends6 {r : List Int × Int} (h : BEnds t6.flat [97, 97, 98] 0 r) : r = ([0, 1, 2], 0) := by
  rcases h with ⟨h1, rfl⟩ | ⟨h1, h2, rfl⟩ | ⟨h1, h2, h3, rfl⟩ | ⟨h1, h2, T, b, hb, h3, hT, hf, rfl⟩
  · exact absurd tells6.known.pat h1
  · simp at h2
  · simp at h3
  · obtain rfl : b = 0 := by omega
    obtain rfl := flat_inj tells6.known.ok hT hf
    congr 1
    show upTo _ 4 = _
    rw [upTo_no, upTo_yes, upTo_yes, upTo_yes]
    · simp [upTo]
    · exact sp6is.2 fun m hm => by omega
    · exact sp6is.2 fun m hm => by
        obtain rfl : m = 0 := by omega
        rfl
    · exact sp6is.2 fun m hm => by
        rcases (show m = 0 ∨ m = 1 by omega) with rfl | rfl <;> rfl
    · intro h
      have := sp6is.1 h 2 (by omega)
      simp at this
theorem ends6e {r : List Int × Int} (h : BEnds t6.flat [] 1 r) : r = ([], 2) := by
  rcases h with ⟨h1, rfl⟩ | ⟨h1, h2, rfl⟩ | ⟨h1, h2, h3, rfl⟩ | ⟨h1, h2, T, b, hb, h3, hT, hf, rfl⟩
  · exact absurd tells6.known.pat h1
  · simp at h2
  · rfl
  · simp at h3; omega
theorem in6 {l : List Int} (hl : 1024 < l.length) {r : Bool × Int} (h : BIn t6.flat l r) : r = (false, 4) := by
  rcases h with ⟨h1, rfl⟩ | ⟨h1, h2, rfl⟩ | ⟨h1, h2, T, hT, hf, rfl⟩
  · exact absurd tells6.known.pat h1
  · rfl
  · omega
theorem made_zero (n : Nat) : (madeCells #[.int .i64 0] n).toList = List.replicate n (.int .i64 0) := by
  apply List.ext_getElem?
  intro i
  by_cases h : i < n
  · simp [madeCells, h, Nat.mod_one]
  · simp [madeCells, h]
theorem rel_zero (n : Nat) : Rel RI (List.replicate n (.int .i64 0)) (List.replicate n 0) := ⟨by simp, fun i u x hu hx => by
  simp only [List.getElem?_replicate] at hu hx
  split at hu <;> simp at hu hx
  subst hu; 
  obtain ⟨_, rfl⟩ := hx
  exact ⟨rfl, by omega, by omega⟩⟩
end Pv
namespace Go.Proofs.YtcmmmgblkbbdnaaGreatDoor
open Go.RowKit Pv
set_option maxHeartbeats 4000000 in
set_option maxRecDepth 100000 in
theorem law_TongueNames (w : World) (B : Nat) (hT : TabU B w) (hB : B ≤ w.heap.size) : Calls Tryz.prog 3 #[] w fun e w' => e = .returned (.bool true) ∧ Below w.heap.size w w' := by
  have H1 := Lib.hid (fun (w' : World) (hb : Below w.heap.size w w') => law8_in ⟨#[97, 123, 50, 44, 51, 125]⟩ ⟨#[97, 97]⟩ t2 true w' B tells2 (by decide +kernel) (by decide) (hT.then hb hB) (Nat.le_trans hB hb.size))
  have H2 := Lib.hid (fun (w' : World) (hb : Below w.heap.size w w') => law8_in ⟨#[97, 123, 50, 44, 51, 125]⟩ ⟨#[97, 97, 97]⟩ t2 true w' B tells2 (by decide +kernel) (by decide) (hT.then hb hB) (Nat.le_trans hB hb.size))
  have H3 := Lib.hid (fun (w' : World) (hb : Below w.heap.size w w') => law8_out ⟨#[97, 123, 50, 44, 51, 125]⟩ ⟨#[97]⟩ t2 false w' B tells2 (by decide +kernel) (by decide) (hT.then hb hB) (Nat.le_trans hB hb.size))
  have H4 := Lib.hid (fun (w' : World) (hb : Below w.heap.size w w') => law8_out ⟨#[97, 123, 50, 44, 51, 125]⟩ ⟨#[97, 97, 97, 97]⟩ t2 false w' B tells2 (by decide +kernel) (by decide) (hT.then hb hB) (Nat.le_trans hB hb.size))
  have H5 := Lib.hid (fun (w' : World) (hb : Below w.heap.size w w') => law8_in ⟨#[40, 41, 42]⟩ ⟨#[]⟩ t3 true w' B tells3 (by decide +kernel) (by decide) (hT.then hb hB) (Nat.le_trans hB hb.size))
  have H6 := Lib.hid (fun (w' : World) (hb : Below w.heap.size w w') => law8_out ⟨#[40, 41, 42]⟩ ⟨#[97]⟩ t3 false w' B tells3 (by decide +kernel) (by decide) (hT.then hb hB) (Nat.le_trans hB hb.size))
  have H7 := Lib.hid (fun (w' : World) (hb : Below w.heap.size w w') => law8_out ⟨#[91, 93]⟩ ⟨#[]⟩ noX false w' B tells4 (by decide +kernel) (by decide) (hT.then hb hB) (Nat.le_trans hB hb.size))
  have H8 := Lib.hid (fun (w' : World) (hb : Below w.heap.size w w') => law8_out ⟨#[91, 93]⟩ ⟨#[97]⟩ noX false w' B tells4 (by decide +kernel) (by decide) (hT.then hb hB) (Nat.le_trans hB hb.size))
  have H9 := Lib.hid (fun (w' : World) (hb : Below w.heap.size w w') => law8_in ⟨#[91, 93, 42]⟩ ⟨#[]⟩ t5 true w' B tells5 (by decide +kernel) (by decide) (hT.then hb hB) (Nat.le_trans hB hb.size))
  have HP := Lib.hid (fun (w' : World) (hb : Below w.heap.size w w') => pattern_Parse ⟨#[97, 42]⟩ t6 w' B tells6 tells6.plain (hT.then hb hB) (Nat.le_trans hB hb.size))
  have HPS := Lib.hid (fun W => law8_points ⟨#[97, 97, 98]⟩ W (by decide))
  have HAL := Lib.hid (fun (w' : World) (hb : Below w.heap.size w w') => law8_alive w' B (hT.then hb hB) (Nat.le_trans hB hb.size))
  have hmk : ∀ W : World, (Instr.makeSlice 27 (.int .i64 1025) (.int .i64 1025)).run Tryz.prog W = .ok (.slice (some ⟨W.heap.size, 0, none⟩) 1025 1025) (W.alloc (.cells (madeCells #[.int .i64 0] 1025) 3)) := fun W => by
    have := run_make_row' (P := Tryz.prog) 27 3 (.int .i64 0) 8 Tryz.underlying27 info_int9 rfl .i64 .i64 1025 (by omega) (by omega) W
    simpa only [Int.cast_ofNat_Int] using this
  have HB0 := Lib.hid (Below.refl w.heap.size w)
  obtain ⟨nt, hnt⟩ : ∃ nt, t6.flat.length = nt := ⟨_, rfl⟩
  have HN := Lib.hid hnt
  have hn : nt ≤ 64 := by rw [← hnt]; exact tells6.known.size
  clear hT hB hnt
  go_enter Tryz.func3, Tryz.ntmps3
  go_wp2_with fail
  refine (H1.out _ HB0.out).mono ?_
  rintro e w1 ⟨rfl, k⟩
  have HB1 := Lib.hid (HB0.out.trans (k.mono HB0.out.size))
  clear k
  go_wp2_with fail
  refine (H2.out _ HB1.out).mono ?_
  rintro e w2 ⟨rfl, k⟩
  have HB2 := Lib.hid (HB1.out.trans (k.mono HB1.out.size))
  clear k
  go_wp2_with fail
  refine (H3.out _ HB2.out).mono ?_
  rintro e w3 ⟨rfl, k⟩
  have HB3 := Lib.hid (HB2.out.trans (k.mono HB2.out.size))
  clear k
  go_wp2_with fail
  refine (H4.out _ HB3.out).mono ?_
  rintro e w4 ⟨rfl, k⟩
  have HB4 := Lib.hid (HB3.out.trans (k.mono HB3.out.size))
  clear k
  go_wp2_with fail
  refine (H5.out _ HB4.out).mono ?_
  rintro e w5 ⟨rfl, k⟩
  have HB5 := Lib.hid (HB4.out.trans (k.mono HB4.out.size))
  clear k
  go_wp2_with fail
  refine (H6.out _ HB5.out).mono ?_
  rintro e w6 ⟨rfl, k⟩
  have HB6 := Lib.hid (HB5.out.trans (k.mono HB5.out.size))
  clear k
  go_wp2_with fail
  refine (H7.out _ HB6.out).mono ?_
  rintro e w7 ⟨rfl, k⟩
  have HB7 := Lib.hid (HB6.out.trans (k.mono HB6.out.size))
  clear k
  go_wp2_with fail
  refine (H8.out _ HB7.out).mono ?_
  rintro e w8 ⟨rfl, k⟩
  have HB8 := Lib.hid (HB7.out.trans (k.mono HB7.out.size))
  clear k
  go_wp2_with fail
  refine (H9.out _ HB8.out).mono ?_
  rintro e w9 ⟨rfl, k⟩
  have HB9 := Lib.hid (HB8.out.trans (k.mono HB8.out.size))
  clear k
  go_wp2_with fail
  refine (HP.out _ HB9.out).mono ?_
  rintro e w10 ⟨A, c, rfl, k1, k2⟩
  have HB10 := Lib.hid (HB9.out.trans (k2.mono HB9.out.size))
  have HAT := Lib.hid (rx_at k1 (by rw [HN.out]; omega) tells6.sets)
  rw [HN.out]
  clear k1 k2
  go_wp2_with fail
  refine (HPS.out _).mono ?_
  rintro e w11 ⟨A2, c2, rfl, k3, k4⟩
  have HB11 := Lib.hid (HB10.out.trans (k4.mono HB10.out.size))
  have HAT11 := Lib.hid (HAT.out.keep (Keep.of k4))
  have HE := Lib.hid (tongue_Ends A nt c t6.flat A2 3 c2 [97, 97, 98] 0 w11 HAT11.out HN k3 (Lib.hid rfl) (.inl (by omega)))
  clear k3 k4
  go_wp2_with fail
  refine HE.out.mono ?_
  rintro e w12 ⟨r, hr, hb, LA, lc, rfl, own⟩
  have HLA := Lib.hid (IntsPost.at' hr own)
  obtain rfl := ends6 hr
  have HB12 := Lib.hid (HB11.out.trans (hb.mono HB11.out.size))
  have HAT12 := Lib.hid (HAT11.out.keep (Keep.of hb))
  have HE2 := Lib.hid (tongue_Ends A nt c t6.flat none 0 0 [] 1 w12 HAT12.out HN At.nil (Lib.hid rfl) (.inl (by omega)))
  clear hr hb own
  go_wp2_with fail
  refine HE2.out.mono ?_
  rintro e w13 ⟨r, hr, hb, LA2, lc2, rfl, own⟩
  obtain rfl := ends6e hr
  have HB13 := Lib.hid (HB12.out.trans (hb.mono HB12.out.size))
  have HAT13 := Lib.hid (HAT12.out.keep (Keep.of hb))
  have HLA13 := Lib.hid (HLA.out.keep (Keep.of hb))
  have b14 : Below w13.heap.size w13 (w13.alloc (.cells (madeCells #[.int .i64 0] 1025) 3)) := (Below.refl _ _).alloc (Nat.le_refl _) _
  have HI := Lib.hid (tongue_In A nt c t6.flat (some ⟨w13.heap.size, 0, none⟩) 1025 1025 (List.replicate 1025 0) (w13.alloc (.cells (madeCells #[.int .i64 0] 1025) 3)) (HAT13.out.keep (Keep.of b14)) HN (At.ofBlk (Blk.new _ _ _) (by rw [made_zero]; exact rel_zero 1025) (by simp)) (Lib.hid (by simp)) (.inr (by omega)))
  have HB14 := Lib.hid (HB13.out.trans (b14.mono HB13.out.size))
  have HLA14 := Lib.hid (HLA13.out.keep (Keep.of b14))
  clear hr hb own b14
  go_wp2_with fail
  refine HI.out.mono ?_
  rintro e w15 ⟨k5, r, k6, rfl⟩
  obtain rfl := in6 (by simp) k6
  have HB15 := Lib.hid (HB14.out.trans (k5.mono HB14.out.size))
  have HLA15 := Lib.hid (HLA14.out.keep (Keep.of k5))
  clear k5 k6
  go_wp2_with fail
  refine (HAL.out _ HB15.out).mono ?_
  rintro e w16 ⟨rfl, k⟩
  have HB16 := Lib.hid (HB15.out.trans (k.mono HB15.out.size))
  have HLA16 := Lib.hid (HLA15.out.keep (Keep.of k))
  clear k
  obtain ⟨b0, o0, u0, x0, rfl, hb0, c0, ⟨hu0, _, _⟩, HX0⟩ := HLA16.out.gt (k := 0) (n := 3) (Lib.hid rfl) (by omega)
  obtain ⟨u1, x1, hb1, c1, ⟨hu1, _, _⟩, HX1⟩ := HLA16.out.gt2 (k := 1) (n := 3) (Lib.hid rfl) (by omega)
  obtain ⟨u2, x2, hb2, c2', ⟨hu2, _, _⟩, HX2⟩ := HLA16.out.gt2 (k := 2) (n := 3) (Lib.hid rfl) (by omega)
  obtain rfl : x0 = 0 := by have := HX0.out; simp at this; exact this.symm
  obtain rfl : x1 = 1 := by have := HX1.out; simp at this; exact this.symm
  obtain rfl : x2 = 2 := by have := HX2.out; simp at this; exact this.symm
  subst hu0; subst hu1; subst hu2
  rw [Nat.add_zero] at c0
  go_wp2
  go_ret
  exact ⟨rfl, HB16.out⟩
end Go.Proofs.YtcmmmgblkbbdnaaGreatDoor
