/- Walks: the document's place behind a node, and whether nodes are a pattern. -/
import Derived.Test.YtjnjbcigbnjmkaaGreatPby
namespace Go.Proofs.YtjnjbcigbnjmkaaGreat
open Go.RowKit Pv

theorem kindcases {k : Int} (h : 0 ≤ k) : k = 0 ∨ k = 1 ∨ k = 2 ∨ k = 3 ∨ k = 4 ∨ 4 < k := by omega
/-- One node, whatever kind. -/
theorem ref07_one (B : Option Addr) (k many least most : Int) (c m : Nat) (l : List Rng) (w : World) (hs : AtSet w B l) (HM : Hid (l.length = m)) (hk : 0 ≤ k) :
    Calls Tryz.prog 41 #[.agg #[.int .u8 k, .slice B m c, .int .i64 many, .int .i64 least, .int .i64 most]] w fun e w' => e = .returned (.bool (Rx.oneB ⟨k, l, many, least, most⟩)) ∧ Below w.heap.size w w' := by
  have := oneC_eq ⟨k, l, many, least, most⟩
  rw [← this]; simp only [HM.out]
  rcases kindcases hk with rfl | rfl | rfl | rfl | rfl | h
  · exact ref07_one0 B many least most c m l w hs HM
  · exact ref07_one1 B many least most c m l w hs HM
  · exact ref07_one2 B many least most c m l w hs HM
  · exact ref07_one3 B many least most c m l w hs HM
  · exact ref07_one4 B many least most c m l w hs HM
  · exact ref07_one5 B k many least most c m l w hs HM (Lib.hid h)

def deepB (k : Int) : Bool := k == 2 || k == 3 || k == 4
theorem ref07_deeper (k : Int) (w : World) : Calls Tryz.prog 42 #[.int .u8 k] w fun e w' => e = .returned (.bool (deepB k)) ∧ w = w' := by
  rcases Bool.eq_false_or_eq_true (k == 2) with t2 | t2
  · go_enter Tryz.func42, Tryz.ntmps42
    go_wp2
    go_ret
    exact ⟨ret_bool (by simp [deepB, t2]), rfl⟩
  rcases Bool.eq_false_or_eq_true (k == 3) with t3 | t3
  · go_enter Tryz.func42, Tryz.ntmps42
    go_wp2
    go_ret
    exact ⟨ret_bool (by simp [deepB, t2, t3]), rfl⟩
  go_enter Tryz.func42, Tryz.ntmps42
  go_wp2
  go_ret
  exact ⟨ret_bool (by simp [deepB, t2, t3]), rfl⟩
theorem deepB_iff {x : Rx} (h : x.oneB = true) : deepB x.kind = decide (1 < x.kind) := by
  have h := Rx.One.of h
  rcases h with ⟨h, _⟩ | ⟨h, _⟩ | ⟨h | h, _⟩ | ⟨h, _⟩ <;> simp [deepB, h]

set_option maxHeartbeats 2000000 in
set_option maxRecDepth 100000 in
theorem ref07_Behind (A : Option Addr) (c n : Nat) (t : List Rx) (w0 : World) (h0 : AtRx w0 A t) (HL : Hid (t.length = n)) : ∀ (d : Nat), d ≤ 16 → ∀ (i : Nat) (w : World), Keep w0 w → i ≤ n →
    Calls Tryz.prog 15 #[.slice A n c, .int .i64 i, .int .i64 d] w fun e w' => e = .returned (.int .i64 (bR (behind t d i))) ∧ Below w.heap.size w w' := by
  intro d
  refine Nat.strongRecOn d ?_
  clear d
  intro d ih hd i w kp hi
  have hl : n ≤ 140737488355328 := by have := h0.1; rwa [HL.out] at this
  by_cases hin : i < n
  case neg =>
    have HN := Lib.hid (show bR (behind t d i) = -1 by rw [behind_none (by rw [List.getElem?_eq_none]; rw [HL.out]; omega)]; rfl)
    clear h0 ih
    go_enter Tryz.func15, Tryz.ntmps15
    go_wp2
    go_ret
    exact ⟨ret_int HN.out.symm, (by repeat (first | exact Below.refl _ _ | exact (Below.refl _ _).alloc (Nat.le_refl _) _ | apply below_drewN))⟩
  obtain ⟨b, off, k, B, cs, m, l, many, least, most, rfl, H5, hs, HM, hm, ⟨hk0, hk1⟩, ⟨hm0, hm1⟩, _, _, HX⟩ := h0.g5 HL hin
  have HS := Lib.hid hs
  have H1 := Lib.hid (fun (bb : Bool) (e : Rx.oneB ⟨k, l, many, least, most⟩ = bb) (W : World) (kp : Keep w0 W) => show Calls Tryz.prog 41 #[.agg #[.int .u8 k, .slice B m cs, .int .i64 many, .int .i64 least, .int .i64 most]] W fun e w' => e = .returned (.bool bb) ∧ Below W.heap.size W w' from e ▸ ref07_one B k many least most cs m l W (HS.out.keep kp) HM hk0)
  have HD := Lib.hid (fun (bb : Bool) (e : deepB k = bb) (W : World) => show Calls Tryz.prog 42 #[.int .u8 k] W fun e w' => e = .returned (.bool bb) ∧ W = w' from e ▸ ref07_deeper k W)
  have H5' := Lib.hid (H5.next kp)
  have ⟨y0, y1, y2, y3, y4, y5⟩ := H5.next kp
  have HIH := Lib.hid ih
  have HKP := Lib.hid kp
  clear hs H5 h0 ih kp
  have F5 := fun (w1 : World) (hb : Below w.heap.size w w1) => C5.next H5'.out (Keep.of hb)
  rcases Bool.eq_false_or_eq_true (Rx.oneB ⟨k, l, many, least, most⟩) with hone | hone
  case inr =>
    have HO := Lib.hid hone
    have HN := Lib.hid (show bR (behind t d i) = -1 by rw [behind_bad HX.out hone]; rfl)
    clear hone
    go_enter Tryz.func15, Tryz.ntmps15
    go_wp2_with (go_at_call 41; refine (H1.out false HO.out _ HKP.out).mono ?_; rintro e w1 ⟨rfl, hb1⟩)
    go_ret
    exact ⟨ret_int HN.out.symm, hb1⟩
  have HO := Lib.hid hone
  have HDB := Lib.hid (show deepB k = decide (1 < k) from deepB_iff hone)
  have HMA := Lib.hid (show 0 ≤ many from (Rx.One.of hone).many)
  clear hone
  by_cases hdeep : 1 < k ∧ d = 0
  · obtain ⟨hk2, rfl⟩ := hdeep
    have HN := Lib.hid (show bR (behind t 0 i) = -1 by rw [behind_deep HX.out hk2]; rfl)
    have HDT := Lib.hid (show deepB k = true by rw [HDB.out]; exact decide_eq_true hk2)
    go_enter Tryz.func15, Tryz.ntmps15
    go_wp2_with (first
      | (go_at_call 41; refine (H1.out true HO.out _ HKP.out).mono ?_; rintro e w1 ⟨rfl, hb1⟩; obtain ⟨z0, z1, z2, z3, z4, z5⟩ := F5 w1 hb1)
      | (go_at_call 42; refine (HD.out true HDT.out _).mono ?_; rintro e w2 ⟨rfl, rfl⟩))
    go_ret
    exact ⟨ret_int HN.out.symm, hb1⟩
  have HDP := Lib.hid (show 1 < k → 0 < d from fun h => by omega)
  have HALL := Lib.hid (behind_all HX.out HO.out d HDP.out)
  have hmany : 0 ≤ many := HMA.out
  obtain ⟨bb, hbb⟩ : ∃ bb, deepB k = bb := ⟨_, rfl⟩
  have HBB := Lib.hid hbb
  have hdz : bb = true → ((d : Int) == 0) = false := by
    rintro rfl
    rw [HDB.out] at hbb
    have := HDP.out (of_decide_eq_true hbb)
    simp; omega
  clear hbb hdeep
  have hdi : decide ((i : Int) < 0) = false := decide_eq_false (by omega)
  have hdn : decide (n ≤ i) = false := decide_eq_false (by omega)
  cases bb
  case' true => have hdz' := hdz rfl
  all_goals
    clear hdz
    go_enter Tryz.func15, Tryz.ntmps15
    go_wp2_with (first
      | (go_at_call 41; refine (H1.out true HO.out _ HKP.out).mono ?_; rintro e w1 ⟨rfl, hb1⟩; obtain ⟨z0, z1, z2, z3, z4, z5⟩ := F5 w1 hb1)
      | (go_at_call 42; refine (HD.out _ HBB.out _).mono ?_; rintro e w2 ⟨rfl, rfl⟩))
    have HB1 := Lib.hid hb1
    clear hb1
    go_loopw [1, 8] (fun at' j wr => ∃ q : Nat, j = .int .i64 q ∧ (q : Int) ≤ many ∧ at' = .int .i64 (bR (again (behind t (d - 1)) q (i + 1))) ∧ Below w.heap.size w wr) (fun _ j _ => (many - intOf j).toNat)
    case atStart => exact ⟨0, rfl, by omega, rfl, HB1.out⟩
    case round =>
      clear z0 z1 z2 z3 z4 z5 y0 y1 y2 y3 y4 y5
      obtain ⟨q, rfl, hq, rfl, hbel⟩ := hrel
      have HB := Lib.hid hbel
      clear hbel
      by_cases hlt : (q : Int) < many
      · cases ha : again (behind t (d - 1)) q (i + 1) with
        | none =>
          have HN := Lib.hid (show bR (behind t d i) = -1 by rw [HALL.out]; rw [again_more ha _ (by omega)]; rfl)
          simp only [bR_none]
          clear ha
          go_wp2
          go_ret
          exact ⟨ret_int HN.out.symm, HB.out⟩
        | some e =>
          have hen : e ≤ n := by have := again_in (t := t) (d := d - 1) ha (by rw [HL.out]; omega); rwa [HL.out] at this
          have hdp : 0 < d := by
            rcases Nat.eq_zero_or_pos d with h0 | h0
            · have hk' : ¬ 1 < k := fun h => by have := HDP.out h; omega
              have := Rx.many0 (Rx.One.of HO.out) (by simp only; omega)
              simp only at this
              omega
            · exact h0
          have HA := Lib.hid (show again (behind t (d - 1)) (q + 1) (i + 1) = behind t (d - 1) e by rw [again_snoc, ha]; rfl)
          have HC := Lib.hid (fun (W : World) (kp : Keep w0 W) => HIH.out (d - 1) (by omega) (by omega) e W kp hen)
          have hdc : (d : Int) - 1 = ((d - 1 : Nat) : Int) := by omega
          simp only [bR_some]
          clear ha
          go_wp2_with (go_at_call 15; refine (HC.out _ (HKP.out.trans (Keep.of HB.out))).mono ?_; rintro e w2 ⟨rfl, hb2⟩)
          go_roundw
          case rel => exact ⟨q + 1, by go_num, by omega, by rw [HA.out], HB.out.trans (hb2.mono HB.out.size)⟩
          case measure => simp [intOf]; omega
      · have hqm : many.toNat = q := by omega
        have HN := Lib.hid (show bR (behind t d i) = bR (again (behind t (d - 1)) q (i + 1)) by rw [HALL.out]; show bR (again _ many.toNat _) = _; rw [hqm])
        generalize bR (again (behind t (d - 1)) q (i + 1)) = r at *
        go_wp2
        go_ret
        exact ⟨ret_int HN.out.symm, HB.out⟩

end Go.Proofs.YtjnjbcigbnjmkaaGreat
