/- Walks: the program's place behind a node: pattern.behind, Check, End. -/
import Derived.Test.YtjnjbcigbnjmkaaDoorPe
namespace Go.Proofs.YtjnjbcigbnjmkaaDoor
open Go.RowKit Pv

set_option maxHeartbeats 2000000 in
set_option maxRecDepth 100000 in
theorem pattern_behind1 (A : Option Addr) (c n : Nat) (t : List Rx) (w0 : World) (h0 : AtRx w0 A t) (HL : Hid (t.length = n)) (hn : n ≤ 64) (pt pw pe eb : Nat) : ∀ (d : Nat), d ≤ 16 → ∀ (i : Nat) (w : World) (cs : Array Value), i ≤ n → WEnv w0 w pt pw pe eb A n c cs → cs.size = n →
    Calls Tryd.prog 28 #[.int .i64 i, .int .i64 d, .pointer (some ⟨pt, 0, none⟩), .pointer (some ⟨pw, 0, none⟩), .pointer (some ⟨pe, 0, none⟩)] w (WPost t w0 w pt pw pe eb A n c cs i (behind t d i)) := by
  intro d
  refine Nat.strongRecOn d ?_
  clear d
  intro d ih hd i w cs hi hE hcs
  have HE := Lib.hid hE
  have HCS := Lib.hid hcs
  have ⟨_, g1, g2, g3, _, _, _, _, _, _, _, _⟩ := hE
  clear hE hcs
  by_cases hin : i < n
  case neg =>
    have HN := Lib.hid (show behind t d i = none by rw [behind_none (by rw [List.getElem?_eq_none]; rw [HL.out]; omega)])
    have hdn : decide (n ≤ i) = true := decide_eq_true (by omega)
    clear h0 ih
    go_enter Tryd.func28, Tryd.ntmps28
    go_wp2
    go_ret
    exact ⟨cs, by rw [HN.out]; rfl, HE.out, rfl, (fun q h => by rw [HN.out] at h; cases h), World.grownBy.refl _ _⟩
  obtain ⟨b, off, k, B, s, m, l, many, least, most, rfl, H5, hs, HM, hm, ⟨hk0, hk1⟩, ⟨hm0, hm1⟩, _, _, HX⟩ := h0.g5 HL hin
  have HS := Lib.hid hs
  have H1 := Lib.hid (fun (bb : Bool) (e : Rx.oneB ⟨k, l, many, least, most⟩ = bb) (W : World) (kp : Keep w0 W) => show Calls Tryd.prog 29 #[.agg #[.int .u8 k, .slice B m s, .int .i64 many, .int .i64 least, .int .i64 most]] W fun e w' => e = .returned (.bool bb) ∧ Below W.heap.size W w' from e ▸ pattern_one B k many least most s m l W (HS.out.keep kp) HM hk0)
  have H50 := Lib.hid H5
  have ⟨y0, y1, y2, y3, y4, y5⟩ := H5.next HE.out.kp
  have HIH := Lib.hid ih
  clear hs H5 h0 ih
  have F5 := fun (w1 : World) (kp : Keep w0 w1) => C5.next H50.out kp
  have hdn : decide (n ≤ i) = false := decide_eq_false (by omega)
  have hdi : decide ((i : Int) < 0) = false := decide_eq_false (by omega)
  rcases Bool.eq_false_or_eq_true (Rx.oneB ⟨k, l, many, least, most⟩) with hone | hone
  case inr =>
    have HO := Lib.hid hone
    have HN := Lib.hid (show behind t d i = none by rw [behind_bad HX.out hone])
    clear hone
    go_enter Tryd.func28, Tryd.ntmps28
    go_wp2_with (go_at_call 29; refine (H1.out false HO.out _ HE.out.kp).mono ?_; rintro e w1 ⟨rfl, hb1⟩)
    go_ret
    exact ⟨cs, by rw [HN.out]; rfl, HE.out.next hb1, rfl, (fun q h => by rw [HN.out] at h; cases h), grownBy_below hb1⟩
  have HO := Lib.hid hone
  have HMA := Lib.hid (show 0 ≤ many from (Rx.One.of hone).many)
  clear hone
  by_cases hdeep : 1 < k ∧ d = 0
  · obtain ⟨hk2, rfl⟩ := hdeep
    have HN := Lib.hid (show behind t 0 i = none by rw [behind_deep HX.out hk2])
    have hdk : decide (1 < k) = true := decide_eq_true hk2
    go_enter Tryd.func28, Tryd.ntmps28
    go_wp2_with (go_at_call 29; refine (H1.out true HO.out _ HE.out.kp).mono ?_; rintro e w1 ⟨rfl, hb1⟩; obtain ⟨z0, z1, z2, z3, z4, z5⟩ := F5 w1 (HE.out.next hb1).kp; have ⟨_, f1, f2, f3, _, _, _, _, _, _, _, _⟩ := HE.out.next hb1)
    go_ret
    exact ⟨cs, by rw [HN.out]; rfl, HE.out.next hb1, rfl, (fun q h => by rw [HN.out] at h; cases h), grownBy_below hb1⟩
  have HDP := Lib.hid (show 1 < k → 0 < d from fun h => by omega)
  have HALL := Lib.hid (behind_all HX.out HO.out d HDP.out)
  have hmany : 0 ≤ many := HMA.out
  have hdz : 1 < k → ((d : Int) == 0) = false := by
    intro h
    have := HDP.out h
    simp; omega
  clear hdeep
  by_cases hk2 : 1 < k
  case' pos => have hdz' := hdz hk2; have hdk : decide (1 < k) = true := decide_eq_true hk2
  case' neg => have hdk : decide (1 < k) = false := decide_eq_false hk2
  all_goals
    clear hdz hk2
    go_enter Tryd.func28, Tryd.ntmps28
    go_wp2_with (go_at_call 29; refine (H1.out true HO.out _ HE.out.kp).mono ?_; rintro e w1 ⟨rfl, hb1⟩; obtain ⟨z0, z1, z2, z3, z4, z5⟩ := F5 w1 (HE.out.next hb1).kp; have ⟨_, f1, f2, f3, _, _, _, _, _, _, _, _⟩ := HE.out.next hb1)
    have HE1 := Lib.hid (HE.out.next hb1)
    have HG1 := Lib.hid (grownBy_below (r := some eb) hb1)
    clear hb1
    go_loopw [8, 44] (fun at' j wr => ∃ (q e : Nat) (cs' : Array Value), j = .int .i64 q ∧ (q : Int) ≤ many ∧ at' = .int .i64 e ∧ again (behind t (d - 1)) q (i + 1) = some e ∧ i + 1 ≤ e ∧ e ≤ n ∧ WEnv w0 wr pt pw pe eb (some ⟨b, off, none⟩) n c cs' ∧ Fill t cs cs' (i + 1) e ∧ w.grownBy wr (some eb)) (fun _ j _ => (many - intOf j).toNat)
    case atStart => exact ⟨0, i + 1, cs, rfl, by omega, by go_num, rfl, by omega, by omega, HE1.out, Fill.refl _ _ _, HG1.out⟩
    case round =>
      clear z0 z1 z2 z3 z4 z5 y0 y1 y2 y3 y4 y5 f1 f2 f3 g1 g2 g3
      obtain ⟨q, e, cs', rfl, hq, rfl, hag, hie, hen, henv, hfill, hgr⟩ := hrel
      have HA := Lib.hid hag; have HV := Lib.hid henv; have HF := Lib.hid hfill; have HG := Lib.hid hgr
      have ⟨_, f1, f2, f3, _, _, _, _, _, _, _, _⟩ := henv
      clear hag henv hfill hgr
      by_cases hlt : (q : Int) < many
      · have hdp : 0 < d := by
          rcases Nat.eq_zero_or_pos d with h0 | h0
          · have hk' : ¬ 1 < k := fun h => by have := HDP.out h; omega
            have := Rx.many0 (Rx.One.of HO.out) (by simp only; omega)
            simp only at this
            omega
          · exact h0
        have HC := Lib.hid (HIH.out (d - 1) (by omega) (by omega) e wr cs' hen HV.out (by rw [HF.out.1]; exact HCS.out))
        have HA2 := Lib.hid (show again (behind t (d - 1)) (q + 1) (i + 1) = behind t (d - 1) e by rw [again_snoc, HA.out]; rfl)
        have hdc : (d : Int) - 1 = ((d - 1 : Nat) : Int) := by omega
        obtain ⟨o, ho⟩ : ∃ o, behind t (d - 1) e = o := ⟨_, rfl⟩
        rw [ho] at HC HA2
        have HO2 := Lib.hid ho
        clear ho
        cases o with
        | none =>
          have HN := Lib.hid (show behind t d i = none by rw [HALL.out]; exact again_more HA2.out _ (by first | omega | (simp only; omega)))
          go_wp2_with (go_at_call 28; refine HC.out.mono ?_; rintro e w2 ⟨cs2, rfl, env2, hsz2, hfl2, hg2⟩; rw [bR_none])
          go_ret
          exact ⟨cs2, by rw [HN.out]; rfl, env2, by rw [hsz2, HF.out.1], (fun q h => by rw [HN.out] at h; cases h), grownBy_trans HG.out hg2⟩
        | some e2 =>
          have hlt2 := behind_lt HO2.out
          rw [HL.out] at hlt2
          go_wp2_with (go_at_call 28; refine HC.out.mono ?_; rintro e w2 ⟨cs2, rfl, env2, hsz2, hfl2, hg2⟩; rw [bR_some]; have HE2 := Lib.hid env2; have HF2 := Lib.hid (hfl2 _ rfl); have HG2 := Lib.hid hg2; clear env2 hsz2 hfl2 hg2)
          go_roundw
          case rel => exact ⟨q + 1, e2, cs2, by go_num, by omega, rfl, HA2.out, by omega, by omega, HE2.out, HF.out.trans HF2.out hie (by omega), grownBy_trans HG.out HG2.out⟩
          case measure => simp [intOf]; omega
      · have hqm : many.toNat = q := by omega
        have HN := Lib.hid (show behind t d i = some e by rw [HALL.out]; show again _ many.toNat _ = _; rw [hqm]; exact HA.out)
        have hc1 : cs'[i]? = some (cs'[i]'(by rw [HF.out.1, HCS.out]; exact hin)) := Array.getElem?_eq_getElem _
        have q1 := (HV.out.be.cell i).trans hc1
        have q2 := HV.out.be.frozen i
        clear hc1
        go_wp2
        go_ret
        exact ⟨cs'.setIfInBounds i (.int .i64 e), by rw [HN.out]; rfl, HV.out.set i _, by simp [HF.out.1], (fun q h => by
          rw [HN.out] at h; injection h with h; subst h
          exact HF.out.set (by rw [HCS.out]; exact hin) (by omega) (behind_up HN.out hd)), grownBy_set HG.out⟩

end Go.Proofs.YtjnjbcigbnjmkaaDoor
