/- Walks: the program's place behind a node: pattern.behind, Check, End. -/
import Derived.Test.YtilhicefhhgecaaGreatDoorPdq
import Derived.Deep.RegionWith
import Derived.WalkSpells
namespace Go.Proofs.YtilhicefhhgecaaGreatDoor
open Go.RowKit Pv

theorem ref07_May (A : Option Addr) (c n : Nat) (t : List Rx) (w : World) (h : AtRx w A t) (HL : Hid (t.length = n)) :
    Calls Tryz.prog 67 #[.slice A n c] w fun e w' => e = .returned (.bool (patB t)) ∧ Below w.heap.size w w' := by
  have hl : n ≤ 140737488355328 := by have := h.1; rwa [HL.out] at this
  by_cases h0 : 0 < n
  case neg =>
    have HN := Lib.hid (patB_no (t := t) fun p => p.1 (List.eq_nil_of_length_eq_zero (by rw [HL.out]; omega)))
    have hd : decide (0 < n) = false := decide_eq_false h0
    go_enter Tryz.func67, Tryz.ntmps67
    go_wp2
    go_ret
    exact ⟨ret_bool HN.out.symm, (by repeat (first | exact Below.refl _ _ | exact (Below.refl _ _).alloc (Nat.le_refl _) _ | apply below_drewN))⟩
  have hd : decide (0 < n) = true := decide_eq_true h0
  by_cases h1 : n ≤ 64
  case neg =>
    have HN := Lib.hid (patB_no (t := t) fun p => by have := p.2.1; rw [HL.out] at this; omega)
    have hd : decide ((n : Int) ≤ 64) = false := decide_eq_false (by omega)
    go_enter Tryz.func67, Tryz.ntmps67
    go_wp2
    go_ret
    exact ⟨ret_bool HN.out.symm, (by repeat (first | exact Below.refl _ _ | exact (Below.refl _ _).alloc (Nat.le_refl _) _ | apply below_drewN))⟩
  have hd1 : decide ((n : Int) ≤ 64) = true := decide_eq_true (by omega)
  have HB := Lib.hid (ref07_Behind A c n t w h HL 16 (by omega) 0 w (Keep.refl _) (by omega))
  obtain ⟨o, ho⟩ : ∃ o, behind t 16 0 = o := ⟨_, rfl⟩
  rw [ho] at HB
  by_cases h2 : o = some n
  · subst h2
    have HY := Lib.hid (patB_yes (t := t) ⟨by rintro rfl; have := HL.out; simp at this; omega, by rw [HL.out]; exact h1, by rw [ho, HL.out]⟩)
    have hd2 : ((n : Int) == (n : Int)) = true := by simp
    rw [bR_some] at HB
    clear ho h
    go_enter Tryz.func67, Tryz.ntmps67
    go_wp2_with (go_at_call 107; refine HB.out.mono ?_; rintro e w1 ⟨rfl, hb1⟩)
    go_ret
    exact ⟨ret_bool HY.out.symm, hb1⟩
  · have HN := Lib.hid (patB_no (t := t) fun p => h2 (by rw [← ho, p.2.2, HL.out]))
    have hd2 : (bR o == (n : Int)) = false := by
      rw [beq_eq_false_iff_ne]
      cases o with
      | none => rw [bR_none]; omega
      | some e => rw [bR_some]; intro h; exact h2 (by congr 1; omega)
    generalize bR o = r at *
    clear ho h h2
    go_enter Tryz.func67, Tryz.ntmps67
    go_wp2_with (go_at_call 107; refine HB.out.mono ?_; rintro e w1 ⟨rfl, hb1⟩)
    go_ret
    exact ⟨ret_bool HN.out.symm, hb1⟩

/-- One node, whatever kind. -/
theorem pattern_one (B : Option Addr) (k many least most : Int) (c m : Nat) (l : List Rng) (w : World) (hs : AtSet w B l) (HM : Hid (l.length = m)) (hk : 0 ≤ k) :
    Calls Tryz.prog 100 #[.agg #[.int .u8 k, .slice B m c, .int .i64 many, .int .i64 least, .int .i64 most]] w fun e w' => e = .returned (.bool (Rx.oneB ⟨k, l, many, least, most⟩)) ∧ Below w.heap.size w w' := by
  have := oneC_eq ⟨k, l, many, least, most⟩
  rw [← this]; simp only [HM.out]
  rcases kindcases hk with rfl | rfl | rfl | rfl | rfl | h
  · exact pattern_one0 B many least most c m l w hs HM
  · exact pattern_one1 B many least most c m l w hs HM
  · exact pattern_one2 B many least most c m l w hs HM
  · exact pattern_one3 B many least most c m l w hs HM
  · exact pattern_one4 B many least most c m l w hs HM
  · exact pattern_one5 B k many least most c m l w hs HM (Lib.hid h)

/-- Filled from i to e with the places behind. -/
def Fill (t : List Rx) (cs0 cs : Array Value) (i e : Nat) : Prop :=
  cs.size = cs0.size ∧ ∀ j, (i ≤ j → j < e → cs[j]? = some (.int .i64 (bR (behind t 16 j)))) ∧ (j < i ∨ e ≤ j → cs[j]? = cs0[j]?)
theorem Fill.refl (t : List Rx) (cs : Array Value) (i : Nat) : Fill t cs cs i i := ⟨rfl, fun j => ⟨fun h1 h2 => by omega, fun _ => rfl⟩⟩
theorem Fill.trans {t : List Rx} {a b c : Array Value} {i j k : Nat} (h : Fill t a b i j) (h' : Fill t b c j k) (h1 : i ≤ j) (h2 : j ≤ k) : Fill t a c i k :=
  ⟨h'.1.trans h.1, fun q => ⟨fun g1 g2 => by
    by_cases hq : j ≤ q
    · exact (h'.2 q).1 hq g2
    · rw [(h'.2 q).2 (by omega)]; exact (h.2 q).1 g1 (by omega), fun g => by
    rw [(h'.2 q).2 (by omega)]; exact (h.2 q).2 (by omega)⟩⟩
theorem Fill.set {t : List Rx} {a b : Array Value} {i e : Nat} (h : Fill t a b (i + 1) e) (hi : i < a.size) (he : i < e) (hb : behind t 16 i = some e) : Fill t a (b.setIfInBounds i (.int .i64 e)) i e :=
  ⟨by simp [h.1], fun q => by
    by_cases hq : i = q
    · subst hq
      refine ⟨fun _ _ => ?_, fun g => by omega⟩
      rw [Array.getElem?_setIfInBounds_self_of_lt (by rw [h.1]; exact hi), hb]; rfl
    · rw [Array.getElem?_setIfInBounds_ne hq]
      exact ⟨fun g1 g2 => (h.2 q).1 (by omega) g2, fun g => (h.2 q).2 (by omega)⟩⟩

/-- Where the walk through the nodes stands: the variables that it has captured, and the places. -/
structure WEnv (w0 w : World) (pt pw pe eb : Nat) (A : Option Addr) (n c : Nat) (cs : Array Value) : Prop where
  kp : Keep w0 w
  ct : w.cell? ⟨pt, 0, none⟩ = some (.slice A n c)
  cw : w.cell? ⟨pw, 0, none⟩ = some (.func (.func 99) #[] #[.pointer (some ⟨pt, 0, none⟩), .pointer (some ⟨pw, 0, none⟩), .pointer (some ⟨pe, 0, none⟩)])
  ce : w.cell? ⟨pe, 0, none⟩ = some (.slice (some ⟨eb, 0, none⟩) n n)
  be : Blk w eb 3 cs
  l0 : w0.heap.size ≤ eb
  lt : pt < w.heap.size
  lw : pw < w.heap.size
  le : pe < w.heap.size
  nt : pt ≠ eb
  nw : pw ≠ eb
  ne : pe ≠ eb
theorem WEnv.next {w0 w w' : World} {pt pw pe eb : Nat} {A : Option Addr} {n c : Nat} {cs : Array Value} (h : WEnv w0 w pt pw pe eb A n c cs) (hb : Below w.heap.size w w') : WEnv w0 w' pt pw pe eb A n c cs :=
  ⟨h.kp.trans (Keep.of hb), (hb.cell h.lt).trans h.ct, (hb.cell h.lw).trans h.cw, (hb.cell h.le).trans h.ce, h.be.below hb h.be.lt, h.l0, Nat.lt_of_lt_of_le h.lt hb.size, Nat.lt_of_lt_of_le h.lw hb.size, Nat.lt_of_lt_of_le h.le hb.size, h.nt, h.nw, h.ne⟩
theorem WEnv.set {w0 w : World} {pt pw pe eb : Nat} {A : Option Addr} {n c : Nat} {cs : Array Value} (h : WEnv w0 w pt pw pe eb A n c cs) (i : Nat) (u : Value) : WEnv w0 (w.setCell ⟨eb, i, none⟩ u) pt pw pe eb A n c (cs.setIfInBounds i u) := by
  have f : ∀ g, g ≠ eb → (w.setCell ⟨eb, i, none⟩ u).cell? ⟨g, 0, none⟩ = w.cell? ⟨g, 0, none⟩ := fun g hg => World.cell?_of_block (Below.heap_setCell w ⟨eb, i, none⟩ u g hg)
  exact ⟨h.kp.trans' (by simp) (fun b o hb => World.cell?_of_block (a := ⟨b, o, none⟩) (Below.heap_setCell w ⟨eb, i, none⟩ u b (by simp only; have := h.l0; omega))), (f _ h.nt).trans h.ct, (f _ h.nw).trans h.cw, (f _ h.ne).trans h.ce, h.be.set i u, h.l0, by simpa using h.lt, by simpa using h.lw, by simpa using h.le, h.nt, h.nw, h.ne⟩

/-- What a walk through a node leaves. -/
def WPost (t : List Rx) (w0 w : World) (pt pw pe eb : Nat) (A : Option Addr) (n c : Nat) (cs : Array Value) (i : Nat) (o : Option Nat) (e : Ending) (w' : World) : Prop :=
  ∃ cs', e = .returned (.int .i64 (bR o)) ∧ WEnv w0 w' pt pw pe eb A n c cs' ∧ cs'.size = cs.size ∧ (∀ q, o = some q → Fill t cs cs' i q) ∧ w.grownBy w' (some eb)
theorem grownBy_below {w w' : World} {r : Option Nat} (h : Below w.heap.size w w') : w.grownBy w' r := ⟨h.os, h.tape, h.output, h.size, fun k hk _ => h.block k hk⟩
theorem grownBy_trans {a b c : World} {r : Option Nat} (h : a.grownBy b r) (k : b.grownBy c r) : a.grownBy c r :=
  ⟨k.os.trans h.os, k.tape.trans h.tape, k.output.trans h.output, Nat.le_trans h.size k.size, fun q hq hr => (k.block q (Nat.lt_of_lt_of_le hq h.size) hr).trans (h.block q hq hr)⟩
theorem grownBy_set {a b : World} {g i : Nat} {u : Value} (h : a.grownBy b (some g)) : a.grownBy (b.setCell ⟨g, i, none⟩ u) (some g) :=
  ⟨h.os, h.tape, h.output, by simpa using h.size, fun q hq hr => (Below.heap_setCell b ⟨g, i, none⟩ u q (by simpa using hr)).trans (h.block q hq hr)⟩

end Go.Proofs.YtilhicefhhgecaaGreatDoor

namespace Go.Proofs.YtilhicefhhgecaaGreatDoor
open Go.RowKit Pv

set_option maxHeartbeats 2000000 in
set_option maxRecDepth 100000 in
theorem pattern_behind1 (A : Option Addr) (c n : Nat) (t : List Rx) (w0 : World) (h0 : AtRx w0 A t) (HL : Hid (t.length = n)) (hn : n ≤ 64) (pt pw pe eb : Nat) : ∀ (d : Nat), d ≤ 16 → ∀ (i : Nat) (w : World) (cs : Array Value), i ≤ n → WEnv w0 w pt pw pe eb A n c cs → cs.size = n →
    Calls Tryz.prog 99 #[.int .i64 i, .int .i64 d, .pointer (some ⟨pt, 0, none⟩), .pointer (some ⟨pw, 0, none⟩), .pointer (some ⟨pe, 0, none⟩)] w (WPost t w0 w pt pw pe eb A n c cs i (behind t d i)) := by
  intro d
  refine Nat.strongRecOn d ?_
  clear d
  intro d ih hd i w cs hi hE hcs
  have HE := Lib.hid hE
  have HCS := Lib.hid hcs
  have ⟨_, g1, g2, g3, _, _, _, _, _, _, _, _⟩ := hE
  clear hE hcs
  by_cases hin : i < n
  case neg =>
    have HN := Lib.hid (show behind t d i = none by rw [behind_none (by rw [List.getElem?_eq_none]; rw [HL.out]; omega)])
    have hdn : decide (n ≤ i) = true := decide_eq_true (by omega)
    clear h0 ih
    go_enter Tryz.func99, Tryz.ntmps99
    go_wp2
    go_ret
    exact ⟨cs, by rw [HN.out]; rfl, HE.out, rfl, (fun q h => by rw [HN.out] at h; cases h), World.grownBy.refl _ _⟩
  obtain ⟨b, off, k, B, s, m, l, many, least, most, rfl, H5, hs, HM, hm, ⟨hk0, hk1⟩, ⟨hm0, hm1⟩, _, _, HX⟩ := h0.g5 HL hin
  have HS := Lib.hid hs
  have H1 := Lib.hid (fun (bb : Bool) (e : Rx.oneB ⟨k, l, many, least, most⟩ = bb) (W : World) (kp : Keep w0 W) => show Calls Tryz.prog 100 #[.agg #[.int .u8 k, .slice B m s, .int .i64 many, .int .i64 least, .int .i64 most]] W fun e w' => e = .returned (.bool bb) ∧ Below W.heap.size W w' from e ▸ pattern_one B k many least most s m l W (HS.out.keep kp) HM hk0)
  have H50 := Lib.hid H5
  have ⟨y0, y1, y2, y3, y4, y5⟩ := H5.next HE.out.kp
  have HIH := Lib.hid ih
  clear hs H5 h0 ih
  have F5 := fun (w1 : World) (kp : Keep w0 w1) => C5.next H50.out kp
  have hdn : decide (n ≤ i) = false := decide_eq_false (by omega)
  have hdi : decide ((i : Int) < 0) = false := decide_eq_false (by omega)
  rcases Bool.eq_false_or_eq_true (Rx.oneB ⟨k, l, many, least, most⟩) with hone | hone
  case inr =>
    have HO := Lib.hid hone
    have HN := Lib.hid (show behind t d i = none by rw [behind_bad HX.out hone])
    clear hone
    go_enter Tryz.func99, Tryz.ntmps99
    go_wp2_with (go_at_call 100; refine (H1.out false HO.out _ HE.out.kp).mono ?_; rintro e w1 ⟨rfl, hb1⟩)
    go_ret
    exact ⟨cs, by rw [HN.out]; rfl, HE.out.next hb1, rfl, (fun q h => by rw [HN.out] at h; cases h), grownBy_below hb1⟩
  have HO := Lib.hid hone
  have HMA := Lib.hid (show 0 ≤ many from (Rx.One.of hone).many)
  clear hone
  by_cases hdeep : 1 < k ∧ d = 0
  · obtain ⟨hk2, rfl⟩ := hdeep
    have HN := Lib.hid (show behind t 0 i = none by rw [behind_deep HX.out hk2])
    have hdk : decide (1 < k) = true := decide_eq_true hk2
    go_enter Tryz.func99, Tryz.ntmps99
    go_wp2_with (go_at_call 100; refine (H1.out true HO.out _ HE.out.kp).mono ?_; rintro e w1 ⟨rfl, hb1⟩; obtain ⟨z0, z1, z2, z3, z4, z5⟩ := F5 w1 (HE.out.next hb1).kp; have ⟨_, f1, f2, f3, _, _, _, _, _, _, _, _⟩ := HE.out.next hb1)
    go_ret
    exact ⟨cs, by rw [HN.out]; rfl, HE.out.next hb1, rfl, (fun q h => by rw [HN.out] at h; cases h), grownBy_below hb1⟩
  have HDP := Lib.hid (show 1 < k → 0 < d from fun h => by omega)
  have HALL := Lib.hid (behind_all HX.out HO.out d HDP.out)
  have hmany : 0 ≤ many := HMA.out
  have hdz : 1 < k → ((d : Int) == 0) = false := by
    intro h
    have := HDP.out h
    simp; omega
  clear hdeep
  by_cases hk2 : 1 < k
  case' pos => have hdz' := hdz hk2; have hdk : decide (1 < k) = true := decide_eq_true hk2
  case' neg => have hdk : decide (1 < k) = false := decide_eq_false hk2
  all_goals
    clear hdz hk2
    go_enter Tryz.func99, Tryz.ntmps99
    go_wp2_with (go_at_call 100; refine (H1.out true HO.out _ HE.out.kp).mono ?_; rintro e w1 ⟨rfl, hb1⟩; obtain ⟨z0, z1, z2, z3, z4, z5⟩ := F5 w1 (HE.out.next hb1).kp; have ⟨_, f1, f2, f3, _, _, _, _, _, _, _, _⟩ := HE.out.next hb1)
    have HE1 := Lib.hid (HE.out.next hb1)
    have HG1 := Lib.hid (grownBy_below (r := some eb) hb1)
    clear hb1
    go_loopw [8, 44] (fun at' j wr => ∃ (q e : Nat) (cs' : Array Value), j = .int .i64 q ∧ (q : Int) ≤ many ∧ at' = .int .i64 e ∧ again (behind t (d - 1)) q (i + 1) = some e ∧ i + 1 ≤ e ∧ e ≤ n ∧ WEnv w0 wr pt pw pe eb (some ⟨b, off, none⟩) n c cs' ∧ Fill t cs cs' (i + 1) e ∧ w.grownBy wr (some eb)) (fun _ j _ => (many - intOf j).toNat)
    case atStart => exact ⟨0, i + 1, cs, rfl, by omega, by go_num, rfl, by omega, by omega, HE1.out, Fill.refl _ _ _, HG1.out⟩
    case round =>
      clear z0 z1 z2 z3 z4 z5 y0 y1 y2 y3 y4 y5 f1 f2 f3 g1 g2 g3
      obtain ⟨q, e, cs', rfl, hq, rfl, hag, hie, hen, henv, hfill, hgr⟩ := hrel
      have HA := Lib.hid hag; have HV := Lib.hid henv; have HF := Lib.hid hfill; have HG := Lib.hid hgr
      have ⟨_, f1, f2, f3, _, _, _, _, _, _, _, _⟩ := henv
      clear hag henv hfill hgr
      by_cases hlt : (q : Int) < many
      · have hdp : 0 < d := by
          rcases Nat.eq_zero_or_pos d with h0 | h0
          · have hk' : ¬ 1 < k := fun h => by have := HDP.out h; omega
            have := Rx.many0 (Rx.One.of HO.out) (by simp only; omega)
            simp only at this
            omega
          · exact h0
        have HC := Lib.hid (HIH.out (d - 1) (by omega) (by omega) e wr cs' hen HV.out (by rw [HF.out.1]; exact HCS.out))
        have HA2 := Lib.hid (show again (behind t (d - 1)) (q + 1) (i + 1) = behind t (d - 1) e by rw [again_snoc, HA.out]; rfl)
        have hdc : (d : Int) - 1 = ((d - 1 : Nat) : Int) := by omega
        obtain ⟨o, ho⟩ : ∃ o, behind t (d - 1) e = o := ⟨_, rfl⟩
        rw [ho] at HC HA2
        have HO2 := Lib.hid ho
        clear ho
        cases o with
        | none =>
          have HN := Lib.hid (show behind t d i = none by rw [HALL.out]; exact again_more HA2.out _ (by first | omega | (simp only; omega)))
          go_wp2_with (go_at_call 99; refine HC.out.mono ?_; rintro e w2 ⟨cs2, rfl, env2, hsz2, hfl2, hg2⟩; rw [bR_none])
          go_ret
          exact ⟨cs2, by rw [HN.out]; rfl, env2, by rw [hsz2, HF.out.1], (fun q h => by rw [HN.out] at h; cases h), grownBy_trans HG.out hg2⟩
        | some e2 =>
          have hlt2 := behind_lt HO2.out
          rw [HL.out] at hlt2
          go_wp2_with (go_at_call 99; refine HC.out.mono ?_; rintro e w2 ⟨cs2, rfl, env2, hsz2, hfl2, hg2⟩; rw [bR_some]; have HE2 := Lib.hid env2; have HF2 := Lib.hid (hfl2 _ rfl); have HG2 := Lib.hid hg2; clear env2 hsz2 hfl2 hg2)
          go_roundw
          case rel => exact ⟨q + 1, e2, cs2, by go_num, by omega, rfl, HA2.out, by omega, by omega, HE2.out, HF.out.trans HF2.out hie (by omega), grownBy_trans HG.out HG2.out⟩
          case measure => simp [intOf]; omega
      · have hqm : many.toNat = q := by omega
        have HN := Lib.hid (show behind t d i = some e by rw [HALL.out]; show again _ many.toNat _ = _; rw [hqm]; exact HA.out)
        have hc1 : cs'[i]? = some (cs'[i]'(by rw [HF.out.1, HCS.out]; exact hin)) := Array.getElem?_eq_getElem _
        have q1 := (HV.out.be.cell i).trans hc1
        have q2 := HV.out.be.frozen i
        clear hc1
        go_wp2
        go_ret
        exact ⟨cs'.setIfInBounds i (.int .i64 e), by rw [HN.out]; rfl, HV.out.set i _, by simp [HF.out.1], (fun q h => by
          rw [HN.out] at h; injection h with h; subst h
          exact HF.out.set (by rw [HCS.out]; exact hin) (by omega) (behind_up HN.out hd)), grownBy_set HG.out⟩

end Go.Proofs.YtilhicefhhgecaaGreatDoor
