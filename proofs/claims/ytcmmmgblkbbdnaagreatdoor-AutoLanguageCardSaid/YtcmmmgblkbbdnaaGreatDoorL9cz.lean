/- THE LAW AutoLanguage, walked. PUT1 -/
import Derived.Test.YtcmmmgblkbbdnaaGreatDoorL9bz
import Derived.Test.YtcmmmgblkbbdnaaGreatDoorZlz
import Derived.Test.YtcmmmgblkbbdnaaGreatDoorTxz
import Derived.Test.YtcmmmgblkbbdnaaGreatDoorRuz
import Derived.Test.YtcmmmgblkbbdnaaGreatDoorLsz
namespace Go.Proofs.YtcmmmgblkbbdnaaGreatDoor
open Go.RowKit Pv
/-- A pattern's automaton accepts just its language: what the two answer. -/
theorem run_in {T : Tr} {pts : List Int} (h : T.Ok 16) (hf : Few T) (hl : pts.length ≤ 1024) {r : Bool × Int} (hp : Pat T.flat) (hr : BIn T.flat pts r) :
    runB (leadT T [[]] 0).1 (((leadT T [[]] 0).2 : Nat) : Int) pts = r.1 ∧ runE (leadT T [[]] 0).1 (((leadT T [[]] 0).2 : Nat) : Int) pts = 0 ∧ r.2 = 0 := by
  have hok := lead_ok h hf
  obtain ⟨e1, e2⟩ := runB_ok (l := pts) hok hl
  rcases hr with ⟨hn, _⟩ | ⟨_, h2, _⟩ | ⟨_, _, S, hS, eS, rfl⟩
  · exact absurd hp hn
  · omega
  obtain rfl := flat_inj h hS eS
  refine ⟨?_, e2, rfl⟩
  rw [e1]
  have h4 : spT pts T 0 pts.length ↔ (((leadT T [[]] 0).2 : Nat) : Int) ∈ stL (leadT T [[]] 0).1.length (runA (leadT T [[]] 0).1 pts) := by
    rw [← lead_lang h pts]
    exact stL_of (by have := hok.acc1; omega) |>.symm
  by_cases h5 : spT pts T 0 pts.length
  · rw [yes_t h5]; exact decide_eq_true (h4.1 h5)
  · rw [yes_f h5]; exact decide_eq_false fun h6 => h5 (h4.2 h6)

set_option maxHeartbeats 4000000 in
set_option maxRecDepth 100000 in
theorem law_AutoLanguage (A B : Option Addr) (nt ct nl cl : Nat) (t : List Rx) (l : List Int) (w : World) (B0 : Nat) (ht : AtRx w A t) (HT : Hid (t.length = nt)) (hp : At w B RI l) (HL : Hid (l.length = nl)) (hT : TabU B0 w) (hB : B0 ≤ w.heap.size) :
    Calls Tryz.prog 7 #[.slice A nt ct, .slice B nl cl] w fun e w' => e = .returned (.bool true) ∧ Below w.heap.size w w' := by
  have HAL := Lib.hid (law9_alive w B0 hT hB)
  have HGR := Lib.hid (fun W (hb : Below w.heap.size w W) => ref07_Great A ct nt 80 t W (AtRx.keep ht (Keep.of hb)) HT (by omega))
  have HAT := Lib.hid ht; have HLP := Lib.hid hp
  have hnl : nl ≤ 140737488355328 := by have := hp.1; rwa [HL.out] at this
  clear ht hp hT hB
  by_cases h8 : nl ≤ 8
  case neg =>
    have e1 : (8 : Int) < (nl : Int) := by omega
    go_enter Tryz.func7, Tryz.ntmps7
    go_wp2_with fail
    refine HAL.out.mono ?_
    rintro e w1 ⟨rfl, k⟩
    have HB1 := Lib.hid k
    clear k
    go_wp2_with fail
    refine (HGR.out _ HB1.out).mono ?_
    rintro e w' ⟨g, rfl, hg, rfl⟩
    clear hg
    cases g
    all_goals
      go_wp2
      go_ret
      exact ⟨rfl, HB1.out⟩
  have e1 : (nl : Int) ≤ 8 := by omega
  go_enter Tryz.func7, Tryz.ntmps7
  go_wp2_with fail
  refine HAL.out.mono ?_
  rintro e w1 ⟨rfl, k⟩
  have HB1 := Lib.hid k
  clear k
  go_wp2_with fail
  refine (HGR.out _ HB1.out).mono ?_
  rintro e w' ⟨g, rfl, hg, rfl⟩
  clear hg
  cases g with
  | true =>
    go_wp2
    go_ret
    exact ⟨rfl, HB1.out⟩
  | false =>
    have HBU := Lib.hid (auto_Build A nt ct t w1 (AtRx.keep HAT.out (Keep.of HB1.out)) HT)
    go_wp2_with fail
    refine HBU.out.mono ?_
    intro e w2 hpb
    obtain ⟨k2, r, A2, n2, c2, hbr, rfl, hau, hl2⟩ := hpb.read
    have HB2 := Lib.hid (HB1.out.trans (k2.mono HB1.out.size))
    have hb3 : ∀ v, Below w2.heap.size w2 (w2.alloc (.cells #[.slice A2 n2 c2, .int .i64 v] TAuto)) := fun v => (Below.refl _ _).alloc (Nat.le_refl _) _
    have HX := Lib.hid hau
    have HL2 := Lib.hid hl2
    rcases hbr with ⟨hn, rfl⟩ | ⟨hpt, T, hT, et, ⟨hf, rfl⟩ | ⟨hf, rfl⟩⟩
    · have HB3 := Lib.hid (HB2.out.trans ((hb3 0).mono HB2.out.size))
      have HC := Lib.hid (pattern_Check A ct nt t _ (AtRx.keep HAT.out (Keep.of HB3.out)) HT)
      rw [patE_no hn] at HC
      obtain rfl : n2 = 0 := hl2.symm
      clear hn hpb k2 hau hl2 hb3
      go_wp2_with fail
      refine HC.out.mono ?_
      rintro e w4 ⟨rfl, k4⟩
      have HB4 := Lib.hid (HB3.out.trans (k4.mono HB3.out.size))
      clear k4
      go_wp2
      go_ret
      exact ⟨rfl, HB4.out⟩
    · have HB3 := Lib.hid (HB2.out.trans ((hb3 0).mono HB2.out.size))
      obtain rfl : n2 = 0 := hl2.symm
      clear hpt hf hpb k2 hau hl2 hb3
      go_wp2
      go_ret
      exact ⟨rfl, HB3.out⟩
    · obtain ⟨acc, hacc⟩ : ∃ acc : Int, (((leadT T [[]] 0).2 : Nat) : Int) = acc := ⟨_, rfl⟩
      have HB3 := Lib.hid (HB2.out.trans ((hb3 acc).mono HB2.out.size))
      have K3 := Lib.hid (Blk.new w2 TAuto #[.slice A2 n2 c2, .int .i64 acc])
      have HX3 := Lib.hid (AtAu.keep hau (Keep.of (hb3 acc)))
      have HOK := Lib.hid (lead_ok hT hf)
      rw [hacc] at HOK
      have HRUN := Lib.hid (auto_Run A2 c2 n2 acc _ B cl nl l _ HX3.out HL2 (At.keep HLP.out (Keep.of HB3.out)) HL)
      have HIN := Lib.hid (fun W (hb : Below w.heap.size w W) => tongue_In A nt ct t B nl cl l W (AtRx.keep HAT.out (Keep.of hb)) HT (At.keep HLP.out (Keep.of hb)) HL (.inl (by omega)))
      have HRI := Lib.hid (fun (q : Bool × Int) (hq : BIn t l q) => run_in (pts := l) (r := q) hT hf (by rw [HL.out]; omega) (et ▸ hpt) (et ▸ hq))
      rw [hacc] at HRI
      simp only [hacc]
      obtain ⟨rb, hrb⟩ : ∃ rb, runB (leadT T [[]] 0).1 acc l = rb := ⟨_, rfl⟩
      obtain ⟨re, hre⟩ : ∃ re, runE (leadT T [[]] 0).1 acc l = re := ⟨_, rfl⟩
      have HCK := Lib.hid (fun W (hb : Below (w2.alloc (.cells #[.slice A2 n2 c2, .int .i64 acc] TAuto)).heap.size (w2.alloc (.cells #[.slice A2 n2 c2, .int .i64 acc] TAuto)) W) => auto_Check A2 c2 n2 acc _ W (AtAu.keep HX3.out (Keep.of hb)) HL2)
      rw [auE_yes HOK.out] at HCK
      rw [hrb, hre] at HRUN HRI
      clear hpt hT et hf hpb k2 hau hl2 hb3 hacc hrb hre
      go_wp2_with fail
      refine HRUN.out.mono ?_
      rintro e w4 ⟨rfl, k4⟩
      have HB4 := Lib.hid (HB3.out.trans (k4.mono HB3.out.size))
      have K4 := Lib.hid (K3.out.below k4 (by simp))
      have HD4 := Lib.hid k4
      clear k4
      go_wp2_with fail
      refine (HIN.out _ HB4.out).mono ?_
      rintro e w5 ⟨k5, ⟨q1, q2⟩, hq, rfl⟩
      obtain ⟨h1, h2, h3⟩ := HRI.out _ hq
      simp only at h1 h3
      subst h1; subst h2; subst h3
      have HB5 := Lib.hid (HB4.out.trans (k5.mono HB4.out.size))
      have K5 := Lib.hid (K4.out.below k5 K4.out.lt)
      have HD5 := Lib.hid (HD4.out.trans (k5.mono HD4.out.size))
      obtain ⟨p0, p1, _, _⟩ := Blk.two K5.out
      clear k5 hq
      go_wp2_with fail
      refine (HCK.out _ HD5.out).mono ?_
      rintro e w6 ⟨rfl, k6⟩
      have HB6 := Lib.hid (HB5.out.trans (k6.mono HB5.out.size))
      clear k6 p0 p1
      cases rb
      all_goals
        go_wp2
        go_ret
        exact ⟨rfl, HB6.out⟩
end Go.Proofs.YtcmmmgblkbbdnaaGreatDoor
