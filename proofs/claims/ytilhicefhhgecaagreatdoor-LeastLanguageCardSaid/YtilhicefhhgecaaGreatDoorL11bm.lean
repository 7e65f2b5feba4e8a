/- THE LAW LeastLanguage, walked. PUT1 -/
import Derived.Test.YtilhicefhhgecaaGreatDoorL11am
import Derived.Test.YtilhicefhhgecaaGreatDoorL10cm
import Derived.Test.YtilhicefhhgecaaGreatDoorL9bm
import Derived.Test.YtilhicefhhgecaaGreatDoorLsm
import Derived.Defers
import Derived.Deep.RegionHeld3
import Derived.Test.YtilhicefhhgecaaGreatDoorTxm
import Derived.Test.YtilhicefhhgecaaGreatDoorBam
import Derived.Test.YtilhicefhhgecaaGreatDoorGnm
import Derived.Test.YtilhicefhhgecaaGreatDoorGem
import Derived.Test.YtilhicefhhgecaaGreatDoorFam
namespace Go.Proofs.YtilhicefhhgecaaGreatDoor
open Go.RowKit Pv
/-- What compiling a pattern gives accepts just its language. -/
theorem comp_lang {t : List Rx} {D : Dfa} (h : CR t D 0) : D.Ok ∧ ∃ T : Tr, T.Ok 16 ∧ t = T.flat ∧ Few T ∧ Pat t ∧ ∀ l, Pnts l → D.accept.getD (D.to 0 l) false = yes (spT l T 0 l.length) := by
  generalize hz : (0 : Int) = z at h
  cases h with
  | auto h e => exact absurd hz.symm e
  | sub h e o ne => exact absurd hz.symm ne
  | @made r D0 h e o =>
    clear hz
    have hok := o.ok
    rcases h with ⟨_, rfl⟩ | ⟨hp, T, hT, et, ⟨_, rfl⟩ | ⟨hf, rfl⟩⟩
    · simp at e
    · simp at e
    · refine ⟨leastD_ok hok, T, hT, et, hf, hp, fun l hl => ?_⟩
      have h1 := (least_res hok l hl).symm
      unfold Dfa.acc at h1
      rw [h1, o.lang hl]
      have hau := lead_ok hT hf
      have h4 : spT l T 0 l.length ↔ (((leadT T [[]] 0).2 : Nat) : Int) ∈ stL (leadT T [[]] 0).1.length (runA (leadT T [[]] 0).1 l) := by
        rw [← lead_lang hT l]
        exact stL_of (by have := hau.acc1; omega) |>.symm
      by_cases h5 : spT l T 0 l.length
      · rw [yes_t h5]; exact decide_eq_true (h4.1 h5)
      · rw [yes_f h5]; exact decide_eq_false fun h6 => h5 (h4.2 h6)
/-- .. or no automaton. -/
theorem comp_err {t : List Rx} {D : Dfa} {x : Int} (h : CR t D x) (hx : x ≠ 0) : D = ⟨[], [], []⟩ ∧ (x = 90 ∨ x = 4 ∨ (¬ Pat t ∧ x = 8)) := by
  cases h with
  | auto h e =>
    rcases h with ⟨hn, rfl⟩ | ⟨hp, T, hT, et, ⟨_, rfl⟩ | ⟨hf, rfl⟩⟩
    · exact ⟨rfl, .inr (.inr ⟨hn, rfl⟩)⟩
    · exact ⟨rfl, .inl rfl⟩
    · simp at e
  | sub h e o ne =>
    rcases h with ⟨hn, rfl⟩ | ⟨hp, T, hT, et, ⟨_, rfl⟩ | ⟨hf, rfl⟩⟩
    · simp at e
    · simp at e
    · refine ⟨rfl, ?_⟩
      cases o with
      | bad h =>
        cases h with
        | bad h => exact absurd (lead_ok hT hf) h
        | many _ _ => exact .inr (.inl rfl)
        | states _ _ _ _ => exact .inl rfl
      | made _ _ => exact absurd rfl ne
  | made h e o => exact absurd rfl hx
theorem pnts_of {l : List Int} (h : ¬ beyond l) : Pnts l := fun p hp => by
  by_cases h1 : p < 0 ∨ 1114111 < p
  · exact absurd ⟨p, hp, h1⟩ h
  · exact ⟨by omega, by omega⟩

set_option maxHeartbeats 4000000 in
set_option maxRecDepth 100000 in
theorem law_LeastLanguage (A B : Option Addr) (nt ct nl cl : Nat) (t : List Rx) (l : List Int) (w : World) (B0 : Nat) (ht : AtRx w A t) (HT : Hid (t.length = nt)) (hp : At w B RI l) (HL : Hid (l.length = nl)) (hT : TabU B0 w) (hB : B0 ≤ w.heap.size) :
    Calls Tryz.prog 5 #[.slice A nt ct, .slice B nl cl] w fun e w' => e = .returned (.bool true) ∧ Below w.heap.size w w' := by
  have HAL := Lib.hid (law11_alive w B0 hT hB)
  have HGR := Lib.hid (fun W (hb : Below w.heap.size w W) => ref07_Great A ct nt 24 t W (AtRx.keep ht (Keep.of hb)) HT (by omega))
  have HAT := Lib.hid ht; have HLP := Lib.hid hp
  have hnl : nl ≤ 140737488355328 := by have := hp.1; rwa [HL.out] at this
  have hnt : nt ≤ 140737488355328 := by have := ht.1; rwa [HT.out] at this
  clear ht hp hT hB
  by_cases h8 : nl ≤ 8
  case neg =>
    have e1 : (8 : Int) < (nl : Int) := by omega
    go_enter Tryz.func5, Tryz.ntmps5
    go_wp2_with fail
    refine HAL.out.mono ?_
    rintro e w1 ⟨rfl, k⟩
    have HB1 := Lib.hid k
    clear k
    go_wp2_with fail
    refine (HGR.out _ HB1.out).mono ?_
    rintro e w' ⟨g, rfl, hg, rfl⟩
    clear hg
    cases g
    all_goals
      go_wp2
      go_ret
      exact ⟨rfl, HB1.out⟩
  have e1 : (nl : Int) ≤ 8 := by omega
  go_enter Tryz.func5, Tryz.ntmps5
  go_wp2_with fail
  refine HAL.out.mono ?_
  rintro e w1 ⟨rfl, k⟩
  have HB1 := Lib.hid k
  clear k
  go_wp2_with fail
  refine (HGR.out _ HB1.out).mono ?_
  rintro e w' ⟨g, rfl, hg, rfl⟩
  clear hg
  cases g with
  | true =>
    go_wp2
    go_ret
    exact ⟨rfl, HB1.out⟩
  | false =>
    have HR1 := Lib.hid (AtRx.keep HAT.out (Keep.of HB1.out))
    go_wp2
    go_loop [6] (fun iv => ∃ k : Nat, iv = .int .i64 k ∧ k ≤ nt) (fun iv => nt - (intOf iv).toNat)
    case atStart => exact ⟨0, rfl, by omega⟩
    case round =>
      obtain ⟨k, rfl, hk⟩ := hrel
      by_cases hlt : k < nt
      · obtain ⟨b, off, kd, B', cs, m, l', many, least, most, rfl, ⟨y0, y1, y2, y3, y4, y5⟩, hs, HM, hm, _, _, _, _, HX⟩ := HR1.out.g5 HT hlt
        have hml : m ≤ 140737488355328 := by have := hs.1; rwa [HM.out] at this
        clear hs
        by_cases h60 : 8 < m
        · go_wp2
          go_ret
          exact ⟨rfl, HB1.out⟩
        · go_wp2
          go_round
          case rel => exact ⟨k + 1, by go_num, by omega⟩
          case measure => simp [intOf]; omega
      · have HCP := Lib.hid (least_Compile A nt ct t w1 HR1.out HT)
        go_wp2_with fail
        refine HCP.out.mono ?_
        rintro e w2 ⟨D, code, B1, m1, d1, B2, m2, d2, B3, m3, d3, rfl, hat, hcr, k2⟩
        have HB2 := Lib.hid (HB1.out.trans (k2.mono HB1.out.size))
        have hb3 : Below w2.heap.size w2 (w2.alloc (.cells #[.slice B1 m1 d1, .slice B2 m2 d2, .slice B3 m3 d3] TDfa)) := (Below.refl _ _).alloc (Nat.le_refl _) _
        have HB3 := Lib.hid (HB2.out.trans (hb3.mono HB2.out.size))
        have D3 := Lib.hid (Blk.new w2 TDfa #[.slice B1 m1 d1, .slice B2 m2 d2, .slice B3 m3 d3])
        have HD3 := Lib.hid (DfaAt.keep hat (Keep.of hb3))
        by_cases hc0 : code = 0
        case neg =>
          obtain ⟨rfl, hx⟩ := comp_err hcr hc0
          obtain rfl : m2 = 0 := HD3.out.hn.out.symm
          clear hat hcr k2 hb3 hc0
          rcases hx with rfl | rfl | ⟨hn, rfl⟩
          · go_wp2
            go_ret
            exact ⟨rfl, HB3.out⟩
          · go_wp2
            go_ret
            exact ⟨rfl, HB3.out⟩
          · have HCK := pattern_Check A ct nt t _ (AtRx.keep HAT.out (Keep.of HB3.out)) HT
            rw [patE_no hn] at HCK
            have HCK := Lib.hid HCK
            clear hn
            go_wp2_with fail
            refine HCK.out.mono ?_
            rintro e w4 ⟨rfl, k4⟩
            have HB4 := Lib.hid (HB3.out.trans (k4.mono HB3.out.size))
            clear k4
            go_wp2
            go_ret
            exact ⟨rfl, HB4.out⟩
        subst hc0
        obtain ⟨hok, T, hT, et, hf, hpt, hlg⟩ := comp_lang hcr
        have HRU := subset_Run B1 B2 B3 B d1 d2 d3 cl m1 m2 m3 nl D l _ HD3.out (At.keep HLP.out (Keep.of HB3.out)) HL
        have HIN := Lib.hid (fun W (hb : Below w.heap.size w W) => tongue_In A nt ct t B nl cl l W (AtRx.keep HAT.out (Keep.of hb)) HT (At.keep HLP.out (Keep.of hb)) HL (.inl (by omega)))
        have HCK := Lib.hid (fun W (hb : Below (w2.alloc (.cells #[.slice B1 m1 d1, .slice B2 m2 d2, .slice B3 m3 d3] TDfa)).heap.size (w2.alloc (.cells #[.slice B1 m1 d1, .slice B2 m2 d2, .slice B3 m3 d3] TDfa)) W) => subset_Check B1 B2 B3 d1 d2 d3 m1 m2 m3 D W (DfaAt.keep HD3.out (Keep.of hb)))
        rw [Dfa.checkE_yes (Dfa.okB_yes hok)] at HCK
        have HIV : Hid (∀ q, BIn t l q → q = (yes (spT l T 0 l.length), 0)) := Lib.hid (fun q hq => by
          rcases hq with ⟨hn, _⟩ | ⟨_, h2, _⟩ | ⟨_, _, S, hS, eS, rfl⟩
          · exact absurd hpt hn
          · rw [HL.out] at h2; omega
          · obtain rfl := flat_inj hT hS (et.symm.trans eS)
            rfl)
        have HRN := runE_ok hok (pts := l) (by rw [HL.out]; omega)
        have HLG := Lib.hid (fun (hn : ¬ beyond l) => hlg l (pnts_of hn))
        obtain ⟨q0, hq0⟩ : ∃ q0, yes (spT l T 0 l.length) = q0 := ⟨_, rfl⟩
        rw [hq0] at HIV HLG
        obtain ⟨f0, f1, f2, _, _, _⟩ := Blk.three D3.out
        clear hat hcr k2 hb3 hok hT et hf hpt hlg hq0
        rcases HRN with ⟨hby, hre⟩ | ⟨hby, hre⟩
        · rw [hre] at HRU
          have HRU := Lib.hid HRU
          clear hby hre
          go_wp2_with fail
          refine HRU.out.mono ?_
          rintro e w4 ⟨rfl, k4⟩
          have HB4 := Lib.hid (HB3.out.trans (k4.mono HB3.out.size))
          have D4 := Lib.hid (D3.out.below k4 D3.out.lt)
          have X4 := Lib.hid k4
          clear k4 f0 f1 f2
          go_wp2_with fail
          refine (HIN.out _ HB4.out).mono ?_
          rintro e w5 ⟨k5, q, hq, rfl⟩
          obtain rfl := HIV.out _ hq
          have HB5 := Lib.hid (HB4.out.trans (k5.mono HB4.out.size))
          have D5 := Lib.hid (D4.out.below k5 D4.out.lt)
          have X5 := Lib.hid (X4.out.trans (k5.mono X4.out.size))
          obtain ⟨f0, f1, f2, _, _, _⟩ := Blk.three D5.out
          clear k5 hq
          go_wp2_with fail
          refine (HCK.out _ X5.out).mono ?_
          rintro e w6 ⟨rfl, k6⟩
          have HB6 := Lib.hid (HB5.out.trans (k6.mono HB5.out.size))
          clear k6 f0 f1 f2
          go_wp2
          go_ret
          exact ⟨rfl, HB6.out⟩
        · have HE := Lib.hid (HLG.out hby)
          rw [hre, HE.out] at HRU
          have HRU := Lib.hid HRU
          clear hby hre HE HLG
          go_wp2_with fail
          refine HRU.out.mono ?_
          rintro e w4 ⟨rfl, k4⟩
          have HB4 := Lib.hid (HB3.out.trans (k4.mono HB3.out.size))
          have D4 := Lib.hid (D3.out.below k4 D3.out.lt)
          have X4 := Lib.hid k4
          clear k4 f0 f1 f2
          go_wp2_with fail
          refine (HIN.out _ HB4.out).mono ?_
          rintro e w5 ⟨k5, q, hq, rfl⟩
          obtain rfl := HIV.out _ hq
          have HB5 := Lib.hid (HB4.out.trans (k5.mono HB4.out.size))
          have D5 := Lib.hid (D4.out.below k5 D4.out.lt)
          have X5 := Lib.hid (X4.out.trans (k5.mono X4.out.size))
          obtain ⟨f0, f1, f2, _, _, _⟩ := Blk.three D5.out
          clear k5 hq
          go_wp2_with fail
          refine (HCK.out _ X5.out).mono ?_
          rintro e w6 ⟨rfl, k6⟩
          have HB6 := Lib.hid (HB5.out.trans (k6.mono HB5.out.size))
          clear k6 f0 f1 f2
          cases q0
          all_goals
            go_wp2
            go_ret
            exact ⟨rfl, HB6.out⟩
end Go.Proofs.YtilhicefhhgecaaGreatDoor
