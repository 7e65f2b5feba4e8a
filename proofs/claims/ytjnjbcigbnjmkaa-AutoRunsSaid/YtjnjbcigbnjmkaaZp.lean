/- Walks: the law AutoRuns. PUT1 -/
import Derived.Test.YtjnjbcigbnjmkaaZl
import Derived.Test.YtjnjbcigbnjmkaaZm
import Derived.Test.YtjnjbcigbnjmkaaZo
import Derived.Test.YtjnjbcigbnjmkaaWa
import Derived.Test.YtjnjbcigbnjmkaaBr
namespace Go.Proofs.Ytjnjbcigbnjmkaa
open Go.RowKit Pv

theorem reachL_bd {a : Au} {acc : Int} {l : List Int} (hn : a.length ≤ 100000) : (∀ x, x ∈ reachL a acc l → -9223372036854775808 ≤ x ∧ x ≤ 9223372036854775807) ∧ (reachL a acc l).length ≤ 140737488355328 := by
  unfold reachL
  split
  · exact ⟨stL_bd hn, by have := stL_len a.length (Clo a (Of l)); omega⟩
  · exact ⟨by simp, by simp⟩
theorem stepL_bd {a : Au} {acc : Int} {l : List Int} {p : Int} (hn : a.length ≤ 100000) : (∀ x, x ∈ stepL a acc l p → -9223372036854775808 ≤ x ∧ x ≤ 9223372036854775807) ∧ (stepL a acc l p).length ≤ 140737488355328 := by
  unfold stepL
  split
  · exact ⟨stL_bd hn, by have := stL_len a.length (Stp a p (Of l)); omega⟩
  · exact ⟨by simp, by simp⟩

set_option maxHeartbeats 20000000 in
set_option maxRecDepth 100000 in
theorem law_AutoRuns (aA oA sA pA : Option Addr) (na ca no co ns cs np cp : Nat) (acc oacc p : Int) (a o : Au) (sts pts : List Int) (w : World) (ha : AtAu w aA a) (HA : Hid (a.length = na)) (ho : AtAu w oA o) (HO : Hid (o.length = no))
    (hs : At w sA RI sts) (HS : Hid (sts.length = ns)) (hp : At w pA RI pts) (HP : Hid (pts.length = np)) (HQL : Hid (∀ es, es ∈ a → es.length * 40 ≤ 140737488355328 ∧ ∀ x, x ∈ es → x.set.length * 16 ≤ 140737488355328)) :
    Calls Try.prog 6 #[.agg #[.slice aA na ca, .int .i64 acc], .agg #[.slice oA no co, .int .i64 oacc], .slice sA ns cs, .int .i64 p, .slice pA np cp] w fun e w' => e = .returned (.bool true) ∧ Below w.heap.size w w' := by
  obtain ⟨i0, hi0, hz0, hs0, hb0⟩ := info_parts info_int9
  have HAA := Lib.hid ha; have HOO := Lib.hid ho; have HSS := Lib.hid hs; have HPP := Lib.hid hp
  have hnl : na ≤ 140737488355328 := by have := ha.1; rwa [HA.out] at this
  have hsl : ns ≤ 140737488355328 := by have := hs.1; rwa [HS.out] at this
  have hpl : np ≤ 140737488355328 := by have := hp.1; rwa [HP.out] at this
  have HB0 := Lib.hid (((Below.refl w.heap.size w).alloc (Nat.le_refl _) (.cells #[.slice aA na ca, .int .i64 acc] TAuto)).alloc (by simp) (.cells #[.slice oA no co, .int .i64 oacc] TAuto))
  have KK := blk2 w #[.slice aA na ca, .int .i64 acc] #[.slice oA no co, .int .i64 oacc] TAuto TAuto
  have KA0 := Lib.hid KK.1; have KO0 := Lib.hid KK.2
  have HG1 := Lib.hid (ref09_Great aA ca na 40 acc a _ (ha.keep (Keep.of HB0.out)) HA (by omega))
  clear ha ho hs hp KK
  go_enter Try.func6, Try.ntmps6
  go_wp2_with fail
  refine HG1.out.mono ?_
  rintro e w1 ⟨g, rfl, hg, hb1⟩
  have HQ := Lib.hid hg
  have HB1 := Lib.hid (HB0.out.trans (hb1.mono (by simp; omega)))
  have KA1 := Lib.hid (KA0.out.below hb1 (by simp; omega)); have KO1 := Lib.hid (KO0.out.below hb1 (by simp))
  have HG2 := Lib.hid (ref09_Great oA co no 40 oacc o w1 (HOO.out.keep (Keep.of HB1.out)) HO (by omega))
  clear hg hb1
  have hgc : (g = true ∧ na ≤ 256) ∨ (g = false ∧ na ≤ 40) ∨ (g = true ∧ 256 < na) := by
    cases g
    · right; left; have := HQ.out rfl; exact ⟨rfl, by rwa [HA.out] at this⟩
    · by_cases h : na ≤ 256
      · exact .inl ⟨rfl, h⟩
      · exact .inr (.inr ⟨rfl, by omega⟩)
  obtain ⟨a0, a1, _, _⟩ := Blk.two KA1.out
  obtain ⟨b0, b1, _, _⟩ := Blk.two KO1.out
  have hN := KA1.out.lt; have hN1 := KO1.out.lt
  clear HQ HG1
  rcases hgc with ⟨rfl, h256⟩ | ⟨rfl, h256⟩ | ⟨rfl, h256⟩
  · go_wp2
    go_ret
    exact ⟨rfl, HB1.out⟩
  all_goals
    go_wp2_with fail
    refine HG2.out.mono ?_
    rintro e w2 ⟨g2, rfl, _, hb2⟩
    have HB2 := Lib.hid (HB1.out.trans (hb2.mono HB1.out.size))
    have KA2 := Lib.hid (KA1.out.below hb2 KA1.out.lt); have KO2 := Lib.hid (KO1.out.below hb2 KO1.out.lt)
    clear hb2
    obtain ⟨a0, a1, _, _⟩ := Blk.two KA2.out
    obtain ⟨b0, b1, _, _⟩ := Blk.two KO2.out
    have hN := KA2.out.lt; have hN1 := KO2.out.lt
    cases g2
    case true =>
      go_wp2
      go_ret
      exact ⟨rfl, HB2.out⟩
    by_cases h300 : (300 : Int) < (na : Int)
    case pos =>
      first
      | (exfalso; omega)
      | (go_wp2
         go_ret
         exact ⟨rfl, HB2.out⟩)
    by_cases h100 : (100 : Int) < (ns : Int)
    case pos =>
      go_wp2
      go_ret
      exact ⟨rfl, HB2.out⟩
    by_cases h30 : 30 < np ∧ np ≤ 1024
    case pos =>
      obtain ⟨h30, h31⟩ := h30
      go_wp2
      go_ret
      exact ⟨rfl, HB2.out⟩
    by_cases h1100 : (1100 : Int) < (np : Int)
    case pos =>
      have h31 : (30 : Int) < (np : Int) := by omega
      have h32 : (1024 : Int) < (np : Int) := by omega
      clear h30
      go_wp2
      go_ret
      exact ⟨rfl, HB2.out⟩
    have hpc : (np : Int) ≤ 30 ∨ ((30 : Int) < (np : Int) ∧ (1024 : Int) < (np : Int)) := by omega
    have HTW := Lib.hid (ref09_Twin aA ca na acc a w2 (HAA.out.keep (Keep.of HB2.out)) HA (by omega) HQL)
    have hna : na ≤ 1000 := by omega
    have hnp : np ≤ 100000 := by omega
    obtain ⟨us, hru, hsu⟩ := (HSS.out).src (fun _ _ h => RI.one h)
    rw [HS.out] at hsu
    have SP := Lib.hid hsu; have RU := Lib.hid hru
    clear hsu hru h30 HG2
    rcases hpc with h30 | ⟨h30, h31⟩
    all_goals
      go_wp2_with fail
      refine HTW.out.mono ?_
      rintro e w3 ⟨A', c', rfl, hat, hb3⟩
      have B23 := Lib.hid hb3
      have HW3 := Lib.hid hat
      have HB3 := Lib.hid (HB2.out.trans (hb3.mono HB2.out.size))
      have KW := Lib.hid (show Blk (w3.alloc (.cells #[.slice A' na c', .int .i64 acc] TAuto)) w3.heap.size TAuto #[.slice A' na c', .int .i64 acc] from Blk.new w3 TAuto #[.slice A' na c', .int .i64 acc])
      clear hat hb3
      have KA3 := Lib.hid ((KA2.out.below B23.out KA2.out.lt).alloc (.cells #[.slice A' na c', .int .i64 acc] TAuto)); have KO3 := Lib.hid ((KO2.out.below B23.out KO2.out.lt).alloc (.cells #[.slice A' na c', .int .i64 acc] TAuto))
      have BX3 := Lib.hid (HB3.out.alloc HB3.out.size (.cells #[.slice A' na c', .int .i64 acc] TAuto))
      have BX4 := Lib.hid (BX3.out.alloc BX3.out.size (.cells #[] 3))
      have S4 := Lib.hid (SP.out.keep (Keep.of BX4.out))
      have e3 : (w3.alloc (.cells #[.slice A' na c', .int .i64 acc] TAuto)).heap.size = w3.heap.size + 1 := by simp
      have KB := Blk.new (w3.alloc (.cells #[.slice A' na c', .int .i64 acc] TAuto)) 3 #[]
      rw [e3] at KB
      have OW : Hid (((w3.alloc (.cells #[.slice A' na c', .int .i64 acc] TAuto)).alloc (.cells #[] 3)).ownsRow (w3.heap.size + 1) 3 1 (.slice (some ⟨w3.heap.size + 1, 0, none⟩) 0 0) 0 []) := Lib.hid ⟨by simp, .inr ⟨w3.heap.size + 1, 0, #[], rfl, Nat.le_refl _, KB, Nat.le_refl _, by simp only [maxLen]; omega, by simp, by simp⟩⟩
      have hgw : w.heap.size + 2 ≤ w3.heap.size := by have := HB3.out.size; have h2 := (KO2.out.below B23.out KO2.out.lt).lt; omega
      have Q1 : Hid (0 + ns ≤ maxLen) := Lib.hid (by simp only [maxLen]; omega)
      have Q2 : Hid ((0 + ns) * 8 ≤ 140737488355328) := Lib.hid (by omega)
      have Q3 : Hid (w3.heap.size + 1 ≤ ((w3.alloc (.cells #[.slice A' na c', .int .i64 acc] TAuto)).alloc (.cells #[] 3)).heap.size) := Lib.hid (by simp)
      go_wp2_with (at_builtin
                   go_must (refine wpList_append_src _ rfl (.tmp 66) (.tmp 67) 22 rfl (w3.heap.size + 1) 3 i0 (.int .i64 0) 1 8 Try.underlying22 hi0 hz0 hs0 hb0 rfl (by decide) (some ⟨w3.heap.size + 1, 0, none⟩) 0 0 [] rfl OW.out sA ns cs us rfl S4.out Q1.out Q2.out Q3.out ?_)
                   intro A5 c5 w5 own5 gr5 _
                   simp only [List.nil_append, Nat.zero_add] at own5
                   have hel : w3.heap.size + 1 ≤ ((w3.alloc (.cells #[.slice A' na c', .int .i64 acc] TAuto)).alloc (.cells #[] 3)).heap.size := Q3.out
                   have O5 := Lib.hid own5
                   have KW5 := Lib.hid ((KW.out.alloc (.cells #[] 3)).grown gr5 (own_blk_ne OW.out (KW.out.alloc (.cells #[] 3)) (by decide)))
                   have KA5 := Lib.hid ((KA3.out.alloc (.cells #[] 3)).grown gr5 (own_blk_ne OW.out (KA3.out.alloc (.cells #[] 3)) (by decide)))
                   have KO5 := Lib.hid ((KO3.out.alloc (.cells #[] 3)).grown gr5 (own_blk_ne OW.out (KO3.out.alloc (.cells #[] 3)) (by decide)))
                   have BX5 := Lib.hid (BX4.out.grown gr5 BX4.out.size (fun g hg => by have := own_ge OW.out g hg; omega))
                   have B35 := Lib.hid ((((Below.refl w3.heap.size w3).alloc (Nat.le_refl _) (.cells #[.slice A' na c', .int .i64 acc] TAuto)).alloc (by simp) (.cells #[] 3)).grown gr5 (by simp; omega) (fun g hg => by have := own_ge OW.out g hg; omega))
                   clear own5 gr5 hel
                   obtain ⟨a0, a1, _, _⟩ := Blk.two KA5.out
                   obtain ⟨b0, b1, _, _⟩ := Blk.two KO5.out
                   obtain ⟨d0, d1, _, _⟩ := Blk.two KW5.out
                   have hN := KA5.out.lt; have hN1 := KO5.out.lt; have hN2 := KW5.out.lt)
      have IN5 := Lib.hid (show At w5 A5 RI sts from (At.of_own O5.out RU.out (by rw [HS.out]; omega)).2.2)
      have WW5 := Lib.hid (HW3.out.keep (Keep.of B35.out))
      have B50 := Lib.hid (Below.refl w5.heap.size w5)
      have HC6 := Lib.hid (auto_Reach A' c' na acc a A5 c5 ns sts w5 (WW5.out.keep (Keep.of B50.out)) HA (IN5.out.keep (Keep.of B50.out)) HS (by omega))
      refine HC6.out.mono ?_
      rintro e w6 ⟨⟨vl1, rfl, hv⟩, hb⟩
      have V6 := Lib.hid hv
      clear hv
      have BN := hb
      have B51 := Lib.hid (B50.out.trans (hb.mono B50.out.size)); have BX6 := Lib.hid (BX5.out.trans (hb.mono BX5.out.size))
      have KA6 := Lib.hid (KA5.out.below hb KA5.out.lt); have KO6 := Lib.hid (KO5.out.below hb KO5.out.lt); have KW6 := Lib.hid (KW5.out.below hb KW5.out.lt)
      clear BN hb a0 a1 b0 b1 d0 d1
      have HC7 := Lib.hid (ref09_Reach aA ca na acc a sA cs ns sts w6 (HAA.out.keep (Keep.of BX6.out)) HA (HSS.out.keep (Keep.of BX6.out)) HS)
      obtain ⟨a0, a1, _, _⟩ := Blk.two KA6.out
      obtain ⟨b0, b1, _, _⟩ := Blk.two KO6.out
      obtain ⟨d0, d1, _, _⟩ := Blk.two KW6.out
      have hN := KA6.out.lt; have hN1 := KO6.out.lt; have hN2 := KW6.out.lt
      go_wp2_with fail
      refine HC7.out.mono ?_
      rintro e w7 ⟨⟨vl2, rfl, hv⟩, hb⟩
      have V7 := Lib.hid hv
      clear hv
      have BN := hb
      have B52 := Lib.hid (B51.out.trans (hb.mono B51.out.size)); have BX7 := Lib.hid (BX6.out.trans (hb.mono BX6.out.size))
      have KA7 := Lib.hid (KA6.out.below hb KA6.out.lt); have KO7 := Lib.hid (KO6.out.below hb KO6.out.lt); have KW7 := Lib.hid (KW6.out.below hb KW6.out.lt)
      have V6 := Lib.hid (V6.out.below hb)
      clear BN hb a0 a1 b0 b1 d0 d1
      have HC8 := Lib.hid (auto_Step A' c' na acc a A5 c5 ns sts p w7 (WW5.out.keep (Keep.of B52.out)) HA (IN5.out.keep (Keep.of B52.out)) HS (by omega))
      obtain ⟨a0, a1, _, _⟩ := Blk.two KA7.out
      obtain ⟨b0, b1, _, _⟩ := Blk.two KO7.out
      obtain ⟨d0, d1, _, _⟩ := Blk.two KW7.out
      have hN := KA7.out.lt; have hN1 := KO7.out.lt; have hN2 := KW7.out.lt
      go_wp2_with fail
      refine HC8.out.mono ?_
      rintro e w8 ⟨⟨vl3, rfl, hv⟩, hb⟩
      have V8 := Lib.hid hv
      clear hv
      have BN := hb
      have B53 := Lib.hid (B52.out.trans (hb.mono B52.out.size)); have BX8 := Lib.hid (BX7.out.trans (hb.mono BX7.out.size))
      have KA8 := Lib.hid (KA7.out.below hb KA7.out.lt); have KO8 := Lib.hid (KO7.out.below hb KO7.out.lt); have KW8 := Lib.hid (KW7.out.below hb KW7.out.lt)
      have V6 := Lib.hid (V6.out.below hb)
      have V7 := Lib.hid (V7.out.below hb)
      clear BN hb a0 a1 b0 b1 d0 d1
      have HC9 := Lib.hid (ref09_Step aA ca na acc a sA cs ns sts p w8 (HAA.out.keep (Keep.of BX8.out)) HA (HSS.out.keep (Keep.of BX8.out)) HS)
      obtain ⟨a0, a1, _, _⟩ := Blk.two KA8.out
      obtain ⟨b0, b1, _, _⟩ := Blk.two KO8.out
      obtain ⟨d0, d1, _, _⟩ := Blk.two KW8.out
      have hN := KA8.out.lt; have hN1 := KO8.out.lt; have hN2 := KW8.out.lt
      go_wp2_with fail
      refine HC9.out.mono ?_
      rintro e w9 ⟨⟨vl4, rfl, hv⟩, hb⟩
      have V9 := Lib.hid hv
      clear hv
      have BN := hb
      have B54 := Lib.hid (B53.out.trans (hb.mono B53.out.size)); have BX9 := Lib.hid (BX8.out.trans (hb.mono BX8.out.size))
      have KA9 := Lib.hid (KA8.out.below hb KA8.out.lt); have KO9 := Lib.hid (KO8.out.below hb KO8.out.lt); have KW9 := Lib.hid (KW8.out.below hb KW8.out.lt)
      have V6 := Lib.hid (V6.out.below hb)
      have V7 := Lib.hid (V7.out.below hb)
      have V8 := Lib.hid (V8.out.below hb)
      clear BN hb a0 a1 b0 b1 d0 d1
      have HC10 := Lib.hid (auto_Run A' c' na acc a pA cp np pts w9 (WW5.out.keep (Keep.of B54.out)) HA (HPP.out.keep (Keep.of BX9.out)) HP)
      obtain ⟨a0, a1, _, _⟩ := Blk.two KA9.out
      obtain ⟨b0, b1, _, _⟩ := Blk.two KO9.out
      obtain ⟨d0, d1, _, _⟩ := Blk.two KW9.out
      have hN := KA9.out.lt; have hN1 := KO9.out.lt; have hN2 := KW9.out.lt
      go_wp2_with fail
      refine HC10.out.mono ?_
      rintro e w10 ⟨rfl, hb⟩
      have BN := hb
      have B55 := Lib.hid (B54.out.trans (hb.mono B54.out.size)); have BX10 := Lib.hid (BX9.out.trans (hb.mono BX9.out.size))
      have KA10 := Lib.hid (KA9.out.below hb KA9.out.lt); have KO10 := Lib.hid (KO9.out.below hb KO9.out.lt); have KW10 := Lib.hid (KW9.out.below hb KW9.out.lt)
      have V6 := Lib.hid (V6.out.below hb)
      have V7 := Lib.hid (V7.out.below hb)
      have V8 := Lib.hid (V8.out.below hb)
      have V9 := Lib.hid (V9.out.below hb)
      clear BN hb a0 a1 b0 b1 d0 d1
      have HC11 := Lib.hid (ref09_Run_all aA ca na acc a pA cp np pts w10 (HAA.out.keep (Keep.of BX10.out)) HA (HPP.out.keep (Keep.of BX10.out)) HP)
      obtain ⟨a0, a1, _, _⟩ := Blk.two KA10.out
      obtain ⟨b0, b1, _, _⟩ := Blk.two KO10.out
      obtain ⟨d0, d1, _, _⟩ := Blk.two KW10.out
      have hN := KA10.out.lt; have hN1 := KO10.out.lt; have hN2 := KW10.out.lt
      go_wp2_with fail
      refine HC11.out.mono ?_
      rintro e w11 ⟨rfl, hb⟩
      have BN := hb
      have B56 := Lib.hid (B55.out.trans (hb.mono B55.out.size)); have BX11 := Lib.hid (BX10.out.trans (hb.mono BX10.out.size))
      have KA11 := Lib.hid (KA10.out.below hb KA10.out.lt); have KO11 := Lib.hid (KO10.out.below hb KO10.out.lt); have KW11 := Lib.hid (KW10.out.below hb KW10.out.lt)
      have V6 := Lib.hid (V6.out.below hb)
      have V7 := Lib.hid (V7.out.below hb)
      have V8 := Lib.hid (V8.out.below hb)
      have V9 := Lib.hid (V9.out.below hb)
      clear BN hb a0 a1 b0 b1 d0 d1
      obtain ⟨A6, c6, rfl, hat6, _⟩ := V6.out.at' (reachL_bd (by rw [HA.out]; omega)).1 (reachL_bd (by rw [HA.out]; omega)).2
      obtain ⟨A7, c7, rfl, hat7, _⟩ := V7.out.at' (reachL_bd (by rw [HA.out]; omega)).1 (reachL_bd (by rw [HA.out]; omega)).2
      obtain ⟨A8, c8, rfl, hat8, _⟩ := V8.out.at' (stepL_bd (by rw [HA.out]; omega)).1 (stepL_bd (by rw [HA.out]; omega)).2
      obtain ⟨A9, c9, rfl, hat9, _⟩ := V9.out.at' (stepL_bd (by rw [HA.out]; omega)).1 (stepL_bd (by rw [HA.out]; omega)).2
      have S1 := ref06_SameInts A6 A7 c6 c7 _ _ _ _ w11 hat6 hat7 (Lib.hid rfl) (Lib.hid rfl)
      rw [decide_eq_true (p := reachL a acc sts = reachL a acc sts) rfl] at S1
      have S1 := Lib.hid S1
      have S2 := Lib.hid (fun (W : World) (hk : Keep w11 W) => show Calls Try.prog 21 #[.slice A8 (stepL a acc sts p).length c8, .slice A9 (stepL a acc sts p).length c9] W fun e w' => e = .returned (.bool true) ∧ ∃ n, w' = W.drewN n from by
        have h := ref06_SameInts A8 A9 c8 c9 _ _ _ _ W (hat8.keep hk) (hat9.keep hk) (Lib.hid rfl) (Lib.hid rfl)
        rwa [decide_eq_true (p := stepL a acc sts p = stepL a acc sts p) rfl] at h)
      clear hat6 hat7 hat8 hat9 V6 V7 V8 V9
      generalize (reachL a acc sts).length = j1 at *
      generalize (stepL a acc sts p).length = j2 at *
      generalize askE a acc sts = q1 at *
      generalize runB a acc pts = q2 at *
      generalize runE a acc pts = q3 at *
      have t1 : (q1 == q1) = true := by simp
      have t2 : (q2 == q2) = true := by simp
      have t3 : (q3 == q3) = true := by simp
      go_wp2_with (first
        | (go_at_call 21; (with_reducible refine S1.out.mono ?_); rintro e w12 ⟨rfl, n1, rfl⟩)
        | (go_at_call 21; (with_reducible refine (S2.out _ (Keep.drewN _ _)).mono ?_); rintro e w13 ⟨rfl, n2, rfl⟩))
      have BD := below_drewN (Below.refl w11.heap.size w11) (n1 + n2)
      obtain ⟨WD, hWD⟩ : ∃ WD, w11.drewN (n1 + n2) = WD := ⟨_, rfl⟩
      rw [hWD] at BD
      rw [hWD]
      clear hWD
      have KAD := KA11.out.below BD KA11.out.lt; have KOD := KO11.out.below BD KO11.out.lt; have KWD := KW11.out.below BD KW11.out.lt
      have B5D := Lib.hid (B56.out.trans (BD.mono B56.out.size)); have BXD := Lib.hid (BX11.out.trans (BD.mono BX11.out.size))
      obtain ⟨a0, a1, _, _⟩ := Blk.two KAD
      obtain ⟨b0, b1, _, _⟩ := Blk.two KOD
      obtain ⟨d0, d1, _, _⟩ := Blk.two KWD
      have hN := KAD.lt; have hN1 := KOD.lt; have hN2 := KWD.lt
      have C1 := Lib.hid (fun (W : World) (hb : Below WD.heap.size WD W) => auto_Check A' c' na acc a W (WW5.out.keep (Keep.of (B5D.out.trans (hb.mono B5D.out.size)))) HA)
      have C2 := Lib.hid (fun (W : World) (hb : Below WD.heap.size WD W) => ref09_Check aA ca na acc a W (HAA.out.keep (Keep.of (BXD.out.trans (hb.mono BXD.out.size)))) HA)
      have C3 := Lib.hid (fun (W : World) (hb : Below WD.heap.size WD W) => auto_Same A' oA c' co na no acc oacc a o W (WW5.out.keep (Keep.of (B5D.out.trans (hb.mono B5D.out.size)))) (HOO.out.keep (Keep.of (BXD.out.trans (hb.mono BXD.out.size)))) HA HO)
      have C4 := Lib.hid (fun (W : World) (hb : Below WD.heap.size WD W) => ref09_Same aA oA ca co na no acc oacc a o W (HAA.out.keep (Keep.of (BXD.out.trans (hb.mono BXD.out.size)))) (HOO.out.keep (Keep.of (BXD.out.trans (hb.mono BXD.out.size)))) HA HO)
      have C5 := Lib.hid (fun (W : World) (hb : Below WD.heap.size WD W) => ref09_Same A' aA c' ca na na acc acc a a W (WW5.out.keep (Keep.of (B5D.out.trans (hb.mono B5D.out.size)))) (HAA.out.keep (Keep.of (BXD.out.trans (hb.mono BXD.out.size)))) HA HA)
      have C6 := Lib.hid (fun (W : World) (hb : Below WD.heap.size WD W) => ref06_SameInts A5 sA c5 cs ns ns sts sts W (IN5.out.keep (Keep.of (B5D.out.trans (hb.mono B5D.out.size)))) (HSS.out.keep (Keep.of (BXD.out.trans (hb.mono BXD.out.size)))) HS HS)
      rw [decide_eq_true (p := a = a ∧ acc = acc) ⟨rfl, rfl⟩] at C5
      rw [decide_eq_true (p := sts = sts) rfl] at C6
      clear KAD KOD KWD BD
      generalize auE a acc = q4 at *
      generalize decide (a = o ∧ acc = oacc) = q5 at *
      have t4 : (q4 == q4) = true := by simp
      have t5 : (q5 == q5) = true := by simp
      refine wp_region_grown (by kernel_rfl) (by kernel_rfl) ?_
      have hgc__ := @Grown.cell
      repeat (go_big_quiet_step ((first
              | (go_at_call 40; with_reducible refine callG (C1.out _ (Grown.be _)))
              | (go_at_call 41; with_reducible refine callG (C2.out _ (Grown.be _)))
              | (go_at_call 42; with_reducible refine callG (C3.out _ (Grown.be _)))
              | (go_at_call 26; with_reducible refine callG (C4.out _ (Grown.be _)))
              | (go_at_call 26; with_reducible refine callG (C5.out _ (Grown.be _)))
              | (go_at_call 21; with_reducible refine callD (C6.out _ (Grown.be _))))))
      refine wpQuiet_nil ?_
      clear hgc__
      intro _ hw__
      obtain ⟨⟨wz, hbz⟩, hw__⟩ := hw__
      simp only at hw__
      subst hw__
      have BZ := Lib.hid (BXD.out.trans (hbz.mono BXD.out.size))
      clear hbz
      go_wp2
      go_ret
      exact ⟨rfl, BZ.out⟩
end Go.Proofs.Ytjnjbcigbnjmkaa
