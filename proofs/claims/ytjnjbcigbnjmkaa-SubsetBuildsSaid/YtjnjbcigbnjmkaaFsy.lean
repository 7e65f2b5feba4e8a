/- Walks: the law SubsetBuilds. PUT1 -/
import Derived.Test.YtjnjbcigbnjmkaaFry
import Derived.Test.YtjnjbcigbnjmkaaZoy
import Derived.Test.YtjnjbcigbnjmkaaWgy
import Derived.Test.YtjnjbcigbnjmkaaBry
namespace Go.Proofs.Ytjnjbcigbnjmkaa
open Go.RowKit Pv

set_option maxHeartbeats 4000000 in
set_option maxRecDepth 100000 in
theorem law_SubsetBuilds (A : Option Addr) (c n : Nat) (acc : Int) (a : Au) (w : World) (ha : AtAu w A a) (HL : Hid (a.length = n)) (HQL : Hid (∀ es, es ∈ a → es.length * 40 ≤ 140737488355328 ∧ ∀ x, x ∈ es → x.set.length * 16 ≤ 140737488355328)) :
    Calls Try.prog 7 #[.agg #[.slice A n c, .int .i64 acc]] w fun e w' => e = .returned (.bool true) ∧ Below w.heap.size w w' := by
  have HA := Lib.hid ha
  have HB0 := Lib.hid ((Below.refl w.heap.size w).alloc (Nat.le_refl _) (.cells #[.slice A n c, .int .i64 acc] TAuto))
  have KA := Lib.hid (Blk.new w TAuto #[.slice A n c, .int .i64 acc])
  have HG := Lib.hid (ref09_Great A c n 40 acc a _ (ha.keep (Keep.of HB0.out)) HL (by omega))
  clear ha
  go_enter Try.func7, Try.ntmps7
  go_wp2_with fail
  refine HG.out.mono ?_
  rintro e w1 ⟨g, rfl, hg, hb1⟩
  have HB1 := Lib.hid (HB0.out.trans (hb1.mono HB0.out.size))
  have KA1 := Lib.hid (KA.out.below hb1 KA.out.lt)
  have HQ := Lib.hid hg
  clear hg hb1 HG
  cases g
  case true =>
    go_wp2
    go_ret
    exact ⟨rfl, HB1.out⟩
  have hn : n ≤ 40 := by have := HQ.out rfl; rwa [HL.out] at this
  obtain ⟨p0, p1, _, _⟩ := Blk.two KA1.out
  have hN := KA1.out.lt
  have HTW := Lib.hid (ref09_Twin A c n acc a w1 (HA.out.keep (Keep.of HB1.out)) HL (by omega) HQL)
  clear HQ HB0 KA
  go_wp2_with fail
  refine HTW.out.mono ?_
  rintro e w2 ⟨O, oc, rfl, hat2, hb2⟩
  have hba := (Below.refl w2.heap.size w2).alloc (Nat.le_refl _) (.cells #[.slice O n oc, .int .i64 acc] TAuto)
  have HB2 := Lib.hid ((HB1.out.trans (hb2.mono HB1.out.size)).trans (hba.mono (Nat.le_trans HB1.out.size hb2.size)))
  have KA2 := Lib.hid ((KA1.out.below hb2 KA1.out.lt).alloc (.cells #[.slice O n oc, .int .i64 acc] TAuto))
  have KO2 := Lib.hid (Blk.new w2 TAuto #[.slice O n oc, .int .i64 acc])
  have HO2 := Lib.hid (hat2.keep (Keep.of hba))
  have HBD := Lib.hid (subset_Build O oc n acc a _ HO2.out HL)
  clear hat2 hb2 hba HTW p0 p1 hN HB1 KA1
  go_wp2_with fail
  refine HBD.out.mono ?_
  intro e w3 h3
  obtain ⟨D, code, A1, n1, c1, A2, n2, c2, A3, n3, c3, rfl, hd, ho, hb3⟩ := h3.opens
  have hba := (Below.refl w3.heap.size w3).alloc (Nat.le_refl _) (.cells #[.slice A1 n1 c1, .slice A2 n2 c2, .slice A3 n3 c3] TDfa)
  have hsz3 := hb3.size
  have HB3 := Lib.hid ((HB2.out.trans (hb3.mono HB2.out.size)).trans (hba.mono (Nat.le_trans HB2.out.size hb3.size)))
  have KA3 := Lib.hid ((KA2.out.below hb3 KA2.out.lt).alloc (.cells #[.slice A1 n1 c1, .slice A2 n2 c2, .slice A3 n3 c3] TDfa))
  have KO3 := Lib.hid ((KO2.out.below hb3 KO2.out.lt).alloc (.cells #[.slice A1 n1 c1, .slice A2 n2 c2, .slice A3 n3 c3] TDfa))
  have KD3 := Lib.hid (Blk.new w3 TDfa #[.slice A1 n1 c1, .slice A2 n2 c2, .slice A3 n3 c3])
  have HO3 := Lib.hid ((HO2.out.keep (Keep.of hb3)).keep (Keep.of hba))
  have HD3 := Lib.hid (hd.keep (Keep.of hba))
  have HOUT := Lib.hid ho
  have HRB := Lib.hid (ref10_Build A c n acc a _ (HA.out.keep (Keep.of HB3.out)) HL)
  obtain ⟨p0, p1, _, _⟩ := Blk.two (KA2.out.below hb3 KA2.out.lt)
  have hN := (KA2.out.below hb3 KA2.out.lt).lt
  clear h3 hd ho hb3 hba HBD
  go_wp2_with fail
  refine HRB.out.mono ?_
  intro e w4 h4
  obtain ⟨D', code', B1, m1, d1, B2, m2, d2, B3, m3, d3, rfl, hd4, ho4, hb4⟩ := h4.opens
  obtain ⟨rfl, rfl⟩ := HOUT.out.one ho4
  have hba := (Below.refl w4.heap.size w4).alloc (Nat.le_refl _) (.cells #[.slice B1 m1 d1, .slice B2 m2 d2, .slice B3 m3 d3] TDfa)
  have HB4 := Lib.hid ((HB3.out.trans (hb4.mono HB3.out.size)).trans (hba.mono (Nat.le_trans HB3.out.size hb4.size)))
  have KA4 := Lib.hid (KA3.out.below hb4 KA3.out.lt)
  have KO4 := Lib.hid (KO3.out.below hb4 KO3.out.lt)
  have KD4 := Lib.hid (KD3.out.below hb4 KD3.out.lt)
  have HO4 := Lib.hid ((HO3.out.keep (Keep.of hb4)).keep (Keep.of hba))
  have HD4 := Lib.hid ((HD3.out.keep (Keep.of hb4)).keep (Keep.of hba))
  have HX4 := Lib.hid (hd4.keep (Keep.of hba))
  have hS1 := ref10_Same A1 A2 A3 B1 B2 B3 c1 c2 c3 n1 n2 n3 d1 d2 d3 m1 m2 m3 D D _ HD4.out HX4.out
  rw [yes_t (p := D = D) rfl] at hS1
  have HS1 := Lib.hid hS1
  obtain ⟨t0, t1, t2, _, _, _⟩ := Blk.three KD4.out
  have hN4 := KD4.out.lt
  clear h4 hd4 ho4 hb4 hS1 p0 p1 hN
  go_wp2_with fail
  refine HS1.out.mono ?_
  rintro e w5 ⟨rfl, hb5⟩
  have HB5 := Lib.hid (HB4.out.trans (hb5.mono HB4.out.size))
  have KA5 := Lib.hid ((KA4.out.alloc (.cells #[.slice B1 m1 d1, .slice B2 m2 d2, .slice B3 m3 d3] TDfa)).below hb5 (by have := KA4.out.lt; simp; omega))
  have KO5 := Lib.hid ((KO4.out.alloc (.cells #[.slice B1 m1 d1, .slice B2 m2 d2, .slice B3 m3 d3] TDfa)).below hb5 (by have := KO4.out.lt; simp; omega))
  have hS2 := ref09_Same O A oc c n n acc acc a a w5 (HO4.out.keep (Keep.of hb5)) (HA.out.keep (Keep.of HB5.out)) HL HL
  rw [decide_eq_true (p := a = a ∧ acc = acc) ⟨rfl, rfl⟩] at hS2
  have HS2 := Lib.hid hS2
  obtain ⟨p0, p1, _, _⟩ := Blk.two KA5.out
  obtain ⟨q0, q1, _, _⟩ := Blk.two KO5.out
  have hN := KA5.out.lt; have hNO := KO5.out.lt
  clear hb5 hS2 t0 t1 t2 hN4
  go_wp2_with fail
  refine HS2.out.mono ?_
  rintro e w6 ⟨rfl, hb6⟩
  have HB6 := Lib.hid (HB5.out.trans (hb6.mono HB5.out.size))
  clear hb6
  go_wp2
  go_ret
  exact ⟨rfl, HB6.out⟩
end Go.Proofs.Ytjnjbcigbnjmkaa
