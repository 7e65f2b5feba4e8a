/- Walks: whether two automata are the same, by the program. PUT1 -/
import Derived.Test.YtjnjbcigbnjmkaaEd
import Derived.Test.YtjnjbcigbnjmkaaEr
import Derived.Laws.EntriesVeiled
namespace Go.Proofs.Ytjnjbcigbnjmkaa
open Go.RowKit Pv

set_option maxHeartbeats 1000000 in
set_option maxRecDepth 100000 in
theorem same_edge (S1 S2 : Option Addr) (s1 s2 m1 m2 : Nat) (l1 l2 : List Rng) (to to' : Int) (fr fr' : Bool) (w : World) (h1 : AtSet w S1 l1) (h2 : AtSet w S2 l2) (HM1 : Hid (l1.length = m1)) (HM2 : Hid (l2.length = m2)) :
    Calls Try.prog 85 #[.agg #[.int .i64 to, .bool fr, .slice S1 m1 s1], .agg #[.int .i64 to', .bool fr', .slice S2 m2 s2]] w
      fun e w' => e = .returned (.bool (decide ((⟨to, fr, l1⟩ : Ed) = ⟨to', fr', l2⟩))) ∧ Below w.heap.size w w' := by
  have HC := Lib.hid (fun (W : World) (hb : Below w.heap.size w W) => equal_rngs S1 S2 s1 s2 m1 m2 l1 l2 W (h1.keep (Keep.of hb)) (h2.keep (Keep.of hb)) HM1 HM2)
  have HNE := Lib.hid (fun (h : (⟨to, fr, l1⟩ : Ed) ≠ ⟨to', fr', l2⟩) => decide_eq_false h)
  have HB2 := Lib.hid (((Below.refl w.heap.size w).alloc (Nat.le_refl _) (.cells #[.int .i64 to, .bool fr, .slice S1 m1 s1] TEdge)).alloc (by simp) (.cells #[.int .i64 to', .bool fr', .slice S2 m2 s2] TEdge))
  clear h1 h2
  by_cases e1 : to = to'
  case neg =>
    have HN := Lib.hid (HNE.out (fun h => e1 (by injection h)))
    have t1 : (to == to') = false := by simp [e1]
    clear e1
    go_enter Try.func85, Try.ntmps85
    go_wp2
    go_ret
    exact ⟨ret_bool HN.out.symm, HB2.out⟩
  subst e1
  by_cases e2 : fr = fr'
  case neg =>
    have HN := Lib.hid (HNE.out (fun h => e2 (by injection h)))
    cases fr <;> cases fr' <;> first | (exact absurd rfl e2) | skip
    all_goals
      clear e2
      go_enter Try.func85, Try.ntmps85
      go_wp2
      go_ret
      exact ⟨ret_bool HN.out.symm, HB2.out⟩
  subst e2
  have HEQ : Hid (decide (l1 = l2) = decide ((⟨to, fr, l1⟩ : Ed) = ⟨to, fr, l2⟩)) := Lib.hid (by
    by_cases h : l1 = l2
    · subst h; simp
    · rw [decide_eq_false h, HNE.out (fun hh => h (by injection hh))])
  rw [← HEQ.out]
  generalize decide (l1 = l2) = bb at *
  clear HEQ
  cases fr
  all_goals
    go_enter Try.func85, Try.ntmps85
    go_wp2_with (go_at_call 86; refine (HC.out _ HB2.out).mono ?_; rintro e w1 ⟨rfl, hb1⟩; have HB3 := Lib.hid (HB2.out.trans (hb1.mono HB2.out.size)); clear hb1)
    go_ret
    exact ⟨rfl, HB3.out⟩

set_option maxHeartbeats 1000000 in
set_option maxRecDepth 100000 in
theorem equal_edges (A B : Option Addr) (c d n m : Nat) (t u : List Ed) (w : World) (ha : AtK w 3 A (RE w) t) (hb : AtK w 3 B (RE w) u) (HL : Hid (t.length = n)) (HM : Hid (u.length = m)) :
    Calls Try.prog 89 #[.slice A n c, .slice B m d, .func (.func 85) #[] #[]] w fun e w' => e = .returned (.bool (decide (t = u))) ∧ Below w.heap.size w w' := by
  by_cases hlen : n = m
  case neg =>
    have h1 : ((n : Int) != (m : Int)) = true := by simp; omega
    have HN := Lib.hid (show decide (t = u) = false by simp; intro h; subst h; exact hlen (HL.out.symm.trans HM.out))
    clear hlen ha hb
    go_enter Try.func89, Try.ntmps89
    go_wp2
    go_ret
    exact ⟨ret_bool HN.out.symm, (by repeat (first | exact Below.refl _ _ | exact (Below.refl _ _).alloc (Nat.le_refl _) _ | apply below_drewN))⟩
  have hl : n ≤ 140737488355328 := by have := ha.1; rwa [HL.out] at this
  subst hlen
  have h1 : ((n : Int) != (n : Int)) = false := by simp
  have HA := Lib.hid ha; have HB := Lib.hid hb
  clear ha hb
  go_enter Try.func89, Try.ntmps89
  go_wp2
  go_loopw [17] (fun i wr => ∃ k : Nat, i = .int .i64 k ∧ k ≤ n ∧ Hid (Below w.heap.size w wr) ∧ Hid (t.take k = u.take k)) (fun i _ => n - (intOf i).toNat)
  case atStart => exact ⟨0, rfl, by omega, Lib.hid (by repeat (first | exact Below.refl _ _ | exact (Below.refl _ _).alloc (Nat.le_refl _) _ | apply below_drewN)), Lib.hid (by simp)⟩
  case round =>
    obtain ⟨k, rfl, hk, HBE, HE⟩ := hrel
    by_cases hlt : k < n
    · obtain ⟨b1, o1, to, fr, T, q, tc, sl, rfl, hb1, ⟨y0, y1, y2⟩, hs1, HM1, _, _, HX⟩ := AtEd.gt (AtEd.keep HA.out (Keep.of HBE.out)) HL hlt
      obtain ⟨b2, o2, to', fr', T', q', tc', sl', rfl, hb2, ⟨z0, z1, z2⟩, hs2, HM2, _, _, HY⟩ := AtEd.gt (AtEd.keep HB.out (Keep.of HBE.out)) HM hlt
      have HC := Lib.hid (fun (W : World) (hb : Below wr.heap.size wr W) => same_edge T T' tc tc' q q' sl sl' to to' fr fr' W (hs1.keep (Keep.of hb)) (hs2.keep (Keep.of hb)) HM1 HM2)
      have HB2 := Lib.hid (((Below.refl wr.heap.size wr).alloc (Nat.le_refl _) (.cells #[.int .i64 to, .bool fr, .slice T q tc] TEdge)).alloc (by simp) (.cells #[.int .i64 to', .bool fr', .slice T' q' tc'] TEdge))
      have HNE := Lib.hid (show (⟨to, fr, sl⟩ : Ed) ≠ ⟨to', fr', sl'⟩ → decide (t = u) = false from fun h => decide_eq_false fun hh => h (by subst hh; exact Option.some.inj (HX.out.symm.trans HY.out)))
      have i1 : (0 : Int) ≤ (k : Int) := by omega
      have i2 : (k : Int) < (n : Int) := by omega
      clear hs1 hs2
      by_cases e : (⟨to, fr, sl⟩ : Ed) = ⟨to', fr', sl'⟩
      · rw [decide_eq_true e] at HC
        have HX' := Lib.hid e
        clear e
        go_wp2_with (go_at_call 85; refine (HC.out _ HB2.out).mono ?_; rintro e w1 ⟨rfl, hb1⟩; have HB3 := Lib.hid (HBE.out.trans ((HB2.out.trans (hb1.mono HB2.out.size)).mono HBE.out.size)); clear hb1)
        go_roundw
        case rel => exact ⟨k + 1, by go_num, by omega, HB3, Lib.hid (by rw [take_snoc HX.out, take_snoc HY.out, HE.out, HX'.out])⟩
        case measure => simp [intOf]; omega
      · rw [decide_eq_false e] at HC
        have HN := Lib.hid (HNE.out e)
        clear e
        go_wp2_with (go_at_call 85; refine (HC.out _ HB2.out).mono ?_; rintro e w1 ⟨rfl, hb1⟩; have HB3 := Lib.hid (HBE.out.trans ((HB2.out.trans (hb1.mono HB2.out.size)).mono HBE.out.size)); clear hb1)
        go_ret
        exact ⟨ret_bool HN.out.symm, HB3.out⟩
    · have : k = n := by omega
      subst this
      have HY := Lib.hid (show decide (t = u) = true from decide_eq_true (by have := HE.out; rwa [List.take_of_length_le (by rw [HL.out]; omega), List.take_of_length_le (by rw [HM.out]; omega)] at this))
      go_wp2
      go_ret
      exact ⟨ret_bool HY.out.symm, HBE.out⟩

set_option maxHeartbeats 1000000 in
set_option maxRecDepth 100000 in
theorem same_row (A B : Option Addr) (c d n m g : Nat) (t u : List Ed) (w : World) (ha : AtK w 3 A (RE w) t) (hb : AtK w 3 B (RE w) u) (HL : Hid (t.length = n)) (HM : Hid (u.length = m)) (hg : w.cell? ⟨g, 0, none⟩ = some (.func (.func 85) #[] #[])) :
    Calls Try.prog 88 #[.slice A n c, .slice B m d, .pointer (some ⟨g, 0, none⟩)] w fun e w' => e = .returned (.bool (decide (t = u))) ∧ Below w.heap.size w w' := by
  have HC := Lib.hid (equal_edges A B c d n m t u w ha hb HL HM)
  generalize decide (t = u) = bb at *
  clear ha hb
  go_enter Try.func88, Try.ntmps88
  go_wp2_with (go_at_call 89; refine HC.out.mono ?_; rintro e w1 ⟨rfl, hb1⟩)
  go_ret
  exact ⟨rfl, hb1⟩

set_option maxHeartbeats 1000000 in
set_option maxRecDepth 100000 in
theorem equal_rows (A B : Option Addr) (c d n m g : Nat) (t u : Au) (w : World) (ha : AtAu w A t) (hb : AtAu w B u) (HL : Hid (t.length = n)) (HM : Hid (u.length = m)) (hg : w.cell? ⟨g, 0, none⟩ = some (.func (.func 85) #[] #[])) :
    Calls Try.prog 87 #[.slice A n c, .slice B m d, .func (.func 88) #[] #[.pointer (some ⟨g, 0, none⟩)]] w fun e w' => e = .returned (.bool (decide (t = u))) ∧ Below w.heap.size w w' := by
  by_cases hlen : n = m
  case neg =>
    have h1 : ((n : Int) != (m : Int)) = true := by simp; omega
    have HN := Lib.hid (show decide (t = u) = false by simp; intro h; subst h; exact hlen (HL.out.symm.trans HM.out))
    clear hlen ha hb
    go_enter Try.func87, Try.ntmps87
    go_wp2
    go_ret
    exact ⟨ret_bool HN.out.symm, (by repeat (first | exact Below.refl _ _ | exact (Below.refl _ _).alloc (Nat.le_refl _) _ | apply below_drewN))⟩
  have hl : n ≤ 140737488355328 := by have := ha.1; rwa [HL.out] at this
  subst hlen
  have h1 : ((n : Int) != (n : Int)) = false := by simp
  have HA := Lib.hid ha; have HB := Lib.hid hb; have HG := Lib.hid hg
  have hgl := World.block_lt_of_cell? _ _ hg
  clear ha hb hg
  go_enter Try.func87, Try.ntmps87
  go_wp2
  go_loopw [17] (fun i wr => ∃ k : Nat, i = .int .i64 k ∧ k ≤ n ∧ Hid (Below w.heap.size w wr) ∧ Hid (t.take k = u.take k)) (fun i _ => n - (intOf i).toNat)
  case atStart => exact ⟨0, rfl, by omega, Lib.hid (by repeat (first | exact Below.refl _ _ | exact (Below.refl _ _).alloc (Nat.le_refl _) _ | apply below_drewN)), Lib.hid (by simp)⟩
  case round =>
    obtain ⟨k, rfl, hk, HBE, HE⟩ := hrel
    by_cases hlt : k < n
    · obtain ⟨b1, o1, S1, m1, s1, es, rfl, hl1, hc1, hS1, HM1, _, HX⟩ := AtAu.gt (HA.out.keep (Keep.of HBE.out)) HL hlt
      obtain ⟨b2, o2, S2, m2, s2, es', rfl, hl2, hc2, hS2, HM2, _, HY⟩ := AtAu.gt (HB.out.keep (Keep.of HBE.out)) HM hlt
      have HC := Lib.hid (same_row S1 S2 s1 s2 m1 m2 g es es' wr hS1 hS2 HM1 HM2 (((Keep.of HBE.out).cell _ _ hgl).trans HG.out))
      have HNE := Lib.hid (show es ≠ es' → decide (t = u) = false from fun h => decide_eq_false fun hh => h (by subst hh; exact Option.some.inj (HX.out.symm.trans HY.out)))
      have i1 : (0 : Int) ≤ (k : Int) := by omega
      have i2 : (k : Int) < (n : Int) := by omega
      clear hS1 hS2
      by_cases e : es = es'
      · rw [decide_eq_true e] at HC
        have HX' := Lib.hid e
        clear e
        go_wp2_with (go_at_call 88; refine HC.out.mono ?_; rintro e w1 ⟨rfl, hb1⟩; have HB3 := Lib.hid (HBE.out.trans (hb1.mono HBE.out.size)); clear hb1)
        go_roundw
        case rel => exact ⟨k + 1, by go_num, by omega, HB3, Lib.hid (by rw [take_snoc HX.out, take_snoc HY.out, HE.out, HX'.out])⟩
        case measure => simp [intOf]; omega
      · rw [decide_eq_false e] at HC
        have HN := Lib.hid (HNE.out e)
        clear e
        go_wp2_with (go_at_call 88; refine HC.out.mono ?_; rintro e w1 ⟨rfl, hb1⟩; have HB3 := Lib.hid (HBE.out.trans (hb1.mono HBE.out.size)); clear hb1)
        go_ret
        exact ⟨ret_bool HN.out.symm, HB3.out⟩
    · have : k = n := by omega
      subst this
      have HY := Lib.hid (show decide (t = u) = true from decide_eq_true (by have := HE.out; rwa [List.take_of_length_le (by rw [HL.out]; omega), List.take_of_length_le (by rw [HM.out]; omega)] at this))
      go_wp2
      go_ret
      exact ⟨ret_bool HY.out.symm, HBE.out⟩

set_option maxHeartbeats 1000000 in
set_option maxRecDepth 100000 in
theorem auto_Same (A B : Option Addr) (c d n m : Nat) (acc acc' : Int) (t u : Au) (w : World) (ha : AtAu w A t) (hb : AtAu w B u) (HL : Hid (t.length = n)) (HM : Hid (u.length = m)) :
    Calls Try.prog 42 #[.agg #[.slice A n c, .int .i64 acc], .agg #[.slice B m d, .int .i64 acc']] w fun e w' => e = .returned (.bool (decide (t = u ∧ acc = acc'))) ∧ Below w.heap.size w w' := by
  have hmf : ∀ (fn : Fn) (first cap : Array Value) (w : World), (Instr.makeFunc fn first cap).run Try.prog w = .ok (.func fn first cap) w := fun _ _ _ _ => rfl
  have HB3 := Lib.hid ((((Below.refl w.heap.size w).alloc (Nat.le_refl _) (.cells #[.slice A n c, .int .i64 acc] TAuto)).alloc (by simp) (.cells #[.slice B m d, .int .i64 acc'] TAuto)).alloc (by simp; omega) (.cells #[.func (.func 85) #[] #[]] 127))
  have e2 : ((w.alloc (.cells #[.slice A n c, .int .i64 acc] TAuto)).alloc (.cells #[.slice B m d, .int .i64 acc'] TAuto)).heap.size = w.heap.size + 1 + 1 := by simp
  have hg := (Blk.new ((w.alloc (.cells #[.slice A n c, .int .i64 acc] TAuto)).alloc (.cells #[.slice B m d, .int .i64 acc'] TAuto)) 127 #[.func (.func 85) #[] #[]]).cell 0
  rw [e2] at hg
  have HC := Lib.hid (equal_rows A B c d n m (w.heap.size + 1 + 1) t u _ (ha.keep (Keep.of HB3.out)) (hb.keep (Keep.of HB3.out)) HL HM hg)
  clear ha hb e2 hg
  by_cases e : acc = acc'
  · have HE := Lib.hid (show decide (t = u) = decide (t = u ∧ acc = acc') by simp [e])
    rw [← HE.out]
    generalize decide (t = u) = bb at *
    clear HE
    subst e
    go_enter Try.func42, Try.ntmps42
    go_wp2_with (go_at_call 87; refine HC.out.mono ?_; rintro e w1 ⟨rfl, hb1⟩; have HB4 := Lib.hid (HB3.out.trans (hb1.mono HB3.out.size)); clear hb1)
    go_ret
    exact ⟨rfl, HB4.out⟩
  · have HE := Lib.hid (show false = decide (t = u ∧ acc = acc') by simp [e])
    have t1 : (acc == acc') = false := by simpa using e
    clear e
    go_enter Try.func42, Try.ntmps42
    go_wp2
    go_ret
    exact ⟨ret_bool HE.out, HB3.out⟩
end Go.Proofs.Ytjnjbcigbnjmkaa
