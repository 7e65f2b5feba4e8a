/- Walks: whether a number is on a list (the library's Contains at ints). -/
import Derived.Test.YtilhicefhhgecaaGreatDoorDfan
import Derived.Test.YtilhicefhhgecaaGreatDoorChecked
import Derived.WalkKit
import Derived.WalkSpells
import Derived.WalkLawsBesides
import Derived.Deep.QuietTactic
import Derived.BigQuiet
import Derived.Lib.Hide
import Derived.Outline
namespace Go.Proofs.YtilhicefhhgecaaGreatDoor
open Go.RowKit Pv

set_option maxHeartbeats 1000000 in
set_option maxRecDepth 100000 in
theorem contains_int (A : Option Addr) (c n : Nat) (l : List Int) (p : Int) (w : World) (h : At w A RI l) (HL : Hid (l.length = n)) :
    Calls Tryz.prog 50 #[.slice A n c, .int .i64 p] w fun e w' => e = .returned (.bool (decide (p ∈ l))) ∧ w' = w := by
  have hl : n ≤ 140737488355328 := by have := h.1; rwa [HL.out] at this
  have hIX : Calls Tryz.prog 89 #[.slice A n c, .int .i64 p] w fun e w' => (∃ r : Int, e = .returned (.int .i64 r) ∧ (0 ≤ r ↔ p ∈ l)) ∧ w' = w := by
    go_enter Tryz.func89, Tryz.ntmps89
    go_wp2
    go_loop [8] (fun i => ∃ k : Nat, i = .int .i64 k ∧ k ≤ n ∧ p ∉ l.take k) (fun i => n - (intOf i).toNat)
    case atStart => exact ⟨0, rfl, by omega, by simp⟩
    case round =>
      obtain ⟨k, rfl, hk, hno⟩ := hrel
      have HNO := Lib.hid hno
      clear hno
      by_cases hlt : k < n
      · obtain ⟨b, off, u, x, rfl, hbs, hx, ⟨rfl, _, _⟩, HX⟩ := h.gt HL hlt
        by_cases hpx : p = x
        · have HM := Lib.hid (show p ∈ l by rw [hpx]; exact mem_of_get HX.out)
          subst hpx
          go_wp2
          go_ret
          exact ⟨⟨_, rfl, fun _ => HM.out, fun _ => by omega⟩, rfl⟩
        · have HS := Lib.hid (show p ∉ l.take (k + 1) by
            rw [take_snoc HX.out]
            simp only [List.mem_append, List.mem_singleton, not_or]
            exact ⟨HNO.out, hpx⟩)
          go_wp2
          go_round
          case rel => exact ⟨k + 1, by go_num, by omega, HS.out⟩
          case measure => simp [intOf]; omega
      · have HN := Lib.hid (show p ∉ l by have := HNO.out; rwa [List.take_of_length_le (by rw [HL.out]; omega)] at this)
        go_wp2
        go_ret
        exact ⟨⟨-1, rfl, fun h => by omega, fun h => absurd h HN.out⟩, rfl⟩
  have HIX := Lib.hid hIX
  obtain ⟨ans, hans⟩ : ∃ ans, decide (p ∈ l) = ans := ⟨_, rfl⟩
  rw [hans]
  have HA := Lib.hid hans
  clear hIX h hans
  go_enter Tryz.func50, Tryz.ntmps50
  go_wp2_with fail
  refine HIX.out.mono ?_
  rintro e w2 ⟨⟨r, rfl, hr⟩, rfl⟩
  have HR := Lib.hid (show decide (0 ≤ r) = ans by
    rw [← HA.out]
    by_cases h0 : p ∈ l
    · rw [decide_eq_true h0]; exact decide_eq_true (hr.2 h0)
    · rw [decide_eq_false h0]; exact decide_eq_false (fun h1 => h0 (hr.1 h1)))
  clear hr
  go_wp2
  go_ret
  exact ⟨ret_bool HR.out, rfl⟩

end Go.Proofs.YtilhicefhhgecaaGreatDoor

namespace Go.Proofs.YtilhicefhhgecaaGreatDoor
open Go.RowKit Pv

set_option maxHeartbeats 400000 in
theorem ref06_SameInts (A B : Option Addr) (c d n m : Nat) (l r : List Int) (w : World) (ha : At w A RI l) (hb : At w B RI r) (HL : Hid (l.length = n)) (HM : Hid (r.length = m)) :
    Calls Tryz.prog 53 #[.slice A n c, .slice B m d] w fun e w' => e = .returned (.bool (decide (l = r))) ∧ ∃ n, w' = w.drewN n := by
  by_cases hlen : n = m
  · have hl : n ≤ 140737488355328 := by have := ha.1; rwa [HL.out] at this
    subst hlen
    have h1 : ((n : Int) != (n : Int)) = false := by simp
    go_enter Tryz.func53, Tryz.ntmps53
    go_wp2
    go_loopw [5] (fun i wr => ∃ k q : Nat, i = .int .i64 k ∧ wr = w.drewN q ∧ k ≤ n ∧ l.take k = r.take k) (fun i _ => n - (intOf i).toNat)
    case atStart => exact ⟨0, 0, rfl, rfl, by omega, by simp⟩
    case round =>
      obtain ⟨k, q, rfl, rfl, hk, heq⟩ := hrel
      have HE := Lib.hid heq; clear heq
      by_cases hlt : k < n
      · obtain ⟨b, off, u, x, rfl, hbs, hx, ⟨rfl, _, _⟩, HX⟩ := ha.gt HL hlt
        obtain ⟨b', off', u', y, rfl, hbs', hy, ⟨rfl, _, _⟩, HY⟩ := hb.gt HM hlt
        clear ha hb
        by_cases hxy : x = y
        · subst hxy
          have h2 : (x != x) = false := by simp
          go_wp2
          go_quiet (fail)
          go_wp2
          go_roundw
          case rel => exact ⟨k + 1, _, by go_num, rfl, by omega, by rw [take_snoc HX.out, take_snoc HY.out, HE.out]⟩
          case measure => simp [intOf]; omega
        · have h2 : (x != y) = true := by simp [hxy]
          have HXY := Lib.hid hxy; clear hxy
          go_wp2
          go_quiet (fail)
          go_wp2
          go_ret
          refine ⟨ret_bool (decide_eq_false fun hh => HXY.out ?_).symm, _, World.drewN_drewN _ _ _⟩
          subst hh
          exact Option.some.inj (HX.out.symm.trans HY.out)
      · have : k = n := by omega
        subst this
        go_wp2
        go_ret
        exact ⟨ret_bool (decide_eq_true (by have := HE.out; rwa [List.take_of_length_le (by rw [HL.out]; omega), List.take_of_length_le (by rw [HM.out]; omega)] at this)).symm, q, rfl⟩
  · have h1 : ((n : Int) != (m : Int)) = true := by simp; omega
    have HN := Lib.hid (show decide (l = r) = false by simp; intro h; subst h; exact hlen (HL.out.symm.trans HM.out))
    clear hlen
    go_enter Tryz.func53, Tryz.ntmps53
    go_wp2
    go_ret
    exact ⟨ret_bool HN.out.symm, 0, rfl⟩

end Go.Proofs.YtilhicefhhgecaaGreatDoor

namespace Go.Proofs.YtilhicefhhgecaaGreatDoor
open Go.RowKit Pv

set_option maxHeartbeats 400000 in
theorem slices_Min_int (A : Option Addr) (c n : Nat) (l : List Int) (w : World) (ha : At w A RI l) (HL : Hid (l.length = n)) (h0 : 0 < n) :
    Calls Tryz.prog 54 #[.slice A n c] w fun e w' => ∃ m : Int, e = .returned (.int .i64 m) ∧ m ∈ l ∧ (∀ x ∈ l, m ≤ x) ∧ w = w' := by
  have hl : n ≤ 140737488355328 := by have := ha.1; rwa [HL.out] at this
  obtain ⟨b, off, u, x0, rfl, hbs, hx0, ⟨rfl, _, _⟩, HX0⟩ := ha.gt HL h0
  have hlt1 : ((n : Int) < 1) = False := by simp; omega
  simp only [Nat.add_zero] at hx0
  go_enter Tryz.func54, Tryz.ntmps54
  go_wp2
  go_loop [3, 4] (fun v i => ∃ (k : Nat) (m : Int), i = .int .i64 k ∧ v = .int .i64 m ∧ 1 ≤ k ∧ k ≤ n ∧ m ∈ l.take k ∧ ∀ x ∈ l.take k, m ≤ x) (fun _ i => n - (intOf i).toNat)
  case atStart =>
    have ht : l.take 1 = [x0] := by rw [take_snoc HX0.out]; simp
    exact ⟨1, x0, rfl, rfl, by omega, by omega, by rw [ht]; simp, by rw [ht]; simp⟩
  case round =>
    obtain ⟨k, m, rfl, rfl, hk1, hk, hm, hle⟩ := hrel
    have HM := Lib.hid hm; have HE := Lib.hid hle; clear hm hle
    by_cases hlt : k < n
    · obtain ⟨u, x, _, hx, ⟨rfl, _, _⟩, HX⟩ := ha.gt2 HL hlt
      clear ha hx0
      by_cases hmx : x < m
      · go_wp2
        go_round
        case rel =>
          refine ⟨k + 1, x, by go_num, rfl, by omega, by omega, by rw [take_snoc HX.out]; simp, fun y hy => ?_⟩
          rw [take_snoc HX.out] at hy
          rcases List.mem_append.1 hy with hy | hy
          · have := HE.out y hy; omega
          · simp at hy; omega
        case measure => simp [intOf]; omega
      · go_wp2
        go_round
        case rel =>
          refine ⟨k + 1, m, by go_num, rfl, by omega, by omega, by rw [take_snoc HX.out]; simp [HM.out], fun y hy => ?_⟩
          rw [take_snoc HX.out] at hy
          rcases List.mem_append.1 hy with hy | hy
          · have := HE.out y hy; omega
          · simp at hy; omega
        case measure => simp [intOf]; omega
    · have : k = n := by omega
      subst this
      go_wp2
      go_ret
      have ht : l.take k = l := List.take_of_length_le (by rw [HL.out]; omega)
      have h1 := HM.out; have h2 := HE.out
      rw [ht] at h1 h2
      exact ⟨m, rfl, h1, h2, rfl⟩

set_option maxHeartbeats 400000 in
theorem slices_Max_int (A : Option Addr) (c n : Nat) (l : List Int) (w : World) (ha : At w A RI l) (HL : Hid (l.length = n)) (h0 : 0 < n) :
    Calls Tryz.prog 55 #[.slice A n c] w fun e w' => ∃ m : Int, e = .returned (.int .i64 m) ∧ m ∈ l ∧ (∀ x ∈ l, x ≤ m) ∧ w = w' := by
  have hl : n ≤ 140737488355328 := by have := ha.1; rwa [HL.out] at this
  obtain ⟨b, off, u, x0, rfl, hbs, hx0, ⟨rfl, _, _⟩, HX0⟩ := ha.gt HL h0
  have hlt1 : ((n : Int) < 1) = False := by simp; omega
  simp only [Nat.add_zero] at hx0
  go_enter Tryz.func55, Tryz.ntmps55
  go_wp2
  go_loop [3, 4] (fun v i => ∃ (k : Nat) (m : Int), i = .int .i64 k ∧ v = .int .i64 m ∧ 1 ≤ k ∧ k ≤ n ∧ m ∈ l.take k ∧ ∀ x ∈ l.take k, x ≤ m) (fun _ i => n - (intOf i).toNat)
  case atStart =>
    have ht : l.take 1 = [x0] := by rw [take_snoc HX0.out]; simp
    exact ⟨1, x0, rfl, rfl, by omega, by omega, by rw [ht]; simp, by rw [ht]; simp⟩
  case round =>
    obtain ⟨k, m, rfl, rfl, hk1, hk, hm, hle⟩ := hrel
    have HM := Lib.hid hm; have HE := Lib.hid hle; clear hm hle
    by_cases hlt : k < n
    · obtain ⟨u, x, _, hx, ⟨rfl, _, _⟩, HX⟩ := ha.gt2 HL hlt
      clear ha hx0
      by_cases hmx : m < x
      · go_wp2
        go_round
        case rel =>
          refine ⟨k + 1, x, by go_num, rfl, by omega, by omega, by rw [take_snoc HX.out]; simp, fun y hy => ?_⟩
          rw [take_snoc HX.out] at hy
          rcases List.mem_append.1 hy with hy | hy
          · have := HE.out y hy; omega
          · simp at hy; omega
        case measure => simp [intOf]; omega
      · go_wp2
        go_round
        case rel =>
          refine ⟨k + 1, m, by go_num, rfl, by omega, by omega, by rw [take_snoc HX.out]; simp [HM.out], fun y hy => ?_⟩
          rw [take_snoc HX.out] at hy
          rcases List.mem_append.1 hy with hy | hy
          · have := HE.out y hy; omega
          · simp at hy; omega
        case measure => simp [intOf]; omega
    · have : k = n := by omega
      subst this
      go_wp2
      go_ret
      have ht : l.take k = l := List.take_of_length_le (by rw [HL.out]; omega)
      have h1 := HM.out; have h2 := HE.out
      rw [ht] at h1 h2
      exact ⟨m, rfl, h1, h2, rfl⟩

theorem slices_isNaN_int (x : Int) (w : World) : Calls Tryz.prog 130 #[.int .i64 x] w fun e w' => e = .returned (.bool false) ∧ w = w' := by
  have h : (x != x) = false := by simp
  go_enter Tryz.func130, Tryz.ntmps130
  go_wp2
  go_ret
  exact ⟨rfl, rfl⟩
theorem cmp_isNaN_int (x : Int) (w : World) : Calls Tryz.prog 173 #[.int .i64 x] w fun e w' => e = .returned (.bool false) ∧ w = w' := by
  have h : (x != x) = false := by simp
  go_enter Tryz.func173, Tryz.ntmps173
  go_wp2
  go_ret
  exact ⟨rfl, rfl⟩
def ltB (x y : Int) : Bool := decide (x < y)
theorem cmp_Less_int (x y : Int) (w : World) : Calls Tryz.prog 129 #[.int .i64 x, .int .i64 y] w fun e w' => e = .returned (.bool (ltB x y)) ∧ w = w' := by
  go_enter Tryz.func129, Tryz.ntmps129
  go_wp2_with (first | (go_at_call 173; refine (cmp_isNaN_int _ _).mono ?_; rintro e w' ⟨rfl, rfl⟩))
  go_ret
  exact ⟨rfl, rfl⟩

/-- What the search of a rising list tells: a place, whether the number stands there. -/
def SearchPost (l : List Int) (n : Nat) (x : Int) (w : World) (e : Ending) (w' : World) : Prop :=
  ∃ (i : Nat) (f : Bool), e = .returned (.tuple #[.int .i64 i, .bool f]) ∧ i ≤ n ∧ (∀ (j : Nat) a, j < i → l[j]? = some a → a < x) ∧ (∀ (j : Nat) a, i ≤ j → l[j]? = some a → x ≤ a) ∧ (f = decide (l[i]? = some x)) ∧ w = w'
set_option maxHeartbeats 1000000 in
set_option maxRecDepth 100000 in
theorem slices_BinarySearch_int (A : Option Addr) (c n : Nat) (x : Int) (l : List Int) (w : World) (ha : At w A RI l) (HL : Hid (l.length = n)) (hs : Hid (∀ (i j : Nat), i ≤ j → ∀ a b, l[i]? = some a → l[j]? = some b → a ≤ b)) :
    Calls Tryz.prog 90 #[.slice A n c, .int .i64 x] w (SearchPost l n x w) := by
  have hl : n ≤ 140737488355328 := by have := ha.1; rwa [HL.out] at this
  go_enter Tryz.func90, Tryz.ntmps90
  go_wp2
  go_loop [7, 8] (fun i j => ∃ (lo hi : Nat), i = .int .i64 lo ∧ j = .int .i64 hi ∧ lo ≤ hi ∧ hi ≤ n ∧ (∀ (j : Nat) a, j < lo → l[j]? = some a → a < x) ∧ (∀ (j : Nat) a, hi ≤ j → l[j]? = some a → x ≤ a)) (fun i j => (intOf j - intOf i).toNat)
  case atStart => exact ⟨0, n, rfl, rfl, by omega, by omega, by intros; omega, fun j a hj ha => by have := lt_of_get ha; have := HL.out; omega⟩
  case round =>
    obtain ⟨lo, hi, rfl, rfl, h1, h2, hlo, hhi⟩ := hrel
    have HLO := Lib.hid hlo; have HHI := Lib.hid hhi; clear hlo hhi
    by_cases hlt : lo < hi
    · obtain ⟨b, off, u, y, rfl, hbs, hx, ⟨rfl, _, _⟩, HX⟩ := ha.gt (k := (lo + hi) / 2) HL (by omega)
      clear ha
      by_cases hyx : y < x
      · have hT : ltB y x = true := decide_eq_true hyx
        go_wp2_with (first | (go_at_call 129; refine (cmp_Less_int _ _ _).mono ?_; rintro e w' ⟨rfl, rfl⟩) | (go_at_call 130; refine (slices_isNaN_int _ _).mono ?_; rintro e w' ⟨rfl, rfl⟩))
        go_round
        case rel =>
          refine ⟨(lo + hi) / 2 + 1, hi, by rw [show ((lo : Int) + (hi : Int)) / 2 + 1 = (((lo + hi) / 2 + 1 : Nat) : Int) by omega], rfl, by omega, by omega, fun j a hj hja => ?_, HHI.out⟩
          have := hs.out j ((lo + hi) / 2) (by omega) a y hja HX.out
          omega
        case measure => simp [intOf]; omega
      · have hT : ltB y x = false := decide_eq_false hyx
        go_wp2_with (first | (go_at_call 129; refine (cmp_Less_int _ _ _).mono ?_; rintro e w' ⟨rfl, rfl⟩) | (go_at_call 130; refine (slices_isNaN_int _ _).mono ?_; rintro e w' ⟨rfl, rfl⟩))
        go_round
        case rel =>
          refine ⟨lo, (lo + hi) / 2, rfl, by rw [show ((lo : Int) + (hi : Int)) / 2 = (((lo + hi) / 2 : Nat) : Int) by omega], by omega, by omega, HLO.out, fun j a hj hja => ?_⟩
          have := hs.out ((lo + hi) / 2) j hj y a HX.out hja
          omega
        case measure => simp [intOf]; omega
    · have : lo = hi := by omega
      subst this
      by_cases hn : lo < n
      · obtain ⟨b, off, u, y, rfl, hbs, hx, ⟨rfl, _, _⟩, HX⟩ := ha.gt (k := lo) HL hn
        clear ha
        by_cases hyx : y = x
        · subst hyx
          have hT : (y == y) = true := by simp
          go_wp2_with (first | (go_at_call 129; refine (cmp_Less_int _ _ _).mono ?_; rintro e w' ⟨rfl, rfl⟩) | (go_at_call 130; refine (slices_isNaN_int _ _).mono ?_; rintro e w' ⟨rfl, rfl⟩))
          go_ret2
          exact ⟨lo, true, rfl, h2, HLO.out, HHI.out, by simp [HX.out], rfl⟩
        · have hT : (y == x) = false := by simp [hyx]
          have HYX := Lib.hid hyx; clear hyx
          go_wp2_with (first | (go_at_call 129; refine (cmp_Less_int _ _ _).mono ?_; rintro e w' ⟨rfl, rfl⟩) | (go_at_call 130; refine (slices_isNaN_int _ _).mono ?_; rintro e w' ⟨rfl, rfl⟩))
          go_ret2
          exact ⟨lo, false, rfl, h2, HLO.out, HHI.out, by simp [HX.out, HYX.out], rfl⟩
      · clear ha
        go_wp2_with (first | (go_at_call 129; refine (cmp_Less_int _ _ _).mono ?_; rintro e w' ⟨rfl, rfl⟩) | (go_at_call 130; refine (slices_isNaN_int _ _).mono ?_; rintro e w' ⟨rfl, rfl⟩))
        go_ret2
        exact ⟨lo, false, rfl, h2, HLO.out, HHI.out, by rw [List.getElem?_eq_none (by rw [HL.out]; omega)]; simp, rfl⟩

end Go.Proofs.YtilhicefhhgecaaGreatDoor

namespace Go.Proofs.YtilhicefhhgecaaGreatDoor
open Go.RowKit Pv

set_option maxHeartbeats 2000000 in
set_option maxRecDepth 100000 in
theorem subset_Check (A1 A2 A3 : Option Addr) (c1 c2 c3 n1 n2 n3 : Nat) (d : Dfa) (w : World) (H : DfaAt w A1 A2 A3 n1 n2 n3 d) :
    Calls Tryz.prog 18 #[.agg #[.slice A1 n1 c1, .slice A2 n2 c2, .slice A3 n3 c3]] w fun e w' => e = .returned (.int .i64 d.checkE) ∧ Below w.heap.size w w' := by
  obtain ⟨h1, h2, h3, H1, H2, H3⟩ := H
  have hl1 : n1 ≤ 140737488355328 := by have := h1.1; rwa [H1.out] at this
  have hl2 : n2 ≤ 140737488355328 := by have := h2.1; rwa [H2.out] at this
  have hl3 : n3 ≤ 140737488355328 := by have := h3.1; rwa [H3.out] at this
  by_cases g1 : n1 < 1
  · have HN := Lib.hid (Dfa.okB_no (d := d) fun o => by have := o.c1; have := H1.out; omega)
    go_enter Tryz.func18, Tryz.ntmps18
    go_wp2
    go_ret
    exact ⟨ret_int (Dfa.checkE_no HN.out).symm, (by repeat (first | exact Below.refl _ _ | exact (Below.refl _ _).alloc (Nat.le_refl _) _ | apply below_drewN))⟩
  by_cases g2 : 256 < n1
  · have HN := Lib.hid (Dfa.okB_no (d := d) fun o => by have := o.c2; have := H1.out; omega)
    go_enter Tryz.func18, Tryz.ntmps18
    go_wp2
    go_ret
    exact ⟨ret_int (Dfa.checkE_no HN.out).symm, (by repeat (first | exact Below.refl _ _ | exact (Below.refl _ _).alloc (Nat.le_refl _) _ | apply below_drewN))⟩
  obtain ⟨b1, o1, u, x0, rfl, hb1, hx0, ⟨rfl, _, _⟩, HX0⟩ := h1.gt H1 (k := 0) (by omega)
  simp only [Nat.add_zero] at hx0
  by_cases g3 : x0 = 0
  case neg =>
    have h4 : (x0 != 0) = true := by simp [g3]
    have HN := Lib.hid (Dfa.okB_no (d := d) fun o => by have := o.c0; rw [HX0.out] at this; injection this with this; exact g3 this)
    clear g3
    go_enter Tryz.func18, Tryz.ntmps18
    go_wp2
    go_ret
    exact ⟨ret_int (Dfa.checkE_no HN.out).symm, (by repeat (first | exact Below.refl _ _ | exact (Below.refl _ _).alloc (Nat.le_refl _) _ | apply below_drewN))⟩
  subst g3
  by_cases g4 : n2 < 1
  · have HN := Lib.hid (Dfa.okB_no (d := d) fun o => by have := o.n1; have := H2.out; omega)
    go_enter Tryz.func18, Tryz.ntmps18
    go_wp2
    go_ret
    exact ⟨ret_int (Dfa.checkE_no HN.out).symm, (by repeat (first | exact Below.refl _ _ | exact (Below.refl _ _).alloc (Nat.le_refl _) _ | apply below_drewN))⟩
  by_cases g5 : 64 < n2
  · have HN := Lib.hid (Dfa.okB_no (d := d) fun o => by have := o.n2; have := H2.out; omega)
    go_enter Tryz.func18, Tryz.ntmps18
    go_wp2
    go_ret
    exact ⟨ret_int (Dfa.checkE_no HN.out).symm, (by repeat (first | exact Below.refl _ _ | exact (Below.refl _ _).alloc (Nat.le_refl _) _ | apply below_drewN))⟩
  by_cases g6 : n3 = n2
  case neg =>
    have h4 : ((n3 : Int) != (n2 : Int)) = true := by simp; omega
    have HN := Lib.hid (Dfa.okB_no (d := d) fun o => by have := o.a; have := H2.out; have := H3.out; omega)
    clear g6
    go_enter Tryz.func18, Tryz.ntmps18
    go_wp2
    go_ret
    exact ⟨ret_int (Dfa.checkE_no HN.out).symm, (by repeat (first | exact Below.refl _ _ | exact (Below.refl _ _).alloc (Nat.le_refl _) _ | apply below_drewN))⟩
  subst g6
  have h4 : ((n3 : Int) != (n3 : Int)) = false := by simp
  go_enter Tryz.func18, Tryz.ntmps18
  go_wp2
  go_loop [4, 6, 47] (fun l _ i => ∃ (k : Nat) (y : Int), i = .int .i64 k ∧ l = .int .i64 y ∧ k ≤ n1 ∧ (k = 0 → y = -1) ∧ (∀ j, k = j + 1 → d.cuts[j]? = some y) ∧ (∀ (i : Nat) a, i < k → d.cuts[i]? = some a → a ≤ 1114111) ∧ (∀ (i : Nat) a b, i + 1 < k → d.cuts[i]? = some a → d.cuts[i + 1]? = some b → a < b)) (fun _ _ i => n1 - (intOf i).toNat)
  case atStart => exact ⟨0, -1, rfl, rfl, by omega, fun _ => rfl, by intros; omega, by intros; omega, by intros; omega⟩
  case round =>
    obtain ⟨k, y, rfl, rfl, hk, hy0, hy1, hmx, hup⟩ := hrel
    have HU := Lib.hid hup; have HY0 := Lib.hid hy0; have HY1 := Lib.hid hy1; have HMX := Lib.hid hmx
    clear hup hy0 hy1 hmx
    by_cases hlt : k < n1
    · obtain ⟨u, x, _, hx, ⟨rfl, _, _⟩, HX⟩ := h1.gt2 H1 hlt
      clear h1 h2 h3
      by_cases hxy : x ≤ y
      · have HN := Lib.hid (Dfa.okB_no (d := d) fun o => by
          rcases Nat.eq_zero_or_pos k with h0 | h0
          · subst h0
            have := HY0.out rfl
            obtain rfl : 0 = x := Option.some.inj (HX0.out.symm.trans HX.out)
            omega
          · obtain ⟨j, rfl⟩ : ∃ j, k = j + 1 := ⟨k - 1, by omega⟩
            have := (o.up j y x (HY1.out j rfl) HX.out).1
            omega)
        go_wp2
        go_ret
        exact ⟨ret_int (Dfa.checkE_no HN.out).symm, (by repeat (first | exact Below.refl _ _ | exact (Below.refl _ _).alloc (Nat.le_refl _) _ | apply below_drewN))⟩
      by_cases hxm : 1114111 < x
      · have HN := Lib.hid (Dfa.okB_no (d := d) fun o => by
          rcases Nat.eq_zero_or_pos k with h0 | h0
          · subst h0
            obtain rfl : 0 = x := Option.some.inj (HX0.out.symm.trans HX.out)
            omega
          · obtain ⟨j, rfl⟩ : ∃ j, k = j + 1 := ⟨k - 1, by omega⟩
            have := (o.up j y x (HY1.out j rfl) HX.out).2
            omega)
        go_wp2
        go_ret
        exact ⟨ret_int (Dfa.checkE_no HN.out).symm, (by repeat (first | exact Below.refl _ _ | exact (Below.refl _ _).alloc (Nat.le_refl _) _ | apply below_drewN))⟩
      · go_wp2
        go_round
        case rel =>
          refine ⟨k + 1, x, by go_num, rfl, by omega, by omega, fun j hj => by cases hj; exact HX.out, fun i a hi ha => ?_, fun i a b hi ha hb => ?_⟩
          · by_cases hik : i = k
            · subst hik
              obtain rfl : x = a := Option.some.inj (HX.out.symm.trans ha)
              omega
            · exact HMX.out i a (by omega) ha
          · by_cases hik : i + 1 = k
            · subst hik
              obtain rfl : x = b := Option.some.inj (HX.out.symm.trans hb)
              obtain rfl : y = a := Option.some.inj ((HY1.out i rfl).symm.trans ha)
              omega
            · exact HU.out i a b (by omega) ha hb
        case measure => simp [intOf]; omega
    · have : k = n1 := by omega
      subst this
      clear h1 h3 hx0
      go_wp2
      go_loop [8, 63] (fun _ i => ∃ k' : Nat, i = .int .i64 k' ∧ k' ≤ n3 ∧ (∀ (i : Nat) r, i < k' → d.next[i]? = some r → r.length = d.cuts.length ∧ ∀ (j : Nat) x, r[j]? = some x → 0 ≤ x ∧ x < d.next.length)) (fun _ i => n3 - (intOf i).toNat)
      case atStart => exact ⟨0, rfl, by omega, fun i r hi => by omega⟩
      case round =>
        obtain ⟨k', rfl, hk', hrows⟩ := hrel
        have HR := Lib.hid hrows; clear hrows
        by_cases hlt' : k' < n3
        · obtain ⟨b2, o2, A', c', n', r, rfl, hb2, hr, hA', HN', _, hn', HR0⟩ := h2.gtS H2 hlt'
          clear h2
          by_cases hrn : n' = k
          case neg =>
            have h5 : ((n' : Int) != (k : Int)) = true := by simp; omega
            have HN := Lib.hid (Dfa.okB_no (d := d) fun o => by have := o.rl k' r HR0.out; have := HN'.out; have := H1.out; omega)
            clear hrn
            go_wp2
            go_ret
            exact ⟨ret_int (Dfa.checkE_no HN.out).symm, (by repeat (first | exact Below.refl _ _ | exact (Below.refl _ _).alloc (Nat.le_refl _) _ | apply below_drewN))⟩
          subst hrn
          have h5 : ((n' : Int) != (n' : Int)) = false := by simp
          have HMin := Lib.hid (fun (W : World) (kp : Keep w W) => slices_Min_int A' c' n' r W (hA'.keep kp) HN' (by omega))
          have HMax := Lib.hid (fun (W : World) (kp : Keep w W) => slices_Max_int A' c' n' r W (hA'.keep kp) HN' (by omega))
          clear hA'
          by_cases hneg : ∃ x ∈ r, x < 0
          · obtain ⟨x, hx, hx0⟩ := hneg
            have HN := Lib.hid (Dfa.okB_no (d := d) fun o => by
              obtain ⟨j, hj⟩ := List.getElem?_of_mem hx
              have := o.rx k' r HR0.out j x hj; omega)
            have HX := Lib.hid hx
            clear hx
            go_wp2_with (go_at_call 54; refine (HMin.out _ (Keep.alloc _ _)).mono ?_; rintro e w' ⟨m, rfl, _, hle, rfl⟩; have hm0 : m < 0 := Int.lt_of_le_of_lt (hle x HX.out) hx0; clear hle)
            go_ret
            exact ⟨ret_int (Dfa.checkE_no HN.out).symm, (by repeat (first | exact Below.refl _ _ | exact (Below.refl _ _).alloc (Nat.le_refl _) _ | apply below_drewN))⟩
          have HNG := Lib.hid hneg; clear hneg
          by_cases hbig : ∃ x ∈ r, (n3 : Int) ≤ x
          · obtain ⟨x, hx, hx0⟩ := hbig
            have HN := Lib.hid (Dfa.okB_no (d := d) fun o => by
              obtain ⟨j, hj⟩ := List.getElem?_of_mem hx
              have := o.rx k' r HR0.out j x hj; have := H2.out; omega)
            have HX := Lib.hid hx
            clear hx
            go_wp2_with (first | (go_at_call 54; refine (HMin.out _ (Keep.alloc _ _)).mono ?_; rintro e w' ⟨m, rfl, hm, _, rfl⟩; have hm0 : 0 ≤ m := Int.not_lt.1 (fun h => HNG.out ⟨m, hm, h⟩); clear hm) | (go_at_call 55; refine (HMax.out _ (Keep.alloc _ _)).mono ?_; rintro e w' ⟨m2, rfl, _, hle, rfl⟩; have hm2 : (n3 : Int) ≤ m2 := Int.le_trans hx0 (hle x HX.out); clear hle))
            go_ret
            exact ⟨ret_int (Dfa.checkE_no HN.out).symm, (by repeat (first | exact Below.refl _ _ | exact (Below.refl _ _).alloc (Nat.le_refl _) _ | apply below_drewN))⟩
          have HBG := Lib.hid hbig; clear hbig
          go_wp2_with (first | (go_at_call 54; refine (HMin.out _ (Keep.alloc _ _)).mono ?_; rintro e w' ⟨m, rfl, hm, _, rfl⟩; have hm0 : 0 ≤ m := Int.not_lt.1 (fun h => HNG.out ⟨m, hm, h⟩); clear hm) | (go_at_call 55; refine (HMax.out _ (Keep.alloc _ _)).mono ?_; rintro e w' ⟨m2, rfl, hm, _, rfl⟩; have hm2 : m2 < (n3 : Int) := Int.not_le.1 (fun h => HBG.out ⟨m2, hm, h⟩); clear hm))
          go_round
          case rel =>
            refine ⟨k' + 1, by go_num, by omega, fun i r' hi hr' => ?_⟩
            by_cases hik : i = k'
            · subst hik
              obtain rfl : r = r' := Option.some.inj (HR0.out.symm.trans hr')
              refine ⟨HN'.out.trans H1.out.symm, fun j x hx => ⟨Int.not_lt.1 fun h => HNG.out ⟨x, mem_of_get hx, h⟩, ?_⟩⟩
              have := Int.not_le.1 fun h => HBG.out ⟨x, mem_of_get hx, h⟩
              have := H2.out
              omega
            · exact HR.out i r' (by omega) hr'
          case measure => simp [intOf]; omega
        · have : k' = n3 := by omega
          subst this
          have HY := Lib.hid (Dfa.okB_yes (d := d) ⟨by have := H1.out; omega, by have := H1.out; omega, HX0.out, by have := H2.out; omega, by have := H2.out; omega, by have := H2.out; have := H3.out; omega,
            fun i a b ha hb => ⟨HU.out i a b (by have := lt_of_get hb; have := H1.out; omega) ha hb, HMX.out (i + 1) b (by have := lt_of_get hb; have := H1.out; omega) hb⟩, fun i r hr => (HR.out i r (by have := lt_of_get hr; have := H2.out; omega) hr).1,
            fun i r hr => (HR.out i r (by have := lt_of_get hr; have := H2.out; omega) hr).2⟩)
          clear h2
          go_wp2
          go_ret
          exact ⟨ret_int (Dfa.checkE_yes HY.out).symm, (by repeat (first | exact Below.refl _ _ | exact (Below.refl _ _).alloc (Nat.le_refl _) _ | apply below_drewN))⟩

end Go.Proofs.YtilhicefhhgecaaGreatDoor
