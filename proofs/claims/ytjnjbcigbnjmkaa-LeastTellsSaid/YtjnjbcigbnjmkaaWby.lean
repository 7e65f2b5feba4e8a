/- What the walks import. -/
import Derived.Test.YtjnjbcigbnjmkaaDfay
import Derived.Test.YtjnjbcigbnjmkaaChecked
import Derived.WalkKit
import Derived.WalkSpells
import Derived.WalkLawsBesides
import Derived.Deep.QuietTactic
import Derived.BigQuiet
import Derived.Lib.Hide
import Derived.Outline

namespace Go.Proofs.Ytjnjbcigbnjmkaa
open Go.RowKit Pv

set_option maxHeartbeats 400000 in
theorem ref06_SameInts (A B : Option Addr) (c d n m : Nat) (l r : List Int) (w : World) (ha : At w A RI l) (hb : At w B RI r) (HL : Hid (l.length = n)) (HM : Hid (r.length = m)) :
    Calls Try.prog 21 #[.slice A n c, .slice B m d] w fun e w' => e = .returned (.bool (decide (l = r))) ∧ ∃ n, w' = w.drewN n := by
  by_cases hlen : n = m
  · have hl : n ≤ 140737488355328 := by have := ha.1; rwa [HL.out] at this
    subst hlen
    have h1 : ((n : Int) != (n : Int)) = false := by simp
    go_enter Try.func21, Try.ntmps21
    go_wp2
    go_loopw [5] (fun i wr => ∃ k q : Nat, i = .int .i64 k ∧ wr = w.drewN q ∧ k ≤ n ∧ l.take k = r.take k) (fun i _ => n - (intOf i).toNat)
    case atStart => exact ⟨0, 0, rfl, rfl, by omega, by simp⟩
    case round =>
      obtain ⟨k, q, rfl, rfl, hk, heq⟩ := hrel
      have HE := Lib.hid heq; clear heq
      by_cases hlt : k < n
      · obtain ⟨b, off, u, x, rfl, hbs, hx, ⟨rfl, _, _⟩, HX⟩ := ha.gt HL hlt
        obtain ⟨b', off', u', y, rfl, hbs', hy, ⟨rfl, _, _⟩, HY⟩ := hb.gt HM hlt
        clear ha hb
        by_cases hxy : x = y
        · subst hxy
          have h2 : (x != x) = false := by simp
          go_wp2
          go_quiet (fail)
          go_wp2
          go_roundw
          case rel => exact ⟨k + 1, _, by go_num, rfl, by omega, by rw [take_snoc HX.out, take_snoc HY.out, HE.out]⟩
          case measure => simp [intOf]; omega
        · have h2 : (x != y) = true := by simp [hxy]
          have HXY := Lib.hid hxy; clear hxy
          go_wp2
          go_quiet (fail)
          go_wp2
          go_ret
          refine ⟨ret_bool (decide_eq_false fun hh => HXY.out ?_).symm, _, World.drewN_drewN _ _ _⟩
          subst hh
          exact Option.some.inj (HX.out.symm.trans HY.out)
      · have : k = n := by omega
        subst this
        go_wp2
        go_ret
        exact ⟨ret_bool (decide_eq_true (by have := HE.out; rwa [List.take_of_length_le (by rw [HL.out]; omega), List.take_of_length_le (by rw [HM.out]; omega)] at this)).symm, q, rfl⟩
  · have h1 : ((n : Int) != (m : Int)) = true := by simp; omega
    have HN := Lib.hid (show decide (l = r) = false by simp; intro h; subst h; exact hlen (HL.out.symm.trans HM.out))
    clear hlen
    go_enter Try.func21, Try.ntmps21
    go_wp2
    go_ret
    exact ⟨ret_bool HN.out.symm, 0, rfl⟩

set_option maxHeartbeats 400000 in
theorem slices_Equal_int (A B : Option Addr) (c d n m : Nat) (l r : List Int) (w : World) (ha : At w A RI l) (hb : At w B RI r) (HL : Hid (l.length = n)) (HM : Hid (r.length = m)) :
    Calls Try.prog 56 #[.slice A n c, .slice B m d] w fun e w' => e = .returned (.bool (decide (l = r))) ∧ ∃ n, w' = w.drewN n := by
  by_cases hlen : n = m
  · have hl : n ≤ 140737488355328 := by have := ha.1; rwa [HL.out] at this
    subst hlen
    have h1 : ((n : Int) != (n : Int)) = false := by simp
    go_enter Try.func56, Try.ntmps56
    go_wp2
    go_loopw [13] (fun i wr => ∃ k q : Nat, i = .int .i64 k ∧ wr = w.drewN q ∧ k ≤ n ∧ l.take k = r.take k) (fun i _ => n - (intOf i).toNat)
    case atStart => exact ⟨0, 0, rfl, rfl, by omega, by simp⟩
    case round =>
      obtain ⟨k, q, rfl, rfl, hk, heq⟩ := hrel
      have HE := Lib.hid heq; clear heq
      by_cases hlt : k < n
      · obtain ⟨b, off, u, x, rfl, hbs, hx, ⟨rfl, _, _⟩, HX⟩ := ha.gt HL hlt
        obtain ⟨b', off', u', y, rfl, hbs', hy, ⟨rfl, _, _⟩, HY⟩ := hb.gt HM hlt
        clear ha hb
        by_cases hxy : x = y
        · subst hxy
          have h2 : (x != x) = false := by simp
          go_wp2
          go_quiet (fail)
          go_wp2
          go_roundw
          case rel => exact ⟨k + 1, _, by go_num, rfl, by omega, by rw [take_snoc HX.out, take_snoc HY.out, HE.out]⟩
          case measure => simp [intOf]; omega
        · have h2 : (x != y) = true := by simp [hxy]
          have HXY := Lib.hid hxy; clear hxy
          go_wp2
          go_quiet (fail)
          go_wp2
          go_ret
          refine ⟨ret_bool (decide_eq_false fun hh => HXY.out ?_).symm, _, World.drewN_drewN _ _ _⟩
          subst hh
          exact Option.some.inj (HX.out.symm.trans HY.out)
      · have : k = n := by omega
        subst this
        go_wp2
        go_ret
        exact ⟨ret_bool (decide_eq_true (by have := HE.out; rwa [List.take_of_length_le (by rw [HL.out]; omega), List.take_of_length_le (by rw [HM.out]; omega)] at this)).symm, q, rfl⟩
  · have h1 : ((n : Int) != (m : Int)) = true := by simp; omega
    have HN := Lib.hid (show decide (l = r) = false by simp; intro h; subst h; exact hlen (HL.out.symm.trans HM.out))
    clear hlen
    go_enter Try.func56, Try.ntmps56
    go_wp2
    go_ret
    exact ⟨ret_bool HN.out.symm, 0, rfl⟩

set_option maxHeartbeats 400000 in
theorem slices_Equal_bool (A B : Option Addr) (c d n m : Nat) (l r : List Bool) (w : World) (ha : At w A RB l) (hb : At w B RB r) (HL : Hid (l.length = n)) (HM : Hid (r.length = m)) :
    Calls Try.prog 58 #[.slice A n c, .slice B m d] w fun e w' => e = .returned (.bool (decide (l = r))) ∧ ∃ n, w' = w.drewN n := by
  by_cases hlen : n = m
  · have hl : n ≤ 140737488355328 := by have := ha.1; rwa [HL.out] at this
    subst hlen
    have h1 : ((n : Int) != (n : Int)) = false := by simp
    go_enter Try.func58, Try.ntmps58
    go_wp2
    go_loopw [13] (fun i wr => ∃ k q : Nat, i = .int .i64 k ∧ wr = w.drewN q ∧ k ≤ n ∧ l.take k = r.take k) (fun i _ => n - (intOf i).toNat)
    case atStart => exact ⟨0, 0, rfl, rfl, by omega, by simp⟩
    case round =>
      obtain ⟨k, q, rfl, rfl, hk, heq⟩ := hrel
      have HE := Lib.hid heq; clear heq
      by_cases hlt : k < n
      · obtain ⟨b, off, u, x, rfl, hbs, hx, rfl, HX⟩ := ha.gt HL hlt
        obtain ⟨b', off', u', y, rfl, hbs', hy, rfl, HY⟩ := hb.gt HM hlt
        clear ha hb
        by_cases hxy : x = y
        · subst hxy
          have h2 : (x == x) = true := by simp
          go_wp2
          go_quiet (fail)
          go_wp2
          go_roundw
          case rel => exact ⟨k + 1, _, by go_num, rfl, by omega, by rw [take_snoc HX.out, take_snoc HY.out, HE.out]⟩
          case measure => simp [intOf]; omega
        · have h2 : (x == y) = false := by simp [hxy]
          have HXY := Lib.hid hxy; clear hxy
          go_wp2
          go_quiet (fail)
          go_wp2
          go_ret
          refine ⟨ret_bool (decide_eq_false fun hh => HXY.out ?_).symm, _, World.drewN_drewN _ _ _⟩
          subst hh
          exact Option.some.inj (HX.out.symm.trans HY.out)
      · have : k = n := by omega
        subst this
        go_wp2
        go_ret
        exact ⟨ret_bool (decide_eq_true (by have := HE.out; rwa [List.take_of_length_le (by rw [HL.out]; omega), List.take_of_length_le (by rw [HM.out]; omega)] at this)).symm, q, rfl⟩
  · have h1 : ((n : Int) != (m : Int)) = true := by simp; omega
    have HN := Lib.hid (show decide (l = r) = false by simp; intro h; subst h; exact hlen (HL.out.symm.trans HM.out))
    clear hlen
    go_enter Try.func58, Try.ntmps58
    go_wp2
    go_ret
    exact ⟨ret_bool HN.out.symm, 0, rfl⟩

end Go.Proofs.Ytjnjbcigbnjmkaa

namespace Go.Proofs.Ytjnjbcigbnjmkaa
open Go.RowKit Pv

set_option maxHeartbeats 1000000 in
set_option maxRecDepth 100000 in
theorem contains_int (A : Option Addr) (c n : Nat) (l : List Int) (p : Int) (w : World) (h : At w A RI l) (HL : Hid (l.length = n)) :
    Calls Try.prog 68 #[.slice A n c, .int .i64 p] w fun e w' => e = .returned (.bool (decide (p ∈ l))) ∧ w' = w := by
  have hl : n ≤ 140737488355328 := by have := h.1; rwa [HL.out] at this
  have hIX : Calls Try.prog 113 #[.slice A n c, .int .i64 p] w fun e w' => (∃ r : Int, e = .returned (.int .i64 r) ∧ (0 ≤ r ↔ p ∈ l)) ∧ w' = w := by
    go_enter Try.func113, Try.ntmps113
    go_wp2
    go_loop [8] (fun i => ∃ k : Nat, i = .int .i64 k ∧ k ≤ n ∧ p ∉ l.take k) (fun i => n - (intOf i).toNat)
    case atStart => exact ⟨0, rfl, by omega, by simp⟩
    case round =>
      obtain ⟨k, rfl, hk, hno⟩ := hrel
      have HNO := Lib.hid hno
      clear hno
      by_cases hlt : k < n
      · obtain ⟨b, off, u, x, rfl, hbs, hx, ⟨rfl, _, _⟩, HX⟩ := h.gt HL hlt
        by_cases hpx : p = x
        · have HM := Lib.hid (show p ∈ l by rw [hpx]; exact mem_of_get HX.out)
          subst hpx
          go_wp2
          go_ret
          exact ⟨⟨_, rfl, fun _ => HM.out, fun _ => by omega⟩, rfl⟩
        · have HS := Lib.hid (show p ∉ l.take (k + 1) by
            rw [take_snoc HX.out]
            simp only [List.mem_append, List.mem_singleton, not_or]
            exact ⟨HNO.out, hpx⟩)
          go_wp2
          go_round
          case rel => exact ⟨k + 1, by go_num, by omega, HS.out⟩
          case measure => simp [intOf]; omega
      · have HN := Lib.hid (show p ∉ l by have := HNO.out; rwa [List.take_of_length_le (by rw [HL.out]; omega)] at this)
        go_wp2
        go_ret
        exact ⟨⟨-1, rfl, fun h => by omega, fun h => absurd h HN.out⟩, rfl⟩
  have HIX := Lib.hid hIX
  obtain ⟨ans, hans⟩ : ∃ ans, decide (p ∈ l) = ans := ⟨_, rfl⟩
  rw [hans]
  have HA := Lib.hid hans
  clear hIX h hans
  go_enter Try.func68, Try.ntmps68
  go_wp2_with fail
  refine HIX.out.mono ?_
  rintro e w2 ⟨⟨r, rfl, hr⟩, rfl⟩
  have HR := Lib.hid (show decide (0 ≤ r) = ans by
    rw [← HA.out]
    by_cases h0 : p ∈ l
    · rw [decide_eq_true h0]; exact decide_eq_true (hr.2 h0)
    · rw [decide_eq_false h0]; exact decide_eq_false (fun h1 => h0 (hr.1 h1)))
  clear hr
  go_wp2
  go_ret
  exact ⟨ret_bool HR.out, rfl⟩

end Go.Proofs.Ytjnjbcigbnjmkaa

namespace Go.Proofs.Ytjnjbcigbnjmkaa
open Go.RowKit Pv

set_option maxHeartbeats 400000 in
theorem slices_Min_int (A : Option Addr) (c n : Nat) (l : List Int) (w : World) (ha : At w A RI l) (HL : Hid (l.length = n)) (h0 : 0 < n) :
    Calls Try.prog 54 #[.slice A n c] w fun e w' => ∃ m : Int, e = .returned (.int .i64 m) ∧ m ∈ l ∧ (∀ x ∈ l, m ≤ x) ∧ w = w' := by
  have hl : n ≤ 140737488355328 := by have := ha.1; rwa [HL.out] at this
  obtain ⟨b, off, u, x0, rfl, hbs, hx0, ⟨rfl, _, _⟩, HX0⟩ := ha.gt HL h0
  have hlt1 : ((n : Int) < 1) = False := by simp; omega
  simp only [Nat.add_zero] at hx0
  go_enter Try.func54, Try.ntmps54
  go_wp2
  go_loop [3, 4] (fun v i => ∃ (k : Nat) (m : Int), i = .int .i64 k ∧ v = .int .i64 m ∧ 1 ≤ k ∧ k ≤ n ∧ m ∈ l.take k ∧ ∀ x ∈ l.take k, m ≤ x) (fun _ i => n - (intOf i).toNat)
  case atStart =>
    have ht : l.take 1 = [x0] := by rw [take_snoc HX0.out]; simp
    exact ⟨1, x0, rfl, rfl, by omega, by omega, by rw [ht]; simp, by rw [ht]; simp⟩
  case round =>
    obtain ⟨k, m, rfl, rfl, hk1, hk, hm, hle⟩ := hrel
    have HM := Lib.hid hm; have HE := Lib.hid hle; clear hm hle
    by_cases hlt : k < n
    · obtain ⟨u, x, _, hx, ⟨rfl, _, _⟩, HX⟩ := ha.gt2 HL hlt
      clear ha hx0
      by_cases hmx : x < m
      · go_wp2
        go_round
        case rel =>
          refine ⟨k + 1, x, by go_num, rfl, by omega, by omega, by rw [take_snoc HX.out]; simp, fun y hy => ?_⟩
          rw [take_snoc HX.out] at hy
          rcases List.mem_append.1 hy with hy | hy
          · have := HE.out y hy; omega
          · simp at hy; omega
        case measure => simp [intOf]; omega
      · go_wp2
        go_round
        case rel =>
          refine ⟨k + 1, m, by go_num, rfl, by omega, by omega, by rw [take_snoc HX.out]; simp [HM.out], fun y hy => ?_⟩
          rw [take_snoc HX.out] at hy
          rcases List.mem_append.1 hy with hy | hy
          · have := HE.out y hy; omega
          · simp at hy; omega
        case measure => simp [intOf]; omega
    · have : k = n := by omega
      subst this
      go_wp2
      go_ret
      have ht : l.take k = l := List.take_of_length_le (by rw [HL.out]; omega)
      have h1 := HM.out; have h2 := HE.out
      rw [ht] at h1 h2
      exact ⟨m, rfl, h1, h2, rfl⟩

set_option maxHeartbeats 400000 in
theorem slices_Max_int (A : Option Addr) (c n : Nat) (l : List Int) (w : World) (ha : At w A RI l) (HL : Hid (l.length = n)) (h0 : 0 < n) :
    Calls Try.prog 55 #[.slice A n c] w fun e w' => ∃ m : Int, e = .returned (.int .i64 m) ∧ m ∈ l ∧ (∀ x ∈ l, x ≤ m) ∧ w = w' := by
  have hl : n ≤ 140737488355328 := by have := ha.1; rwa [HL.out] at this
  obtain ⟨b, off, u, x0, rfl, hbs, hx0, ⟨rfl, _, _⟩, HX0⟩ := ha.gt HL h0
  have hlt1 : ((n : Int) < 1) = False := by simp; omega
  simp only [Nat.add_zero] at hx0
  go_enter Try.func55, Try.ntmps55
  go_wp2
  go_loop [3, 4] (fun v i => ∃ (k : Nat) (m : Int), i = .int .i64 k ∧ v = .int .i64 m ∧ 1 ≤ k ∧ k ≤ n ∧ m ∈ l.take k ∧ ∀ x ∈ l.take k, x ≤ m) (fun _ i => n - (intOf i).toNat)
  case atStart =>
    have ht : l.take 1 = [x0] := by rw [take_snoc HX0.out]; simp
    exact ⟨1, x0, rfl, rfl, by omega, by omega, by rw [ht]; simp, by rw [ht]; simp⟩
  case round =>
    obtain ⟨k, m, rfl, rfl, hk1, hk, hm, hle⟩ := hrel
    have HM := Lib.hid hm; have HE := Lib.hid hle; clear hm hle
    by_cases hlt : k < n
    · obtain ⟨u, x, _, hx, ⟨rfl, _, _⟩, HX⟩ := ha.gt2 HL hlt
      clear ha hx0
      by_cases hmx : m < x
      · go_wp2
        go_round
        case rel =>
          refine ⟨k + 1, x, by go_num, rfl, by omega, by omega, by rw [take_snoc HX.out]; simp, fun y hy => ?_⟩
          rw [take_snoc HX.out] at hy
          rcases List.mem_append.1 hy with hy | hy
          · have := HE.out y hy; omega
          · simp at hy; omega
        case measure => simp [intOf]; omega
      · go_wp2
        go_round
        case rel =>
          refine ⟨k + 1, m, by go_num, rfl, by omega, by omega, by rw [take_snoc HX.out]; simp [HM.out], fun y hy => ?_⟩
          rw [take_snoc HX.out] at hy
          rcases List.mem_append.1 hy with hy | hy
          · have := HE.out y hy; omega
          · simp at hy; omega
        case measure => simp [intOf]; omega
    · have : k = n := by omega
      subst this
      go_wp2
      go_ret
      have ht : l.take k = l := List.take_of_length_le (by rw [HL.out]; omega)
      have h1 := HM.out; have h2 := HE.out
      rw [ht] at h1 h2
      exact ⟨m, rfl, h1, h2, rfl⟩

theorem slices_isNaN_int (x : Int) (w : World) : Calls Try.prog 149 #[.int .i64 x] w fun e w' => e = .returned (.bool false) ∧ w = w' := by
  have h : (x != x) = false := by simp
  go_enter Try.func149, Try.ntmps149
  go_wp2
  go_ret
  exact ⟨rfl, rfl⟩
theorem cmp_isNaN_int (x : Int) (w : World) : Calls Try.prog 180 #[.int .i64 x] w fun e w' => e = .returned (.bool false) ∧ w = w' := by
  have h : (x != x) = false := by simp
  go_enter Try.func180, Try.ntmps180
  go_wp2
  go_ret
  exact ⟨rfl, rfl⟩
def ltB (x y : Int) : Bool := decide (x < y)
theorem cmp_Less_int (x y : Int) (w : World) : Calls Try.prog 148 #[.int .i64 x, .int .i64 y] w fun e w' => e = .returned (.bool (ltB x y)) ∧ w = w' := by
  go_enter Try.func148, Try.ntmps148
  go_wp2_with (first | (go_at_call 180; refine (cmp_isNaN_int _ _).mono ?_; rintro e w' ⟨rfl, rfl⟩))
  go_ret
  exact ⟨rfl, rfl⟩

/-- What the search of a rising list tells: a place, whether the number stands there. -/
def SearchPost (l : List Int) (n : Nat) (x : Int) (w : World) (e : Ending) (w' : World) : Prop :=
  ∃ (i : Nat) (f : Bool), e = .returned (.tuple #[.int .i64 i, .bool f]) ∧ i ≤ n ∧ (∀ (j : Nat) a, j < i → l[j]? = some a → a < x) ∧ (∀ (j : Nat) a, i ≤ j → l[j]? = some a → x ≤ a) ∧ (f = decide (l[i]? = some x)) ∧ w = w'
set_option maxHeartbeats 1000000 in
set_option maxRecDepth 100000 in
theorem slices_BinarySearch_int (A : Option Addr) (c n : Nat) (x : Int) (l : List Int) (w : World) (ha : At w A RI l) (HL : Hid (l.length = n)) (hs : Hid (∀ (i j : Nat), i ≤ j → ∀ a b, l[i]? = some a → l[j]? = some b → a ≤ b)) :
    Calls Try.prog 104 #[.slice A n c, .int .i64 x] w (SearchPost l n x w) := by
  have hl : n ≤ 140737488355328 := by have := ha.1; rwa [HL.out] at this
  go_enter Try.func104, Try.ntmps104
  go_wp2
  go_loop [7, 8] (fun i j => ∃ (lo hi : Nat), i = .int .i64 lo ∧ j = .int .i64 hi ∧ lo ≤ hi ∧ hi ≤ n ∧ (∀ (j : Nat) a, j < lo → l[j]? = some a → a < x) ∧ (∀ (j : Nat) a, hi ≤ j → l[j]? = some a → x ≤ a)) (fun i j => (intOf j - intOf i).toNat)
  case atStart => exact ⟨0, n, rfl, rfl, by omega, by omega, by intros; omega, fun j a hj ha => by have := lt_of_get ha; have := HL.out; omega⟩
  case round =>
    obtain ⟨lo, hi, rfl, rfl, h1, h2, hlo, hhi⟩ := hrel
    have HLO := Lib.hid hlo; have HHI := Lib.hid hhi; clear hlo hhi
    by_cases hlt : lo < hi
    · obtain ⟨b, off, u, y, rfl, hbs, hx, ⟨rfl, _, _⟩, HX⟩ := ha.gt (k := (lo + hi) / 2) HL (by omega)
      clear ha
      by_cases hyx : y < x
      · have hT : ltB y x = true := decide_eq_true hyx
        go_wp2_with (first | (go_at_call 148; refine (cmp_Less_int _ _ _).mono ?_; rintro e w' ⟨rfl, rfl⟩) | (go_at_call 149; refine (slices_isNaN_int _ _).mono ?_; rintro e w' ⟨rfl, rfl⟩))
        go_round
        case rel =>
          refine ⟨(lo + hi) / 2 + 1, hi, by rw [show ((lo : Int) + (hi : Int)) / 2 + 1 = (((lo + hi) / 2 + 1 : Nat) : Int) by omega], rfl, by omega, by omega, fun j a hj hja => ?_, HHI.out⟩
          have := hs.out j ((lo + hi) / 2) (by omega) a y hja HX.out
          omega
        case measure => simp [intOf]; omega
      · have hT : ltB y x = false := decide_eq_false hyx
        go_wp2_with (first | (go_at_call 148; refine (cmp_Less_int _ _ _).mono ?_; rintro e w' ⟨rfl, rfl⟩) | (go_at_call 149; refine (slices_isNaN_int _ _).mono ?_; rintro e w' ⟨rfl, rfl⟩))
        go_round
        case rel =>
          refine ⟨lo, (lo + hi) / 2, rfl, by rw [show ((lo : Int) + (hi : Int)) / 2 = (((lo + hi) / 2 : Nat) : Int) by omega], by omega, by omega, HLO.out, fun j a hj hja => ?_⟩
          have := hs.out ((lo + hi) / 2) j hj y a HX.out hja
          omega
        case measure => simp [intOf]; omega
    · have : lo = hi := by omega
      subst this
      by_cases hn : lo < n
      · obtain ⟨b, off, u, y, rfl, hbs, hx, ⟨rfl, _, _⟩, HX⟩ := ha.gt (k := lo) HL hn
        clear ha
        by_cases hyx : y = x
        · subst hyx
          have hT : (y == y) = true := by simp
          go_wp2_with (first | (go_at_call 148; refine (cmp_Less_int _ _ _).mono ?_; rintro e w' ⟨rfl, rfl⟩) | (go_at_call 149; refine (slices_isNaN_int _ _).mono ?_; rintro e w' ⟨rfl, rfl⟩))
          go_ret2
          exact ⟨lo, true, rfl, h2, HLO.out, HHI.out, by simp [HX.out], rfl⟩
        · have hT : (y == x) = false := by simp [hyx]
          have HYX := Lib.hid hyx; clear hyx
          go_wp2_with (first | (go_at_call 148; refine (cmp_Less_int _ _ _).mono ?_; rintro e w' ⟨rfl, rfl⟩) | (go_at_call 149; refine (slices_isNaN_int _ _).mono ?_; rintro e w' ⟨rfl, rfl⟩))
          go_ret2
          exact ⟨lo, false, rfl, h2, HLO.out, HHI.out, by simp [HX.out, HYX.out], rfl⟩
      · clear ha
        go_wp2_with (first | (go_at_call 148; refine (cmp_Less_int _ _ _).mono ?_; rintro e w' ⟨rfl, rfl⟩) | (go_at_call 149; refine (slices_isNaN_int _ _).mono ?_; rintro e w' ⟨rfl, rfl⟩))
        go_ret2
        exact ⟨lo, false, rfl, h2, HLO.out, HHI.out, by rw [List.getElem?_eq_none (by rw [HL.out]; omega)]; simp, rfl⟩

set_option maxHeartbeats 1000000 in
theorem slices_EqualFunc_rows (A B : Option Addr) (c d n m : Nat) (l r : List (List Int)) (w : World) (ha : At w A (IsInts w) l) (hb : At w B (IsInts w) r) (HL : Hid (l.length = n)) (HM : Hid (r.length = m)) :
    Calls Try.prog 57 #[.slice A n c, .slice B m d, .func (.func 56) #[] #[]] w fun e w' => e = .returned (.bool (decide (l = r))) ∧ ∃ n, w' = w.drewN n := by
  by_cases hlen : n = m
  · have hl : n ≤ 140737488355328 := by have := ha.1; rwa [HL.out] at this
    subst hlen
    have h1 : ((n : Int) != (n : Int)) = false := by simp
    go_enter Try.func57, Try.ntmps57
    go_wp2
    go_loopw [17] (fun i wr => ∃ k q : Nat, i = .int .i64 k ∧ wr = w.drewN q ∧ k ≤ n ∧ l.take k = r.take k) (fun i _ => n - (intOf i).toNat)
    case atStart => exact ⟨0, 0, rfl, rfl, by omega, by simp⟩
    case round =>
      obtain ⟨k, q, rfl, rfl, hk, heq⟩ := hrel
      have HE := Lib.hid heq; clear heq
      by_cases hlt : k < n
      · obtain ⟨b, off, A1, c1, n1, x, rfl, hbs, hx, hA1, HN1, _, _, HX⟩ := ha.gtS HL hlt
        obtain ⟨b', off', A2, c2, n2, y, rfl, hbs', hy, hA2, HN2, _, _, HY⟩ := hb.gtS HM hlt
        clear ha hb
        have HC := Lib.hid (slices_Equal_int A1 A2 c1 c2 n1 n2 x y (w.drewN q) (hA1.keep (Keep.drewN w q)) (hA2.keep (Keep.drewN w q)) HN1 HN2)
        clear hA1 hA2
        by_cases hxy : x = y
        · rw [decide_eq_true hxy] at HC
          go_wp2_with (go_at_call 56; refine HC.out.mono ?_; rintro e w' ⟨rfl, nn, rfl⟩)
          go_roundw
          case rel => exact ⟨k + 1, _, by go_num, rfl, by omega, by rw [take_snoc HX.out, take_snoc HY.out, HE.out, hxy]⟩
          case measure => simp [intOf]; omega
        · rw [decide_eq_false hxy] at HC
          have HXY := Lib.hid hxy; clear hxy
          go_wp2_with (go_at_call 56; refine HC.out.mono ?_; rintro e w' ⟨rfl, nn, rfl⟩)
          go_ret
          refine ⟨ret_bool (decide_eq_false fun hh => HXY.out ?_).symm, _, rfl⟩
          subst hh
          exact Option.some.inj (HX.out.symm.trans HY.out)
      · have : k = n := by omega
        subst this
        go_wp2
        go_ret
        exact ⟨ret_bool (decide_eq_true (by have := HE.out; rwa [List.take_of_length_le (by rw [HL.out]; omega), List.take_of_length_le (by rw [HM.out]; omega)] at this)).symm, q, rfl⟩
  · have h1 : ((n : Int) != (m : Int)) = true := by simp; omega
    have HN := Lib.hid (show decide (l = r) = false by simp; intro h; subst h; exact hlen (HL.out.symm.trans HM.out))
    clear hlen
    go_enter Try.func57, Try.ntmps57
    go_wp2
    go_ret
    exact ⟨ret_bool HN.out.symm, 0, rfl⟩

end Go.Proofs.Ytjnjbcigbnjmkaa
