/- Plain: some states as four words of bits (the key by which the program's maker knows them). Nothing of a program stands here. -/
import Derived.Test.YtilhicefhhgecaaGreatDoorFan
import Derived.Test.YtilhicefhhgecaaGreatDoorGen
namespace Pv
open Go Go.RowKit
/-- The bits of some states within one word. -/
def wd (l : List Int) (i : Nat) : Nat := l.foldl (fun a n => if n.toNat / 64 = i then a ||| (1 <<< (n.toNat % 64)) else a) 0
theorem wd_snoc (l : List Int) (n : Int) (i : Nat) : wd (l ++ [n]) i = if n.toNat / 64 = i then wd l i ||| (1 <<< (n.toNat % 64)) else wd l i := by
  unfold wd; rw [List.foldl_append]; rfl
theorem wd_fold (l : List Int) (i j : Nat) : ∀ a : Nat, (l.foldl (fun a n => if n.toNat / 64 = i then a ||| (1 <<< (n.toNat % 64)) else a) a).testBit j = true ↔ a.testBit j = true ∨ ∃ n ∈ l, n.toNat / 64 = i ∧ n.toNat % 64 = j := by
  induction l with
  | nil => intro a; simp
  | cons n l ih =>
    intro a
    rw [List.foldl_cons, ih]
    by_cases h : n.toNat / 64 = i
    · rw [if_pos h]
      have e1 : (1 <<< (n.toNat % 64)).testBit j = decide (n.toNat % 64 = j) := by
        rw [Nat.one_shiftLeft, Nat.testBit_two_pow]
      rw [Nat.testBit_or, e1]
      simp only [Bool.or_eq_true, decide_eq_true_eq, List.mem_cons, exists_eq_or_imp]
      constructor
      · rintro ((h1 | h1) | h1)
        · exact .inl h1
        · exact .inr (.inl ⟨h, h1⟩)
        · exact .inr (.inr h1)
      · rintro (h1 | ⟨_, h1⟩ | h1)
        · exact .inl (.inl h1)
        · exact .inl (.inr h1)
        · exact .inr h1
    · rw [if_neg h]
      simp only [List.mem_cons, exists_eq_or_imp]
      constructor
      · rintro (h1 | h1)
        · exact .inl h1
        · exact .inr (.inr h1)
      · rintro (h1 | ⟨h1, _⟩ | h1)
        · exact .inl h1
        · exact absurd h1 h
        · exact .inr h1
theorem wd_bit (l : List Int) (i j : Nat) : (wd l i).testBit j = true ↔ ∃ n ∈ l, n.toNat / 64 = i ∧ n.toNat % 64 = j := by
  unfold wd; rw [wd_fold]; simp
theorem wd_lt (l : List Int) (i : Nat) : wd l i < 18446744073709551616 := by
  have : (18446744073709551616 : Nat) = 2 ^ 64 := by decide
  rw [this]
  refine Nat.lt_pow_two_of_testBit _ fun j hj => ?_
  cases h : (wd l i).testBit j with
  | false => rfl
  | true => obtain ⟨n, _, _, h2⟩ := (wd_bit l i j).1 h; omega
theorem wd_mem {l : List Int} (h : ∀ x, x ∈ l → 0 ≤ x ∧ x < 256) {x : Int} (hx : 0 ≤ x) : x ∈ l ↔ (wd l (x.toNat / 64)).testBit (x.toNat % 64) = true := by
  rw [wd_bit]
  constructor
  · intro h1; exact ⟨x, h1, rfl, rfl⟩
  · rintro ⟨n, h1, h2, h3⟩
    have := (h n h1).1
    have : n.toNat = x.toNat := by omega
    have : n = x := by omega
    exact this ▸ h1
theorem wd_ext {l m : List Int} (hl : ∀ x, x ∈ l → 0 ≤ x ∧ x < 256) (hm : ∀ x, x ∈ m → 0 ≤ x ∧ x < 256) (h : ∀ i, i < 4 → wd l i = wd m i) (x : Int) : x ∈ l ↔ x ∈ m := by
  have key : ∀ {l m : List Int}, (∀ x, x ∈ l → 0 ≤ x ∧ x < 256) → (∀ x, x ∈ m → 0 ≤ x ∧ x < 256) → (∀ i, i < 4 → wd l i = wd m i) → x ∈ l → x ∈ m := fun hl hm h hx => by
    have h1 := hl x hx
    rw [wd_mem hm h1.1, ← h _ (by omega), ← wd_mem hl h1.1]
    exact hx
  exact ⟨key hl hm h, key hm hl fun i hi => (h i hi).symm⟩
/-- Rising lists are told by these. -/
theorem wd_inj {n : Nat} (hn : n ≤ 256) {S T : Nat → Prop} (h : ∀ i, i < 4 → wd (stL n S) i = wd (stL n T) i) : stL n S = stL n T :=
  rise_ext (stL_pair n S) (stL_pair n T) fun x => wd_ext (fun x hx => by have := stL_in x hx; omega) (fun x hx => by have := stL_in x hx; omega) h x
end Pv

namespace Pv
open Go Go.RowKit
theorem mergeL_lt {x y : Int} (xs ys : List Int) (h : x < y) : mergeL (x :: xs) (y :: ys) = x :: mergeL xs (y :: ys) := by rw [mergeL, if_pos h]
theorem mergeL_eq (x : Int) (xs ys : List Int) : mergeL (x :: xs) (x :: ys) = x :: mergeL xs ys := by rw [mergeL, if_neg (by omega), if_pos rfl]
theorem mergeL_gt {x y : Int} (xs ys : List Int) (h : y < x) : mergeL (x :: xs) (y :: ys) = y :: mergeL (x :: xs) ys := by rw [mergeL, if_neg (by omega), if_neg (by omega)]
theorem mergeL_mem : ∀ (xs ys : List Int) (z : Int), z ∈ mergeL xs ys ↔ z ∈ xs ∨ z ∈ ys
  | [], ys, z => by simp [mergeL]
  | x :: xs, [], z => by simp [mergeL]
  | x :: xs, y :: ys, z => by
    rcases Int.lt_trichotomy x y with h | h | h
    · rw [mergeL_lt _ _ h, List.mem_cons, mergeL_mem xs (y :: ys)]; simp [or_assoc]
    · subst h; rw [mergeL_eq, List.mem_cons, mergeL_mem xs ys]; simp only [List.mem_cons]
      constructor
      · rintro (h | h | h) <;> simp [h]
      · rintro ((h | h) | (h | h)) <;> simp [h]
    · rw [mergeL_gt _ _ h, List.mem_cons, mergeL_mem (x :: xs) ys]; simp only [List.mem_cons]
      constructor
      · rintro (h | (h | h) | h) <;> simp [h]
      · rintro ((h | h) | (h | h)) <;> simp [h]
termination_by xs ys => xs.length + ys.length
theorem mergeL_rise : ∀ (xs ys : List Int), Rise xs → Rise ys → Rise (mergeL xs ys)
  | [], ys, _, h => by simpa [mergeL] using h
  | x :: xs, [], h, _ => by simpa [mergeL] using h
  | x :: xs, y :: ys, hx, hy => by
    obtain ⟨a1, a2⟩ := List.pairwise_cons.1 hx
    obtain ⟨b1, b2⟩ := List.pairwise_cons.1 hy
    rcases Int.lt_trichotomy x y with h | h | h
    · rw [mergeL_lt _ _ h]
      refine List.pairwise_cons.2 ⟨fun z hz => ?_, mergeL_rise xs (y :: ys) a2 hy⟩
      rcases (mergeL_mem _ _ _).1 hz with hz | hz
      · exact a1 z hz
      · rcases List.mem_cons.1 hz with rfl | hz
        · exact h
        · have := b1 z hz; omega
    · subst h
      rw [mergeL_eq]
      refine List.pairwise_cons.2 ⟨fun z hz => ?_, mergeL_rise xs ys a2 b2⟩
      rcases (mergeL_mem _ _ _).1 hz with hz | hz
      · exact a1 z hz
      · exact b1 z hz
    · rw [mergeL_gt _ _ h]
      refine List.pairwise_cons.2 ⟨fun z hz => ?_, mergeL_rise (x :: xs) ys hx b2⟩
      rcases (mergeL_mem _ _ _).1 hz with hz | hz
      · rcases List.mem_cons.1 hz with rfl | hz
        · exact h
        · have := a1 z hz; omega
      · exact b1 z hz
termination_by xs ys => xs.length + ys.length
theorem mergeL_len : ∀ (xs ys : List Int), (mergeL xs ys).length ≤ xs.length + ys.length
  | [], ys => by simp [mergeL]
  | x :: xs, [] => by simp [mergeL]
  | x :: xs, y :: ys => by
    rcases Int.lt_trichotomy x y with h | h | h
    · rw [mergeL_lt _ _ h]; have := mergeL_len xs (y :: ys); simp at *; omega
    · subst h; rw [mergeL_eq]; have := mergeL_len xs ys; simp at *; omega
    · rw [mergeL_gt _ _ h]; have := mergeL_len (x :: xs) ys; simp at *; omega
termination_by xs ys => xs.length + ys.length
end Pv
