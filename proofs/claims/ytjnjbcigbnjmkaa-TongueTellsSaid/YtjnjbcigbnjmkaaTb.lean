/- Repeating, as the program does: places step by step, all of them gathered. Nothing of a program stands here. -/
import Derived.Test.YtjnjbcigbnjmkaaTa
namespace Pv
open Go Go.RowKit

section
variable {F : Nat → Nat → Prop} {A : Nat → Nat → Prop}
theorem Fs.stay (hs : ∀ k j, F (k + 1) j ↔ im A (F k) j) {k : Nat} (h : ∀ j, F (k + 1) j ↔ F k j) : ∀ d j, F (k + d) j ↔ F k j
  | 0, j => Iff.rfl
  | d + 1, j => by
    rw [← h j]
    show F (k + d + 1) j ↔ F (k + 1) j
    rw [hs, hs]
    constructor
    · rintro ⟨i, h1, h2⟩; exact ⟨i, (Fs.stay hs h d i).1 h1, h2⟩
    · rintro ⟨i, h1, h2⟩; exact ⟨i, (Fs.stay hs h d i).2 h1, h2⟩
theorem Fs.shut (hs : ∀ k j, F (k + 1) j ↔ im A (F k) j) {l c : Nat} (hlc : l ≤ c) (h : ∀ j, F (c + 1) j → ∃ k, l ≤ k ∧ k ≤ c ∧ F k j) : ∀ m j, l ≤ m → F m j → ∃ k, l ≤ k ∧ k ≤ c ∧ F k j
  | m, j, hl, hf => by
    by_cases hm : m ≤ c
    · exact ⟨m, hl, hm, hf⟩
    · match m, hl, hf, hm with
      | 0, _, _, hm => omega
      | m + 1, hl, hf, hm =>
        by_cases hml : l ≤ m
        · obtain ⟨i, h1, h2⟩ := (hs m j).1 hf
          obtain ⟨k, h3, h4, h5⟩ := Fs.shut hs hlc h m i hml h1
          have h6 : F (k + 1) j := (hs k j).2 ⟨i, h5, h2⟩
          by_cases hk : k + 1 ≤ c
          · exact ⟨k + 1, by omega, hk, h6⟩
          · obtain rfl : k = c := by omega
            exact h j h6
        · exfalso; omega
end
theorem im_pw {A : Nat → Nat → Prop} {S : Nat → Prop} (k j : Nat) : im (Pw A (k + 1)) S j ↔ im A (im (Pw A k) S) j := by
  constructor
  · rintro ⟨i, h1, m, h2, h3⟩; exact ⟨m, ⟨i, h1, h2⟩, h3⟩
  · rintro ⟨m, ⟨i, h1, h2⟩, h3⟩; exact ⟨i, h1, m, h2, h3⟩
theorem im_pw0 {A : Nat → Nat → Prop} {S : Nat → Prop} (j : Nat) : im (Pw A 0) S j ↔ S j := by
  constructor
  · rintro ⟨i, h1, h2⟩; simp only [Pw] at h2; subst h2; exact h1
  · intro h; exact ⟨j, h, rfl⟩
theorem im_ag {A : Nat → Nat → Prop} {S : Nat → Prop} {l : Nat} {m : Int} (j : Nat) : im (Ag A l m) S j ↔ ∃ k : Nat, l ≤ k ∧ (m < 0 ∨ (k : Int) ≤ m) ∧ im (Pw A k) S j := by
  constructor
  · rintro ⟨i, h1, k, h2, h3, h4⟩; exact ⟨k, h2, h3, i, h1, h4⟩
  · rintro ⟨k, h2, h3, i, h1, h4⟩; exact ⟨i, h1, k, h2, h3, h4⟩
/-- How many places of 0 .. n. -/
noncomputable def cnt (n : Nat) (S : Nat → Prop) : Nat := (List.range (n + 1)).countP fun i => yes (S i)
theorem cnt_le (n : Nat) (S : Nat → Prop) : cnt n S ≤ n + 1 := by
  have := List.countP_le_length (p := fun i => yes (S i)) (l := List.range (n + 1))
  simpa [cnt] using this
theorem countP_lt {S S' : Nat → Prop} (h : ∀ i, S i → S' i) : ∀ l : List Nat, (∃ i, i ∈ l ∧ S' i ∧ ¬ S i) → (l.countP fun i => yes (S i)) < l.countP fun i => yes (S' i)
  | [], ⟨i, hi, _⟩ => by simp at hi
  | x :: l, ⟨i, hi, h1, h2⟩ => by
    have hle : ∀ l : List Nat, (l.countP fun i => yes (S i)) ≤ l.countP fun i => yes (S' i) := fun l => List.countP_mono_left fun i _ hi => yes_t (h i (of_yes hi))
    rw [List.countP_cons, List.countP_cons]
    rcases List.mem_cons.1 hi with rfl | hi
    · rw [yes_t h1, yes_f h2]
      have := hle l
      simp; omega
    · have := countP_lt h l ⟨i, hi, h1, h2⟩
      by_cases hx : S x
      · rw [yes_t hx, yes_t (h x hx)]; simp; omega
      · rw [yes_f hx]; simp; omega
theorem cnt_lt {n : Nat} {S S' : Nat → Prop} (h : ∀ i, S i → S' i) {i : Nat} (hi : i ≤ n) (h1 : S' i) (h2 : ¬ S i) : cnt n S < cnt n S' := countP_lt h _ ⟨i, by simp; omega, h1, h2⟩
end Pv
