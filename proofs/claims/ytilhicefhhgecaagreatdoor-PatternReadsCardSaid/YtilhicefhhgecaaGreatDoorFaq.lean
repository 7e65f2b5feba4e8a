/- Where sets turn: places of all, rising; the document's way and the program's. Nothing of a program stands here. -/
import Derived.Test.YtilhicefhhgecaaGreatDoorTaq
import Derived.Lib.SlicesCompact
namespace Pv
open Go Go.RowKit

abbrev Rise (l : List Int) : Prop := l.Pairwise (· < ·)
/-- Where a number stands in a rising list; with it. -/
def atI (n : Int) (l : List Int) : Nat := (l.takeWhile fun x => decide (x < n)).length
def withL (l : List Int) (n : Int) : List Int := if 1114111 < n ∨ l[atI n l]? = some n then l else l.take (atI n l) ++ n :: l.drop (atI n l)
theorem atI_take (n : Int) : ∀ l : List Int, l.take (atI n l) = l.takeWhile fun x => decide (x < n)
  | [] => rfl
  | x :: l => by
    unfold atI
    by_cases h : x < n
    · rw [List.takeWhile_cons_of_pos (by simpa using h)]
      simpa [atI] using atI_take n l
    · rw [List.takeWhile_cons_of_neg (by simpa using h)]; simp
theorem atI_drop (n : Int) : ∀ l : List Int, l.drop (atI n l) = l.dropWhile fun x => decide (x < n)
  | [] => rfl
  | x :: l => by
    unfold atI
    by_cases h : x < n
    · rw [List.takeWhile_cons_of_pos (by simpa using h), List.dropWhile_cons_of_pos (by simpa using h)]
      simpa [atI] using atI_drop n l
    · rw [List.takeWhile_cons_of_neg (by simpa using h), List.dropWhile_cons_of_neg (by simpa using h)]; simp
theorem atI_le (n : Int) (l : List Int) : atI n l ≤ l.length := by
  unfold atI; exact (List.takeWhile_prefix _).length_le
theorem atI_low {n : Int} {l : List Int} {x : Int} (h : x ∈ l.take (atI n l)) : x < n := by
  rw [atI_take] at h
  have h2 : ∀ (m : List Int), x ∈ m.takeWhile (fun y => decide (y < n)) → x < n := fun m => by
    induction m with
    | nil => intro h; simp at h
    | cons y m ih =>
      intro h
      by_cases hy : y < n
      · rw [List.takeWhile_cons_of_pos (by simpa using hy)] at h
        rcases List.mem_cons.1 h with rfl | h
        · exact hy
        · exact ih h
      · rw [List.takeWhile_cons_of_neg (by simpa using hy)] at h; simp at h
  exact h2 l h
theorem atI_next {n : Int} {l : List Int} {x : Int} (h : l[atI n l]? = some x) : n ≤ x := by
  have h1 : (l.drop (atI n l)).head? = some x := by rw [List.head?_drop]; exact h
  rw [atI_drop] at h1
  cases h2 : l.dropWhile (fun x => decide (x < n)) with
  | nil => rw [h2] at h1; cases h1
  | cons y ys =>
    rw [h2] at h1
    obtain rfl := Option.some.inj h1
    have := List.head_dropWhile_not (fun x => decide (x < n)) (l := l) (by rw [h2]; simp)
    simp only [h2, List.head_cons, decide_eq_false_iff_not] at this
    omega
theorem atI_high {n : Int} {l : List Int} {x : Int} (hr : Rise l) (h : x ∈ l.drop (atI n l)) : n ≤ x := by
  obtain ⟨i, hi⟩ := List.getElem?_of_mem h
  rw [List.getElem?_drop] at hi
  have hlt : atI n l < l.length := by have := lt_of_get hi; omega
  have h0 := atI_next (n := n) (l := l) (List.getElem?_eq_getElem hlt)
  by_cases e : i = 0
  · subst e; rw [Nat.add_zero, List.getElem?_eq_getElem hlt] at hi; obtain rfl := Option.some.inj hi; exact h0
  · have h2 := List.pairwise_iff_getElem.1 hr (atI n l) (atI n l + i) hlt (lt_of_get hi) (by omega)
    have h3 := List.getElem?_eq_getElem (lt_of_get hi)
    rw [hi] at h3
    obtain h4 := Option.some.inj h3
    omega
theorem withL_rise {l : List Int} {n : Int} (h : Rise l) : Rise (withL l n) := by
  unfold withL
  split
  · exact h
  · rename_i hne
    refine List.pairwise_append.2 ?_
    refine ⟨h.sublist (List.take_sublist _ _), ?_, ?_⟩
    · rw [List.pairwise_cons]
      refine ⟨fun x hx => ?_, h.sublist (List.drop_sublist _ _)⟩
      have h1 := atI_high h hx
      by_cases e : x = n
      · subst e
        refine absurd (.inr ?_) hne
        obtain ⟨i, hi⟩ := List.getElem?_of_mem hx
        rw [List.getElem?_drop] at hi
        have hlt : atI x l < l.length := by have := lt_of_get hi; omega
        by_cases e : i = 0
        · subst e; exact hi
        · have h2 := List.pairwise_iff_getElem.1 h (atI x l) (atI x l + i) hlt (lt_of_get hi) (by omega)
          have h3 := List.getElem?_eq_getElem (lt_of_get hi)
          rw [hi] at h3
          have h4 := Option.some.inj h3
          have h0 := atI_next (n := x) (l := l) (List.getElem?_eq_getElem hlt)
          omega
      · omega
    · intro x hx y hy
      have h1 := atI_low hx
      rcases List.mem_cons.1 hy with rfl | hy
      · exact h1
      · have := atI_high h hy; omega
theorem withL_mem {l : List Int} {n x : Int} : x ∈ withL l n ↔ x ∈ l ∨ (x = n ∧ n ≤ 1114111) := by
  unfold withL
  split
  · rename_i h
    constructor
    · exact .inl
    · rintro (h1 | ⟨rfl, h2⟩)
      · exact h1
      · rcases h with h | h
        · omega
        · exact mem_of_get h
  · rename_i h
    have hm : ∀ y, y ∈ l ↔ y ∈ l.take (atI n l) ∨ y ∈ l.drop (atI n l) := fun y => by rw [← List.mem_append, List.take_append_drop]
    have hn : n ≤ 1114111 := by omega
    rw [List.mem_append, List.mem_cons, hm]
    constructor
    · rintro (h1 | rfl | h1)
      · exact .inl (.inl h1)
      · exact .inr ⟨rfl, hn⟩
      · exact .inl (.inr h1)
    · rintro ((h1 | h1) | ⟨rfl, _⟩)
      · exact .inl h1
      · exact .inr (.inr h1)
      · exact .inr (.inl rfl)
theorem withL_len (l : List Int) (n : Int) : (withL l n).length ≤ l.length + 1 := by
  unfold withL
  split
  · omega
  · simp; have := atI_le n l; omega

/-- All sets' places. -/
def plc1 (l : List Int) (r : Rng) : List Int := withL (withL l r.lo) (r.hi + 1)
def plcL (S : List (List Rng)) : List Int := S.foldl (fun l s => s.foldl plc1 l) [0]
def InRaw (S : List (List Rng)) (x : Int) : Prop := x = 0 ∨ ∃ s ∈ S, ∃ r ∈ s, x = r.lo ∨ x = r.hi + 1
theorem plc_fold (s : List Rng) : ∀ l : List Int, Rise l → Rise (s.foldl plc1 l) ∧ ∀ x, x ∈ s.foldl plc1 l ↔ x ∈ l ∨ ((∃ r ∈ s, x = r.lo ∨ x = r.hi + 1) ∧ x ≤ 1114111) := by
  induction s with
  | nil => intro l h; exact ⟨h, fun x => by simp⟩
  | cons r s ih =>
    intro l h
    have h1 : Rise (plc1 l r) := withL_rise (withL_rise h)
    refine ⟨(ih _ h1).1, fun x => ?_⟩
    rw [List.foldl_cons, (ih _ h1).2 x]
    unfold plc1
    rw [withL_mem, withL_mem]
    constructor
    · rintro (((h2 | ⟨rfl, h2⟩) | ⟨rfl, h2⟩) | ⟨⟨q, h3, h4⟩, h5⟩)
      · exact .inl h2
      · exact .inr ⟨⟨r, by simp, .inl rfl⟩, h2⟩
      · exact .inr ⟨⟨r, by simp, .inr rfl⟩, h2⟩
      · exact .inr ⟨⟨q, by simp [h3], h4⟩, h5⟩
    · rintro (h2 | ⟨⟨q, h3, h4⟩, h5⟩)
      · exact .inl (.inl (.inl h2))
      · rcases List.mem_cons.1 h3 with rfl | h3
        · rcases h4 with rfl | rfl
          · exact .inl (.inl (.inr ⟨rfl, h5⟩))
          · exact .inl (.inr ⟨rfl, h5⟩)
        · exact .inr ⟨⟨q, h3, h4⟩, h5⟩
theorem plc_folds (S : List (List Rng)) : ∀ l : List Int, Rise l → Rise (S.foldl (fun l s => s.foldl plc1 l) l) ∧ ∀ x, x ∈ S.foldl (fun l s => s.foldl plc1 l) l ↔ x ∈ l ∨ ((∃ s ∈ S, ∃ r ∈ s, x = r.lo ∨ x = r.hi + 1) ∧ x ≤ 1114111) := by
  induction S with
  | nil => intro l h; exact ⟨h, fun x => by simp⟩
  | cons s S ih =>
    intro l h
    obtain ⟨h1, h2⟩ := plc_fold s l h
    refine ⟨(ih _ h1).1, fun x => ?_⟩
    rw [List.foldl_cons, (ih _ h1).2 x, h2]
    constructor
    · rintro ((h3 | ⟨h3, h4⟩) | ⟨⟨t, h3, h5⟩, h4⟩)
      · exact .inl h3
      · exact .inr ⟨⟨s, by simp, h3⟩, h4⟩
      · exact .inr ⟨⟨t, by simp [h3], h5⟩, h4⟩
    · rintro (h3 | ⟨⟨t, h3, h5⟩, h4⟩)
      · exact .inl (.inl h3)
      · rcases List.mem_cons.1 h3 with rfl | h3
        · exact .inl (.inr ⟨h5, h4⟩)
        · exact .inr ⟨⟨t, h3, h5⟩, h4⟩
theorem plcL_rise (S : List (List Rng)) : Rise (plcL S) := (plc_folds S [0] (by simp)).1
theorem plcL_mem {S : List (List Rng)} {x : Int} : x ∈ plcL S ↔ InRaw S x ∧ x ≤ 1114111 := by
  unfold plcL InRaw
  rw [(plc_folds S [0] (by simp)).2, List.mem_singleton]
  constructor
  · rintro (rfl | ⟨h1, h2⟩)
    · exact ⟨.inl rfl, by omega⟩
    · exact ⟨.inr h1, h2⟩
  · rintro ⟨rfl | h1, h2⟩
    · exact .inl rfl
    · exact .inr ⟨h1, h2⟩

end Pv
