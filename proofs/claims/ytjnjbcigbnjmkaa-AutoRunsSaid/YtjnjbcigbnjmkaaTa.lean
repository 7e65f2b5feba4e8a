/- The language of a pattern, as data: from where to where a tree matches; places; again and again. Nothing of a program stands here. -/
import Derived.Test.YtjnjbcigbnjmkaaRx
namespace Pv
open Go Go.RowKit

/-- One behind the other, so often. -/
def Pw (A : Nat → Nat → Prop) : Nat → Nat → Nat → Prop
  | 0, i, j => i = j
  | k + 1, i, j => ∃ m, Pw A k i m ∧ A m j
def Fwd (A : Nat → Nat → Prop) : Prop := ∀ i j, A i j → i ≤ j
theorem Pw.fwd {A : Nat → Nat → Prop} (h : Fwd A) : ∀ k, Fwd (Pw A k)
  | 0, i, j, e => by simp only [Pw] at e; omega
  | k + 1, i, j, ⟨m, h1, h2⟩ => by have := Pw.fwd h k i m h1; have := h m j h2; omega
theorem Pw.add {A : Nat → Nat → Prop} {k : Nat} : ∀ {m i j : Nat}, Pw A (k + m) i j ↔ ∃ q, Pw A k i q ∧ Pw A m q j
  | 0, i, j => by simp [Pw]
  | m + 1, i, j => by
    constructor
    · rintro ⟨q, h1, h2⟩
      obtain ⟨p, h3, h4⟩ := Pw.add.1 h1
      exact ⟨p, h3, q, h4, h2⟩
    · rintro ⟨p, h3, q, h4, h2⟩
      exact ⟨q, Pw.add.2 ⟨p, h3, h4⟩, h2⟩
/-- A way that stands still nowhere is no longer than the places are far apart. -/
theorem Pw.short {A : Nat → Nat → Prop} (h : Fwd A) : ∀ {k i j : Nat}, Pw A k i j → ∃ m, m ≤ k ∧ i + m ≤ j ∧ Pw A m i j
  | 0, i, j, e => ⟨0, Nat.le_refl _, by simp only [Pw] at e; omega, e⟩
  | k + 1, i, j, ⟨q, h1, h2⟩ => by
    obtain ⟨m, h3, h4, h5⟩ := Pw.short h h1
    have h6 := h q j h2
    by_cases e : q = j
    · subst e; exact ⟨m, by omega, h4, h5⟩
    · exact ⟨m + 1, by omega, by omega, q, h5, h2⟩
/-- From least to most times; without end, if most is below 0. -/
def Ag (A : Nat → Nat → Prop) (least : Nat) (most : Int) (i j : Nat) : Prop := ∃ k : Nat, least ≤ k ∧ (most < 0 ∨ (k : Int) ≤ most) ∧ Pw A k i j
theorem Ag.fwd {A : Nat → Nat → Prop} (h : Fwd A) (l : Nat) (m : Int) : Fwd (Ag A l m) := fun i j ⟨k, _, _, h3⟩ => Pw.fwd h k i j h3
/-- As often as there are places is often enough. -/
theorem Ag.few {A : Nat → Nat → Prop} (h : Fwd A) {l n i j : Nat} {m : Int} (hm : m < 0) (hj : j ≤ n) : Ag A l m i j ↔ ∃ k, k ≤ n ∧ Pw A (l + k) i j := by
  constructor
  · rintro ⟨k, h1, _, h2⟩
    obtain ⟨d, rfl⟩ : ∃ d, k = l + d := ⟨k - l, by omega⟩
    obtain ⟨q, h3, h4⟩ := Pw.add.1 h2
    obtain ⟨e, h5, h6, h7⟩ := Pw.short h h4
    exact ⟨e, by omega, Pw.add.2 ⟨q, h3, h7⟩⟩
  · rintro ⟨k, _, h2⟩
    exact ⟨l + k, by omega, .inl hm, h2⟩
/-- Has a set a number? -/
def InSet (l : List Rng) (p : Int) : Prop := ∃ (i : Nat) (x : Rng), l[i]? = some x ∧ x.lo ≤ p ∧ p ≤ x.hi

section
variable (pts : List Int)
mutual
/-- From where to where a tree matches. -/
def spT : Tr → Nat → Nat → Prop
  | .mk x ks, i, j =>
    if x.kind = 0 then i = j
    else if x.kind = 1 then ∃ p, pts[i]? = some p ∧ InSet x.set p ∧ j = i + 1
    else if x.kind = 2 then spCat ks i j
    else if x.kind = 3 then spAlt ks i j
    else Ag (spHd ks) x.least.toNat x.most i j
def spHd : List Tr → Nat → Nat → Prop
  | [], i, j => i = j
  | k :: _, i, j => spT k i j
def spCat : List Tr → Nat → Nat → Prop
  | [], i, j => i = j
  | k :: ks, i, j => ∃ m, spT k i m ∧ spCat ks m j
def spAlt : List Tr → Nat → Nat → Prop
  | [], _, _ => False
  | k :: ks, i, j => spT k i j ∨ spAlt ks i j
end
mutual
theorem spT_fwd : ∀ T : Tr, Fwd (spT pts T)
  | .mk x ks => fun i j h => by
    rw [spT] at h
    split at h
    · omega
    split at h
    · obtain ⟨p, _, _, h⟩ := h; omega
    split at h
    · exact spCat_fwd ks i j h
    split at h
    · exact spAlt_fwd ks i j h
    · exact Ag.fwd (spHd_fwd ks) _ _ i j h
theorem spHd_fwd : ∀ ks : List Tr, Fwd (spHd pts ks)
  | [] => fun i j h => by rw [spHd] at h; omega
  | k :: _ => fun i j h => by rw [spHd] at h; exact spT_fwd k i j h
theorem spCat_fwd : ∀ ks : List Tr, Fwd (spCat pts ks)
  | [] => fun i j h => by rw [spCat] at h; omega
  | k :: ks => fun i j h => by
    rw [spCat] at h
    obtain ⟨m, h1, h2⟩ := h
    have := spT_fwd k i m h1; have := spCat_fwd ks m j h2; omega
theorem spAlt_fwd : ∀ ks : List Tr, Fwd (spAlt pts ks)
  | [] => fun i j h => by rw [spAlt] at h; exact h.elim
  | k :: ks => fun i j h => by
    rw [spAlt] at h
    rcases h with h | h
    · exact spT_fwd k i j h
    · exact spAlt_fwd ks i j h
end
mutual
/-- .. no further than there are numbers -/
theorem spT_in : ∀ (T : Tr) (i j : Nat), i ≤ pts.length → spT pts T i j → j ≤ pts.length
  | .mk x ks, i, j, hi, h => by
    rw [spT] at h
    split at h
    · omega
    split at h
    · obtain ⟨p, h1, _, h⟩ := h; have := lt_of_get h1; omega
    split at h
    · exact spCat_in ks i j hi h
    split at h
    · exact spAlt_in ks i j hi h
    · obtain ⟨k, _, _, h⟩ := h
      have hp : ∀ (k i j : Nat), i ≤ pts.length → Pw (spHd pts ks) k i j → j ≤ pts.length := fun k => by
        induction k with
        | zero => intro i j hi h; simp only [Pw] at h; omega
        | succ k ih => rintro i j hi ⟨m, h1, h2⟩; exact spHd_in ks m j (ih i m hi h1) h2
      exact hp k i j hi h
theorem spHd_in : ∀ (ks : List Tr) (i j : Nat), i ≤ pts.length → spHd pts ks i j → j ≤ pts.length
  | [], i, j, hi, h => by rw [spHd] at h; omega
  | k :: _, i, j, hi, h => by rw [spHd] at h; exact spT_in k i j hi h
theorem spCat_in : ∀ (ks : List Tr) (i j : Nat), i ≤ pts.length → spCat pts ks i j → j ≤ pts.length
  | [], i, j, hi, h => by rw [spCat] at h; omega
  | k :: ks, i, j, hi, h => by
    rw [spCat] at h
    obtain ⟨m, h1, h2⟩ := h
    exact spCat_in ks m j (spT_in k i m hi h1) h2
theorem spAlt_in : ∀ (ks : List Tr) (i j : Nat), i ≤ pts.length → spAlt pts ks i j → j ≤ pts.length
  | [], i, j, hi, h => by rw [spAlt] at h; exact h.elim
  | k :: ks, i, j, hi, h => by
    rw [spAlt] at h
    rcases h with h | h
    · exact spT_in k i j hi h
    · exact spAlt_in ks i j hi h
end
theorem spCat_snoc (k : Tr) : ∀ (ks : List Tr) (i j : Nat), spCat pts (ks ++ [k]) i j ↔ ∃ m, spCat pts ks i m ∧ spT pts k m j
  | [], i, j => by simp [spCat]
  | x :: ks, i, j => by
    simp only [List.cons_append, spCat]
    constructor
    · rintro ⟨m, h1, h2⟩
      obtain ⟨q, h3, h4⟩ := (spCat_snoc k ks m j).1 h2
      exact ⟨q, ⟨m, h1, h3⟩, h4⟩
    · rintro ⟨q, ⟨m, h1, h3⟩, h4⟩
      exact ⟨m, h1, (spCat_snoc k ks m j).2 ⟨q, h3, h4⟩⟩
theorem spAlt_snoc (k : Tr) : ∀ (ks : List Tr) (i j : Nat), spAlt pts (ks ++ [k]) i j ↔ spAlt pts ks i j ∨ spT pts k i j
  | [], i, j => by simp [spAlt]
  | x :: ks, i, j => by
    simp only [List.cons_append, spAlt, spAlt_snoc k ks i j]
    exact ⟨fun h => by rcases h with h | h | h <;> simp [h], fun h => by rcases h with (h | h) | h <;> simp [h]⟩
end

/-- Places, and where one comes from them. -/
def im (A : Nat → Nat → Prop) (S : Nat → Prop) (j : Nat) : Prop := ∃ i, S i ∧ A i j
/-- Places as a list. -/
noncomputable def lst (n : Nat) (S : Nat → Prop) : List Bool := (List.range (n + 1)).map fun i => yes (S i)
theorem lst_len (n : Nat) (S : Nat → Prop) : (lst n S).length = n + 1 := by simp [lst]
theorem lst_get {n i : Nat} {S : Nat → Prop} (h : i ≤ n) : (lst n S)[i]? = some (yes (S i)) := by simp only [lst, List.getElem?_map, List.getElem?_range (show i < n + 1 by omega), Option.map_some]
theorem lst_ext {n : Nat} {S S' : Nat → Prop} (h : ∀ i, i ≤ n → (S i ↔ S' i)) : lst n S = lst n S' := by
  unfold lst
  refine List.map_congr_left fun i hi => ?_
  have := h i (by simp at hi; omega)
  rw [show S i = S' i from propext this]
theorem lst_eq {n : Nat} {S S' : Nat → Prop} (h : lst n S = lst n S') {i : Nat} (hi : i ≤ n) : S i ↔ S' i := by
  have h1 := lst_get (S := S) hi
  rw [h, lst_get hi] at h1
  injection h1 with h1
  constructor
  · intro h2; exact of_yes (h1.trans (yes_t h2))
  · intro h2; exact of_yes (h1.symm.trans (yes_t h2))
end Pv
