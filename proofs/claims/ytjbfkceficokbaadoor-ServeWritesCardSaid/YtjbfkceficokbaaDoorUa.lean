/- UTF-8 by the document's definition, as numbers: one code point of so many bytes; what is a text. Nothing of a program stands here. -/
import Derived.Lib.ValidLaws
import Derived.Test.YtjbfkceficokbaaDoorSb
namespace Pv
open Go Go.RowKit

/-- The byte at a place, as a number. -/
def bN (l : List UInt8) (i : Nat) : Nat := (l.getD i 0).toNat
theorem bN_lt (l : List UInt8) (i : Nat) : bN l i < 256 := (l.getD i 0).toNat_lt
theorem bN_drop (l : List UInt8) (a i : Nat) : bN (l.drop a) i = bN l (a + i) := by simp [bN, List.getD, List.getElem?_drop]
theorem bN_get {s : ByteArray} {i : Nat} (h : i < s.size) : (s[i]'h).toNat = bN (bsl s) i := by
  have h' : i < (bsl s).length := by rw [bsl_len]; exact h
  rw [bN, List.getD_eq_getElem?_getD, List.getElem?_eq_getElem h']
  rfl
def leadN (size b : Nat) : Nat := if size = 2 then b % 32 else if size = 3 then b % 16 else if size = 4 then b % 8 else b
/-- What so many bytes would tell. -/
def numK (l : List UInt8) (size : Nat) : Nat → Nat
  | 0 => leadN size (bN l 0)
  | k + 1 => 64 * numK l size k + bN l (k + 1) % 64
def numP (l : List UInt8) (size : Nat) : Nat := numK l size (size - 1)
theorem leadN_lt (size b : Nat) (h : b < 256) : leadN size b < 256 := by unfold leadN; repeat' split
                                                                         all_goals omega
theorem numK_lt (l : List UInt8) (size : Nat) : ∀ k, k ≤ 3 → numK l size k < 64 ^ (k + 2) 
  | 0, _ => by have := leadN_lt size (bN l 0) (bN_lt l 0); show leadN size (bN l 0) < _; omega
  | k + 1, h => by
    have h1 := numK_lt l size k (by omega)
    have h2 : (64 : Nat) ^ (k + 1 + 2) = 64 * 64 ^ (k + 2) := by rw [show k + 1 + 2 = (k + 2) + 1 by omega, Nat.pow_succ, Nat.mul_comm]
    show 64 * numK l size k + bN l (k + 1) % 64 < _
    omega
def isP (n : Nat) : Bool := decide (n ≤ 1114111 ∧ (n < 55296 ∨ 57343 < n))
/-- A code point's bytes. -/
def bytesP (n : Nat) : List Nat :=
  if n < 128 then [n] else if n < 2048 then [192 + n / 64, 128 + n % 64] else if n < 65536 then [224 + n / 4096, 128 + n / 64 % 64, 128 + n % 64]
  else [240 + n / 262144, 128 + n / 4096 % 64, 128 + n / 64 % 64, 128 + n % 64]
/-- The first so many bytes, as numbers. -/
def firstN (l : List UInt8) (k : Nat) : List Nat := (l.take k).map (·.toNat)
def goodP (l : List UInt8) (size : Nat) : Bool := decide (size ≤ l.length) && (isP (numP l size) && decide (bytesP (numP l size) = firstN l size))
/-- The code point that begins, and its size. -/
def nextP (l : List UInt8) : Option (Nat × Nat) :=
  if goodP l 1 then some (numP l 1, 1) else if goodP l 2 then some (numP l 2, 2) else if goodP l 3 then some (numP l 3, 3) else if goodP l 4 then some (numP l 4, 4) else none

theorem firstN_1 {l : List UInt8} (h : 1 ≤ l.length) : firstN l 1 = [bN l 0] := by
  match l, h with
  | a :: t, _ => simp [firstN, bN]
theorem firstN_2 {l : List UInt8} (h : 2 ≤ l.length) : firstN l 2 = [bN l 0, bN l 1] := by
  match l, h with
  | a :: b :: t, _ => simp [firstN, bN]
theorem firstN_3 {l : List UInt8} (h : 3 ≤ l.length) : firstN l 3 = [bN l 0, bN l 1, bN l 2] := by
  match l, h with
  | a :: b :: c :: t, _ => simp [firstN, bN]
theorem firstN_4 {l : List UInt8} (h : 4 ≤ l.length) : firstN l 4 = [bN l 0, bN l 1, bN l 2, bN l 3] := by
  match l, h with
  | a :: b :: c :: d :: t, _ => simp [firstN, bN]
theorem good_iff (l : List UInt8) (k : Nat) : goodP l k = true ↔ k ≤ l.length ∧ (numP l k ≤ 1114111 ∧ (numP l k < 55296 ∨ 57343 < numP l k)) ∧ bytesP (numP l k) = firstN l k := by
  unfold goodP isP
  rw [Bool.and_eq_true, Bool.and_eq_true, decide_eq_true_eq, decide_eq_true_eq, decide_eq_true_eq]
theorem bytesP_1 {n : Nat} (h : n < 128) : bytesP n = [n] := by unfold bytesP; rw [if_pos h]
theorem bytesP_2 {n : Nat} (h : 128 ≤ n) (h' : n < 2048) : bytesP n = [192 + n / 64, 128 + n % 64] := by unfold bytesP; rw [if_neg (by omega), if_pos h']
theorem bytesP_3 {n : Nat} (h : 2048 ≤ n) (h' : n < 65536) : bytesP n = [224 + n / 4096, 128 + n / 64 % 64, 128 + n % 64] := by unfold bytesP; rw [if_neg (by omega), if_neg (by omega), if_pos h']
theorem bytesP_4 {n : Nat} (h : 65536 ≤ n) : bytesP n = [240 + n / 262144, 128 + n / 4096 % 64, 128 + n / 64 % 64, 128 + n % 64] := by unfold bytesP; rw [if_neg (by omega), if_neg (by omega), if_neg (by omega)]
theorem bytesP_len {n : Nat} : (bytesP n).length = if n < 128 then 1 else if n < 2048 then 2 else if n < 65536 then 3 else 4 := by
  unfold bytesP; repeat' split
  all_goals rfl
theorem range_1 {n : Nat} (h : (bytesP n).length = 1) : n < 128 := by rw [bytesP_len] at h; repeat' split at h
                                                                      all_goals omega
theorem range_2 {n : Nat} (h : (bytesP n).length = 2) : 128 ≤ n ∧ n < 2048 := by rw [bytesP_len] at h; repeat' split at h
                                                                                 all_goals omega
theorem range_3 {n : Nat} (h : (bytesP n).length = 3) : 2048 ≤ n ∧ n < 65536 := by rw [bytesP_len] at h; repeat' split at h
                                                                                   all_goals omega
theorem range_4 {n : Nat} (h : (bytesP n).length = 4) : 65536 ≤ n := by rw [bytesP_len] at h; repeat' split at h
                                                                        all_goals omega
theorem good_1 (l : List UInt8) : goodP l 1 = true ↔ 1 ≤ l.length ∧ bN l 0 < 128 := by
  rw [good_iff]
  by_cases h : 1 ≤ l.length
  · rw [firstN_1 h]
    have hb := bN_lt l 0
    have e : numP l 1 = bN l 0 := by simp [numP, numK, leadN]
    rw [e]
    constructor
    · rintro ⟨_, _, h2⟩
      exact ⟨h, range_1 (by rw [h2]; rfl)⟩
    · rintro ⟨_, h2⟩
      exact ⟨h, ⟨by omega, by omega⟩, bytesP_1 h2⟩
  · exact ⟨fun h' => absurd h'.1 h, fun h' => absurd h'.1 h⟩
theorem good_2 (l : List UInt8) : goodP l 2 = true ↔ 2 ≤ l.length ∧ bN l 0 / 32 = 6 ∧ bN l 1 / 64 = 2 ∧ 128 ≤ bN l 0 % 32 * 64 + bN l 1 % 64 := by
  rw [good_iff]
  by_cases h : 2 ≤ l.length
  · rw [firstN_2 h]
    have hb := bN_lt l 0; have hc := bN_lt l 1
    have e : numP l 2 = 64 * (bN l 0 % 32) + bN l 1 % 64 := by simp [numP, numK, leadN]
    generalize numP l 2 = n at *
    generalize bN l 0 = b at *
    generalize bN l 1 = c at *
    constructor
    · rintro ⟨_, h1, h2⟩
      have h3 := range_2 (n := n) (by rw [h2]; rfl)
      rw [bytesP_2 h3.1 h3.2] at h2
      simp only [List.cons.injEq, and_true] at h2
      omega
    · rintro ⟨_, h2, h3, h4⟩
      refine ⟨h, ⟨by omega, by omega⟩, ?_⟩
      rw [bytesP_2 (by omega) (by omega)]
      simp only [List.cons.injEq, and_true]
      omega
  · exact ⟨fun h' => absurd h'.1 h, fun h' => absurd h'.1 h⟩
theorem good_3 (l : List UInt8) : goodP l 3 = true ↔ 3 ≤ l.length ∧ bN l 0 / 16 = 14 ∧ bN l 1 / 64 = 2 ∧ bN l 2 / 64 = 2 ∧ 2048 ≤ bN l 0 % 16 * 4096 + bN l 1 % 64 * 64 + bN l 2 % 64 ∧ (bN l 0 % 16 * 4096 + bN l 1 % 64 * 64 + bN l 2 % 64 < 55296 ∨ 57344 ≤ bN l 0 % 16 * 4096 + bN l 1 % 64 * 64 + bN l 2 % 64) := by
  rw [good_iff]
  by_cases h : 3 ≤ l.length
  · rw [firstN_3 h]
    have hb := bN_lt l 0; have hc := bN_lt l 1; have hd := bN_lt l 2
    have e : numP l 3 = 64 * (64 * (bN l 0 % 16) + bN l 1 % 64) + bN l 2 % 64 := by simp [numP, numK, leadN]
    generalize numP l 3 = n at *
    generalize bN l 0 = b at *
    generalize bN l 1 = c at *
    generalize bN l 2 = d at *
    constructor
    · rintro ⟨_, h1, h2⟩
      have h3 := range_3 (n := n) (by rw [h2]; rfl)
      rw [bytesP_3 h3.1 h3.2] at h2
      simp only [List.cons.injEq, and_true] at h2
      omega
    · rintro ⟨_, h2, h3, h4, h5, h6⟩
      refine ⟨h, ⟨by omega, by omega⟩, ?_⟩
      rw [bytesP_3 (by omega) (by omega)]
      simp only [List.cons.injEq, and_true]
      omega
  · exact ⟨fun h' => absurd h'.1 h, fun h' => absurd h'.1 h⟩
theorem good_4 (l : List UInt8) : goodP l 4 = true ↔ 4 ≤ l.length ∧ bN l 0 / 8 = 30 ∧ bN l 1 / 64 = 2 ∧ bN l 2 / 64 = 2 ∧ bN l 3 / 64 = 2 ∧ 65536 ≤ bN l 0 % 8 * 262144 + bN l 1 % 64 * 4096 + bN l 2 % 64 * 64 + bN l 3 % 64 ∧ bN l 0 % 8 * 262144 + bN l 1 % 64 * 4096 + bN l 2 % 64 * 64 + bN l 3 % 64 ≤ 1114111 := by
  rw [good_iff]
  by_cases h : 4 ≤ l.length
  · rw [firstN_4 h]
    have hb := bN_lt l 0; have hc := bN_lt l 1; have hd := bN_lt l 2; have hf := bN_lt l 3
    have e : numP l 4 = 64 * (64 * (64 * (bN l 0 % 8) + bN l 1 % 64) + bN l 2 % 64) + bN l 3 % 64 := by simp [numP, numK, leadN]
    generalize numP l 4 = n at *
    generalize bN l 0 = b at *
    generalize bN l 1 = c at *
    generalize bN l 2 = d at *
    generalize bN l 3 = f at *
    constructor
    · rintro ⟨_, h1, h2⟩
      have h3 := range_4 (n := n) (by rw [h2]; rfl)
      rw [bytesP_4 h3] at h2
      simp only [List.cons.injEq, and_true] at h2
      omega
    · rintro ⟨_, h2, h3, h4, h5, h6, h7⟩
      refine ⟨h, ⟨by omega, by omega⟩, ?_⟩
      rw [bytesP_4 (by omega)]
      simp only [List.cons.injEq, and_true]
      omega
  · exact ⟨fun h' => absurd h'.1 h, fun h' => absurd h'.1 h⟩
/-- The decoder of the model tells the same. -/
theorem next_decode (l : List UInt8) (h : l ≠ []) : nextP l = if (Lib.decodeL l).1 = 65533 ∧ (Lib.decodeL l).2 = 1 then none else some (Lib.decodeL l) := by
  have hn : 1 ≤ l.length := List.length_pos_iff.2 h
  have hb := bN_lt l 0; have hc := bN_lt l 1; have hd := bN_lt l 2; have hf := bN_lt l 3
  unfold nextP
  simp only [good_1, good_2, good_3, good_4]
  rw [Lib.decodeL_N]
  show _ = if (Lib.decodeN l.length (bN l 0) (bN l 1) (bN l 2) (bN l 3)).1 = 65533 ∧ (Lib.decodeN l.length (bN l 0) (bN l 1) (bN l 2) (bN l 3)).2 = 1 then none else some (Lib.decodeN l.length (bN l 0) (bN l 1) (bN l 2) (bN l 3))
  have e1 : numP l 1 = bN l 0 := by simp [numP, numK, leadN]
  have e2 : numP l 2 = bN l 0 % 32 * 64 + bN l 1 % 64 := by simp [numP, numK, leadN]; omega
  have e3 : numP l 3 = bN l 0 % 16 * 4096 + bN l 1 % 64 * 64 + bN l 2 % 64 := by simp [numP, numK, leadN]; omega
  have e4 : numP l 4 = bN l 0 % 8 * 262144 + bN l 1 % 64 * 4096 + bN l 2 % 64 * 64 + bN l 3 % 64 := by simp [numP, numK, leadN]; omega
  rw [e1, e2, e3, e4]
  generalize bN l 0 = b at *
  generalize bN l 1 = c at *
  generalize bN l 2 = d at *
  generalize bN l 3 = f at *
  generalize l.length = n at *
  clear e1 e2 e3 e4
  unfold Lib.decodeN
  by_cases k1 : b < 128
  · rw [if_pos ⟨hn, k1⟩, if_pos k1, if_neg (by simp only; omega)]
  rw [if_neg (by omega), if_neg k1]
  by_cases k2 : b / 32 = 6 ∧ 1 < n ∧ c / 64 = 2
  · rw [if_pos k2]
    by_cases k3 : b % 32 * 64 + c % 64 ≥ 128
    · rw [if_pos ⟨by omega, k2.1, k2.2.2, k3⟩, if_pos k3, if_neg (by simp only; omega)]
    · rw [if_neg (by omega), if_neg (by omega), if_neg (by omega), if_neg k3, if_pos ⟨rfl, rfl⟩]
  rw [if_neg k2, if_neg (by omega)]
  by_cases k4 : b / 16 = 14 ∧ (1 < n ∧ c / 64 = 2) ∧ (2 < n ∧ d / 64 = 2)
  · rw [if_pos k4]
    by_cases k5 : b % 16 * 4096 + c % 64 * 64 + d % 64 ≥ 2048 ∧ (b % 16 * 4096 + c % 64 * 64 + d % 64 < 55296 ∨ 57344 ≤ b % 16 * 4096 + c % 64 * 64 + d % 64 ∧ b % 16 * 4096 + c % 64 * 64 + d % 64 ≤ 1114111)
    · rw [if_pos (by omega), if_pos k5, if_neg (by simp only; omega)]
    · rw [if_neg (by omega), if_neg (by omega), if_neg k5, if_pos ⟨rfl, rfl⟩]
  rw [if_neg k4, if_neg (by omega)]
  by_cases k6 : b / 8 = 30 ∧ (1 < n ∧ c / 64 = 2) ∧ (2 < n ∧ d / 64 = 2) ∧ (3 < n ∧ f / 64 = 2)
  · rw [if_pos k6]
    by_cases k7 : b % 8 * 262144 + c % 64 * 4096 + d % 64 * 64 + f % 64 ≥ 65536 ∧ (b % 8 * 262144 + c % 64 * 4096 + d % 64 * 64 + f % 64 < 55296 ∨ 57344 ≤ b % 8 * 262144 + c % 64 * 4096 + d % 64 * 64 + f % 64 ∧ b % 8 * 262144 + c % 64 * 4096 + d % 64 * 64 + f % 64 ≤ 1114111)
    · rw [if_pos (by omega), if_pos k7, if_neg (by simp only; omega)]
    · rw [if_neg (by omega), if_neg k7, if_pos ⟨rfl, rfl⟩]
  · rw [if_neg k6, if_neg (by omega), if_pos ⟨rfl, rfl⟩]
theorem nextP_size {l : List UInt8} {n k : Nat} (h : nextP l = some (n, k)) : 1 ≤ k ∧ k ≤ 4 ∧ k ≤ l.length ∧ n ≤ 1114111 := by
  unfold nextP at h
  have key : ∀ s, goodP l s = true → s ≤ l.length ∧ numP l s ≤ 1114111 := fun s hs => by
    rw [good_iff] at hs
    exact ⟨hs.1, hs.2.1.1⟩
  repeat' split at h
  all_goals first | (injection h with h; injection h with h1 h2; subst h1; subst h2; have := key _ ‹_›; omega) | cases h
/-- The code points of a text, from a place on, so many at most; none: it is no text. -/
def ptsF : Nat → List UInt8 → Option (List Nat)
  | 0, _ => some []
  | f + 1, l => if l = [] then some [] else match nextP l with
    | none => none
    | some (n, k) => (ptsF f (l.drop k)).map (n :: ·)
def ptsL (l : List UInt8) : Option (List Nat) := ptsF l.length l
theorem ptsF_fuel : ∀ (f g : Nat) (l : List UInt8), l.length ≤ f → l.length ≤ g → ptsF f l = ptsF g l
  | 0, g, l, h, _ => by
    have : l = [] := List.eq_nil_of_length_eq_zero (by omega)
    subst this
    cases g <;> simp [ptsF]
  | f + 1, 0, l, _, h => by
    have : l = [] := List.eq_nil_of_length_eq_zero (by omega)
    subst this
    simp [ptsF]
  | f + 1, g + 1, l, h, h' => by
    unfold ptsF
    by_cases hl : l = []
    · simp [hl]
    · rw [if_neg hl, if_neg hl]
      cases hx : nextP l with
      | none => rfl
      | some p =>
        obtain ⟨n, k⟩ := p
        have := nextP_size hx
        simp only
        rw [ptsF_fuel f g (l.drop k) (by rw [List.length_drop]; omega) (by rw [List.length_drop]; omega)]
theorem ptsL_nil : ptsL [] = some [] := rfl
theorem ptsL_step {l : List UInt8} (h : l ≠ []) : ptsL l = match nextP l with | none => none | some (n, k) => (ptsL (l.drop k)).map (n :: ·) := by
  have hp : 0 < l.length := List.length_pos_iff.2 h
  obtain ⟨f, hf⟩ : ∃ f, l.length = f + 1 := ⟨l.length - 1, by omega⟩
  unfold ptsL
  rw [hf]
  show (if l = [] then _ else _) = _
  rw [if_neg h]
  cases hx : nextP l with
  | none => rfl
  | some p =>
    obtain ⟨n, k⟩ := p
    have := nextP_size hx
    simp only
    rw [ptsF_fuel f (l.drop k).length _ (by rw [List.length_drop]; omega) (Nat.le_refl _)]
theorem ptsL_valid : ∀ (n : Nat) (l : List UInt8), l.length ≤ n → (ptsL l).isSome = Lib.validD l
  | 0, l, h => by
    have : l = [] := List.eq_nil_of_length_eq_zero (by omega)
    subst this
    rfl
  | n + 1, l, h => by
    by_cases hl : l = []
    · subst hl; rfl
    · rw [ptsL_step hl, Lib.validD_step l hl, next_decode l hl]
      by_cases hd : (Lib.decodeL l).1 = 65533 ∧ (Lib.decodeL l).2 = 1
      · rw [if_pos hd, if_pos hd]; rfl
      · rw [if_neg hd, if_neg hd]
        have h1 := Lib.decodeL_width l
        have h2 := ptsL_valid n (l.drop (Lib.decodeL l).2) (by rw [List.length_drop]; have : 0 < l.length := List.length_pos_iff.2 hl; omega)
        rw [← h2]
        simp
end Pv
