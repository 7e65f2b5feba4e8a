/- UTF-8 by the document's definition, as numbers: one code point of so many bytes; what is a text. Nothing of a program stands here. -/
import Derived.Lib.ValidLaws
import Derived.Test.YtilhicefhhgecaaGreatDoorTaq
namespace Pv
open Go Go.RowKit

/-- The byte at a place, as a number. -/
def bN (l : List UInt8) (i : Nat) : Nat := (l.getD i 0).toNat
theorem bN_lt (l : List UInt8) (i : Nat) : bN l i < 256 := (l.getD i 0).toNat_lt
theorem bN_drop (l : List UInt8) (a i : Nat) : bN (l.drop a) i = bN l (a + i) := by simp [bN, List.getD, List.getElem?_drop]
theorem bN_get {s : ByteArray} {i : Nat} (h : i < s.size) : (s[i]'h).toNat = bN (bsl s) i := by
  have h' : i < (bsl s).length := by rw [bsl_len]; exact h
  rw [bN, List.getD_eq_getElem?_getD, List.getElem?_eq_getElem h']
  rfl
def leadN (size b : Nat) : Nat := if size = 2 then b % 32 else if size = 3 then b % 16 else if size = 4 then b % 8 else b
/-- What so many bytes would tell. -/
def numK (l : List UInt8) (size : Nat) : Nat → Nat
  | 0 => leadN size (bN l 0)
  | k + 1 => 64 * numK l size k + bN l (k + 1) % 64
def numP (l : List UInt8) (size : Nat) : Nat := numK l size (size - 1)
theorem leadN_lt (size b : Nat) (h : b < 256) : leadN size b < 256 := by unfold leadN; repeat' split
                                                                         all_goals omega
theorem numK_lt (l : List UInt8) (size : Nat) : ∀ k, k ≤ 3 → numK l size k < 64 ^ (k + 2) 
  | 0, _ => by have := leadN_lt size (bN l 0) (bN_lt l 0); show leadN size (bN l 0) < _; omega
  | k + 1, h => by
    have h1 := numK_lt l size k (by omega)
    have h2 : (64 : Nat) ^ (k + 1 + 2) = 64 * 64 ^ (k + 2) := by rw [show k + 1 + 2 = (k + 2) + 1 by omega, Nat.pow_succ, Nat.mul_comm]
    show 64 * numK l size k + bN l (k + 1) % 64 < _
    omega
/-- The first so many bytes, as numbers. -/
def firstN (l : List UInt8) (k : Nat) : List Nat := (l.take k).map (·.toNat)
def goodP (l : List UInt8) (size : Nat) : Bool := decide (size ≤ l.length) && (isP (numP l size) && decide (bytesP (numP l size) = firstN l size))
/-- The code point that begins, and its size. -/
def nextP (l : List UInt8) : Option (Nat × Nat) :=
  if goodP l 1 then some (numP l 1, 1) else if goodP l 2 then some (numP l 2, 2) else if goodP l 3 then some (numP l 3, 3) else if goodP l 4 then some (numP l 4, 4) else none

theorem firstN_1 {l : List UInt8} (h : 1 ≤ l.length) : firstN l 1 = [bN l 0] := by
  match l, h with
  | a :: t, _ => simp [firstN, bN]
theorem firstN_2 {l : List UInt8} (h : 2 ≤ l.length) : firstN l 2 = [bN l 0, bN l 1] := by
  match l, h with
  | a :: b :: t, _ => simp [firstN, bN]
theorem firstN_3 {l : List UInt8} (h : 3 ≤ l.length) : firstN l 3 = [bN l 0, bN l 1, bN l 2] := by
  match l, h with
  | a :: b :: c :: t, _ => simp [firstN, bN]
theorem firstN_4 {l : List UInt8} (h : 4 ≤ l.length) : firstN l 4 = [bN l 0, bN l 1, bN l 2, bN l 3] := by
  match l, h with
  | a :: b :: c :: d :: t, _ => simp [firstN, bN]
theorem good_iff (l : List UInt8) (k : Nat) : goodP l k = true ↔ k ≤ l.length ∧ (numP l k ≤ 1114111 ∧ (numP l k < 55296 ∨ 57343 < numP l k)) ∧ bytesP (numP l k) = firstN l k := by
  unfold goodP isP
  rw [Bool.and_eq_true, Bool.and_eq_true, decide_eq_true_eq, decide_eq_true_eq, decide_eq_true_eq]
theorem good_1 (l : List UInt8) : goodP l 1 = true ↔ 1 ≤ l.length ∧ bN l 0 < 128 := by
  rw [good_iff]
  by_cases h : 1 ≤ l.length
  · rw [firstN_1 h]
    have hb := bN_lt l 0
    have e : numP l 1 = bN l 0 := by simp [numP, numK, leadN]
    rw [e]
    constructor
    · rintro ⟨_, _, h2⟩
      exact ⟨h, range_1 (by rw [h2]; rfl)⟩
    · rintro ⟨_, h2⟩
      exact ⟨h, ⟨by omega, by omega⟩, bytesP_1 h2⟩
  · exact ⟨fun h' => absurd h'.1 h, fun h' => absurd h'.1 h⟩
theorem good_2 (l : List UInt8) : goodP l 2 = true ↔ 2 ≤ l.length ∧ bN l 0 / 32 = 6 ∧ bN l 1 / 64 = 2 ∧ 128 ≤ bN l 0 % 32 * 64 + bN l 1 % 64 := by
  rw [good_iff]
  by_cases h : 2 ≤ l.length
  · rw [firstN_2 h]
    have hb := bN_lt l 0; have hc := bN_lt l 1
    have e : numP l 2 = 64 * (bN l 0 % 32) + bN l 1 % 64 := by simp [numP, numK, leadN]
    generalize numP l 2 = n at *
    generalize bN l 0 = b at *
    generalize bN l 1 = c at *
    constructor
    · rintro ⟨_, h1, h2⟩
      have h3 := range_2 (n := n) (by rw [h2]; rfl)
      rw [bytesP_2 h3.1 h3.2] at h2
      simp only [List.cons.injEq, and_true] at h2
      omega
    · rintro ⟨_, h2, h3, h4⟩
      refine ⟨h, ⟨by omega, by omega⟩, ?_⟩
      rw [bytesP_2 (by omega) (by omega)]
      simp only [List.cons.injEq, and_true]
      omega
  · exact ⟨fun h' => absurd h'.1 h, fun h' => absurd h'.1 h⟩
theorem good_3 (l : List UInt8) : goodP l 3 = true ↔ 3 ≤ l.length ∧ bN l 0 / 16 = 14 ∧ bN l 1 / 64 = 2 ∧ bN l 2 / 64 = 2 ∧ 2048 ≤ bN l 0 % 16 * 4096 + bN l 1 % 64 * 64 + bN l 2 % 64 ∧ (bN l 0 % 16 * 4096 + bN l 1 % 64 * 64 + bN l 2 % 64 < 55296 ∨ 57344 ≤ bN l 0 % 16 * 4096 + bN l 1 % 64 * 64 + bN l 2 % 64) := by
  rw [good_iff]
  by_cases h : 3 ≤ l.length
  · rw [firstN_3 h]
    have hb := bN_lt l 0; have hc := bN_lt l 1; have hd := bN_lt l 2
    have e : numP l 3 = 64 * (64 * (bN l 0 % 16) + bN l 1 % 64) + bN l 2 % 64 := by simp [numP, numK, leadN]
    generalize numP l 3 = n at *
    generalize bN l 0 = b at *
    generalize bN l 1 = c at *
    generalize bN l 2 = d at *
    constructor
    · rintro ⟨_, h1, h2⟩
      have h3 := range_3 (n := n) (by rw [h2]; rfl)
      rw [bytesP_3 h3.1 h3.2] at h2
      simp only [List.cons.injEq, and_true] at h2
      omega
    · rintro ⟨_, h2, h3, h4, h5, h6⟩
      refine ⟨h, ⟨by omega, by omega⟩, ?_⟩
      rw [bytesP_3 (by omega) (by omega)]
      simp only [List.cons.injEq, and_true]
      omega
  · exact ⟨fun h' => absurd h'.1 h, fun h' => absurd h'.1 h⟩
theorem good_4 (l : List UInt8) : goodP l 4 = true ↔ 4 ≤ l.length ∧ bN l 0 / 8 = 30 ∧ bN l 1 / 64 = 2 ∧ bN l 2 / 64 = 2 ∧ bN l 3 / 64 = 2 ∧ 65536 ≤ bN l 0 % 8 * 262144 + bN l 1 % 64 * 4096 + bN l 2 % 64 * 64 + bN l 3 % 64 ∧ bN l 0 % 8 * 262144 + bN l 1 % 64 * 4096 + bN l 2 % 64 * 64 + bN l 3 % 64 ≤ 1114111 := by
  rw [good_iff]
  by_cases h : 4 ≤ l.length
  · rw [firstN_4 h]
    have hb := bN_lt l 0; have hc := bN_lt l 1; have hd := bN_lt l 2; have hf := bN_lt l 3
    have e : numP l 4 = 64 * (64 * (64 * (bN l 0 % 8) + bN l 1 % 64) + bN l 2 % 64) + bN l 3 % 64 := by simp [numP, numK, leadN]
    generalize numP l 4 = n at *
    generalize bN l 0 = b at *
    generalize bN l 1 = c at *
    generalize bN l 2 = d at *
    generalize bN l 3 = f at *
    constructor
    · rintro ⟨_, h1, h2⟩
      have h3 := range_4 (n := n) (by rw [h2]; rfl)
      rw [bytesP_4 h3] at h2
      simp only [List.cons.injEq, and_true] at h2
      omega
    · rintro ⟨_, h2, h3, h4, h5, h6, h7⟩
      refine ⟨h, ⟨by omega, by omega⟩, ?_⟩
      rw [bytesP_4 (by omega)]
      simp only [List.cons.injEq, and_true]
      omega
  · exact ⟨fun h' => absurd h'.1 h, fun h' => absurd h'.1 h⟩
/-- The decoder of the model tells the same. -/
theorem next_decode (l : List UInt8) (h : l ≠ []) : nextP l = if (Lib.decodeL l).1 = 65533 ∧ (Lib.decodeL l).2 = 1 then none else some (Lib.decodeL l) := by
  have hn : 1 ≤ l.length := List.length_pos_iff.2 h
  have hb := bN_lt l 0; have hc := bN_lt l 1; have hd := bN_lt l 2; have hf := bN_lt l 3
  unfold nextP
  simp only [good_1, good_2, good_3, good_4]
  rw [Lib.decodeL_N]
  show _ = if (Lib.decodeN l.length (bN l 0) (bN l 1) (bN l 2) (bN l 3)).1 = 65533 ∧ (Lib.decodeN l.length (bN l 0) (bN l 1) (bN l 2) (bN l 3)).2 = 1 then none else some (Lib.decodeN l.length (bN l 0) (bN l 1) (bN l 2) (bN l 3))
  have e1 : numP l 1 = bN l 0 := by simp [numP, numK, leadN]
  have e2 : numP l 2 = bN l 0 % 32 * 64 + bN l 1 % 64 := by simp [numP, numK, leadN]; omega
  have e3 : numP l 3 = bN l 0 % 16 * 4096 + bN l 1 % 64 * 64 + bN l 2 % 64 := by simp [numP, numK, leadN]; omega
  have e4 : numP l 4 = bN l 0 % 8 * 262144 + bN l 1 % 64 * 4096 + bN l 2 % 64 * 64 + bN l 3 % 64 := by simp [numP, numK, leadN]; omega
  rw [e1, e2, e3, e4]
  generalize bN l 0 = b at *
  generalize bN l 1 = c at *
  generalize bN l 2 = d at *
  generalize bN l 3 = f at *
  generalize l.length = n at *
  clear e1 e2 e3 e4
  unfold Lib.decodeN
  by_cases k1 : b < 128
  · rw [if_pos ⟨hn, k1⟩, if_pos k1, if_neg (by simp only; omega)]
  rw [if_neg (by omega), if_neg k1]
  by_cases k2 : b / 32 = 6 ∧ 1 < n ∧ c / 64 = 2
  · rw [if_pos k2]
    by_cases k3 : b % 32 * 64 + c % 64 ≥ 128
    · rw [if_pos ⟨by omega, k2.1, k2.2.2, k3⟩, if_pos k3, if_neg (by simp only; omega)]
    · rw [if_neg (by omega), if_neg (by omega), if_neg (by omega), if_neg k3, if_pos ⟨rfl, rfl⟩]
  rw [if_neg k2, if_neg (by omega)]
  by_cases k4 : b / 16 = 14 ∧ (1 < n ∧ c / 64 = 2) ∧ (2 < n ∧ d / 64 = 2)
  · rw [if_pos k4]
    by_cases k5 : b % 16 * 4096 + c % 64 * 64 + d % 64 ≥ 2048 ∧ (b % 16 * 4096 + c % 64 * 64 + d % 64 < 55296 ∨ 57344 ≤ b % 16 * 4096 + c % 64 * 64 + d % 64 ∧ b % 16 * 4096 + c % 64 * 64 + d % 64 ≤ 1114111)
    · rw [if_pos (by omega), if_pos k5, if_neg (by simp only; omega)]
    · rw [if_neg (by omega), if_neg (by omega), if_neg k5, if_pos ⟨rfl, rfl⟩]
  rw [if_neg k4, if_neg (by omega)]
  by_cases k6 : b / 8 = 30 ∧ (1 < n ∧ c / 64 = 2) ∧ (2 < n ∧ d / 64 = 2) ∧ (3 < n ∧ f / 64 = 2)
  · rw [if_pos k6]
    by_cases k7 : b % 8 * 262144 + c % 64 * 4096 + d % 64 * 64 + f % 64 ≥ 65536 ∧ (b % 8 * 262144 + c % 64 * 4096 + d % 64 * 64 + f % 64 < 55296 ∨ 57344 ≤ b % 8 * 262144 + c % 64 * 4096 + d % 64 * 64 + f % 64 ∧ b % 8 * 262144 + c % 64 * 4096 + d % 64 * 64 + f % 64 ≤ 1114111)
    · rw [if_pos (by omega), if_pos k7, if_neg (by simp only; omega)]
    · rw [if_neg (by omega), if_neg k7, if_pos ⟨rfl, rfl⟩]
  · rw [if_neg k6, if_neg (by omega), if_pos ⟨rfl, rfl⟩]
theorem nextP_size {l : List UInt8} {n k : Nat} (h : nextP l = some (n, k)) : 1 ≤ k ∧ k ≤ 4 ∧ k ≤ l.length ∧ n ≤ 1114111 := by
  unfold nextP at h
  have key : ∀ s, goodP l s = true → s ≤ l.length ∧ numP l s ≤ 1114111 := fun s hs => by
    rw [good_iff] at hs
    exact ⟨hs.1, hs.2.1.1⟩
  repeat' split at h
  all_goals first | (injection h with h; injection h with h1 h2; subst h1; subst h2; have := key _ ‹_›; omega) | cases h
/-- The code points of a text, from a place on, so many at most; none: it is no text. -/
def ptsF : Nat → List UInt8 → Option (List Nat)
  | 0, _ => some []
  | f + 1, l => if l = [] then some [] else match nextP l with
    | none => none
    | some (n, k) => (ptsF f (l.drop k)).map (n :: ·)
def ptsL (l : List UInt8) : Option (List Nat) := ptsF l.length l
theorem ptsF_fuel : ∀ (f g : Nat) (l : List UInt8), l.length ≤ f → l.length ≤ g → ptsF f l = ptsF g l
  | 0, g, l, h, _ => by
    have : l = [] := List.eq_nil_of_length_eq_zero (by omega)
    subst this
    cases g <;> simp [ptsF]
  | f + 1, 0, l, _, h => by
    have : l = [] := List.eq_nil_of_length_eq_zero (by omega)
    subst this
    simp [ptsF]
  | f + 1, g + 1, l, h, h' => by
    unfold ptsF
    by_cases hl : l = []
    · simp [hl]
    · rw [if_neg hl, if_neg hl]
      cases hx : nextP l with
      | none => rfl
      | some p =>
        obtain ⟨n, k⟩ := p
        have := nextP_size hx
        simp only
        rw [ptsF_fuel f g (l.drop k) (by rw [List.length_drop]; omega) (by rw [List.length_drop]; omega)]
theorem ptsL_step {l : List UInt8} (h : l ≠ []) : ptsL l = match nextP l with | none => none | some (n, k) => (ptsL (l.drop k)).map (n :: ·) := by
  have hp : 0 < l.length := List.length_pos_iff.2 h
  obtain ⟨f, hf⟩ : ∃ f, l.length = f + 1 := ⟨l.length - 1, by omega⟩
  unfold ptsL
  rw [hf]
  show (if l = [] then _ else _) = _
  rw [if_neg h]
  cases hx : nextP l with
  | none => rfl
  | some p =>
    obtain ⟨n, k⟩ := p
    have := nextP_size hx
    simp only
    rw [ptsF_fuel f (l.drop k).length _ (by rw [List.length_drop]; omega) (Nat.le_refl _)]
theorem ptsL_valid : ∀ (n : Nat) (l : List UInt8), l.length ≤ n → (ptsL l).isSome = Lib.validD l
  | 0, l, h => by
    have : l = [] := List.eq_nil_of_length_eq_zero (by omega)
    subst this
    rfl
  | n + 1, l, h => by
    by_cases hl : l = []
    · subst hl; rfl
    · rw [ptsL_step hl, Lib.validD_step l hl, next_decode l hl]
      by_cases hd : (Lib.decodeL l).1 = 65533 ∧ (Lib.decodeL l).2 = 1
      · rw [if_pos hd, if_pos hd]; rfl
      · rw [if_neg hd, if_neg hd]
        have h1 := Lib.decodeL_width l
        have h2 := ptsL_valid n (l.drop (Lib.decodeL l).2) (by rw [List.length_drop]; have : 0 < l.length := List.length_pos_iff.2 hl; omega)
        rw [← h2]
        simp
end Pv

namespace Pv
open Go Go.RowKit

abbrev Bs := List UInt8
/-- What is told by a backslash ahead; digits to the base of 16; what stands for itself nowhere. -/
def marksB : Bs := [46, 91, 93, 40, 41, 42, 43, 63, 123, 125, 124, 92, 45, 94]
def hexB : Bs := [48, 49, 50, 51, 52, 53, 54, 55, 56, 57, 97, 98, 99, 100, 101, 102, 65, 66, 67, 68, 69, 70]
def noneC : Bs := [93, 45, 94, 91]
def noneA : Bs := [41, 93, 42, 43, 63, 123, 125, 124]
/-- One code point that is none of some. -/
def takeB (no : Bs) (l : Bs) : Option (Nat × Bs) := match nextP l with
  | none => none
  | some (n, k) => if decide (k = 1) && no.contains (l.getD 0 0) then none else some (n, l.drop k)
def isB (c : UInt8) (l : Bs) : Option Bs := match l with
  | [] => none
  | b :: r => if b = c then some r else none
def hexVB (b : UInt8) : Nat := if b.toNat < 58 then b.toNat - 48 else if b.toNat < 71 then b.toNat - 55 else b.toNat - 87
def hexNB (l : Bs) : Nat := l.foldl (fun a b => 16 * a + hexVB b) 0
def one1 (n : Int) : List Rng := [⟨n, n⟩]
def escS (c : Nat) : Option (List Rng × Bool) :=
  if decide (c < 128) && marksB.contains (UInt8.ofNat c) then some (one1 c, true)
  else if c = 110 then some (one1 10, true) else if c = 114 then some (one1 13, true) else if c = 116 then some (one1 9, true)
  else if c = 100 then some ([⟨48, 57⟩], false) else if c = 119 then some ([⟨48, 57⟩, ⟨65, 90⟩, ⟨95, 95⟩, ⟨97, 122⟩], false) else if c = 115 then some ([⟨9, 10⟩, ⟨13, 13⟩, ⟨32, 32⟩], false)
  else none
def escB (l : Bs) : Option (List Rng × Bool × Bs) := match takeB [] l with
  | none => none
  | some (c, r) => if decide (c = 117) then (if decide (r.length < 6) || !((r.take 6).all fun b => hexB.contains b) || decide (1114111 < hexNB (r.take 6)) then none else some (one1 (hexNB (r.take 6)), true, r.drop 6))
    else (escS c).map fun p => (p.1, p.2, r)
def itemB (l : Bs) : Option (List Rng × Bool × Bs) := match isB 92 l with
  | some r => escB r
  | none => (takeB noneC l).map fun p => (one1 p.1, true, p.2)
/-- The first range's end, turned. -/
def toR (l : List Rng) (n : Int) : List Rng := match l with
  | [] => []
  | x :: r => ⟨x.lo, n⟩ :: r
def rngB (l : Bs) : Option (List Rng × Bs) := match itemB l with
  | none => none
  | some (s, single, r) => match (if single then isB 45 r else none) with
    | none => some (s, r)
    | some r' => match itemB r' with
      | none => none
      | some (m, also, r2) => if !also || decide ((m.getD 0 ⟨0, 0⟩).hi < (s.getD 0 ⟨0, 0⟩).lo) then none else some (toR s (m.getD 0 ⟨0, 0⟩).hi, r2)
def clsB : Nat → Bs → List Rng → Option (List Rng × Bs)
  | 0, _, _ => none
  | f + 1, l, acc => match isB 93 l with
    | some r => some (acc, r)
    | none => match rngB l with
      | none => none
      | some (s, r) => clsB f r (acc ++ s)
/-- By their beginnings, one put in at a time. -/
def putIn (x : Rng) : List Rng → List Rng
  | [] => [x]
  | y :: l => if x.lo < y.lo then x :: y :: l else y :: putIn x l
def sortR (l : List Rng) : List Rng := l.foldl (fun a x => putIn x a) []
def join1 (out : List Rng) (x : Rng) : List Rng := match out.getLast? with
  | none => [x]
  | some y => if x.lo ≤ y.hi + 1 then out.dropLast ++ [⟨y.lo, max y.hi x.hi⟩] else out ++ [x]
def joinR (l : List Rng) : List Rng := l.foldl join1 []
def oth1 (p : Int × List Rng) (x : Rng) : Int × List Rng := (x.hi + 1, if p.1 < x.lo then p.2 ++ [⟨p.1, x.lo - 1⟩] else p.2)
def othR (l : List Rng) : List Rng := (List.foldl oth1 (0, []) (l ++ [Rng.mk 1114112 0])).2
def setX (l : List Rng) : Rx := ⟨1, l, 0, 0, 0⟩
abbrev PR := List Rx × Bs × Bool
def classB (l : Bs) (w : Bool) : Option PR := match clsB ((match isB 94 l with | some r => r | none => l).length + 1) (match isB 94 l with | some r => r | none => l) [] with
  | none => none
  | some (s, r) => some ([setX (if (isB 94 l).isSome then othR (joinR (sortR s)) else joinR (sortR s))], r, w || decide (256 < (if (isB 94 l).isSome then othR (joinR (sortR s)) else joinR (sortR s)).length))
def atomB (g : Bs → Bool → Option PR) (l : Bs) (w : Bool) : Option PR :=
  match isB 46 l with
  | some r => some ([setX [⟨0, 1114111⟩]], r, w)
  | none => match isB 40 l with
    | some r => (match g r w with
      | none => none
      | some (t, r2, w2) => (isB 41 r2).map fun r3 => (t, r3, w2))
    | none => match isB 91 l with
      | some r => classB r w
      | none => match isB 92 l with
        | some r => (escB r).map fun p => ([setX p.1], p.2.2, w)
        | none => (takeB noneA l).map fun p => ([setX (one1 p.1)], p.2, w)
def digs (l : Bs) : Bs := (l.take 2).takeWhile fun b => decide (48 ≤ b.toNat) && decide (b.toNat ≤ 57)
def decN (l : Bs) : Nat := l.foldl (fun a b => 10 * a + (b.toNat - 48)) 0
def countB (l : Bs) : Option (Nat × Bs) := if (digs l).isEmpty || decide (16 < decN (digs l)) then none else some (decN (digs l), l.drop (digs l).length)
/-- What stands behind an atom: how often; none at all; or it is bad. -/
def oftB (l : Bs) : Option (Option (Int × Int) × Bs) :=
  match isB 42 l with
  | some r => some (some (0, -1), r)
  | none => match isB 43 l with
    | some r => some (some (1, -1), r)
    | none => match isB 63 l with
      | some r => some (some (0, 1), r)
      | none => match isB 123 l with
        | none => some (none, l)
        | some r => match countB r with
          | none => none
          | some (a, r2) => match isB 44 r2 with
            | none => (isB 125 r2).map fun r3 => (some ((a : Int), (a : Int)), r3)
            | some r3 => match isB 125 r3 with
              | some r4 => some (some ((a : Int), -1), r4)
              | none => match countB r3 with
                | none => none
                | some (b, r4) => if b < a then none else (isB 125 r4).map fun r5 => (some ((a : Int), (b : Int)), r5)
def pieceB (g : Bs → Bool → Option PR) (l : Bs) (w : Bool) : Option PR := match atomB g l w with
  | none => none
  | some (t, r, w2) => match oftB r with
    | none => none
    | some (none, r2) => some (t, r2, w2)
    | some (some (a, b), r2) => some (⟨4, [], 1, a, b⟩ :: t, r2, w2)
def putB (kind : Int) (l : List (List Rx)) : List Rx := match l with
  | [] => [⟨0, [], 0, 0, 0⟩]
  | [x] => x
  | _ => ⟨kind, [], l.length, 0, 0⟩ :: l.flatten
def stopB (l : Bs) : Bool := match l with
  | [] => true
  | b :: _ => decide (b = 124) || decide (b = 41)
def piecesB (g : Bs → Bool → Option PR) : Nat → Bs → Bool → List (List Rx) → Option (List (List Rx) × Bs × Bool)
  | 0, _, _, _ => none
  | f + 1, l, w, acc => if stopB l then some (acc, l, w) else match pieceB g l w with
    | none => none
    | some (t, r, w2) => piecesB g f r w2 (acc ++ [t])
def altsB (g : Bs → Bool → Option PR) : Nat → Bs → Bool → List (List Rx) → Option PR
  | 0, _, _, _ => none
  | f + 1, l, w, acc => match piecesB g (l.length + 1) l w [] with
    | none => none
    | some (ps, r, w2) => match isB 124 r with
      | none => some (putB 3 (acc ++ [putB 2 ps]), r, w2)
      | some r2 => altsB g f r2 w2 (acc ++ [putB 2 ps])
def rowsB : Nat → Bs → Bool → Option PR
  | 0, _, _ => none
  | f + 1, l, w => altsB (rowsB f) (l.length + 1) l w []
/-- A text's pattern, or the error. -/
noncomputable def parseB (l : Bs) : List Rx × Int := if 16384 < l.length then ([], 4) else if Lib.validD l = false then ([], 10) else match rowsB (l.length + 1) l false with
  | none => ([], 70)
  | some (t, r, w) => if r.isEmpty = false then ([], 70) else if decide (64 < t.length) || w then ([], 4) else if patB t = true then (t, 0) else ([], 30)
end Pv

namespace Pv
open Go Go.RowKit

def InR (l : List Rng) (p : Int) : Prop := ∃ x, x ∈ l ∧ x.lo ≤ p ∧ p ≤ x.hi
/-- Rising, with gaps between. -/
def Nrm (l : List Rng) : Prop := l.Pairwise (fun a b => a.hi + 2 ≤ b.lo) ∧ ∀ x, x ∈ l → x.lo ≤ x.hi
theorem InR.nil {p : Int} : ¬ InR [] p := fun ⟨_, h, _⟩ => by simp at h
theorem InR.cons {x : Rng} {l : List Rng} {p : Int} : InR (x :: l) p ↔ (x.lo ≤ p ∧ p ≤ x.hi) ∨ InR l p := by
  constructor
  · rintro ⟨y, hy, h⟩
    rcases List.mem_cons.1 hy with rfl | hy
    · exact .inl h
    · exact .inr ⟨y, hy, h⟩
  · rintro (h | ⟨y, hy, h⟩)
    · exact ⟨x, by simp, h⟩
    · exact ⟨y, by simp [hy], h⟩
theorem InR.app {l m : List Rng} {p : Int} : InR (l ++ m) p ↔ InR l p ∨ InR m p := by
  constructor
  · rintro ⟨y, hy, h⟩
    rcases List.mem_append.1 hy with hy | hy
    · exact .inl ⟨y, hy, h⟩
    · exact .inr ⟨y, hy, h⟩
  · rintro (⟨y, hy, h⟩ | ⟨y, hy, h⟩)
    · exact ⟨y, by simp [hy], h⟩
    · exact ⟨y, by simp [hy], h⟩
theorem Nrm.tail {x : Rng} {l : List Rng} (h : Nrm (x :: l)) : Nrm l := ⟨(List.pairwise_cons.1 h.1).2, fun y hy => h.2 y (by simp [hy])⟩
theorem Nrm.far {x : Rng} {l : List Rng} (h : Nrm (x :: l)) {p : Int} (hp : InR l p) : x.hi + 2 ≤ p := by
  obtain ⟨y, hy, h1, _⟩ := hp
  have := (List.pairwise_cons.1 h.1).1 y hy
  omega
theorem Nrm.ext : ∀ {l m : List Rng}, Nrm l → Nrm m → (∀ p, InR l p ↔ InR m p) → l = m
  | [], [], _, _, _ => rfl
  | [], y :: m, _, hm, h => by
    have := (h y.lo).2 (InR.cons.2 (.inl ⟨by omega, hm.2 y (by simp)⟩))
    exact absurd this InR.nil
  | x :: l, [], hl, _, h => by
    have := (h x.lo).1 (InR.cons.2 (.inl ⟨by omega, hl.2 x (by simp)⟩))
    exact absurd this InR.nil
  | x :: l, y :: m, hl, hm, h => by
    have hx := hl.2 x (by simp)
    have hy := hm.2 y (by simp)
    have lo : ∀ {a b : Rng} {u v : List Rng}, Nrm (a :: u) → Nrm (b :: v) → (∀ p, InR (a :: u) p → InR (b :: v) p) → b.lo ≤ a.lo := by
      intro a b u v ha hb hh
      have h1 := ha.2 a (by simp)
      have h2 := hb.2 b (by simp)
      rcases InR.cons.1 (hh a.lo (InR.cons.2 (.inl ⟨by omega, h1⟩))) with h3 | h3
      · omega
      · have := hb.far h3; omega
    have hi : ∀ {a b : Rng} {u v : List Rng}, Nrm (a :: u) → Nrm (b :: v) → (∀ p, InR (a :: u) p → InR (b :: v) p) → a.lo = b.lo → a.hi ≤ b.hi := by
      intro a b u v ha hb hh e
      have h1 := ha.2 a (by simp)
      have h2 := hb.2 b (by simp)
      rcases Int.lt_or_le b.hi a.hi with h3 | h3
      · exfalso
        rcases InR.cons.1 (hh (b.hi + 1) (InR.cons.2 (.inl ⟨by omega, by omega⟩))) with h4 | h4
        · omega
        · have := hb.far h4; omega
      · exact h3
    have e1 : x.lo = y.lo := Int.le_antisymm (lo hm hl fun p hp => (h p).2 hp) (lo hl hm fun p hp => (h p).1 hp)
    have e2 : x.hi = y.hi := Int.le_antisymm (hi hl hm (fun p hp => (h p).1 hp) e1) (hi hm hl (fun p hp => (h p).2 hp) e1.symm)
    have e : x = y := by cases x; cases y; simp at e1 e2; simp [e1, e2]
    subst e
    rw [Nrm.ext hl.tail hm.tail fun p => ?_]
    constructor
    · intro hp
      have h1 := hl.far hp
      rcases InR.cons.1 ((h p).1 (InR.cons.2 (.inr hp))) with h2 | h2
      · omega
      · exact h2
    · intro hp
      have h1 := hm.far hp
      rcases InR.cons.1 ((h p).2 (InR.cons.2 (.inr hp))) with h2 | h2
      · omega
      · exact h2
theorem join1_nil (x : Rng) : join1 [] x = [x] := rfl
theorem join1_app (o : List Rng) (y x : Rng) : join1 (o ++ [y]) x = if x.lo ≤ y.hi + 1 then o ++ [⟨y.lo, max y.hi x.hi⟩] else o ++ [y] ++ [x] := by
  unfold join1
  rw [List.getLast?_concat]
  simp only [List.dropLast_concat]
/-- What has been joined: rising, none begins behind b. -/
def JoinOk (b : Int) (out : List Rng) : Prop := Nrm out ∧ ∀ x, x ∈ out → x.lo ≤ b
theorem join1_ok {b : Int} {out : List Rng} {x : Rng} (h : JoinOk b out) (hb : b ≤ x.lo) (hx : x.lo ≤ x.hi) : JoinOk x.lo (join1 out x) ∧ ∀ p, InR (join1 out x) p ↔ InR out p ∨ (x.lo ≤ p ∧ p ≤ x.hi) := by
  rcases List.eq_nil_or_concat out with rfl | ⟨o, y, rfl⟩
  · rw [join1_nil]
    refine ⟨⟨⟨by simp, by simpa using hx⟩, by simp⟩, fun p => ?_⟩
    rw [InR.cons]
    constructor
    · rintro (h | h)
      · exact .inr h
      · exact absurd h InR.nil
    · rintro (h | h)
      · exact absurd h InR.nil
      · exact .inl h
  · obtain ⟨⟨h1, h2⟩, h3⟩ := h
    have hy := h2 y (by simp)
    have hyb := h3 y (by simp)
    rw [List.concat_eq_append] at h1 h2 h3 ⊢
    rw [join1_app]
    have ha := List.pairwise_append.1 h1
    split
    · rename_i hc
      refine ⟨⟨⟨List.pairwise_append.2 ⟨ha.1, by simp, fun u hu v hv => ?_⟩, fun u hu => ?_⟩, fun u hu => ?_⟩, fun p => ?_⟩
      · simp only [List.mem_singleton] at hv
        subst hv
        exact ha.2.2 u hu y (by simp)
      · rcases List.mem_append.1 hu with hu | hu
        · exact h2 u (by simp [hu])
        · simp only [List.mem_singleton] at hu
          subst hu
          simp only
          omega
      · rcases List.mem_append.1 hu with hu | hu
        · have := h3 u (by simp [hu]); omega
        · simp only [List.mem_singleton] at hu
          subst hu
          simp only
          omega
      · rw [InR.app, InR.app, InR.cons, InR.cons]
        have hn : ¬ InR [] p := InR.nil
        simp only [hn, or_false]
        constructor
        · rintro (h | h)
          · exact .inl (.inl h)
          · by_cases hp : p ≤ y.hi
            · exact .inl (.inr ⟨h.1, hp⟩)
            · exact .inr (by omega)
        · rintro ((h | h) | h)
          · exact .inl h
          · exact .inr (by omega)
          · exact .inr (by omega)
    · rename_i hc
      refine ⟨⟨⟨List.pairwise_append.2 ⟨h1, by simp, fun u hu v hv => ?_⟩, fun u hu => ?_⟩, fun u hu => ?_⟩, fun p => ?_⟩
      · simp only [List.mem_singleton] at hv
        subst hv
        rcases List.mem_append.1 hu with hu | hu
        · have := ha.2.2 u hu y (by simp); omega
        · simp only [List.mem_singleton] at hu
          subst hu
          omega
      · rcases List.mem_append.1 hu with hu | hu
        · exact h2 u hu
        · simp only [List.mem_singleton] at hu
          subst hu
          exact hx
      · rcases List.mem_append.1 hu with hu | hu
        · have := h3 u hu; omega
        · simp only [List.mem_singleton] at hu
          subst hu
          omega
      · rw [InR.app, InR.cons]
        have hn : ¬ InR [] p := InR.nil
        simp only [hn, or_false]
/-- Rising by their beginnings. -/
def UpR (l : List Rng) : Prop := l.Pairwise fun a b => a.lo ≤ b.lo
theorem joinF_ok : ∀ {l : List Rng} {b : Int} {out : List Rng}, JoinOk b out → UpR l → (∀ x, x ∈ l → b ≤ x.lo ∧ x.lo ≤ x.hi) → Nrm (l.foldl join1 out) ∧ ∀ p, InR (l.foldl join1 out) p ↔ InR out p ∨ InR l p
  | [], b, out, h, _, _ => ⟨h.1, fun p => by simp [InR.nil]⟩
  | x :: l, b, out, h, hu, hx => by
    have h1 := hx x (by simp)
    have h2 := join1_ok h h1.1 h1.2
    have h3 := joinF_ok (l := l) h2.1 (List.pairwise_cons.1 hu).2 fun y hy => ⟨(List.pairwise_cons.1 hu).1 y hy, (hx y (by simp [hy])).2⟩
    refine ⟨h3.1, fun p => ?_⟩
    rw [List.foldl_cons, h3.2 p, h2.2 p, InR.cons, or_assoc]
theorem joinR_ok {l : List Rng} (hu : UpR l) (hx : ∀ x, x ∈ l → x.lo ≤ x.hi) : Nrm (joinR l) ∧ ∀ p, InR (joinR l) p ↔ InR l p := by
  cases l with
  | nil => exact ⟨⟨by simp [joinR], by simp [joinR]⟩, fun p => by simp [joinR]⟩
  | cons x l =>
    have h := joinF_ok (l := x :: l) (b := x.lo) (out := []) ⟨⟨by simp, by simp⟩, by simp⟩ hu fun y hy => ⟨by
      rcases List.mem_cons.1 hy with rfl | hy
      · omega
      · exact (List.pairwise_cons.1 hu).1 y hy, hx y hy⟩
    refine ⟨h.1, fun p => ?_⟩
    show InR (List.foldl join1 [] (x :: l)) p ↔ _
    rw [h.2 p]
    simp [InR.nil]
theorem InR.perm {l m : List Rng} (h : l.Perm m) {p : Int} : InR l p ↔ InR m p := ⟨fun ⟨x, hx, h1⟩ => ⟨x, h.mem_iff.1 hx, h1⟩, fun ⟨x, hx, h1⟩ => ⟨x, h.mem_iff.2 hx, h1⟩⟩
theorem putIn_perm (x : Rng) : ∀ l, (putIn x l).Perm (x :: l)
  | [] => List.Perm.refl _
  | y :: l => by
    unfold putIn
    split
    · exact List.Perm.refl _
    · exact ((putIn_perm x l).cons y).trans (List.Perm.swap x y l)
theorem putIn_up {x : Rng} : ∀ {l : List Rng}, UpR l → UpR (putIn x l)
  | [], _ => by simp [putIn, UpR]
  | y :: l, h => by
    unfold putIn
    have h1 := List.pairwise_cons.1 h
    split
    · rename_i hc
      refine List.pairwise_cons.2 ⟨fun z hz => ?_, h⟩
      rcases List.mem_cons.1 hz with rfl | hz
      · omega
      · have := h1.1 z hz; omega
    · rename_i hc
      refine List.pairwise_cons.2 ⟨fun z hz => ?_, putIn_up h1.2⟩
      rcases List.mem_cons.1 ((putIn_perm x l).mem_iff.1 hz) with rfl | hz
      · omega
      · exact h1.1 z hz
theorem sortF_ok : ∀ (l a : List Rng), UpR a → UpR (l.foldl (fun a x => putIn x a) a) ∧ (l.foldl (fun a x => putIn x a) a).Perm (l ++ a)
  | [], a, h => ⟨h, List.Perm.refl _⟩
  | x :: l, a, h => by
    obtain ⟨h1, h2⟩ := sortF_ok l (putIn x a) (putIn_up h)
    refine ⟨h1, h2.trans ?_⟩
    exact ((putIn_perm x a).append_left l).trans List.perm_middle
theorem sortR_ok (l : List Rng) : UpR (sortR l) ∧ (sortR l).Perm l := by
  have h := sortF_ok l [] (by simp [UpR])
  simpa [sortR] using h
/-- Whatever sorts by the beginnings: joined it is one list. -/
theorem join_one {l m : List Rng} (hp : m.Perm l) (hu : UpR m) (hx : ∀ x, x ∈ l → x.lo ≤ x.hi) : joinR m = joinR (sortR l) := by
  obtain ⟨h1, h2⟩ := sortR_ok l
  have k1 := joinR_ok hu fun x h => hx x (hp.mem_iff.1 h)
  have k2 := joinR_ok h1 fun x h => hx x (h2.mem_iff.1 h)
  exact Nrm.ext k1.1 k2.1 fun p => by rw [k1.2, k2.2, InR.perm hp, InR.perm h2]
end Pv

namespace Pv
open Go Go.RowKit

theorem next_low {b : UInt8} {r : Bs} (h : b.toNat < 128) : nextP (b :: r) = some (b.toNat, 1) := by
  have h1 : goodP (b :: r) 1 = true := (good_1 _).2 ⟨by simp, by simpa [bN] using h⟩
  have h2 : numP (b :: r) 1 = b.toNat := by
    unfold numP numK leadN bN
    simp
  unfold nextP
  rw [if_pos h1, h2]

theorem mark_low : ∀ n : Nat, n < 128 → isMark n = marksB.contains (UInt8.ofNat n) := by decide +kernel
end Pv

namespace Pv
open Go Go.RowKit

theorem isB_some {c : UInt8} {l r : Bs} (h : isB c l = some r) : l = c :: r := by
  unfold isB at h
  cases l with
  | nil => cases h
  | cons b l =>
    simp only at h
    split at h
    · rename_i e; subst e; obtain rfl := Option.some.inj h; rfl
    · cases h
theorem isB_hit (c : UInt8) (l : Bs) : isB c (c :: l) = some l := by unfold isB; simp
theorem isB_miss {c b : UInt8} (l : Bs) (h : b ≠ c) : isB c (b :: l) = none := by unfold isB; simp [h]
theorem digs_len (l : Bs) : (digs l).length ≤ 2 := by
  unfold digs
  refine Nat.le_trans (List.takeWhile_sublist _).length_le ?_
  rw [List.length_take]
  omega
theorem digs_pre (l : Bs) : l = digs l ++ l.drop (digs l).length := by
  have h : digs l <+: l := (List.takeWhile_prefix _).trans (List.take_prefix _ _)
  generalize digs l = d at *
  obtain ⟨t, rfl⟩ := h
  rw [List.drop_left]
theorem countB_some {l r : Bs} {n : Nat} (h : countB l = some (n, r)) : 1 ≤ (digs l).length ∧ n = decN (digs l) ∧ n ≤ 16 ∧ r = l.drop (digs l).length := by
  unfold countB at h
  split at h
  · cases h
  · rename_i hc
    obtain ⟨rfl, rfl⟩ := Prod.mk.inj (Option.some.inj h)
    simp only [Bool.or_eq_true, decide_eq_true_eq, not_or, List.isEmpty_iff] at hc
    refine ⟨?_, rfl, by omega, rfl⟩
    rcases Nat.eq_zero_or_pos (digs l).length with h0 | h0
    · exact absurd (List.eq_nil_of_length_eq_zero h0) hc.1
    · exact h0
theorem countB_sfx {l r : Bs} {n : Nat} (h : countB l = some (n, r)) : r <:+ l := by rw [(countB_some h).2.2.2]; exact List.drop_suffix _ _

/-- What stands behind an atom. -/
inductive OftS (l : Bs) : Option (Int × Int) × Bs → Prop
  | once (h1 : isB 42 l = none) (h2 : isB 43 l = none) (h3 : isB 63 l = none) (h4 : isB 123 l = none) : OftS l (none, l)
  | star (r : Bs) (e : l = 42 :: r) : OftS l (some (0, -1), r)
  | plus (r : Bs) (e : l = 43 :: r) : OftS l (some (1, -1), r)
  | perh (r : Bs) (e : l = 63 :: r) : OftS l (some (0, 1), r)
  | just (r r3 : Bs) (a : Nat) (e : l = 123 :: r) (h : countB r = some (a, 125 :: r3)) : OftS l (some ((a : Int), (a : Int)), r3)
  | from (r r4 : Bs) (a : Nat) (e : l = 123 :: r) (h : countB r = some (a, 44 :: 125 :: r4)) : OftS l (some ((a : Int), -1), r4)
  | some (r r3 r5 : Bs) (a b : Nat) (e : l = 123 :: r) (h : countB r = some (a, 44 :: r3)) (h2 : isB 125 r3 = none) (h3 : countB r3 = some (b, 125 :: r5)) (h4 : a ≤ b) : OftS l (some ((a : Int), (b : Int)), r5)
theorem oftB_steps {l : Bs} {x : Option (Int × Int) × Bs} (h : oftB l = Option.some x) : OftS l x := by
  unfold oftB at h
  cases h1 : isB 42 l with
  | some r =>
    rw [h1] at h
    obtain rfl := Option.some.inj h
    exact .star r (isB_some h1)
  | none =>
    rw [h1] at h
    cases h2 : isB 43 l with
    | some r =>
      rw [h2] at h
      obtain rfl := Option.some.inj h
      exact .plus r (isB_some h2)
    | none =>
      rw [h2] at h
      cases h3 : isB 63 l with
      | some r =>
        rw [h3] at h
        obtain rfl := Option.some.inj h
        exact .perh r (isB_some h3)
      | none =>
        rw [h3] at h
        cases h4 : isB 123 l with
        | none =>
          rw [h4] at h
          obtain rfl := Option.some.inj h
          exact .once h1 h2 h3 h4
        | some r =>
          rw [h4] at h
          simp only at h
          cases h5 : countB r with
          | none => rw [h5] at h; cases h
          | some q =>
            obtain ⟨a, r2⟩ := q
            rw [h5] at h
            simp only at h
            cases h6 : isB 44 r2 with
            | none =>
              rw [h6] at h
              simp only at h
              cases h7 : isB 125 r2 with
              | none => rw [h7] at h; cases h
              | some r3 =>
                rw [h7] at h
                obtain rfl := Option.some.inj h
                rw [isB_some h7] at h5
                exact .just r r3 a (isB_some h4) h5
            | some r3 =>
              rw [h6] at h
              simp only at h
              rw [isB_some h6] at h5
              cases h7 : isB 125 r3 with
              | some r4 =>
                rw [h7] at h
                obtain rfl := Option.some.inj h
                rw [isB_some h7] at h5
                exact .from r r4 a (isB_some h4) h5
              | none =>
                rw [h7] at h
                simp only at h
                cases h8 : countB r3 with
                | none => rw [h8] at h; cases h
                | some q =>
                  obtain ⟨b, r4⟩ := q
                  rw [h8] at h
                  simp only at h
                  split at h
                  · cases h
                  · rename_i hab
                    cases h9 : isB 125 r4 with
                    | none => rw [h9] at h; cases h
                    | some r5 =>
                      rw [h9] at h
                      obtain rfl := Option.some.inj h
                      rw [isB_some h9] at h8
                      exact .some r r3 r5 a b (isB_some h4) h5 h7 h8 (by omega)
theorem oftB_sfx {l r : Bs} {o : Option (Int × Int)} (h : oftB l = some (o, r)) : r <:+ l := by
  have s2 : ∀ {a b : UInt8} {l : Bs}, l <:+ a :: b :: l := fun {a b l} => ⟨[a, b], rfl⟩
  have s1 : ∀ {a : UInt8} {l : Bs}, l <:+ a :: l := fun {a l} => ⟨[a], rfl⟩
  cases oftB_steps h with
  | once => exact List.suffix_refl _
  | star r e => subst e; exact s1
  | plus r e => subst e; exact s1
  | perh r e => subst e; exact s1
  | just r r3 a e k => subst e; exact s1.trans ((countB_sfx k).trans s1)
  | «from» r r4 a e k => subst e; exact s2.trans ((countB_sfx k).trans s1)
  | some r r3 r5 a b e k h2 h3 h4 => subst e; exact (s1.trans (countB_sfx h3)).trans ((s1.trans (countB_sfx k)).trans s1)
/-- A piece. -/
theorem pieceB_steps {g : Bs → Bool → Option PR} {l r2 : Bs} {wd w3 : Bool} {t2 : List Rx} (h : pieceB g l wd = some (t2, r2, w3)) :
    ∃ t r, atomB g l wd = some (t, r, w3) ∧ ((oftB r = some (none, r2) ∧ t2 = t) ∨ ∃ a b, oftB r = some (some (a, b), r2) ∧ t2 = ⟨4, [], 1, a, b⟩ :: t) := by
  unfold pieceB at h
  cases h1 : atomB g l wd with
  | none => rw [h1] at h; cases h
  | some q =>
    obtain ⟨t, r, w2⟩ := q
    rw [h1] at h
    simp only at h
    cases h2 : oftB r with
    | none => rw [h2] at h; cases h
    | some q =>
      obtain ⟨o, r3⟩ := q
      rw [h2] at h
      cases o with
      | none =>
        simp only [Option.some.injEq, Prod.mk.injEq] at h
        obtain ⟨rfl, rfl, rfl⟩ := h
        exact ⟨_, _, rfl, .inl ⟨h2, rfl⟩⟩
      | some p =>
        obtain ⟨a, b⟩ := p
        simp only [Option.some.injEq, Prod.mk.injEq] at h
        obtain ⟨rfl, rfl, rfl⟩ := h
        exact ⟨_, _, rfl, .inr ⟨a, b, h2, rfl⟩⟩
theorem piecesB_steps {g : Bs → Bool → Option PR} {f : Nat} {l : Bs} {wd : Bool} {acc : List (List Rx)} {x : List (List Rx) × Bs × Bool} (h : piecesB g f l wd acc = some x) :
    (stopB l = true ∧ x = (acc, l, wd)) ∨ (stopB l = false ∧ ∃ f' t r w2, pieceB g l wd = some (t, r, w2) ∧ piecesB g f' r w2 (acc ++ [t]) = some x) := by
  cases f with
  | zero => cases h
  | succ f =>
    unfold piecesB at h
    cases h1 : stopB l with
    | true =>
      rw [h1] at h
      simp only [if_true, Option.some.injEq] at h
      exact .inl ⟨rfl, h.symm⟩
    | false =>
      rw [h1] at h
      simp only [Bool.false_eq_true, if_false] at h
      cases h2 : pieceB g l wd with
      | none => rw [h2] at h; cases h
      | some q =>
        obtain ⟨t, r, w2⟩ := q
        rw [h2] at h
        exact .inr ⟨rfl, f, t, r, w2, rfl, h⟩
theorem altsB_steps {g : Bs → Bool → Option PR} {f : Nat} {l : Bs} {wd : Bool} {acc : List (List Rx)} {x : PR} (h : altsB g f l wd acc = some x) :
    ∃ f' ps r w2, piecesB g (l.length + 1) l wd [] = some (ps, r, w2) ∧ ((isB 124 r = none ∧ x = (putB 3 (acc ++ [putB 2 ps]), r, w2)) ∨ ∃ r2, r = 124 :: r2 ∧ altsB g f' r2 w2 (acc ++ [putB 2 ps]) = some x) := by
  cases f with
  | zero => cases h
  | succ f =>
    unfold altsB at h
    cases h1 : piecesB g (l.length + 1) l wd [] with
    | none => rw [h1] at h; cases h
    | some q =>
      obtain ⟨ps, r, w2⟩ := q
      rw [h1] at h
      simp only at h
      refine ⟨f, ps, r, w2, rfl, ?_⟩
      cases h2 : isB 124 r with
      | none =>
        rw [h2] at h
        exact .inl ⟨rfl, (Option.some.inj h).symm⟩
      | some r2 =>
        rw [h2] at h
        exact .inr ⟨r2, isB_some h2, h⟩
end Pv

namespace Pv
open Go Go.RowKit

theorem flat_snoc {α : Type} (acc : List (List α)) (t : List α) : (acc ++ [t]).flatten.length = acc.flatten.length + t.length := by rw [List.flatten_append, List.length_append]; simp
theorem len_snoc {α : Type} (acc : List α) (t : α) : (acc ++ [t]).length = acc.length + 1 := by simp
theorem oftB_less {l r : Bs} {p : Int × Int} (h : oftB l = some (some p, r)) : r.length + 1 ≤ l.length := by
  cases oftB_steps h with
  | star r e => subst e; simp
  | plus r e => subst e; simp
  | perh r e => subst e; simp
  | just r r3 a e k => subst e; have := (countB_sfx k).length_le; simp at this ⊢; omega
  | «from» r r4 a e k => subst e; have := (countB_sfx k).length_le; simp at this ⊢; omega
  | some r r3 r5 a b e k h2 h3 h4 => subst e; have h5 := (countB_sfx k).length_le; have h6 := (countB_sfx h3).length_le; simp at h5 h6 ⊢; omega
theorem flat_ge : ∀ {ll : List (List Rx)}, (∀ p, p ∈ ll → 1 ≤ p.length) → ll.length ≤ ll.flatten.length
  | [], _ => by simp
  | p :: ll, h => by
    have h1 := h p (by simp)
    have h2 := flat_ge (ll := ll) fun q hq => h q (by simp [hq])
    rw [List.flatten_cons, List.length_append, List.length_cons]
    omega
theorem putB_len (k : Int) (ll : List (List Rx)) (h : ∀ p, p ∈ ll → 1 ≤ p.length) : 1 ≤ (putB k ll).length ∧ ll.flatten.length ≤ (putB k ll).length ∧ (putB k ll).length ≤ ll.flatten.length + 1 := by
  match ll, h with
  | [], _ => simp [putB]
  | [p], h => have := h p (by simp); simp [putB]; omega
  | p :: q :: ll, h => simp [putB]
end Pv
