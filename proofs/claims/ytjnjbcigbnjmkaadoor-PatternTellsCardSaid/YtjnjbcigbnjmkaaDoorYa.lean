/- A pattern's text as a list of bytes: a number, by the document. Nothing of a program stands here. -/
import Derived.Test.YtjnjbcigbnjmkaaDoorUs
namespace Pv
open Go Go.RowKit

def marksL : List UInt8 := [46, 91, 93, 40, 41, 42, 43, 63, 123, 125, 124, 92, 45, 94]
def hexL : List UInt8 := [48, 49, 50, 51, 52, 53, 54, 55, 56, 57, 97, 98, 99, 100, 101, 102]
def hexD (n : Nat) : UInt8 := hexL.getD n 0
/-- So many digits to the base of 16. -/
def hexN : Nat → Nat → List UInt8
  | 0, _ => []
  | k + 1, n => hexD (n / 16 ^ k % 16) :: hexN k n
theorem hexN_len : ∀ (k n : Nat), (hexN k n).length = k
  | 0, _ => rfl
  | k + 1, n => by simp [hexN, hexN_len k n]
theorem hexN_more (c : Nat) : ∀ (k n : Nat), k ≤ 6 → hexN k (16777216 * c + n) = hexN k n
  | 0, _, _ => rfl
  | k + 1, n, h => by
    have e : (16777216 * c + n) / 16 ^ k % 16 = n / 16 ^ k % 16 := by
      have h1 : 16777216 * c = 16 ^ k * (16 ^ (6 - k) * c) := by rw [← Nat.mul_assoc, ← Nat.pow_add, show k + (6 - k) = 6 by omega]
      have h2 : 16 ^ (6 - k) * c = 16 * (16 ^ (5 - k) * c) := by rw [← Nat.mul_assoc, ← Nat.pow_succ', show (5 - k).succ = 6 - k by omega]
      rw [h1, Nat.mul_add_div (Nat.pow_pos (by omega)), h2, Nat.mul_add_mod]
    simp [hexN, e, hexN_more c k n (by omega)]
def isMark (n : Nat) : Bool := marksL.any fun b => b.toNat == n
/-- A number's text. -/
def numL (n : Nat) : List UInt8 :=
  if isMark n = true then [92, UInt8.ofNat n] else if (32 ≤ n ∧ n ≠ 127) ∧ isP n = true then bytes8 n else 92 :: 117 :: hexN 6 n
theorem numL_mark {n : Nat} (h : isMark n = true) : numL n = [92, UInt8.ofNat n] := by unfold numL; rw [if_pos h]
theorem numL_char {n : Nat} (h : isMark n = false) (h1 : (32 ≤ n ∧ n ≠ 127) ∧ isP n = true) : numL n = bytes8 n := by unfold numL; rw [if_neg (by rw [h]; simp), if_pos h1]
theorem numL_hex {n : Nat} (h : isMark n = false) (h1 : ¬ ((32 ≤ n ∧ n ≠ 127) ∧ isP n = true)) : numL n = 92 :: 117 :: hexN 6 n := by unfold numL; rw [if_neg (by rw [h]; simp), if_neg h1]
theorem isMark_lt {n : Nat} (h : isMark n = true) : 32 ≤ n ∧ n < 127 := by
  simp [isMark, marksL] at h
  omega
theorem bytes8_len (n : Nat) : (bytes8 n).length ≤ 4 := by
  unfold bytes8
  rw [List.length_map, bytesP_len]
  split <;> (try split) <;> (try split) <;> omega
theorem numL_len (n : Nat) : (numL n).length ≤ 8 := by
  unfold numL
  split
  · simp
  · split
    · have := bytes8_len n; omega
    · simp [hexN_len]
end Pv
