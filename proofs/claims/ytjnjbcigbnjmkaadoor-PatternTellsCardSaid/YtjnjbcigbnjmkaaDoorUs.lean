/- Strings as lists of bytes; a code point's bytes. Nothing of a program stands here. -/
import Derived.Test.YtjnjbcigbnjmkaaDoorMem3
namespace Pv
open Go Go.RowKit
/-- A string's bytes. -/
abbrev bsl (r : ByteArray) : List UInt8 := r.data.toList
theorem bsl_len (r : ByteArray) : (bsl r).length = r.size := by rw [bsl, Array.length_toList]; rfl
theorem bsl_app (a b : ByteArray) : bsl (a ++ b) = bsl a ++ bsl b := by simp [bsl, ByteArray.data_append]
theorem bsl_inj {a b : ByteArray} (h : bsl a = bsl b) : a = b := by
  apply ByteArray.ext
  exact Array.toList_inj.1 h
theorem bsl_mk (l : List UInt8) : bsl ⟨l.toArray⟩ = l := by simp [bsl]
def isP (n : Nat) : Bool := decide (n ≤ 1114111 ∧ (n < 55296 ∨ 57343 < n))
/-- A code point's bytes. -/
def bytesP (n : Nat) : List Nat :=
  if n < 128 then [n] else if n < 2048 then [192 + n / 64, 128 + n % 64] else if n < 65536 then [224 + n / 4096, 128 + n / 64 % 64, 128 + n % 64]
  else [240 + n / 262144, 128 + n / 4096 % 64, 128 + n / 64 % 64, 128 + n % 64]
theorem bytesP_1 {n : Nat} (h : n < 128) : bytesP n = [n] := by unfold bytesP; rw [if_pos h]
theorem bytesP_2 {n : Nat} (h : 128 ≤ n) (h' : n < 2048) : bytesP n = [192 + n / 64, 128 + n % 64] := by unfold bytesP; rw [if_neg (by omega), if_pos h']
theorem bytesP_3 {n : Nat} (h : 2048 ≤ n) (h' : n < 65536) : bytesP n = [224 + n / 4096, 128 + n / 64 % 64, 128 + n % 64] := by unfold bytesP; rw [if_neg (by omega), if_neg (by omega), if_pos h']
theorem bytesP_4 {n : Nat} (h : 65536 ≤ n) : bytesP n = [240 + n / 262144, 128 + n / 4096 % 64, 128 + n / 64 % 64, 128 + n % 64] := by unfold bytesP; rw [if_neg (by omega), if_neg (by omega), if_neg (by omega)]
theorem bytesP_len {n : Nat} : (bytesP n).length = if n < 128 then 1 else if n < 2048 then 2 else if n < 65536 then 3 else 4 := by
  unfold bytesP; repeat' split
  all_goals rfl
theorem range_1 {n : Nat} (h : (bytesP n).length = 1) : n < 128 := by rw [bytesP_len] at h; repeat' split at h
                                                                      all_goals omega
theorem range_2 {n : Nat} (h : (bytesP n).length = 2) : 128 ≤ n ∧ n < 2048 := by rw [bytesP_len] at h; repeat' split at h
                                                                                 all_goals omega
theorem range_3 {n : Nat} (h : (bytesP n).length = 3) : 2048 ≤ n ∧ n < 65536 := by rw [bytesP_len] at h; repeat' split at h
                                                                                   all_goals omega
theorem range_4 {n : Nat} (h : (bytesP n).length = 4) : 65536 ≤ n := by rw [bytesP_len] at h; repeat' split at h
                                                                        all_goals omega
/-- Bytes as a string. -/
def mkS (l : List UInt8) : ByteArray := ⟨l.toArray⟩
theorem bsl_mkS (l : List UInt8) : bsl (mkS l) = l := by simp [mkS, bsl]
theorem mkS_size (l : List UInt8) : (mkS l).size = l.length := by rw [← bsl_len, bsl_mkS]
theorem mkS_bsl (s : ByteArray) : mkS (bsl s) = s := bsl_inj (bsl_mkS _)
theorem mkS_app (l m : List UInt8) : mkS (l ++ m) = mkS l ++ mkS m := bsl_inj (by rw [bsl_app, bsl_mkS, bsl_mkS, bsl_mkS])
theorem toList_bsl (s : ByteArray) : s.toList = bsl s := ByteArray.toList_eq s
theorem bytesP_lt {n x : Nat} (hn : n ≤ 1114111) (hx : x ∈ bytesP n) : x < 256 := by
  unfold bytesP at hx
  repeat' split at hx
  all_goals simp only [List.mem_cons, List.not_mem_nil, or_false] at hx
  all_goals omega
/-- A code point's bytes, as bytes. -/
def bytes8 (n : Nat) : List UInt8 := (bytesP n).map UInt8.ofNat
theorem bytes8_eq {n : Nat} (hn : n ≤ 1114111) (l : List UInt8) : bytes8 n = l ↔ bytesP n = l.map (·.toNat) := by
  constructor
  · rintro rfl
    unfold bytes8
    rw [List.map_map]
    refine (List.map_id _).symm.trans (List.map_congr_left fun x hx => ?_)
    have := bytesP_lt hn hx
    simp; omega
  · intro h
    unfold bytes8
    rw [h, List.map_map]
    refine (List.map_congr_left fun x _ => ?_).trans (List.map_id _)
    simp
end Pv
