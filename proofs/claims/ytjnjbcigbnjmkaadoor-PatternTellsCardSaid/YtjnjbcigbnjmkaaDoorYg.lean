/- What stands behind what is repeated, and walks: by the document, by the program. PUT1 -/
import Derived.Test.YtjnjbcigbnjmkaaDoorYf
import Derived.Test.YtjnjbcigbnjmkaaDoorQg
namespace Pv
open Go Go.RowKit
def digL (n : Nat) : List UInt8 := if n < 10 then [UInt8.ofNat (48 + n)] else [49, UInt8.ofNat (38 + n)]
def oftL (least most : Int) : List UInt8 :=
  if least = 0 ∧ most = -1 then [42] else if least = 1 ∧ most = -1 then [43] else if least = 0 ∧ most = 1 then [63]
  else if most = -1 then 123 :: (digL least.toNat ++ [44, 125]) else if most = least then 123 :: (digL least.toNat ++ [125])
  else 123 :: (digL least.toNat ++ (44 :: (digL most.toNat ++ [125])))
inductive OCase (least most : Int) : Prop where
  | star (h : least = 0) (h' : most = -1) (e : oftL least most = [42])
  | plus (h : least = 1) (h' : most = -1) (e : oftL least most = [43])
  | opt (h : least = 0) (h' : most = 1) (e : oftL least most = [63])
  | more (h : 2 ≤ least) (h' : most = -1) (e : oftL least most = 123 :: (digL least.toNat ++ [44, 125]))
  | same (h : most = least) (h0 : 0 ≤ least) (e : oftL least most = 123 :: (digL least.toNat ++ [125]))
  | other (h : 0 ≤ least) (h' : least < most) (ho : ¬ (least = 0 ∧ most = 1)) (e : oftL least most = 123 :: (digL least.toNat ++ (44 :: (digL most.toNat ++ [125]))))
theorem ocase {least most : Int} (h0 : 0 ≤ least) (h1 : most = -1 ∨ least ≤ most) : OCase least most := by
  by_cases a : least = 0 ∧ most = -1
  · exact .star a.1 a.2 (by unfold oftL; rw [if_pos a])
  by_cases b : least = 1 ∧ most = -1
  · exact .plus b.1 b.2 (by unfold oftL; rw [if_neg a, if_pos b])
  by_cases c : least = 0 ∧ most = 1
  · exact .opt c.1 c.2 (by unfold oftL; rw [if_neg a, if_neg b, if_pos c])
  by_cases d : most = -1
  · exact .more (by omega) d (by unfold oftL; rw [if_neg a, if_neg b, if_neg c, if_pos d])
  by_cases e : most = least
  · exact .same e h0 (by unfold oftL; rw [if_neg a, if_neg b, if_neg c, if_neg d, if_pos e])
  · exact .other h0 (by omega) c (by unfold oftL; rw [if_neg a, if_neg b, if_neg c, if_neg d, if_neg e])
theorem digL_len (n : Nat) : (digL n).length ≤ 2 := by unfold digL; split <;> simp
theorem oftL_len (least most : Int) : (oftL least most).length ≤ 7 := by
  have h1 := digL_len least.toNat; have h2 := digL_len most.toNat
  unfold oftL
  repeat' split
  all_goals simp only [List.length_cons, List.length_append, List.length_nil]
  all_goals omega
theorem itoa_dig : ∀ n : Nat, n ≤ 16 → Lib.itoa (n : Int) = digL n
  | 0, _ | 1, _ | 2, _ | 3, _ | 4, _ | 5, _ | 6, _ | 7, _ | 8, _ | 9, _ | 10, _ | 11, _ | 12, _ | 13, _ | 14, _ | 15, _ | 16, _ => by decide +kernel
  | n + 17, h => by omega
theorem dig_low : ∀ n : Nat, n < 10 → (⟨#[48, 49, 50, 51, 52, 53, 54, 55, 56, 57, 97, 98, 99, 100, 101, 102]⟩ : ByteArray).extract n (n + 1) = mkS (digL n)
  | 0, _ | 1, _ | 2, _ | 3, _ | 4, _ | 5, _ | 6, _ | 7, _ | 8, _ | 9, _ => by decide
  | n + 10, h => by omega
theorem dig_high : ∀ n : Nat, n < 7 → (⟨#[49]⟩ : ByteArray) ++ (⟨#[48, 49, 50, 51, 52, 53, 54, 55, 56, 57, 97, 98, 99, 100, 101, 102]⟩ : ByteArray).extract n (n + 1) = mkS (digL (n + 10))
  | 0, _ | 1, _ | 2, _ | 3, _ | 4, _ | 5, _ | 6, _ => by decide
  | n + 7, h => by omega
theorem oft0 (l : List UInt8) : mkS (123 :: (l ++ [44, 125])) = (⟨#[123]⟩ : ByteArray) ++ mkS l ++ ⟨#[44, 125]⟩ := by
  rw [show (⟨#[123]⟩ : ByteArray) = mkS [123] from rfl, show (⟨#[44, 125]⟩ : ByteArray) = mkS [44, 125] from rfl, ← mkS_app, ← mkS_app]; simp
theorem oft1 (l : List UInt8) : mkS (123 :: (l ++ [125])) = (⟨#[123]⟩ : ByteArray) ++ mkS l ++ ⟨#[125]⟩ := by
  rw [show (⟨#[123]⟩ : ByteArray) = mkS [123] from rfl, show (⟨#[125]⟩ : ByteArray) = mkS [125] from rfl, ← mkS_app, ← mkS_app]; simp
theorem oft2 (l m : List UInt8) : mkS (123 :: (l ++ (44 :: (m ++ [125])))) = (⟨#[123]⟩ : ByteArray) ++ mkS l ++ ⟨#[44]⟩ ++ mkS m ++ ⟨#[125]⟩ := by
  rw [show (⟨#[123]⟩ : ByteArray) = mkS [123] from rfl, show (⟨#[125]⟩ : ByteArray) = mkS [125] from rfl, show (⟨#[44]⟩ : ByteArray) = mkS [44] from rfl, ← mkS_app, ← mkS_app, ← mkS_app, ← mkS_app]; simp
end Pv
namespace Go.Proofs.YtjnjbcigbnjmkaaDoor
open Go.RowKit Pv

set_option maxHeartbeats 1000000 in
set_option maxRecDepth 100000 in
theorem ref07_digits (x : Int) (w : World) (h0 : 0 ≤ x) (h1 : x ≤ 16) : Calls Tryd.prog 48 #[.int .i64 x] w fun e w' => e = .returned (.string (mkS (digL x.toNat))) ∧ w = w' := by
  by_cases h : x < 10
  · have HD := Lib.hid (dig_low x.toNat (by omega))
    have e1 : (x + 1).toNat = x.toNat + 1 := by omega
    have HE := Lib.hid e1
    clear e1
    go_enter Tryd.func48, Tryd.ntmps48
    go_wp2
    go_ret
    exact ⟨by show Ending.returned (.string _) = _; rw [← HD.out, HE.out], rfl⟩
  · have HD := Lib.hid (dig_high (x.toNat - 10) (by omega))
    have HE := Lib.hid (show x.toNat - 10 + 10 = x.toNat by omega)
    have HE1 := Lib.hid (show (x - 10).toNat = x.toNat - 10 by omega)
    have HE2 := Lib.hid (show (x - 9).toNat = x.toNat - 10 + 1 by omega)
    go_enter Tryd.func48, Tryd.ntmps48
    go_wp2
    go_ret
    refine ⟨?_, rfl⟩
    show Ending.returned (.string _) = _
    rw [HE1.out, HE2.out, HD.out, HE.out]

set_option maxHeartbeats 1000000 in
set_option maxRecDepth 100000 in
theorem ref07_often (S : Option Addr) (sn sc : Nat) (many least most : Int) (w : World) (h0 : 0 ≤ least) (h1 : least ≤ 16) (h2 : most = -1 ∨ least ≤ most) (h3 : most ≤ 16) :
    Calls Tryd.prog 37 #[.agg #[.int .u8 4, .slice S sn sc, .int .i64 many, .int .i64 least, .int .i64 most]] w fun e w' => e = .returned (.string (mkS (oftL least most))) ∧ Below w.heap.size w w' := by
  have HC := ocase h0 h2
  have HD := Lib.hid (fun (x : Int) (h : 0 ≤ x ∧ x ≤ 16) (W : World) => ref07_digits x W h.1 h.2)
  have hz1 : (mkS (digL least.toNat)).size ≤ 2 := by rw [mkS_size]; exact digL_len _
  have hz2 : (mkS (digL most.toNat)).size ≤ 2 := by rw [mkS_size]; exact digL_len _
  clear h2
  cases HC
  case star a b e =>
    subst a; subst b
    have HE := Lib.hid e
    clear e
    go_enter Tryd.func37, Tryd.ntmps37
    go_wp2
    go_ret
    exact ⟨by rw [HE.out]; rfl, (Below.refl _ _).alloc (Nat.le_refl _) _⟩
  case plus a b e =>
    subst a; subst b
    have HE := Lib.hid e
    clear e
    go_enter Tryd.func37, Tryd.ntmps37
    go_wp2
    go_ret
    exact ⟨by rw [HE.out]; rfl, (Below.refl _ _).alloc (Nat.le_refl _) _⟩
  case opt a b e =>
    subst a; subst b
    have HE := Lib.hid e
    clear e
    go_enter Tryd.func37, Tryd.ntmps37
    go_wp2
    go_ret
    exact ⟨by rw [HE.out]; rfl, (Below.refl _ _).alloc (Nat.le_refl _) _⟩
  case more a b e =>
    subst b
    have HE := Lib.hid ((congrArg mkS e).trans (oft0 _))
    have HD1 := Lib.hid (HD.out least ⟨h0, h1⟩)
    have q0 : (least == 0) = false := by simp; omega
    have q1 : (least == 1) = false := by simp; omega
    clear e
    generalize mkS (digL least.toNat) = s at *
    go_enter Tryd.func37, Tryd.ntmps37
    go_wp2_with (go_at_call 48; refine (HD1.out _).mono ?_; rintro e w1 ⟨rfl, rfl⟩)
    go_ret
    exact ⟨by show Ending.returned (.string _) = _; rw [HE.out], (Below.refl _ _).alloc (Nat.le_refl _) _⟩
  case same a b e =>
    subst a
    have HD1 := Lib.hid (HD.out most ⟨h0, h1⟩)
    have HE := Lib.hid ((congrArg mkS e).trans (oft1 _))
    clear e hz2
    generalize mkS (digL most.toNat) = s at *
    have q2 : (most == -1) = false := by simp; omega
    by_cases a0 : most = 0
    case' pos => subst a0
    case' neg =>
      have q0 : (most == 0) = false := by simpa using a0
      by_cases a1 : most = 1
      case' pos => subst a1
      case' neg => have q1 : (most == 1) = false := by simpa using a1
    all_goals
      go_enter Tryd.func37, Tryd.ntmps37
      go_wp2_with (go_at_call 48; refine (HD1.out _).mono ?_; rintro e w1 ⟨rfl, rfl⟩)
      go_ret
      exact ⟨by show Ending.returned (.string _) = _; rw [HE.out], (Below.refl _ _).alloc (Nat.le_refl _) _⟩
  case other a b ho e =>
    have HD1 := Lib.hid (fun W => (HD.out least ⟨h0, h1⟩ W).mono (R' := fun e w' => e = .returned (.string (mkS (digL least.toNat))) ∧ w' = W) fun e w' ⟨h1, h2⟩ => ⟨h1, h2.symm⟩)
    have HD2 := Lib.hid (fun W => (HD.out most ⟨by omega, h3⟩ W).mono (R' := fun e w' => e = .returned (.string (mkS (digL most.toNat))) ∧ w' = W) fun e w' ⟨h1, h2⟩ => ⟨h1, h2.symm⟩)
    have HE := Lib.hid ((congrArg mkS e).trans (oft2 _ _))
    clear e
    generalize mkS (digL least.toNat) = s at *
    generalize mkS (digL most.toNat) = s2 at *
    have q2 : (most == -1) = false := by simp; omega
    have q3 : (most == least) = false := by simp; omega
    have q5 : least = 0 → (most == 1) = false := by intro h; simp; omega
    have q6 := q3
    clear ho
    by_cases a0 : least = 0
    case' pos => have q4 := q5 a0; subst a0
    case' neg =>
      have q0 : (least == 0) = false := by simpa using a0
      by_cases a1 : least = 1
      case' pos => subst a1
      case' neg => have q1 : (least == 1) = false := by simpa using a1
    all_goals
      clear q5
      go_enter Tryd.func37, Tryd.ntmps37
      go_wp2
      go_quiet (first | (go_at_call 48; with_reducible exact Calls.quiet_of_same (HD1.out _)) | (go_at_call 48; with_reducible exact Calls.quiet_of_same (HD2.out _)))
      go_wp2
      go_ret
      exact ⟨by show Ending.returned (.string _) = _; rw [HE.out], below_drewN ((Below.refl _ _).alloc (Nat.le_refl _) _) _⟩
end Go.Proofs.YtjnjbcigbnjmkaaDoor
