/- Walks: the reader's small methods: is, must, span, point, told, Next, take. PUT1 -/
import Derived.Test.YtcmmmgblkbbdnaaGreatDoorRd0h
import Derived.Test.YtcmmmgblkbbdnaaGreatDoorSlh
import Derived.Lib.Hide
namespace Pv
open Go Go.RowKit
theorem pre1 (c : UInt8) (l : Bs) : Lib.hasPrefix l [c] = (isB c l).isSome := by
  unfold Lib.hasPrefix isB
  cases l with
  | nil => rfl
  | cons b r =>
    by_cases h : b = c
    · subst h; simp [List.isPrefixOf]
    · have : (c == b) = false := by simpa using fun e => h e.symm
      simp [List.isPrefixOf, h, this]
theorem cut1 (c : UInt8) (l : Bs) : Lib.trimPrefix l [c] = (isB c l).getD l := by
  unfold Lib.trimPrefix
  rw [pre1]
  unfold isB
  cases l with
  | nil => rfl
  | cons b r => by_cases h : b = c <;> simp [h]
end Pv
namespace Go.Proofs.YtcmmmgblkbbdnaaGreatDoor
open Go.RowKit Pv
theorem RdS.cells {w : World} {R : Nat} {l : Bs} {wd : Bool} (h : RdS w R l wd) : ∃ s : ByteArray, Hid (bsl s = l) ∧ Hid (Blk w R TRd #[.string s, .bool wd]) ∧ R < w.heap.size ∧ w.cell? ⟨R, 0, none⟩ = some (.string s) ∧ w.cell? ⟨R, 1, none⟩ = some (.bool wd) ∧ w.frozen? ⟨R, 0, none⟩ = false ∧ w.frozen? ⟨R, 1, none⟩ = false := by
  obtain ⟨s, h1, hb⟩ := h
  exact ⟨s, Lib.hid h1, Lib.hid hb, hb.lt, hb.cell 0, hb.cell 1, hb.frozen 0, hb.frozen 1⟩

set_option maxHeartbeats 1000000 in
set_option maxRecDepth 100000 in
theorem rd_is (R : Nat) (l : Bs) (wd : Bool) (c : UInt8) (w : World) (h : RdS w R l wd) :
    Calls Tryz.prog 85 #[.pointer (some ⟨R, 0, none⟩), .string ⟨#[c]⟩] w fun e w' => e = .returned (.bool (isB c l).isSome) ∧ RdS w' R ((isB c l).getD l) wd ∧ Only R w w' := by
  obtain ⟨s, hs, HB, hlt, p0, p1, f0, f1⟩ := h.cells
  clear h
  go_enter Tryz.func85, Tryz.ntmps85
  go_wp2_with fail
  refine (Tryz.strings_CutPrefix _ _ _).mono ?_
  rintro e w' ⟨rfl, hw⟩
  have hw2 := hw.symm
  subst hw2
  clear hw
  go_wp2
  go_ret
  refine ⟨ret_bool (by rw [← hs.out]; exact pre1 c _), ⟨_, ?_, HB.out.set 0 _⟩, (Only.refl R w).set 0 _⟩
  rw [bsl_mk, ← hs.out]
  exact cut1 c _

set_option maxHeartbeats 1000000 in
set_option maxRecDepth 100000 in
theorem rd_must (R : Nat) (l r : Bs) (wd : Bool) (c : UInt8) (w : World) (h : RdS w R l wd) (hr : isB c l = some r) :
    Calls Tryz.prog 118 #[.pointer (some ⟨R, 0, none⟩), .string ⟨#[c]⟩] w fun e w' => e = .returned (.tuple #[]) ∧ RdS w' R r wd ∧ Only R w w' := by
  have HI := Lib.hid (rd_is R l wd c w h)
  have HR := Lib.hid hr
  clear h hr
  rw [show (isB c l).isSome = true by rw [HR.out]; rfl, show (isB c l).getD l = r by rw [HR.out]; rfl] at HI
  go_enter Tryz.func118, Tryz.ntmps118
  go_wp2_with fail
  refine HI.out.mono ?_
  rintro e w' ⟨rfl, h1, h2⟩
  have H1 := Lib.hid h1; have H2 := Lib.hid h2
  clear h1 h2
  go_wp2
  first | go_end0 | refine bodyPost_ret (results_none rfl _ _ _) rfl ?_
  exact ⟨rfl, H1.out, H2.out⟩
end Go.Proofs.YtcmmmgblkbbdnaaGreatDoor

namespace Go.Proofs.YtcmmmgblkbbdnaaGreatDoor
open Go.RowKit Pv
theorem own_two (w : World) (base : Nat) (e : TypeId) (x y : Value) (hb : base ≤ w.heap.size) : (w.alloc (.cells #[x, y] e)).ownsRow base e 2 (.slice (some ⟨w.heap.size, 0, none⟩) 1 1) 1 [x, y] :=
  ⟨by simp, .inr ⟨w.heap.size, 1, #[x, y], rfl, hb, by show (w.heap.push _)[w.heap.size]? = _; simp, Nat.le_refl _, by simp only [maxLen]; omega, by simp, by simp⟩⟩

set_option maxHeartbeats 1000000 in
set_option maxRecDepth 100000 in
theorem rd_span (a b : Int) (w : World) (ha : -9223372036854775808 ≤ a ∧ a ≤ 9223372036854775807) (hb : -9223372036854775808 ≤ b ∧ b ≤ 9223372036854775807) :
    Calls Tryz.prog 151 #[.int .i64 a, .int .i64 b] w fun e w' => e = .returned (.slice (some ⟨w.heap.size, 0, none⟩) 1 1) ∧ OwnSet w' w.heap.size (.slice (some ⟨w.heap.size, 0, none⟩) 1 1) [⟨a, b⟩] ∧ Below w.heap.size w w' := by
  have HA := Lib.hid ha; have HB := Lib.hid hb
  clear ha hb
  go_enter Tryz.func151, Tryz.ntmps151
  go_wp2
  go_ret
  exact ⟨rfl, ⟨some ⟨w.heap.size, 0, none⟩, 1, [.int .i64 a, .int .i64 b], rfl, own_two w _ _ _ _ (Nat.le_refl _), RelK.one (f := fun j => [Value.int .i64 a, .int .i64 b].getD j undef) rfl (fun j hj => by
    rcases (show j = 0 ∨ j = 1 by omega) with rfl | rfl <;> rfl) ⟨⟨rfl, HA.out⟩, ⟨rfl, HB.out⟩⟩⟩, (Below.refl _ _).alloc (Nat.le_refl _) _⟩

set_option maxHeartbeats 1000000 in
set_option maxRecDepth 100000 in
theorem rd_told (x : Nat) (w : World) (hx : x < 128) :
    Calls Tryz.prog 180 #[.int .i32 x, .int .i64 1] w fun e w' => e = .returned (.tuple #[.int .i64 x, .int .i64 1, .int .i64 0]) ∧ w = w' := by
  have h1 : ((x : Int) == 65533) = false := by simp; omega
  have h2 : (x : Int) < 128 := by omega
  have h3 : (0 : Int) ≤ (x : Int) := by omega
  go_enter Tryz.func180, Tryz.ntmps180
  go_wp2
  go_ret3
  exact ⟨rfl, rfl⟩
end Go.Proofs.YtcmmmgblkbbdnaaGreatDoor

namespace Go.Proofs.YtcmmmgblkbbdnaaGreatDoor
open Go.RowKit Pv
set_option maxHeartbeats 1000000 in
set_option maxRecDepth 100000 in
theorem text_Next (s : ByteArray) (x : UInt8) (w : World) (h0 : (bsl s)[0]? = some x) (hx : x.toNat < 128) (hs : s.size ≤ 140737488355328) :
    Calls Tryz.prog 168 #[.string s, .int .i64 0] w fun e w' => e = .returned (.tuple #[.int .i64 x.toNat, .int .i64 1, .int .i64 0]) ∧ w = w' := by
  have hlt : 0 < s.size := by have := lt_of_get h0; rwa [bsl_len] at this
  have hlt2 : (0 : Int) < (s.size : Int) := by omega
  have hd1 : decide ((s.size : Int) ≤ 0) = false := decide_eq_false (by omega)
  have hd2 : decide (s.size ≤ 0) = false := decide_eq_false (by omega)
  have hd3 : decide (s.size = 0) = false := decide_eq_false (by omega)
  have hd4 : ¬ s.size = 0 := by omega
  have hd5 : (s.size == 0) = false := by simpa using hd4
  have HD := Lib.hid (Tryz.utf8_DecodeRuneInString_ascii s x w h0 hx)
  have HT := Lib.hid (rd_told x.toNat w hx)
  clear h0
  go_enter Tryz.func168, Tryz.ntmps168
  go_wp2_with fail
  refine HD.out.mono ?_
  rintro e w' ⟨rfl, hw⟩
  have hw2 := hw.symm
  subst hw2
  clear hw
  go_wp2_with fail
  refine HT.out.mono ?_
  rintro e w' ⟨rfl, rfl⟩
  go_wp2
  go_ret3
  exact ⟨rfl, rfl⟩
end Go.Proofs.YtcmmmgblkbbdnaaGreatDoor

namespace Pv
open Go Go.RowKit
end Pv
namespace Go.Proofs.YtcmmmgblkbbdnaaGreatDoor
open Go.RowKit Pv

theorem own_five (w : World) (base : Nat) (e : TypeId) (a b c d f : Value) (hb : base ≤ w.heap.size) : (w.alloc (.cells #[a, b, c, d, f] e)).ownsRow base e 5 (.slice (some ⟨w.heap.size, 0, none⟩) 1 1) 1 [a, b, c, d, f] :=
  ⟨by simp, .inr ⟨w.heap.size, 1, #[a, b, c, d, f], rfl, hb, by show (w.heap.push _)[w.heap.size]? = _; simp, Nat.le_refl _, by simp only [maxLen]; omega, by simp, by simp⟩⟩
/-- One node of a set, in new memory. -/
theorem rx_one {w : World} {base : Nat} {v : Value} {l : List Rng} (hb : base ≤ w.heap.size) (h : OwnSet w base v l) : OwnRx (w.alloc (.cells #[.int .u8 1, v, .int .i64 0, .int .i64 0, .int .i64 0] 37)) base (.slice (some ⟨w.heap.size, 0, none⟩) 1 1) [setX l] :=
  ⟨some ⟨w.heap.size, 0, none⟩, 1, [.int .u8 1, v, .int .i64 0, .int .i64 0, .int .i64 0], rfl, own_five w _ _ _ _ _ _ _ hb, RelK.one (f := fun j => [Value.int .u8 1, v, .int .i64 0, .int .i64 0, .int .i64 0].getD j undef) rfl (fun j hj => by
    rcases (show j = 0 ∨ j = 1 ∨ j = 2 ∨ j = 3 ∨ j = 4 by omega) with rfl | rfl | rfl | rfl | rfl <;> rfl) ⟨⟨rfl, by simp [setX], by simp [setX]⟩, h.alloc _, ⟨rfl, by simp [setX], by simp [setX]⟩, ⟨rfl, by simp [setX], by simp [setX]⟩, ⟨rfl, by simp [setX], by simp [setX]⟩⟩⟩

set_option maxHeartbeats 1000000 in
set_option maxRecDepth 100000 in
theorem rd_point (R : Nat) (w : World) :
    Calls Tryz.prog 146 #[.pointer (some ⟨R, 0, none⟩)] w fun e w' => ∃ A n c, e = .returned (.slice A n c) ∧ OwnRx w' w.heap.size (.slice A n c) [setX [⟨0, 1114111⟩]] ∧ Below w.heap.size w w' := by
  have HS := Lib.hid (rd_span 0 1114111 w (by omega) (by omega))
  go_enter Tryz.func146, Tryz.ntmps146
  go_wp2_with fail
  refine HS.out.mono ?_
  rintro e w1 ⟨rfl, hset, hb⟩
  have HX := Lib.hid hset; have HB := Lib.hid hb
  clear hset hb
  go_wp2
  go_ret
  exact ⟨_, _, _, rfl, rx_one HB.out.size HX.out, HB.out.alloc HB.out.size _⟩
end Go.Proofs.YtcmmmgblkbbdnaaGreatDoor
