/- Walks: the library's numbers to the base of 16. PUT1 -/
import Derived.Test.YtilhicefhhgecaaGreatDoorYe0p
import Derived.Test.YtilhicefhhgecaaGreatDoorMemp
import Derived.Test.YtilhicefhhgecaaGreatDoorChecked
import Derived.WalkKit
import Derived.WalkSpells
import Derived.WalkLawsBesides
import Derived.Deep.QuietTactic
import Derived.BigQuiet
import Derived.Lib.Hide
import Derived.Outline
import Derived.Test.YtilhicefhhgecaaGreatDoorUtp
import Derived.Test.YtilhicefhhgecaaGreatDoorSpp
import Derived.Laws.Bits64b
import Derived.Laws.BitsAllLaws
namespace Go.Proofs.YtilhicefhhgecaaGreatDoor
open Go.RowKit Pv

set_option maxHeartbeats 400000 in
set_option maxRecDepth 100000 in
theorem bits_pow2 (w : World) : Calls Tryz.prog 235 #[.int .i64 16] w fun e w' => e = .returned (.bool true) ∧ w' = w := by
  go_enter Tryz.func235, Tryz.ntmps235
  go_wp2
  go_ret
  exact ⟨rfl, rfl⟩

set_option maxHeartbeats 400000 in
set_option maxRecDepth 100000 in
theorem bits_tz64 (w : World) (h : w.cell? ⟨7, 15, none⟩ = some (.int .u8 4)) : Calls Tryz.prog 254 #[.int .u64 16] w fun e w' => e = .returned (.int .i64 4) ∧ w' = w := by
  have e1 : IntKind.u64.wrap (-16) = 18446744073709551600 := by decide
  have e2 : bits .and .u64 16 18446744073709551600 = 16 := by decide
  have e3 : IntKind.u64.wrap 4573923408821661840 = 4573923408821661840 := by decide
  go_enter Tryz.func254, Tryz.ntmps254
  go_wp2
  go_ret
  exact ⟨rfl, rfl⟩
set_option maxHeartbeats 400000 in
set_option maxRecDepth 100000 in
theorem bits_tz (w : World) (h : w.cell? ⟨7, 15, none⟩ = some (.int .u8 4)) : Calls Tryz.prog 236 #[.int .u64 16] w fun e w' => e = .returned (.int .i64 4) ∧ w' = w := by
  have HT := Lib.hid (bits_tz64 w h)
  clear h
  go_enter Tryz.func236, Tryz.ntmps236
  go_wp2_with (go_at_call 254; refine HT.out.mono ?_; rintro e w1 ⟨rfl, rfl⟩)
  go_ret
  exact ⟨rfl, rfl⟩

/-- The library's digits lie in an array's last cells. -/
def Hx (w0 w : World) (u k : Nat) : Prop :=
  Below w0.heap.size w0 w ∧ w0.heap.size < w.heap.size ∧ ∃ cs : Array Value, Blk w w0.heap.size 289 cs ∧ cs.size = 65 ∧ cs.toList.drop (65 - k) = (hexN k u).map fun b => Value.int .u8 (b.toNat : Int)
theorem Hx.start (w0 : World) (u : Nat) : Hx w0 (w0.alloc (.cells Tryz.zeroCells289 289)) u 0 :=
  ⟨(Below.refl _ _).alloc (Nat.le_refl _) _, by simp, _, Blk.new w0 _ _, by kernel_rfl, by
    have : Tryz.zeroCells289.toList.length = 65 := by kernel_rfl
    rw [List.drop_eq_nil_of_le (by omega)]; rfl⟩
theorem Hx.put {w0 w : World} {u k q : Nat} (h : Hx w0 w u k) (hq : q + 1 + k = 65) : Hx w0 (w.setCell ⟨w0.heap.size, q, none⟩ (.int .u8 ((hexD (u / 16 ^ k % 16)).toNat : Int))) u (k + 1) := by
  obtain ⟨hb, hl, cs, hk, hs, hd⟩ := h
  refine ⟨hb.setCell (Nat.le_refl _) _, by simpa using hl, _, hk.set _ _, by simpa using hs, ?_⟩
  have e : 65 - (k + 1) = q := by omega
  have e2 : 65 - k = q + 1 := by omega
  rw [e, hexN, List.map_cons, ← hd, e2, Array.toList_setIfInBounds]
  rw [List.drop_eq_getElem_cons (by simp; omega)]
  simp [List.drop_set_of_lt]
theorem Hx.at {w0 w : World} {u k q : Nat} (h : Hx w0 w u k) (hq : q < 65) : ∃ v, w.cell? ⟨w0.heap.size, q, none⟩ = some v ∧ w.frozen? ⟨w0.heap.size, q, none⟩ = false := by
  obtain ⟨hb, hl, cs, hk, hs, hd⟩ := h
  exact ⟨_, (hk.cell q).trans (Array.getElem?_eq_getElem (by omega)), hk.frozen _⟩

theorem conv_bytes_at (b off cap : Nat) (l : List UInt8) (w : World) (h : ∀ j x, l[j]? = some x → w.cell? ⟨b, off + j, none⟩ = some (.int .u8 (x.toNat : Int))) :
    (convert 162 9 (.slice (some ⟨b, off, none⟩) l.length cap)).run Tryz.prog w = .ok (.string (mkS l)) w :=
  run_convert_bytes_back w _ _ T8 ⟨b, off, none⟩ cap l Tryz.underlying162 Tryz.underlying5 Tryz.underlying9 (fun j hj => by
    have e : (⟨b, off, none⟩ : Addr).add j = ⟨b, off + j, none⟩ := by unfold Addr.add; by_cases hj : j = 0 <;> simp [hj]
    rw [e]; exact h j _ (List.getElem?_eq_getElem hj))
theorem Hx.string {w0 w : World} {u : Nat} (h : Hx w0 w u 7) : (convert 162 9 (.slice (some ⟨w0.heap.size, 58, none⟩) 7 7)).run Tryz.prog w = .ok (.string (mkS (hexN 7 u))) w := by
  obtain ⟨hb, hl, cs, hk, hs, hd⟩ := h
  have := conv_bytes_at w0.heap.size 58 7 (hexN 7 u) w (fun j x hx => by
    rw [hk.cell, ← Array.getElem?_toList]
    have h1 : (cs.toList.drop 58)[j]? = some (.int .u8 (x.toNat : Int)) := by rw [show (58 : Nat) = 65 - 7 from rfl, hd, List.getElem?_map, hx]; rfl
    rwa [List.getElem?_drop] at h1)
  rwa [hexN_len] at this
theorem shr4 (u k : Nat) : u / 16 ^ k / 16 = u / 16 ^ (k + 1) := by rw [Nat.div_div_eq_div_mul, Nat.pow_succ]
def dig36 : ByteArray := ⟨#[48, 49, 50, 51, 52, 53, 54, 55, 56, 57, 97, 98, 99, 100, 101, 102, 103, 104, 105, 106, 107, 108, 109, 110, 111, 112, 113, 114, 115, 116, 117, 118, 119, 120, 121, 122]⟩
theorem dig36_at : ∀ d : Nat, d < 16 → ∀ h : d < dig36.size, dig36[d]'h = hexD d
  | 0, _, _ | 1, _, _ | 2, _, _ | 3, _, _ | 4, _, _ | 5, _, _ | 6, _, _ | 7, _, _ | 8, _, _ | 9, _, _ | 10, _, _ | 11, _, _ | 12, _, _ | 13, _, _ | 14, _, _ | 15, _, _ => rfl
  | n + 16, h, _ => by omega
theorem dig36_int {d : Int} {n : Nat} (h : d = ((n % 16 : Nat) : Int)) (hl : d.toNat < dig36.size) : (dig36[d.toNat]'hl).toNat = (hexD (n % 16)).toNat := by
  subst h
  simp only [Int.toNat_natCast] at hl ⊢
  rw [dig36_at _ (Nat.mod_lt _ (by omega))]

set_option maxHeartbeats 1000000 in
set_option maxRecDepth 100000 in
theorem format_bits (u : Nat) (w : World) (h : w.cell? ⟨7, 15, none⟩ = some (.int .u8 4)) (h0 : 16777216 ≤ (u : Int)) (h1 : (u : Int) < 268435456) :
    Calls Tryz.prog 217 #[.slice none 0 0, .int .u64 u, .int .i64 16, .bool false, .bool false] w fun e w' => e = .returned (.tuple #[.slice none 0 0, .string (mkS (hexN 7 u))]) ∧ Below w.heap.size w w' := by
  have HP := Lib.hid (fun (W : World) => bits_pow2 W)
  have HT := Lib.hid (fun (W : World) (h : W.cell? ⟨7, 15, none⟩ = some (.int .u8 4)) => bits_tz W h)
  have HC := Lib.hid (fun (o : Obj) => (((Below.refl w.heap.size w).alloc (Nat.le_refl _) o).cell (World.block_lt_of_cell? _ _ h)).trans h)
  obtain ⟨x, hx⟩ : ∃ x : Int, x = u := ⟨_, rfl⟩
  rw [← hx] at h0 h1 ⊢
  have HX := Lib.hid hx
  clear h hx
  go_enter Tryz.func217, Tryz.ntmps217
  go_wp2_with (first | (go_at_call 235; refine (HP.out _).mono ?_; rintro e w1 ⟨rfl, rfl⟩) | (go_at_call 236; refine (HT.out _ (HC.out _)).mono ?_; rintro e w1 ⟨rfl, rfl⟩))
  go_loopw [1, 13] (fun vu vi wr => ∃ (k q : Nat) (y : Int), vu = .int .u64 y ∧ vi = .int .i64 q ∧ (q : Int) ≤ 65 ∧ (59 : Int) ≤ q ∧ Hid (q + k = 65) ∧ Hid (y = ((u / 16 ^ k : Nat) : Int)) ∧ Hid (Hx w wr u k)) (fun _ vi _ => (intOf vi).toNat)
  case atStart => exact ⟨0, 65, x, rfl, rfl, by omega, by omega, Lib.hid (by omega), Lib.hid (by rw [HX.out]; simp), Lib.hid (Hx.start w u)⟩
  case round =>
    obtain ⟨k, q, y, rfl, rfl, hq0, hq1, HK, HY, HH⟩ := hrel
    obtain ⟨q, rfl⟩ : ∃ r, q = r + 1 := ⟨q - 1, by omega⟩
    obtain ⟨v0, c1, f1⟩ := HH.out.at (q := q) (by omega)
    obtain ⟨d, hd⟩ : ∃ d, bits .and .u64 y 15 = d := ⟨_, rfl⟩
    have HDN : Hid (d = ((u / 16 ^ k % 16 : Nat) : Int)) := Lib.hid (by rw [← hd, HY.out, show (15 : Int) = ((15 : Nat) : Int) from rfl, bits_and_u64_nat _ _ (by have := HX.out; have := Nat.div_le_self u (16 ^ k); omega) (by omega), nat_mask4])
    have d0 : 0 ≤ d := by rw [HDN.out]; omega
    have d1 : d < 16 := by rw [HDN.out]; omega
    by_cases hy : 16 ≤ y
    · go_wp2
      have hk5 : k ≤ 5 := by
        refine Nat.le_of_not_lt fun hk => ?_
        have h6 : k = 6 := by have := HK.out; omega
        subst h6
        have h1 := HX.out; have h2 := HY.out
        omega
      refine ⟨⟨k + 1, q, y / 16, rfl, rfl, by omega, by have := HK.out; omega, Lib.hid (by have := HK.out; omega), Lib.hid ?_, Lib.hid ?_⟩, by simp [intOf]⟩
      · rw [HY.out, ← shr4]; omega
      · have h1 := HH.out.put (q := q) HK.out
        rw [← dig36_int HDN.out (by show d.toNat < 36; omega)] at h1
        exact h1
    · have hk6 : k = 6 := by
        refine Nat.le_antisymm (by have := HK.out; omega) (Nat.le_of_not_lt fun hk => hy ?_)
        have h1 := HX.out; have h2 := HY.out
        have h3 : u / 16 ^ 5 ≤ u / 16 ^ k := Nat.div_le_div_left (Nat.pow_le_pow_right (by omega) (by omega)) (Nat.pow_pos (by omega))
        omega
      subst hk6
      obtain rfl : q = 58 := by have := HK.out; omega
      have hy0 : 0 ≤ y := by rw [HY.out]; omega
      have HF : Hid (Hx w (wr.setCell ⟨w.heap.size, 58, none⟩ (.int .u8 ((dig36[y.toNat]'(by show y.toNat < 36; omega)).toNat : Int))) u 7) := Lib.hid (by
        rw [dig36_int (n := u / 16 ^ 6) (by have h2 := HY.out; have h3 := HX.out; omega) (by show y.toNat < 36; omega)]
        exact HH.out.put rfl)
      have hcv := HF.out.string
      simp only [dig36] at hcv
      go_wp2
      go_ret2
      exact ⟨rfl, HF.out.1⟩

set_option maxHeartbeats 1000000 in
set_option maxRecDepth 100000 in
theorem format_16i (u : Nat) (w : World) (h : w.cell? ⟨7, 15, none⟩ = some (.int .u8 4)) (h0 : 16777216 ≤ (u : Int)) (h1 : (u : Int) < 268435456) :
    Calls Tryz.prog 194 #[.int .i64 u, .int .i64 16] w fun e w' => e = .returned (.string (mkS (hexN 7 u))) ∧ Below w.heap.size w w' := by
  have HF := Lib.hid (format_bits u w h h0 h1)
  obtain ⟨x, hx⟩ : ∃ x : Int, x = u := ⟨_, rfl⟩
  rw [← hx] at h0 h1 HF ⊢
  clear h hx
  generalize mkS (hexN 7 u) = r at *
  have hneg : decide (x < 0) = false := decide_eq_false (by omega)
  have hne : decide ((16 : Int) = 10) = false := by decide
  go_enter Tryz.func194, Tryz.ntmps194
  go_wp2_with (fail)
  refine HF.out.mono ?_
  rintro e w1 ⟨rfl, hb1⟩
  go_wp2
  go_ret
  exact ⟨rfl, hb1⟩
set_option maxHeartbeats 1000000 in
set_option maxRecDepth 100000 in
theorem format_16 (u : Nat) (w : World) (h : w.cell? ⟨7, 15, none⟩ = some (.int .u8 4)) (h0 : 16777216 ≤ (u : Int)) (h1 : (u : Int) < 268435456) :
    Calls Tryz.prog 155 #[.int .i64 u, .int .i64 16] w fun e w' => e = .returned (.string (mkS (hexN 7 u))) ∧ Below w.heap.size w w' := by
  have HF := Lib.hid (format_16i u w h h0 h1)
  obtain ⟨x, hx⟩ : ∃ x : Int, x = u := ⟨_, rfl⟩
  rw [← hx] at h0 h1 HF ⊢
  clear h hx
  generalize mkS (hexN 7 u) = r at *
  go_enter Tryz.func155, Tryz.ntmps155
  go_wp2_with (go_at_call 194; refine HF.out.mono ?_; rintro e w1 ⟨rfl, hb1⟩)
  go_ret
  exact ⟨rfl, hb1⟩
end Go.Proofs.YtilhicefhhgecaaGreatDoor

namespace Pv
open Go Go.RowKit
def markB : ByteArray := ⟨#[46, 91, 93, 40, 41, 42, 43, 63, 123, 125, 124, 92, 45, 94]⟩
end Pv
namespace Go.Proofs.YtilhicefhhgecaaGreatDoor
open Go.RowKit Pv

end Go.Proofs.YtilhicefhhgecaaGreatDoor
