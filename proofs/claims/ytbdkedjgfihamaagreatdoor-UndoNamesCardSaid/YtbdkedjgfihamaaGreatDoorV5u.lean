/- Walks: strings.Trim at the letters and digits of a name. PUT1 -/
import Derived.Test.YtbdkedjgfihamaaGreatDoorV11u
import Derived.Test.YtbdkedjgfihamaaGreatDoorOnu
import Derived.Test.YtbdkedjgfihamaaGreatDoorSvu
import Derived.Test.YtbdkedjgfihamaaGreatDoorQuu
import Derived.Deep.WholeRow
import Derived.ProofKit
namespace Pv
open Go Go.RowKit
/-- What a name has. -/
def alnB : List UInt8 := [95, 97, 98, 99, 100, 101, 102, 103, 104, 105, 106, 107, 108, 109, 110, 111, 112, 113, 114, 115, 116, 117, 118, 119, 120, 121, 122, 65, 66, 67, 68, 69, 70, 71, 72, 73, 74, 75, 76, 77, 78, 79, 80, 81, 82, 83, 84, 85, 86, 87, 88, 89, 90, 48, 49, 50, 51, 52, 53, 54, 55, 56, 57]
theorem bslV_drop (s : ByteArray) (n : Nat) : bsl (s.extract n s.size) = (bsl s).drop n := by
  simp [bsl, ByteArray.data_extract]
  rw [List.take_of_length_le]
  have : s.data.toList.length = s.size := bsl_len s
  rw [List.length_drop]
  omega
end Pv
namespace Go.Proofs.YtbdkedjgfihamaaGreatDoor
open Go.RowKit Pv
abbrev TAs : TypeId := 175
def alnS : ByteArray := ⟨#[95, 97, 98, 99, 100, 101, 102, 103, 104, 105, 106, 107, 108, 109, 110, 111, 112, 113, 114, 115, 116, 117, 118, 119, 120, 121, 122, 65, 66, 67, 68, 69, 70, 71, 72, 73, 74, 75, 76, 77, 78, 79, 80, 81, 82, 83, 84, 85, 86, 87, 88, 89, 90, 48, 49, 50, 51, 52, 53, 54, 55, 56, 57]⟩
theorem info_as : (Tryz.prog.info? TAs).map (·.size) = some 256 := by kernel_rfl
theorem set_size : (Lib.setCells (bsl alnS)).size = 256 := Lib.setCells_size _
theorem zero_as : Tryz.zeroCells175.size = 256 := by kernel_rfl
theorem set_one : (Lib.setCells (bsl alnS)).all (·.oneCell') = true := by kernel_rfl
theorem store_as (W : World) : (storeCells ⟨W.heap.size, 0, none⟩ (Lib.setCells (bsl alnS)).toList 0).run Tryz.prog (W.alloc (.cells Tryz.zeroCells175 TAs)) = .ok () (W.alloc (.cells (Lib.setCells (bsl alnS)) TAs)) :=
  run_storeCells_new W TAs _ _ (by rw [set_size]; exact info_as) (by rw [zero_as, set_size]) set_one
set_option maxHeartbeats 1000000 in
set_option maxRecDepth 100000 in
theorem as_has (g : Nat) (b : UInt8) (w : World) (h : Blk w g TAs (Lib.setCells (bsl alnS))) :
    Calls Tryz.prog 166 #[.pointer (some ⟨g, 0, none⟩), .int .u8 (b.toNat : Int)] w fun e w' => e = .returned (.bool (alnB.contains b)) ∧ w' = w := by
  have hc : w.cell? ⟨g, b.toNat, none⟩ = some (.bool (alnB.contains b)) := (h.cell _).trans (Lib.setCells_at (bsl alnS) b)
  have i0 : (0 : Int) ≤ (b.toNat : Int) := by omega
  have i1 : (b.toNat : Int) < 256 := by have := b.toNat_lt; omega
  generalize alnB.contains b = r at *
  generalize b.toNat = n at *
  clear h
  go_enter Tryz.func166, Tryz.ntmps166
  go_wp2
  go_ret
  exact ⟨rfl, rfl⟩
/-- A string's length, of a value. -/
def lenOf : Value → Nat
  | .string s => s.size
  | _ => 0
def allA (l : List UInt8) : Bool := l.all fun b => alnB.contains b
theorem allA_drop {u : ByteArray} {b : UInt8} (h0 : 0 < u.size) (hb : u[0]'h0 = b) (hc : alnB.contains b = true) : allA (bsl (u.extract 1 u.size)) = allA (bsl u) := by
  rw [bslV_drop]
  have h1 : bsl u = b :: (bsl u).drop 1 := by
    have h2 : (bsl u)[0]? = some b := by
      rw [show bsl u = u.data.toList from rfl, Array.getElem?_toList, Array.getElem?_eq_getElem (show 0 < u.data.size from h0)]
      exact congrArg some hb
    cases h3 : bsl u with
    | nil => rw [h3] at h2; cases h2
    | cons c l => rw [h3] at h2; obtain rfl := Option.some.inj h2; rfl
  rw [h1, List.drop_one, List.tail_cons, allA, allA, List.all_cons, hc, Bool.true_and]
theorem allA_first {u : ByteArray} {b : UInt8} (h0 : 0 < u.size) (hb : u[0]'h0 = b) (hc : alnB.contains b = false) : allA (bsl u) = false := by
  have h2 : (bsl u)[0]? = some b := by
    rw [show bsl u = u.data.toList from rfl, Array.getElem?_toList, Array.getElem?_eq_getElem (show 0 < u.data.size from h0)]
    exact congrArg some hb
  cases h3 : bsl u with
  | nil => rw [h3] at h2; cases h2
  | cons c l => rw [h3] at h2; obtain rfl := Option.some.inj h2; rw [allA, List.all_cons, hc, Bool.false_and]
theorem allA_none {u : ByteArray} (h0 : u.size = 0) : allA (bsl u) = true := by
  have h1 : bsl u = [] := List.eq_nil_of_length_eq_zero (by rw [bsl_len]; exact h0)
  rw [h1]; rfl
theorem allA_take {u : ByteArray} {b : UInt8} (h0 : 0 < u.size) (hb : u[u.size - 1]'(by omega) = b) (hc : alnB.contains b = true) : allA (bsl (u.extract 0 (u.size - 1))) = allA (bsl u) := by
  have h1 : bsl (u.extract 0 (u.size - 1)) = (bsl u).take (u.size - 1) := by
    simp [bsl, ByteArray.data_extract, List.dropLast_eq_take]
  have h2 : bsl u = (bsl u).take (u.size - 1) ++ [b] := by
    have h3 : (bsl u).drop (u.size - 1) = [b] := by
      have h4 : (bsl u)[u.size - 1]? = some b := by
        rw [show bsl u = u.data.toList from rfl, Array.getElem?_toList, Array.getElem?_eq_getElem (show u.size - 1 < u.data.size from by have : u.data.size = u.size := rfl; omega)]
        exact congrArg some hb
      have h5 : u.size - 1 < (bsl u).length := by rw [bsl_len]; omega
      rw [List.drop_eq_getElem_cons h5, List.drop_of_length_le (by rw [bsl_len]; omega)]
      rw [List.getElem?_eq_getElem h5] at h4
      rw [Option.some.inj h4]
    rw [← h3, List.take_append_drop]
  rw [h1]
  conv => rhs; rw [h2]
  rw [allA, allA, List.all_append, List.all_cons, hc]
  simp
set_option maxHeartbeats 1000000 in
set_option maxRecDepth 100000 in
theorem trim_left (g : Nat) (s : ByteArray) (w : World) (h : Blk w g TAs (Lib.setCells (bsl alnS))) (_hs : s.size ≤ 100000) :
    Calls Tryz.prog 158 #[.string s, .pointer (some ⟨g, 0, none⟩)] w fun e w' => ∃ t : ByteArray, e = .returned (.string t) ∧ decide (t.size = 0) = allA (bsl s) ∧ t.size ≤ s.size ∧ w = w' := by
  have HAS := Lib.hid (fun b => as_has g b w h)
  clear h
  go_enter Tryz.func158, Tryz.ntmps158
  go_wp2
  go_loop [0] (fun v => ∃ u : ByteArray, v = .string u ∧ u.size ≤ s.size ∧ Hid (allA (bsl u) = allA (bsl s))) (fun v => lenOf v)
  case atStart => exact ⟨s, rfl, Nat.le_refl _, Lib.hid rfl⟩
  case round =>
    obtain ⟨u, rfl, hu, HU⟩ := hrel
    by_cases h0 : u.size = 0
    · have h1 : ¬ ((u.size : Int) > 0) := by omega
      have HR := Lib.hid (allA_none h0)
      go_wp2
      go_ret
      exact ⟨u, rfl, by rw [← HU.out, HR.out]; simpa using h0, hu, rfl⟩
    · have h1 : ((u.size : Int) > 0) := by omega
      have h2 : 0 < u.size := by omega
      obtain ⟨b, hb⟩ : ∃ b, u[0]'h2 = b := ⟨_, rfl⟩
      have HB := Lib.hid hb
      obtain ⟨c, hc⟩ : ∃ c, alnB.contains b = c := ⟨_, rfl⟩
      have HA := HAS.out b
      rw [hc] at HA
      have HA := Lib.hid HA
      have HC := Lib.hid hc
      clear hb hc
      go_wp2_with fail
      rw [HB.out]
      refine HA.out.mono ?_
      rintro e w' ⟨rfl, rfl⟩
      cases c with
      | true =>
        go_wp2
        go_round
        case rel => exact ⟨_, rfl, by simp only [ByteArray.size_extract]; omega, Lib.hid ((allA_drop h2 HB.out HC.out).trans HU.out)⟩
        case measure => simp [lenOf, ByteArray.size_extract]; omega
      | false =>
        have HR := Lib.hid (allA_first h2 HB.out HC.out)
        go_wp2
        go_ret
        exact ⟨u, rfl, by rw [← HU.out, HR.out]; exact decide_eq_false h0, hu, rfl⟩
set_option maxHeartbeats 1000000 in
set_option maxRecDepth 100000 in
theorem trim_right (g : Nat) (s : ByteArray) (w : World) (h : Blk w g TAs (Lib.setCells (bsl alnS))) (hs : s.size ≤ 100000) :
    Calls Tryz.prog 159 #[.string s, .pointer (some ⟨g, 0, none⟩)] w fun e w' => ∃ t : ByteArray, e = .returned (.string t) ∧ allA (bsl t) = allA (bsl s) ∧ t.size ≤ s.size ∧ w = w' := by
  have HAS := Lib.hid (fun b => as_has g b w h)
  clear h
  go_enter Tryz.func159, Tryz.ntmps159
  go_wp2
  go_loop [0] (fun v => ∃ u : ByteArray, v = .string u ∧ u.size ≤ s.size ∧ Hid (allA (bsl u) = allA (bsl s))) (fun v => lenOf v)
  case atStart => exact ⟨s, rfl, Nat.le_refl _, Lib.hid rfl⟩
  case round =>
    obtain ⟨u, rfl, hu, HU⟩ := hrel
    by_cases h0 : u.size = 0
    · have h1 : ¬ ((u.size : Int) > 0) := by omega
      go_wp2
      go_ret
      exact ⟨u, rfl, HU.out, hu, rfl⟩
    · have h1 : ((u.size : Int) > 0) := by omega
      have h2 : 0 < u.size := by omega
      have h3 : u.size - 1 < u.size := by omega
      have h4 : (0 : Int) ≤ (u.size : Int) - 1 := by omega
      obtain ⟨b, hb⟩ : ∃ b, u[u.size - 1]'h3 = b := ⟨_, rfl⟩
      have HB := Lib.hid hb
      obtain ⟨c, hc⟩ : ∃ c, alnB.contains b = c := ⟨_, rfl⟩
      have HA := HAS.out b
      rw [hc] at HA
      have HA := Lib.hid HA
      have HC := Lib.hid hc
      clear hb hc
      go_wp2_with fail
      rw [HB.out]
      refine HA.out.mono ?_
      rintro e w' ⟨rfl, rfl⟩
      cases c with
      | true =>
        go_wp2
        go_round
        case rel => exact ⟨_, rfl, by simp only [ByteArray.size_extract]; omega, Lib.hid ((allA_take h2 HB.out HC.out).trans HU.out)⟩
        case measure => simp [lenOf, ByteArray.size_extract]; omega
      | false =>
        go_wp2
        go_ret
        exact ⟨u, rfl, HU.out, hu, rfl⟩
set_option maxHeartbeats 1000000 in
set_option maxRecDepth 100000 in
theorem trim_aln (s : ByteArray) (w : World) (h0 : 0 < s.size) (hs : s.size ≤ 100000) :
    Calls Tryz.prog 148 #[.string s, .string alnS] w fun e w' => ∃ t : ByteArray, e = .returned (.string t) ∧ decide (t.size = 0) = allA (bsl s) ∧ t.size ≤ s.size ∧ Below w.heap.size w w' := by
  have hz : ∀ w, (zeroValue TAs).run Tryz.prog w = .ok (.agg (Array.replicate 256 (.bool false))) w := by intro w; rfl
  have HM : ∀ W, Calls Tryz.prog 157 #[.string alnS] W fun e w' => e = .returned (.tuple #[.agg (Lib.setCells (bsl alnS)), .bool true]) ∧ w' = W.alloc (.cells (Lib.setCells (bsl alnS)) 175) := fun W => Any.strings_makeASCIISet Tryz.lays227 hz info_as alnS W (by decide) (by
    intro j b hb
    have : b ∈ alnS.data.toList := List.mem_of_getElem? hb
    exact (by decide : ∀ b ∈ alnS.data.toList, b.toNat < 128) b this)
  have h1 : ¬ s.toList = [] := fun e => by
    have h2 : s.data.toList.length = s.size := bsl_len s
    rw [← Lib.toList_data, e] at h2; simp at h2; omega
  have h2 : s.toList.isEmpty = false := by simpa using h1
  have h3 : alnS.toList.isEmpty = false := by rw [Lib.toList_data]; rfl
  have h5 : alnS.size = 63 := by decide
  have hz0 : ∀ o, (w.alloc o).heap.size = w.heap.size + 1 := fun o => by unfold World.alloc; simp
  have HTR := fun W h => trim_right (w.heap.size + 1) s W h hs
  have HTL := fun t W h ht => trim_left (w.heap.size + 1) t W h (Nat.le_trans ht hs)
  have HST := store_as (w.alloc (.cells (Lib.setCells (bsl alnS)) 175))
  rw [hz0] at HST
  have HBK := Blk.new (w.alloc (.cells (Lib.setCells (bsl alnS)) 175)) 175 (Lib.setCells (bsl alnS))
  rw [hz0] at HBK
  have hsz := set_size
  generalize Lib.setCells (bsl alnS) = cs at *
  have HBB : Below w.heap.size w ((w.alloc (.cells cs 175)).alloc (.cells cs 175)) := ((Below.refl _ w).alloc (Nat.le_refl _) _).alloc (by rw [hz0]; omega) _
  have HTL := Lib.hid HTL; have HTR := Lib.hid HTR; have HBK := Lib.hid HBK; have HBB := Lib.hid HBB; have HM := Lib.hid HM
  clear h0 hs hz hz0
  go_enter Tryz.func148, Tryz.ntmps148
  go_wp2_with fail
  refine (HM.out _).mono ?_
  rintro e w1 ⟨rfl, rfl⟩
  go_wp2_with fail
  refine (HTR.out _ HBK.out).mono ?_
  rintro e w' ⟨t, rfl, ht1, ht2, rfl⟩
  have HT1 := Lib.hid ht1
  clear ht1
  go_wp2_with fail
  refine (HTL.out t _ HBK.out ht2).mono ?_
  rintro e w' ⟨u, rfl, hu1, hu2, rfl⟩
  have HU1 := Lib.hid hu1
  clear hu1
  go_wp2
  go_ret
  exact ⟨u, rfl, HU1.out.trans HT1.out, Nat.le_trans hu2 ht2, HBB.out⟩
end Go.Proofs.YtbdkedjgfihamaaGreatDoor
