/- Walks: the document's code points: Is, Bytes. PUT1 -/
import Derived.Test.YtilhicefhhgecaaGreatDoorTaq
import Derived.Test.YtilhicefhhgecaaGreatDoorQvq
import Derived.ProofKit
import Derived.Test.YtilhicefhhgecaaGreatDoorProg
import Derived.Laws.IdiomStrings
namespace Go.Proofs.YtilhicefhhgecaaGreatDoor
open Go.RowKit Pv

abbrev T8 : TypeId := 5
theorem conv_bytes (b cap : Nat) (l : List UInt8) (w : World) (h : ∀ j x, l[j]? = some x → w.cell? ⟨b, j, none⟩ = some (.int .u8 (x.toNat : Int))) :
    (convert 162 9 (.slice (some ⟨b, 0, none⟩) l.length cap)).run Tryz.prog w = .ok (.string (mkS l)) w :=
  run_convert_bytes_back w _ _ T8 ⟨b, 0, none⟩ cap l Tryz.underlying162 Tryz.underlying5 Tryz.underlying9 (fun j hj => by
    have e : (⟨b, 0, none⟩ : Addr).add j = ⟨b, j, none⟩ := by unfold Addr.add; by_cases hj : j = 0 <;> simp [hj]
    rw [e]; exact h j _ (List.getElem?_eq_getElem hj))

set_option maxHeartbeats 400000 in
set_option maxRecDepth 100000 in
theorem ref01_Is (n : Nat) (w : World) : Calls Tryz.prog 183 #[.int .i64 n] w fun e w' => e = .returned (.bool (isP n)) ∧ w = w' := by
  have hN := Lib.hid (show isP n = decide (n ≤ 1114111 ∧ (n < 55296 ∨ 57343 < n)) from rfl)
  generalize isP n = r at *
  by_cases h1 : n ≤ 1114111
  · by_cases h2 : n < 55296
    · have HR := Lib.hid (show true = r by rw [hN.out]; exact (decide_eq_true (by omega)).symm)
      go_enter Tryz.func183, Tryz.ntmps183
      go_wp2
      go_ret
      exact ⟨ret_bool HR.out, rfl⟩
    · by_cases h3 : 57343 < n
      · have q : decide ((57343 : Int) < (n : Int)) = true := decide_eq_true (by omega)
        have HR := Lib.hid (show true = r by rw [hN.out]; exact (decide_eq_true (by omega)).symm)
        go_enter Tryz.func183, Tryz.ntmps183
        go_wp2
        go_ret
        exact ⟨ret_bool HR.out, rfl⟩
      · have q : decide ((57343 : Int) < (n : Int)) = false := decide_eq_false (by omega)
        have HR := Lib.hid (show false = r by rw [hN.out]; exact (decide_eq_false (by omega)).symm)
        have h3' : n ≤ 57343 := by omega
        clear h3
        go_enter Tryz.func183, Tryz.ntmps183
        go_wp2
        go_ret
        exact ⟨ret_bool ((decide_eq_false (by omega)).trans HR.out), rfl⟩
  · have HR := Lib.hid (show false = r by rw [hN.out]; exact (decide_eq_false (by omega)).symm)
    go_enter Tryz.func183, Tryz.ntmps183
    go_wp2
    go_ret
    exact ⟨ret_bool HR.out, rfl⟩

/-- A slice of bytes, new. -/
def BytesPost (l : List UInt8) (w : World) (e : Ending) (w' : World) : Prop :=
  ∃ g c, e = .returned (.slice (some ⟨g, 0, none⟩) l.length c) ∧ (∀ j x, l[j]? = some x → w'.cell? ⟨g, j, none⟩ = some (.int .u8 (x.toNat : Int))) ∧ Below w.heap.size w w'
theorem bytes_post {w : World} {n k c : Nat} {cs : Array Value} (hk : (bytesP n).length = k) (hc : cs.toList = (bytesP n).map (fun x : Nat => Value.int .u8 (x : Int))) (hn : n ≤ 1114111) :
    BytesPost (bytes8 n) w (.returned (.slice (some ⟨w.heap.size, 0, none⟩) k c)) (w.alloc (.cells cs T8)) := by
  refine ⟨w.heap.size, c, by rw [bytes8, List.length_map, hk], fun j x hx => ?_, (Below.refl _ _).alloc (Nat.le_refl _) _⟩
  rw [World.cell?_alloc_new]
  unfold bytes8 at hx
  rw [List.getElem?_map] at hx
  cases hy : (bytesP n)[j]? with
  | none => rw [hy] at hx; cases hx
  | some y =>
    rw [hy] at hx
    injection hx with hx
    subst hx
    have h1 := bytesP_lt hn (List.mem_of_getElem? hy)
    have h2 : cs[j]? = some (Value.int .u8 (y : Int)) := by
      rw [← Array.getElem?_toList, hc, List.getElem?_map, hy]; rfl
    rw [h2]
    simp; omega

set_option maxHeartbeats 1000000 in
set_option maxRecDepth 100000 in
theorem ref01_Bytes (n : Nat) (w : World) (hn : n ≤ 1114111) : Calls Tryz.prog 184 #[.int .i64 n] w (BytesPost (bytes8 n) w) := by
  obtain ⟨m, hm⟩ : ∃ m : Int, (n : Int) = m := ⟨_, rfl⟩
  have m0 : 0 ≤ m := by omega
  have m1 : m ≤ 1114111 := by omega
  rw [hm]
  by_cases h1 : m < 128
  · have HP := Lib.hid (fun c => bytes_post (w := w) (c := c) (k := 1) (cs := #[.int .u8 m]) (by rw [bytesP_1 (by omega)]; rfl) (by rw [bytesP_1 (by omega)]; simp [hm]) hn)
    clear hn hm
    generalize bytes8 n = l at *
    go_enter Tryz.func184, Tryz.ntmps184
    go_wp2
    go_ret
    exact HP.out _
  by_cases h2 : m < 2048
  · have HP := Lib.hid (fun c => bytes_post (w := w) (c := c) (k := 2) (cs := #[.int .u8 (192 + m / 64), .int .u8 (128 + m % 64)]) (by rw [bytesP_2 (by omega) (by omega)]; rfl) (by rw [bytesP_2 (by omega) (by omega)]; simp [hm]) hn)
    have h3 : m / 64 ≤ 31 := by omega
    clear hn hm
    generalize bytes8 n = l at *
    go_enter Tryz.func184, Tryz.ntmps184
    go_wp2
    go_ret
    exact HP.out _
  by_cases h3 : m < 65536
  · have HP := Lib.hid (fun c => bytes_post (w := w) (c := c) (k := 3) (cs := #[.int .u8 (224 + m / 4096), .int .u8 (128 + m / 64 % 64), .int .u8 (128 + m % 64)]) (by rw [bytesP_3 (by omega) (by omega)]; rfl) (by rw [bytesP_3 (by omega) (by omega)]; simp [hm]) hn)
    have h4 : m / 4096 ≤ 15 := by omega
    clear hn hm
    generalize bytes8 n = l at *
    go_enter Tryz.func184, Tryz.ntmps184
    go_wp2
    go_ret
    exact HP.out _
  · have HP := Lib.hid (fun c => bytes_post (w := w) (c := c) (k := 4) (cs := #[.int .u8 (240 + m / 262144), .int .u8 (128 + m / 4096 % 64), .int .u8 (128 + m / 64 % 64), .int .u8 (128 + m % 64)]) (by rw [bytesP_4 (by omega)]; rfl) (by rw [bytesP_4 (by omega)]; simp [hm]) hn)
    have h4 : m / 262144 ≤ 4 := by omega
    clear hn hm
    generalize bytes8 n = l at *
    go_enter Tryz.func184, Tryz.ntmps184
    go_wp2
    go_ret
    exact HP.out _
end Go.Proofs.YtilhicefhhgecaaGreatDoor
