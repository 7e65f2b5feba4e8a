/- Walks: the document's code points: Is, number, Bytes, One. PUT1 -/
import Derived.Test.YtilhicefhhgecaaGreatDoorRcq
import Derived.Test.YtilhicefhhgecaaGreatDoorQvq
import Derived.Test.YtilhicefhhgecaaGreatDoorMemq
import Derived.Test.YtilhicefhhgecaaGreatDoorChecked
import Derived.WalkKit
import Derived.WalkSpells
import Derived.WalkLawsBesides
import Derived.Deep.QuietTactic
import Derived.BigQuiet
import Derived.Lib.Hide
import Derived.Outline
import Derived.Laws.IdiomStrings
namespace Go.Proofs.YtilhicefhhgecaaGreatDoor
open Go.RowKit Pv

set_option maxHeartbeats 1000000 in
set_option maxRecDepth 100000 in
theorem ref01_number (s : ByteArray) (at' size : Nat) (w : World) (hs : s.size ≤ 140737488355328) (h1 : 1 ≤ size) (h4 : size ≤ 4) (hl : at' + size ≤ s.size) :
    Calls Tryz.prog 182 #[.string s, .int .i64 at', .int .i64 size] w fun e w' => e = .returned (.int .i64 (numP ((bsl s).drop at') size)) ∧ w = w' := by
  have hcase : size = 1 ∨ size = 2 ∨ size = 3 ∨ size = 4 := by omega
  have hb : ∀ k, at' + k < s.size → ∃ c : Nat, bN ((bsl s).drop at') k = c ∧ c < 256 := fun k _ => ⟨_, rfl, bN_lt _ _⟩
  obtain ⟨l, hL⟩ : ∃ l, (bsl s).drop at' = l := ⟨_, rfl⟩
  have HB := Lib.hid (fun k (h : at' + k < s.size) => show (s[at' + k]'h).toNat = bN l k by rw [bN_get h, ← hL, bN_drop])
  rw [hL]
  have HL := Lib.hid hL
  clear hL hb
  have hb0 := bN_lt l 0
  have e0 : (s[at']'(by omega)).toNat = bN l 0 := HB.out 0 (by omega)
  obtain ⟨nf, hnf⟩ : ∃ nf : Nat → Nat, numK l size = nf := ⟨_, rfl⟩
  have HP := Lib.hid (show numP l size = nf (size - 1) from by rw [← hnf]; rfl)
  generalize numP l size = res at *
  obtain ⟨b0, HB0⟩ : ∃ b0, Hid (bN l 0 = b0) := ⟨_, Lib.hid rfl⟩
  have HK0 := Lib.hid (show nf 0 = if size = 2 then b0 % 32 else if size = 3 then b0 % 16 else if size = 4 then b0 % 8 else b0 by rw [← hnf, ← HB0.out]; rfl)
  have HK := Lib.hid (show ∀ k, nf (k + 1) = 64 * nf k + bN l (k + 1) % 64 from fun k => by rw [← hnf]; rfl)
  have HKL := Lib.hid (show ∀ k, k ≤ 3 → nf k < 64 ^ (k + 2) from fun k hk => by rw [← hnf]; exact numK_lt l size k hk)
  rw [HB0.out] at hb0 e0
  have HKB := Lib.hid (show ∀ k, k + 1 ≤ size → nf k < 16777216 from fun k hk => by
    rcases (show k = 0 ∨ k = 1 ∨ k = 2 ∨ k = 3 by omega) with rfl | rfl | rfl | rfl
    · have := HKL.out 0 (by omega); omega
    · have := HKL.out 1 (by omega); omega
    · have := HKL.out 2 (by omega); omega
    · have h7 : nf 0 < 8 := by rw [HK0.out, if_neg (by omega), if_neg (by omega), if_pos (by omega)]; omega
      have h8 : nf 1 = 64 * nf 0 + bN l 1 % 64 := HK.out 0
      have h9 : nf 2 = 64 * nf 1 + bN l 2 % 64 := HK.out 1
      have h10 : nf 3 = 64 * nf 2 + bN l 3 % 64 := HK.out 2
      omega)
  clear hnf
  have hcase' : ∃ x2 x3 x4 : Bool, ((size : Int) == 2) = x2 ∧ ((size : Int) == 3) = x3 ∧ ((size : Int) == 4) = x4 ∧ ((x2 = true ∧ x3 = false ∧ x4 = false ∧ nf 0 = b0 % 32) ∨ (x2 = false ∧ x3 = true ∧ x4 = false ∧ nf 0 = b0 % 16) ∨ (x2 = false ∧ x3 = false ∧ x4 = true ∧ nf 0 = b0 % 8) ∨ (x2 = false ∧ x3 = false ∧ x4 = false ∧ nf 0 = b0)) := by
    refine ⟨_, _, _, rfl, rfl, rfl, ?_⟩
    rw [HK0.out]
    rcases hcase with rfl | rfl | rfl | rfl <;> simp
  obtain ⟨x2, x3, x4, t2, t3, t4, hx⟩ := hcase'
  clear hcase
  rcases hx with ⟨rfl, rfl, rfl, h0⟩ | ⟨rfl, rfl, rfl, h0⟩ | ⟨rfl, rfl, rfl, h0⟩ | ⟨rfl, rfl, rfl, h0⟩
  all_goals
    have H0 := Lib.hid h0
    clear h0
    go_enter Tryz.func182, Tryz.ntmps182
    go_wp2
    clear e0 t2 t3 t4
    go_loop [7, 8] (fun n i => ∃ k : Nat, k + 1 ≤ size ∧ i = .int .i64 ((k + 1 : Nat) : Int) ∧ n = .int .i64 (nf k)) (fun _ i => 5 - (intOf i).toNat)
    case atStart => exact ⟨0, by omega, rfl, by rw [H0.out]; try go_num⟩
    case round =>
      obtain ⟨k, hk, rfl, rfl⟩ := hrel
      have hkl := HKB.out k hk
      by_cases hlt : k + 1 < size
      · have hin : at' + (k + 1) < s.size := by omega
        obtain ⟨c, HC⟩ : ∃ c, Hid (bN l (k + 1) = c) := ⟨_, Lib.hid rfl⟩
        have hc : c < 256 := by have := bN_lt l (k + 1); rwa [HC.out] at this
        have e1 : (s[at' + (k + 1)]'hin).toNat = c := by rw [HB.out _ hin, HC.out]
        go_wp2
        go_round
        case rel => exact ⟨k + 1, by omega, by go_num, by rw [HK.out, HC.out]; go_num⟩
        case measure => simp [intOf]; omega
      · have hR := Lib.hid (show res = nf k by rw [HP.out, show size - 1 = k by omega])
        go_wp2
        go_ret
        exact ⟨ret_int (by rw [hR.out]), rfl⟩
end Go.Proofs.YtilhicefhhgecaaGreatDoor
