/- Walks: whether nodes are great; twins in new memory; whether two patterns are the same. -/
import Derived.Deep.RegionHeld3
import Derived.Deep.RegionLaw
import Derived.Test.YtjnjbcigbnjmkaaDoorPg
import Derived.Test.YtjnjbcigbnjmkaaDoorMem4
namespace Go.Proofs.YtjnjbcigbnjmkaaDoor
open Go.RowKit Pv

/-- What the answer 'not great' tells. -/
def GreatP (t : List Rx) (q : Nat) (w : World) (e : Ending) (w' : World) : Prop :=
  ∃ g, e = .returned (.bool g) ∧ (g = false → t.length ≤ q ∧ ∀ (i : Nat) x, t[i]? = some x → x.set.length ≤ 60) ∧ w = w'
set_option maxHeartbeats 1000000 in
set_option maxRecDepth 100000 in
theorem ref07_Great (A : Option Addr) (c n q : Nat) (t : List Rx) (w : World) (h : AtRx w A t) (HL : Hid (t.length = n)) (hq : q ≤ 1000) :
    Calls Tryd.prog 4 #[.slice A n c, .int .i64 q] w (GreatP t q w) := by
  have hl : n ≤ 140737488355328 := by have := h.1; rwa [HL.out] at this
  go_enter Tryd.func4, Tryd.ntmps4
  go_wp2
  go_loop [5] (fun i => ∃ k : Nat, i = .int .i64 k ∧ k ≤ n ∧ (∀ (i : Nat) x, i < k → t[i]? = some x → x.set.length ≤ 60)) (fun i => n - (intOf i).toNat)
  case atStart => exact ⟨0, rfl, by omega, by intros; omega⟩
  case round =>
    obtain ⟨k, rfl, hk, hall⟩ := hrel
    have HA := Lib.hid hall; clear hall
    by_cases hlt : k < n
    · by_cases hkq : k < q
      · obtain ⟨b, off, kd, B, cs, m, l, many, least, most, rfl, ⟨y0, y1, y2, y3, y4, y5⟩, hs, HM, hm, _, _, _, _, HX⟩ := h.g5 HL hlt
        have hml : m ≤ 140737488355328 := by have := hs.1; rwa [HM.out] at this
        clear h hs
        by_cases h60 : 60 < m
        · go_wp2
          go_ret
          exact ⟨true, rfl, nofun, rfl⟩
        · go_wp2
          go_round
          case rel => exact ⟨k + 1, by go_num, by omega, fun i x hi hx => by
            by_cases hik : i = k
            · subst hik
              obtain rfl := Option.some.inj (HX.out.symm.trans hx)
              have := HM.out
              simp only; omega
            · exact HA.out i x (by omega) hx⟩
          case measure => simp [intOf]; omega
      · have hd : decide (q < n) = true := decide_eq_true (by omega)
        clear h
        go_wp2
        go_ret
        exact ⟨true, ret_bool (by simp <;> omega), nofun, rfl⟩
    · have : k = n := by omega
      subst this
      clear h
      by_cases hqk : q < k
      · go_wp2
        go_ret
        exact ⟨true, ret_bool (by simp <;> omega), nofun, rfl⟩
      · go_wp2
        go_ret
        exact ⟨false, ret_bool (by simp <;> omega), fun _ => ⟨by rw [HL.out]; omega, fun i x hx => HA.out i x (by have := lt_of_get hx; rwa [HL.out] at this) hx⟩, rfl⟩

theorem info_range : (Tryd.prog.info? 56).map (fun i => (i.zero, i.size, i.bytes)) = some (some (.agg #[.int .i64 0, .int .i64 0]), 2, 16) := by kernel_rfl
theorem RRng.one {f : Nat → Value} {r : Rng} (h : RRng f r) : ∀ j, j < 2 → (f j).oneCell' = true := by
  intro j hj
  obtain ⟨⟨h0, _⟩, ⟨h1, _⟩⟩ := h
  match j, hj with
  | 0, _ => rw [h0]; rfl
  | 1, _ => rw [h1]; rfl
/-- A set in new memory of the call's own. -/
abbrev OwnSet (w : World) (base : Nat) (v : Value) (l : List Rng) : Prop := OwnK w base 56 2 RRng v l

set_option maxHeartbeats 1000000 in
theorem ref06_Twin (A : Option Addr) (c n : Nat) (l : List Rng) (w : World) (h : AtSet w A l) (HL : Hid (l.length = n)) (hn : n ≤ 1000000) :
    Calls Tryd.prog 14 #[.slice A n c] w fun e w' => ∃ B c', e = .returned (.slice B n c') ∧ OwnSet w' w.heap.size (.slice B n c') l ∧ Below w.heap.size w w' := by
  obtain ⟨i0, hi0, hz0, hs0, hb0⟩ := info_parts info_range
  obtain ⟨us, hr, src⟩ := AtK.src h (fun _ _ => RRng.one)
  rw [HL.out] at src
  have S1 := Lib.hid src; have R1 := Lib.hid hr
  clear src hr h
  go_enter Tryd.func14, Tryd.ntmps14
  go_wp2_with (at_builtin
               refine wpList_append_src _ rfl (.tmp 4) (.tmp 5) 38 rfl w.heap.size 56 i0 (.agg #[.int .i64 0, .int .i64 0]) 2 16 Tryd.underlying38 hi0 hz0 hs0 hb0 rfl (by decide) none 0 0 [] rfl (World.ownsRow_nil _ _ _ _) A n c us rfl S1.out (by simp only [maxLen]; omega) (by omega) (Nat.le_refl _) ?_
               intro A1 c1 w1 own1 gr1 _
               simp only [List.nil_append, Nat.zero_add] at own1
               have G1 := Lib.hid gr1; have O1 := Lib.hid own1
               clear gr1 own1)
  go_ret
  exact ⟨A1, c1, rfl, ⟨A1, c1, us, by rw [HL.out], by rw [HL.out]; exact O1.out, R1.out⟩, (Below.refl _ _).grown G1.out (Nat.le_refl _) (by simp [Value.ownBlock])⟩

end Go.Proofs.YtjnjbcigbnjmkaaDoor
