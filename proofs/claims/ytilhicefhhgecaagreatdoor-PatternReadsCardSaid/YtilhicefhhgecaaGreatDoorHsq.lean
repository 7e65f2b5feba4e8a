/- Walks: a set in new memory. -/
import Derived.Test.YtilhicefhhgecaaGreatDoorTaq
import Derived.Test.YtilhicefhhgecaaGreatDoorMemq
import Derived.Test.YtilhicefhhgecaaGreatDoorChecked
import Derived.WalkKit
import Derived.WalkSpells
import Derived.WalkLawsBesides
import Derived.Deep.QuietTactic
import Derived.BigQuiet
import Derived.Lib.Hide
import Derived.Outline
namespace Go.Proofs.YtilhicefhhgecaaGreatDoor
open Go.RowKit Pv

theorem ownsRow_setNe {w : World} {b : Nat} {e : TypeId} {s n : Nat} {v : Value} {us : List Value} (h : w.ownsRow b e s v n us) {g : Nat} (hne : v.ownBlock ≠ some g) (i : Nat) (u : Value) :
    (w.setCell ⟨g, i, none⟩ u).ownsRow b e s v n us := by
  refine ⟨h.1, ?_⟩
  rcases h.2 with h2 | ⟨g', cap, cur, rfl, hg, hh, r⟩
  · exact .inl h2
  · have hgg : g' ≠ g := fun he => hne (by subst he; rfl)
    exact .inr ⟨g', cap, cur, rfl, hg, by rw [Below.heap_setCell _ _ _ _ (by simpa using hgg)]; exact hh, r⟩
theorem info_range : (Tryz.prog.info? 124).map (fun i => (i.zero, i.size, i.bytes)) = some (some (.agg #[.int .i64 0, .int .i64 0]), 2, 16) := by kernel_rfl
theorem RRng.one {f : Nat → Value} {r : Rng} (h : RRng f r) : ∀ j, j < 2 → (f j).oneCell' = true := by
  intro j hj
  obtain ⟨⟨h0, _⟩, ⟨h1, _⟩⟩ := h
  match j, hj with
  | 0, _ => rw [h0]; rfl
  | 1, _ => rw [h1]; rfl
/-- A set in new memory of the call's own. -/
abbrev OwnSet (w : World) (base : Nat) (v : Value) (l : List Rng) : Prop := OwnK w base 124 2 RRng v l

end Go.Proofs.YtilhicefhhgecaaGreatDoor

namespace Go.Proofs.YtilhicefhhgecaaGreatDoor
open Go.RowKit Pv

theorem info_rx : (Tryz.prog.info? 52).map (fun i => (i.zero, i.size, i.bytes)) = some (some (.agg #[.int .u8 0, .slice none 0 0, .int .i64 0, .int .i64 0, .int .i64 0]), 5, 56) := by kernel_rfl
/-- A node of the call's own: its set too. -/
structure ORx (w : World) (base : Nat) (f : Nat → Value) (x : Rx) : Prop where
  kind : RU (f 0) x.kind
  set : OwnSet w base (f 1) x.set
  many : RI (f 2) x.many
  least : RI (f 3) x.least
  most : RI (f 4) x.most
theorem ORx.up {w w' : World} {base : Nat} {f : Nat → Value} {x : Rx} (h : ORx w base f x) (hu : ∀ v l, OwnSet w base v l → OwnSet w' base v l) : ORx w' base f x := ⟨h.1, hu _ _ h.2, h.3, h.4, h.5⟩
theorem ORx.rx {w : World} {base : Nat} {f : Nat → Value} {x : Rx} (h : ORx w base f x) (hl : x.set.length ≤ 140737488355328) : RRx w f x := ⟨h.1, OwnK.sl h.2 hl, h.3, h.4, h.5⟩
abbrev OwnRx (w : World) (base : Nat) (v : Value) (t : List Rx) : Prop := OwnK w base 52 5 (ORx w base) v t
end Go.Proofs.YtilhicefhhgecaaGreatDoor

namespace Go.Proofs.YtilhicefhhgecaaGreatDoor
open Go.RowKit Pv

set_option maxHeartbeats 1000000 in
set_option maxRecDepth 100000 in
theorem ref06_Has (A : Option Addr) (c n : Nat) (l : List Rng) (p : Int) (w : World) (h : AtSet w A l) (HL : Hid (l.length = n)) :
    Calls Tryz.prog 251 #[.slice A n c, .int .i64 p] w fun e w' => e = .returned (.bool (yes (InSet l p))) ∧ w' = w := by
  have hl : n ≤ 140737488355328 := by have := h.1; rwa [HL.out] at this
  obtain ⟨ans, hans⟩ : ∃ ans, yes (InSet l p) = ans := ⟨_, rfl⟩
  rw [hans]
  have HANS := Lib.hid hans
  clear hans
  go_enter Tryz.func251, Tryz.ntmps251
  go_wp2
  go_loop [5] (fun i => ∃ k : Nat, i = .int .i64 k ∧ k ≤ n ∧ (∀ (i : Nat) x, i < k → l[i]? = some x → ¬ (x.lo ≤ p ∧ p ≤ x.hi))) (fun i => n - (intOf i).toNat)
  case atStart => exact ⟨0, rfl, by omega, by intros; omega⟩
  case round =>
    obtain ⟨k, rfl, hk, hno⟩ := hrel
    have HNO := Lib.hid hno
    clear hno
    by_cases hlt : k < n
    · obtain ⟨b, off, lo, hi, rfl, hbl, x0, x1, _, _, HX⟩ := h.gt HL hlt
      have HSN := Lib.hid (fun (hh : ¬ (lo ≤ p ∧ p ≤ hi)) (i : Nat) (x : Rng) (hi' : i < k + 1) (hx : l[i]? = some x) => (show ¬ (x.lo ≤ p ∧ p ≤ x.hi) from by
        by_cases e : i = k
        · subst e
          obtain rfl := Option.some.inj (hx.symm.trans HX.out)
          exact hh
        · exact HNO.out i x (by omega) hx))
      by_cases h1 : lo ≤ p
      · by_cases h2 : p ≤ hi
        · have HY := Lib.hid (show true = ans by rw [← HANS.out]; exact (yes_t ⟨k, _, HX.out, h1, h2⟩).symm)
          go_wp2
          go_ret
          exact ⟨ret_bool HY.out, rfl⟩
        · have HS := Lib.hid (HSN.out (fun hh => h2 hh.2))
          go_wp2
          go_round
          case rel => exact ⟨k + 1, by go_num, by omega, HS.out⟩
          case measure => simp [intOf]; omega
      · have HS := Lib.hid (HSN.out (fun hh => h1 hh.1))
        go_wp2
        go_round
        case rel => exact ⟨k + 1, by go_num, by omega, HS.out⟩
        case measure => simp [intOf]; omega
    · have hkn : k = n := by omega
      have HY := Lib.hid (show false = ans by
        rw [← HANS.out]
        refine (yes_f ?_).symm
        rintro ⟨i, x, h1, h2⟩
        exact HNO.out i x (by have := lt_of_get h1; rw [HL.out] at this; omega) h1 h2)
      clear hkn
      go_wp2
      go_ret
      exact ⟨ret_bool HY.out, rfl⟩

end Go.Proofs.YtilhicefhhgecaaGreatDoor
