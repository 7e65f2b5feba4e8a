/- Walks: alive of the subset's chapter. PUT1 -/
import Derived.Test.YtilhicefhhgecaaGreatDoorL9bm
import Derived.Ground.SlgnProg
import Derived.Shelf.SlicesG.Reverse
import Derived.Shelf.Spec.SlicesGrow
import Derived.Ground.Names8Prog
import Derived.Test.YtilhicefhhgecaaGreatDoorProg
import Derived.Test.YtilhicefhhgecaaGreatDoorFkm
import Derived.Test.YtilhicefhhgecaaGreatDoorGim
import Derived.Test.YtilhicefhhgecaaGreatDoorGem
import Derived.Test.YtilhicefhhgecaaGreatDoorFam
import Derived.Test.YtilhicefhhgecaaGreatDoorGnm
import Derived.Deep.RegionHeld3
import Derived.Test.YtilhicefhhgecaaGreatDoorWhm
import Derived.Test.YtilhicefhhgecaaGreatDoorDfam
import Derived.Test.YtilhicefhhgecaaGreatDoorHsm
import Derived.Test.YtilhicefhhgecaaGreatDoorWjm
import Derived.Test.YtilhicefhhgecaaGreatDoorLsm
import Derived.Defers
namespace Pv
open Go Go.RowKit
theorem rel_ints : ∀ {l : List Int}, (∀ x, x ∈ l → -9223372036854775808 ≤ x ∧ x ≤ 9223372036854775807) → Rel RI (l.map (Value.int .i64)) l := fun {l} h => ⟨by simp, fun i u x hu hx => by
  rw [List.getElem?_map, hx] at hu
  obtain rfl := Option.some.inj hu
  exact ⟨rfl, h x (mem_of_get hx)⟩⟩
theorem rel_bools (l : List Bool) : Rel RB (l.map Value.bool) l := ⟨by simp, fun i u x hu hx => by
  rw [List.getElem?_map, hx] at hu
  obtain rfl := Option.some.inj hu
  rfl⟩
/-- A row of ints in a block. -/
theorem isInts_blk {w : World} {g n : Nat} {t : TypeId} {l : List Int} {cs : Array Value} (h : Blk w g t cs) (hc : cs.toList = l.map (Value.int .i64)) (hn : l.length = n) (hl : ∀ x, x ∈ l → -9223372036854775808 ≤ x ∧ x ≤ 9223372036854775807) (hz : n ≤ 1000) : IsInts w (.slice (some ⟨g, 0, none⟩) n n) l := by
  subst hn
  exact ⟨_, _, rfl, At.ofBlk h (by rw [hc]; exact rel_ints hl) (by omega), Nat.le_refl _⟩
theorem IsInts.at {w : World} {A : Option Addr} {n c : Nat} {l : List Int} (h : IsInts w (.slice A n c) l) : At w A RI l := by
  obtain ⟨A', c', e, h, _⟩ := h
  injection e with e1 _ _
  subst e1
  exact h
end Pv
namespace Go.Proofs.YtilhicefhhgecaaGreatDoor
open Go.RowKit Pv
end Go.Proofs.YtilhicefhhgecaaGreatDoor

namespace Pv
open Go Go.RowKit
theorem runE_ok {d : Dfa} (h : d.Ok) {pts : List Int} (hl : pts.length ≤ 1024) : (beyond pts ∧ d.runE pts = (false, 2)) ∨ (¬ beyond pts ∧ d.runE pts = (d.accept.getD (d.to 0 pts) false, 0)) := by
  have hn := h.n1
  by_cases hb : beyond pts
  · have hw : d.walkE 0 pts = (0, 2) := by
      unfold Dfa.walkE
      rw [if_pos (Dfa.okB_yes h), if_neg (show ¬ 1024 < pts.length by omega), if_neg (show ¬ ((0 : Int) < 0 ∨ (d.next.length : Int) ≤ 0) by omega), if_pos hb]
    refine .inl ⟨hb, ?_⟩
    unfold Dfa.runE
    rw [hw]
    rfl
  · have hw : d.walkE 0 pts = (((d.to 0 pts : Nat) : Int), 0) := by
      unfold Dfa.walkE
      rw [if_pos (Dfa.okB_yes h), if_neg (show ¬ 1024 < pts.length by omega), if_neg (show ¬ ((0 : Int) < 0 ∨ (d.next.length : Int) ≤ 0) by omega), if_neg hb]
      rfl
    refine .inr ⟨hb, ?_⟩
    unfold Dfa.runE
    rw [hw]
    simp
end Pv
namespace Go.Proofs.YtilhicefhhgecaaGreatDoor
open Go.RowKit Pv
end Go.Proofs.YtilhicefhhgecaaGreatDoor
