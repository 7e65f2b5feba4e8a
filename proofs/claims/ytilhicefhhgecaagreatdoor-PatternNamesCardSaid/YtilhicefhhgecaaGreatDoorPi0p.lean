/- Walks: a set in new memory. -/
import Derived.Test.YtilhicefhhgecaaGreatDoorYe0p
import Derived.Test.YtilhicefhhgecaaGreatDoorMemp
import Derived.Test.YtilhicefhhgecaaGreatDoorChecked
import Derived.WalkKit
import Derived.WalkSpells
import Derived.WalkLawsBesides
import Derived.Deep.QuietTactic
import Derived.BigQuiet
import Derived.Lib.Hide
import Derived.Outline
namespace Go.Proofs.YtilhicefhhgecaaGreatDoor
open Go.RowKit Pv

theorem ownsRow_setNe {w : World} {b : Nat} {e : TypeId} {s n : Nat} {v : Value} {us : List Value} (h : w.ownsRow b e s v n us) {g : Nat} (hne : v.ownBlock ≠ some g) (i : Nat) (u : Value) :
    (w.setCell ⟨g, i, none⟩ u).ownsRow b e s v n us := by
  refine ⟨h.1, ?_⟩
  rcases h.2 with h2 | ⟨g', cap, cur, rfl, hg, hh, r⟩
  · exact .inl h2
  · have hgg : g' ≠ g := fun he => hne (by subst he; rfl)
    exact .inr ⟨g', cap, cur, rfl, hg, by rw [Below.heap_setCell _ _ _ _ (by simpa using hgg)]; exact hh, r⟩
theorem info_range : (Tryz.prog.info? 124).map (fun i => (i.zero, i.size, i.bytes)) = some (some (.agg #[.int .i64 0, .int .i64 0]), 2, 16) := by kernel_rfl
theorem RRng.one {f : Nat → Value} {r : Rng} (h : RRng f r) : ∀ j, j < 2 → (f j).oneCell' = true := by
  intro j hj
  obtain ⟨⟨h0, _⟩, ⟨h1, _⟩⟩ := h
  match j, hj with
  | 0, _ => rw [h0]; rfl
  | 1, _ => rw [h1]; rfl
/-- A set in new memory of the call's own. -/
abbrev OwnSet (w : World) (base : Nat) (v : Value) (l : List Rng) : Prop := OwnK w base 124 2 RRng v l

end Go.Proofs.YtilhicefhhgecaaGreatDoor

namespace Go.Proofs.YtilhicefhhgecaaGreatDoor
open Go.RowKit Pv

theorem info_rx : (Tryz.prog.info? 52).map (fun i => (i.zero, i.size, i.bytes)) = some (some (.agg #[.int .u8 0, .slice none 0 0, .int .i64 0, .int .i64 0, .int .i64 0]), 5, 56) := by kernel_rfl
/-- A node of the call's own: its set too. -/
structure ORx (w : World) (base : Nat) (f : Nat → Value) (x : Rx) : Prop where
  kind : RU (f 0) x.kind
  set : OwnSet w base (f 1) x.set
  many : RI (f 2) x.many
  least : RI (f 3) x.least
  most : RI (f 4) x.most
theorem ORx.up {w w' : World} {base : Nat} {f : Nat → Value} {x : Rx} (h : ORx w base f x) (hu : ∀ v l, OwnSet w base v l → OwnSet w' base v l) : ORx w' base f x := ⟨h.1, hu _ _ h.2, h.3, h.4, h.5⟩
theorem ORx.rx {w : World} {base : Nat} {f : Nat → Value} {x : Rx} (h : ORx w base f x) (hl : x.set.length ≤ 140737488355328) : RRx w f x := ⟨h.1, OwnK.sl h.2 hl, h.3, h.4, h.5⟩
abbrev OwnRx (w : World) (base : Nat) (v : Value) (t : List Rx) : Prop := OwnK w base 52 5 (ORx w base) v t
end Go.Proofs.YtilhicefhhgecaaGreatDoor
