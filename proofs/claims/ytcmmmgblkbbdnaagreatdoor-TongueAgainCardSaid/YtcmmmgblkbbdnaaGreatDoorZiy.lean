/- Walks: whether an automaton may be, by the document and by the program (genzf.py prints this). PUT1 -/
import Derived.Test.YtcmmmgblkbbdnaaGreatDoorZey
import Derived.Test.YtcmmmgblkbbdnaaGreatDoorPdy
import Derived.Test.YtcmmmgblkbbdnaaGreatDoorAuy
import Derived.Test.YtcmmmgblkbbdnaaGreatDoorWay
namespace Pv
open Go Go.RowKit
end Pv
namespace Go.Proofs.YtcmmmgblkbbdnaaGreatDoor
open Go.RowKit Pv

end Go.Proofs.YtcmmmgblkbbdnaaGreatDoor

namespace Pv
open Go Go.RowKit
end Pv
namespace Go.Proofs.YtcmmmgblkbbdnaaGreatDoor
open Go.RowKit Pv

theorem OwnI.nil (w : World) (b : Nat) : OwnI w b (.slice none 0 0) [] := ⟨none, 0, rfl, World.ownsRow_nil _ _ _ _⟩
theorem OwnI.lower {w : World} {b b' : Nat} {v : Value} {l : List Int} (h : OwnI w b v l) (hb : b' ≤ b) : OwnI w b' v l := by
  obtain ⟨A, c, e, ho⟩ := h
  exact ⟨A, c, e, ⟨ho.1, ho.2.imp_right fun ⟨g, cap, cur, h1, h2, r⟩ => ⟨g, cap, cur, h1, Nat.le_trans hb h2, r⟩⟩⟩
theorem OwnI.below {w w' : World} {b : Nat} {v : Value} {l : List Int} (h : OwnI w b v l) (hb : Below w.heap.size w w') : OwnI w' b v l := by
  obtain ⟨A, c, e, ho⟩ := h
  exact ⟨A, c, e, ownsRow_below ho hb⟩
theorem OwnI.at' {w : World} {b : Nat} {v : Value} {l : List Int} (h : OwnI w b v l) (hr : ∀ x, x ∈ l → -9223372036854775808 ≤ x ∧ x ≤ 9223372036854775807) (hl : l.length ≤ 140737488355328) : ∃ A c, v = .slice A l.length c ∧ At w A RI l ∧ l.length ≤ c := by
  obtain ⟨A, c, e, ho⟩ := h
  obtain ⟨_, h2, h3⟩ := At.of_own (R := RI) (xs := l) ho ⟨by simp, fun i u x hu hx => by
    rw [List.getElem?_map, hx] at hu
    simp only [Option.map_some, Option.some.injEq] at hu
    subst hu
    exact ⟨rfl, (hr x (mem_of_get hx)).1, (hr x (mem_of_get hx)).2⟩⟩ hl
  exact ⟨A, c, e, h3, h2⟩
end Go.Proofs.YtcmmmgblkbbdnaaGreatDoor

namespace Go.Proofs.YtcmmmgblkbbdnaaGreatDoor
open Go.RowKit Pv

end Go.Proofs.YtcmmmgblkbbdnaaGreatDoor

namespace Pv
open Go Go.RowKit Go.Maps
/-- A map of the call's own that holds a set of states. -/
def MapS (P : Program) (k : TypeId) (w : World) (b cnt n : Nat) (S : Nat → Prop) : Prop := ∃ L : List Int, w.ownsMap P k unitElem b cnt (setM L) ∧ L.length ≤ cnt ∧ ∀ x, x ∈ L ↔ x ∈ stL n S
section
variable {P : Program} {k : TypeId} {w w' : World} {b cnt n : Nat} {S S' : Nat → Prop}
theorem ownsMap_block {D : DataW Unit} (h : w.ownsMap P k unitElem b cnt D) (e : w'.heap[b]? = w.heap[b]?) : w'.ownsMap P k unitElem b cnt D := by
  obtain ⟨es, clock, hb, r⟩ := h
  exact ⟨es, clock, e.trans hb, r⟩
theorem MapS.lt (h : MapS P k w b cnt n S) : b < w.heap.size := by obtain ⟨L, h1, _⟩ := h; exact h1.lt
theorem MapS.below (h : MapS P k w b cnt n S) (hb : Below w.heap.size w w') : MapS P k w' b cnt n S := by
  have hl := h.lt
  obtain ⟨L, h1, h2⟩ := h
  exact ⟨L, ownsMap_block h1 (hb.block b hl), h2⟩
theorem MapS.alloc (h : MapS P k w b cnt n S) (o : Obj) : MapS P k (w.alloc o) b cnt n S := h.below ((Below.refl _ _).alloc (Nat.le_refl _) o)
theorem MapS.mono {cnt' : Nat} (h : MapS P k w b cnt n S) (hc : cnt ≤ cnt') : MapS P k w b cnt' n S := by
  obtain ⟨L, h1, h2, h3⟩ := h
  exact ⟨L, h1.mono hc, Nat.le_trans h2 hc, h3⟩
theorem MapS.congr (h : MapS P k w b cnt n S) (e : ∀ i, i < n → (S i ↔ S' i)) : MapS P k w b cnt n S' := by
  obtain ⟨L, h1, h2, h3⟩ := h
  exact ⟨L, h1, h2, fun x => by rw [h3 x, stL_ext e]⟩
theorem MapS.kept {row : Option Nat} (h : MapS P k w b cnt n S) (hg : w.grownBy w' row) (hr : some b ≠ row) : MapS P k w' b cnt n S := by
  have hl := h.lt
  obtain ⟨L, h1, h2⟩ := h
  exact ⟨L, ownsMap_block h1 (hg.block b hl hr), h2⟩
/-- behind a store -/
theorem MapS.put {L : List Int} {s : Nat} (h2 : L.length ≤ cnt) (h3 : ∀ x, x ∈ L ↔ x ∈ stL n S) (hs : s < n) (h : w'.ownsMap P k unitElem b (cnt + 1) ((setM L).put (litI s) (.agg []))) (e : ∀ j, S' j ↔ (S j ∨ j = s)) : MapS P k w' b (cnt + 1) n S' := by
  rw [setM_put] at h
  refine ⟨_, h, by simp; omega, fun x => ?_⟩
  rw [List.mem_append, h3 x, stL_mem, stL_mem, List.mem_singleton]
  constructor
  · rintro (⟨t, h1, h2, h3⟩ | rfl)
    · exact ⟨t, h1, (e t).2 (.inl h2), h3⟩
    · exact ⟨s, hs, (e s).2 (.inr rfl), rfl⟩
  · rintro ⟨t, h1, h2, rfl⟩
    rcases (e t).1 h2 with h2 | rfl
    · exact .inl ⟨t, h1, h2, rfl⟩
    · exact .inr rfl
end
end Pv
namespace Go.Proofs.YtcmmmgblkbbdnaaGreatDoor
open Go.RowKit Go.Maps Pv

end Go.Proofs.YtcmmmgblkbbdnaaGreatDoor
