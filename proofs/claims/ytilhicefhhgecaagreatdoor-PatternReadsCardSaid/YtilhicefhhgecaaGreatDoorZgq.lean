/- Walks: what is asked of an automaton and states; Reach, Step, Check, by the document. PUT1 -/
import Derived.Test.YtilhicefhhgecaaGreatDoorZcq
import Derived.Test.YtilhicefhhgecaaGreatDoorPdq
import Derived.Test.YtilhicefhhgecaaGreatDoorTaq
namespace Pv
open Go Go.RowKit
end Pv
namespace Go.Proofs.YtilhicefhhgecaaGreatDoor
open Go.RowKit Pv

theorem OwnI.lower {w : World} {b b' : Nat} {v : Value} {l : List Int} (h : OwnI w b v l) (hb : b' ≤ b) : OwnI w b' v l := by
  obtain ⟨A, c, e, ho⟩ := h
  exact ⟨A, c, e, ⟨ho.1, ho.2.imp_right fun ⟨g, cap, cur, h1, h2, r⟩ => ⟨g, cap, cur, h1, Nat.le_trans hb h2, r⟩⟩⟩
theorem OwnI.at' {w : World} {b : Nat} {v : Value} {l : List Int} (h : OwnI w b v l) (hr : ∀ x, x ∈ l → -9223372036854775808 ≤ x ∧ x ≤ 9223372036854775807) (hl : l.length ≤ 140737488355328) : ∃ A c, v = .slice A l.length c ∧ At w A RI l ∧ l.length ≤ c := by
  obtain ⟨A, c, e, ho⟩ := h
  obtain ⟨_, h2, h3⟩ := At.of_own (R := RI) (xs := l) ho ⟨by simp, fun i u x hu hx => by
    rw [List.getElem?_map, hx] at hu
    simp only [Option.map_some, Option.some.injEq] at hu
    subst hu
    exact ⟨rfl, (hr x (mem_of_get hx)).1, (hr x (mem_of_get hx)).2⟩⟩ hl
  exact ⟨A, c, e, h3, h2⟩
end Go.Proofs.YtilhicefhhgecaaGreatDoor
