/- Plain: what compiling a pattern gives, one answer. -/
import Derived.Test.YtilhicefhhgecaaGreatDoorGnn
import Derived.Test.YtilhicefhhgecaaGreatDoorBvn
namespace Go.Proofs.YtilhicefhhgecaaGreatDoor
open Go.RowKit Pv
/-- What compiling a pattern gives: the least automaton, or the error. -/
inductive CR (t : List Rx) : Dfa → Int → Prop where
  | auto {r : Au × Int × Int} (h : BR t r) (e : r.2.2 ≠ 0) : CR t ⟨[], [], []⟩ r.2.2
  | sub {r : Au × Int × Int} {D : Dfa} {code : Int} (h : BR t r) (e : r.2.2 = 0) (o : Out r.1 r.2.1 D code) (ne : code ≠ 0) : CR t ⟨[], [], []⟩ code
  | made {r : Au × Int × Int} {D : Dfa} (h : BR t r) (e : r.2.2 = 0) (o : Out r.1 r.2.1 D 0) : CR t (leastD D) 0
theorem CR.one {t : List Rx} {D D' : Dfa} {x y : Int} (h : CR t D x) (k : CR t D' y) : D = D' ∧ x = y := by
  cases h with
  | auto h e => cases k with
    | auto k e' => obtain rfl := h.one k; exact ⟨rfl, rfl⟩
    | sub k e' o ne => obtain rfl := h.one k; exact absurd e' e
    | made k e' o => obtain rfl := h.one k; exact absurd e' e
  | sub h e o ne => cases k with
    | auto k e' => obtain rfl := h.one k; exact absurd e e'
    | sub k e' o' ne' => obtain rfl := h.one k; exact ⟨rfl, (o.one o').2⟩
    | made k e' o' => obtain rfl := h.one k; exact absurd (o.one o').2 ne
  | made h e o => cases k with
    | auto k e' => obtain rfl := h.one k; exact absurd e e'
    | sub k e' o' ne' => obtain rfl := h.one k; exact absurd (o.one o').2.symm ne'
    | made k e' o' => obtain rfl := h.one k; obtain ⟨rfl, _⟩ := o.one o'; exact ⟨rfl, rfl⟩
end Go.Proofs.YtilhicefhhgecaaGreatDoor
