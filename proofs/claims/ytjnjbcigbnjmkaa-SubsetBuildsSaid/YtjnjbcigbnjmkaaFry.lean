/- Walks: what both Builds give, one and the same. PUT1 -/
import Derived.Test.YtjnjbcigbnjmkaaFqy
import Derived.Test.YtjnjbcigbnjmkaaDfay
namespace Pv
open Go Go.RowKit
/-- What comes of building: no automaton and a code, or one. -/
inductive Out (a : Au) (acc : Int) : Dfa → Int → Prop where
  | bad {code : Int} (h : EndD a acc code) : Out a acc ⟨[], [], []⟩ code
  | made {rows : List (List Int)} {accs : List Bool} (h : FitD a acc) (g : madeM a acc (plcL (allSets a)) = some (rows, accs)) : Out a acc ⟨plcL (allSets a), rows, accs⟩ 0
theorem Out.one {a : Au} {acc : Int} {D D' : Dfa} {x y : Int} (h : Out a acc D x) (k : Out a acc D' y) : D = D' ∧ x = y := by
  cases h with
  | bad h => cases k with
    | bad k => exact ⟨rfl, h.one k⟩
    | made k g => exact (h.not k g).elim
  | made h g => cases k with
    | bad k => exact (k.not h g).elim
    | made k g' =>
      rw [g] at g'
      injection g' with g'
      injection g' with g1 g2
      subst g1; subst g2
      exact ⟨rfl, rfl⟩
end Pv
namespace Go.Proofs.Ytjnjbcigbnjmkaa
open Go.RowKit Pv
theorem At.none {α : Type} (w : World) (R : Value → α → Prop) : At w none R ([] : List α) := ⟨by simp, fun h => absurd h (by simp)⟩
theorem BuiltD.opens {a : Au} {acc : Int} {w w' : World} {e : Ending} (h : BuiltD a acc w e w') :
    ∃ D code A1 n1 c1 A2 n2 c2 A3 n3 c3, e = .returned (.tuple #[.agg #[.slice A1 n1 c1, .slice A2 n2 c2, .slice A3 n3 c3], .int .i64 code]) ∧ DfaAt w' A1 A2 A3 n1 n2 n3 D ∧ Out a acc D code ∧ Below w.heap.size w w' := by
  obtain ⟨hr, hb⟩ := h
  rcases hr with ⟨code, he, rfl⟩ | ⟨rows, accs, v1, v2, v3, hf, hm, rfl, h1, h2, h3⟩
  · exact ⟨_, code, none, 0, 0, none, 0, 0, none, 0, 0, rfl, (show DfaAt w' none none none 0 0 0 ⟨[], [], []⟩ from ⟨At.none _ _, At.none _ _, At.none _ _, Lib.hid rfl, Lib.hid rfl, Lib.hid rfl⟩), .bad he, hb⟩
  · obtain ⟨hin, hl, ha⟩ := madeM_bd hm
    have hp := hf.p
    obtain ⟨A1, c1, rfl, k1, _⟩ := h1.at' (fun x hx => by have := plcL_in (allSets_ok hf.ok) hx; omega) (by omega)
    obtain ⟨A2, c2, rfl, k2, _⟩ := h2.lists (fun l hl => by
      obtain ⟨g1, g2⟩ := hin.each l hl
      exact ⟨fun y hy => by have := g1 y hy; omega, by omega⟩) (by omega)
    obtain ⟨A3, c3, rfl, k3, _⟩ := h3.sl (by omega)
    exact ⟨_, 0, A1, _, c1, A2, _, c2, A3, _, c3, rfl, (show DfaAt w' A1 A2 A3 _ _ _ ⟨plcL (allSets a), rows, accs⟩ from ⟨k1, k2, k3, Lib.hid rfl, Lib.hid rfl, Lib.hid rfl⟩), .made hf hm, hb⟩
end Go.Proofs.Ytjnjbcigbnjmkaa
