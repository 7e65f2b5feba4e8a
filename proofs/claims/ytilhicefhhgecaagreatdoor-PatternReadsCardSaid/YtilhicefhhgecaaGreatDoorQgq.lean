/- A region that draws its order, whose callees leave alone what was there: walked once, in the order of its text. -/
import Derived.BigQuiet
import Derived.Test.YtilhicefhhgecaaGreatDoorMemq
namespace Pv
open Go Go.RowKit

/-- A world in which what was there stands as it was. -/
structure Grown (w : World) where
  W : World
  be : Below w.heap.size w W
instance (w : World) : Inhabited (Grown w) := ⟨⟨w, Below.refl _ _⟩⟩
theorem Grown.cell {w : World} (p : Grown w) (b o : Nat) (h : b < w.heap.size) : p.W.cell? ⟨b, o, none⟩ = w.cell? ⟨b, o, none⟩ := p.be.cell (p := ⟨b, o, none⟩) h
theorem Grown.keep {w : World} (p : Grown w) : Keep w p.W := Keep.of p.be
theorem wp_region_grown {P : Program} {id : Nat} {Q : Exit → Act → World → Prop} {a : Act} {w : World} {l : List Oper} (hm : P.follows .mixedOrders = true) (hB : Region.lexB .any l.toArray = true)
    (h : wpQuiet P l.toArray (fun w' => ∃ p : Grown w, w' = p.W) (fun a' => ∀ w', (∃ p : Grown w, w' = p.W) → Q .normal a' w') l a) : (Code.region id l.toArray true).wp P Q a w :=
  wp_region_quiet (C := fun w' => ∃ p : Grown w, w' = p.W) hm hB ⟨⟨w.drew, (Below.refl _ _).drew⟩, rfl⟩ (by simpa using h)
/-- A callee that leaves what was there alone, met in such a world. -/
theorem callG {P : Program} {f : FuncId} {args : Array Value} {w : World} {p : Grown w} {v : Value} (h : Calls P f args p.W fun e w' => e = .returned v ∧ Below p.W.heap.size p.W w') :
    Calls P f args p.W fun e w'' => e = .returned v ∧ ∃ q : Grown w, w'' = q.W := h.mono fun _ w' ⟨he, hb⟩ => ⟨he, ⟨w', p.be.trans (hb.mono p.be.size)⟩, rfl⟩
/-- .. one that leaves the world as it is, but for draws -/
theorem callD {P : Program} {f : FuncId} {args : Array Value} {w : World} {p : Grown w} {v : Value} (h : Calls P f args p.W fun e w' => e = .returned v ∧ ∃ n, w' = p.W.drewN n) :
    Calls P f args p.W fun e w'' => e = .returned v ∧ ∃ q : Grown w, w'' = q.W := h.mono fun _ w' ⟨he, n, hb⟩ => ⟨he, ⟨w', by rw [hb]; exact below_drewN p.be n⟩, rfl⟩
end Pv
