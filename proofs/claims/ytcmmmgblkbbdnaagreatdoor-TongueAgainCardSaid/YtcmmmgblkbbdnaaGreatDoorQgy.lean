/- A region that draws its order, whose callees leave alone what was there: walked once, in the order of its text. -/
import Derived.BigQuiet
import Derived.Test.YtcmmmgblkbbdnaaGreatDoorDfay
namespace Pv
open Go Go.RowKit

/-- A world in which what was there stands as it was. -/
structure Grown (w : World) where
  W : World
  be : Below w.heap.size w W
instance (w : World) : Inhabited (Grown w) := ⟨⟨w, Below.refl _ _⟩⟩
theorem Grown.cell {w : World} (p : Grown w) (b o : Nat) (h : b < w.heap.size) : p.W.cell? ⟨b, o, none⟩ = w.cell? ⟨b, o, none⟩ := p.be.cell (p := ⟨b, o, none⟩) h
theorem Grown.keep {w : World} (p : Grown w) : Keep w p.W := Keep.of p.be
end Pv
