/- A region that draws its order, whose callees leave alone what was there: walked once, in the order of its text. -/
import Derived.BigQuiet
import Derived.Test.YtcmmmgblkbbdnaaGreatDoorDfag
namespace Pv
open Go Go.RowKit

/-- A world in which what was there stands as it was. -/
structure Grown (w : World) where
  W : World
  be : Below w.heap.size w W
instance (w : World) : Inhabited (Grown w) := ⟨⟨w, Below.refl _ _⟩⟩
end Pv
