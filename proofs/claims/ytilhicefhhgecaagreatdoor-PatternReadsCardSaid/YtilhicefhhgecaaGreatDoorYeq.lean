/- A set's text, and walks: by the document, by the program. PUT1 -/
import Derived.Test.YtilhicefhhgecaaGreatDoorYcq
import Derived.Lib.RuneBytes
import Derived.Test.YtilhicefhhgecaaGreatDoorTaq
import Derived.Test.YtilhicefhhgecaaGreatDoorPdq
namespace Pv
open Go Go.RowKit
end Pv
namespace Go.Proofs.YtilhicefhhgecaaGreatDoor
open Go.RowKit Pv

/-- The library's tables stand as they are laid, whatever is made from B on. -/
def TabsP (B : Nat) (w : World) : Prop := ∀ w', Below B w w' → w'.cell? ⟨7, 15, none⟩ = some (.int .u8 4) ∧ Lib.TabIs Tryz.prog w' "internal/strconv.uint64pow10" .u64 Lib.pow10Tab
end Go.Proofs.YtilhicefhhgecaaGreatDoor
