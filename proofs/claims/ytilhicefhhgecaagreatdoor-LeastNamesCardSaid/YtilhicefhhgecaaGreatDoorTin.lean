/- Walks: the document's answers on a pattern's language: In, Ends. -/
import Derived.Test.YtilhicefhhgecaaGreatDoorTbn
import Derived.Deep.RegionHeld3
import Derived.Deep.RegionLaw
import Derived.Test.YtilhicefhhgecaaGreatDoorPgn
import Derived.Test.YtilhicefhhgecaaGreatDoorHsn
import Derived.Test.YtilhicefhhgecaaGreatDoorQvn
import Derived.Deep.OwnRows
import Derived.StillTailTactics
namespace Go.Proofs.YtilhicefhhgecaaGreatDoor
open Go.RowKit Pv

/-- The error of a pattern and numbers. -/
noncomputable def askE (t : List Rx) (np : Nat) : Int := if patB t = true then (if 1024 < np then 4 else 0) else 8
end Go.Proofs.YtilhicefhhgecaaGreatDoor
