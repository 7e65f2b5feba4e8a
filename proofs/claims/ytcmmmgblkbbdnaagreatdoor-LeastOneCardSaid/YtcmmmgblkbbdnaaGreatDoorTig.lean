/- Walks: the document's answers on a pattern's language: In, Ends. -/
import Derived.Test.YtcmmmgblkbbdnaaGreatDoorTbg
import Derived.Test.YtcmmmgblkbbdnaaGreatDoorBag
import Derived.Test.YtcmmmgblkbbdnaaGreatDoorZng
import Derived.Test.YtcmmmgblkbbdnaaGreatDoorQvg
import Derived.Deep.OwnRows
import Derived.StillTailTactics
namespace Go.Proofs.YtcmmmgblkbbdnaaGreatDoor
open Go.RowKit Pv

/-- The error of a pattern and numbers. -/
noncomputable def askE (t : List Rx) (np : Nat) : Int := if patB t = true then (if 1024 < np then 4 else 0) else 8
end Go.Proofs.YtcmmmgblkbbdnaaGreatDoor
