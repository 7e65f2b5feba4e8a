/- Walks: the document's Twin of a Dfa. -/
import Derived.Deep.RegionHeld3
import Derived.Deep.RegionLaw
import Derived.Test.YtcmmmgblkbbdnaaGreatDoorTbz
import Derived.Test.YtcmmmgblkbbdnaaGreatDoorDfaz
import Derived.Test.YtcmmmgblkbbdnaaGreatDoorWaz
namespace Go.Proofs.YtcmmmgblkbbdnaaGreatDoor
open Go.RowKit Pv

end Go.Proofs.YtcmmmgblkbbdnaaGreatDoor
