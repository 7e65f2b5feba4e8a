/- Walks: the document's Twin of a Dfa. -/
import Derived.Deep.RegionHeld3
import Derived.Deep.RegionLaw
import Derived.Test.YtcmmmgblkbbdnaaGreatDoorAuy
import Derived.Test.YtcmmmgblkbbdnaaGreatDoorDfay
import Derived.Test.YtcmmmgblkbbdnaaGreatDoorWay
namespace Go.Proofs.YtcmmmgblkbbdnaaGreatDoor
open Go.RowKit Pv

end Go.Proofs.YtcmmmgblkbbdnaaGreatDoor
