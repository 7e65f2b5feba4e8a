/- Walks: the library's Sort, Compact, DeleteFunc at numbers, on a row of the call's own; the closures of ranges.Cuts. PUT1 -/
import Derived.Test.YtcmmmgblkbbdnaaGreatDoorFgz
import Derived.Test.YtcmmmgblkbbdnaaGreatDoorSkz
import Derived.Test.YtcmmmgblkbbdnaaGreatDoorZbz
import Derived.Sort.OwnSortedInts
import Derived.Test.YtcmmmgblkbbdnaaGreatDoorLsz
namespace Go.Proofs.YtcmmmgblkbbdnaaGreatDoor
open Go.RowKit Go.Sort Go.Shelf Pv

section
variable {base g m c : Nat} {l : List Int} {w : World}
end
end Go.Proofs.YtcmmmgblkbbdnaaGreatDoor

namespace Pv
open Go Go.RowKit
end Pv
namespace Go.Proofs.YtcmmmgblkbbdnaaGreatDoor
open Go.RowKit Pv

end Go.Proofs.YtcmmmgblkbbdnaaGreatDoor
