/- What the shelf of the library proves of the library functions that this program calls, in plain declarations (written by the kit's tools lay-shelf and lay-plain). -/
import Derived.Shelf.SlIterI.Nil
import Derived.Shelf.SortM.Plain
import Derived.Shelf.SortM.SortNone
import Derived.Ground.GgzProg
import Derived.Ground.SlgmProg
import Derived.Test.YtcmmmgblkbbdnaaGreatDoorProg
namespace Go.Proofs
open Go.Shelf
end Go.Proofs
