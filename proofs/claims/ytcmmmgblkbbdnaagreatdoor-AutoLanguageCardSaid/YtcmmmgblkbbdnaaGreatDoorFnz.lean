/- Walks: the program's cuts of an automaton. PUT1 -/
import Derived.Test.YtcmmmgblkbbdnaaGreatDoorFkz
import Derived.Test.YtcmmmgblkbbdnaaGreatDoorFlz
namespace Pv
open Go Go.RowKit
end Pv
namespace Go.Proofs.YtcmmmgblkbbdnaaGreatDoor
open Go.RowKit Pv

end Go.Proofs.YtcmmmgblkbbdnaaGreatDoor
