/- The maker of an automaton that goes one way: one function for both sides. Nothing of a program stands here. -/
import Derived.Test.YtcmmmgblkbbdnaaGreatDoorO4h
import Derived.Test.YtcmmmgblkbbdnaaGreatDoorAuh
import Derived.Test.YtcmmmgblkbbdnaaGreatDoorTi0h
import Derived.Lib.SlicesCompact
import Derived.Test.YtcmmmgblkbbdnaaGreatDoorZnh
import Derived.Test.YtcmmmgblkbbdnaaGreatDoorZeh
import Derived.Test.YtcmmmgblkbbdnaaGreatDoorZih
import Derived.Test.YtcmmmgblkbbdnaaGreatDoorQth
import Derived.Test.YtcmmmgblkbbdnaaGreatDoorWah
namespace Pv
open Go Go.RowKit
/-- Where some states come to by a number. -/
noncomputable def stepS (a : Au) (l : List Int) (p : Int) : List Int := stL a.length (Clo a (Stp a p (Of l)))
end Pv
