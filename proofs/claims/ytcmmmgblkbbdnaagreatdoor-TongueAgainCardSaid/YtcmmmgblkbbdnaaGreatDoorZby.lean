/- Walks: a set of states as a rising list, out of a map's keys (the program's). -/
import Derived.Test.YtcmmmgblkbbdnaaGreatDoorSiy
import Derived.Test.YtcmmmgblkbbdnaaGreatDoorGby
import Derived.Test.YtcmmmgblkbbdnaaGreatDoorWay
import Derived.Maps.RangeWalk
namespace Go.Proofs.YtcmmmgblkbbdnaaGreatDoor
open Go.RowKit Go.Maps Go.Sort Go.Shelf Pv

/-- A list of ints that the call made. -/
abbrev OwnI (w : World) (base : Nat) (v : Value) (l : List Int) : Prop := ∃ A c, v = .slice A l.length c ∧ w.ownsRow base 3 1 (.slice A l.length c) l.length (l.map (Value.int .i64))
end Go.Proofs.YtcmmmgblkbbdnaaGreatDoor
