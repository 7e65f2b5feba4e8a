/- Walks: a set of states as a rising list, out of a map's keys (the program's). -/
import Derived.Ground.SlgmProg
import Derived.Shelf.SortM.SortNone
import Derived.Shelf.SlIterI.Nil
import Derived.Shelf.SortM.Plain
import Derived.Ground.GgzProg
import Derived.Test.YtilhicefhhgecaaGreatDoorProg
import Derived.Test.YtilhicefhhgecaaGreatDoorTaq
import Derived.Maps.OwnSet
import Derived.Maps.Views
import Derived.Lib.SlKeysI
import Derived.Test.YtilhicefhhgecaaGreatDoorMemq
import Derived.Test.YtilhicefhhgecaaGreatDoorChecked
import Derived.WalkKit
import Derived.WalkSpells
import Derived.WalkLawsBesides
import Derived.Deep.QuietTactic
import Derived.BigQuiet
import Derived.Lib.Hide
import Derived.Outline
import Derived.Maps.RangeWalk
namespace Go.Proofs.YtilhicefhhgecaaGreatDoor
open Go.RowKit Go.Maps Go.Sort Go.Shelf Pv

/-- A list of ints that the call made. -/
abbrev OwnI (w : World) (base : Nat) (v : Value) (l : List Int) : Prop := ∃ A c, v = .slice A l.length c ∧ w.ownsRow base 3 1 (.slice A l.length c) l.length (l.map (Value.int .i64))
end Go.Proofs.YtilhicefhhgecaaGreatDoor
