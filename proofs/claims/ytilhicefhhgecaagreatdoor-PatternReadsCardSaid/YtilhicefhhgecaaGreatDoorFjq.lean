/- Plain: some states as four words of bits (the key by which the program's maker knows them). Nothing of a program stands here. -/
import Derived.Test.YtilhicefhhgecaaGreatDoorFaq
import Derived.Test.YtilhicefhhgecaaGreatDoorTaq
import Derived.Maps.OwnSet
import Derived.Maps.Views
import Derived.Lib.SlKeysI
namespace Pv
open Go Go.RowKit
/-- The bits of some states within one word. -/
def wd (l : List Int) (i : Nat) : Nat := l.foldl (fun a n => if n.toNat / 64 = i then a ||| (1 <<< (n.toNat % 64)) else a) 0
end Pv
