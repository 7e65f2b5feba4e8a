/- The patterns of the chapters' examples: their texts, their trees. Nothing of a program stands here. -/
import Derived.Test.YtilhicefhhgecaaGreatDoorTaq
import Derived.Test.YtilhicefhhgecaaGreatDoorZgq
import Derived.Test.YtilhicefhhgecaaGreatDoorMemq
import Derived.Test.YtilhicefhhgecaaGreatDoorChecked
import Derived.WalkKit
import Derived.WalkSpells
import Derived.WalkLawsBesides
import Derived.Deep.QuietTactic
import Derived.BigQuiet
import Derived.Lib.Hide
import Derived.Outline
import Derived.Maps.OwnSet
import Derived.Maps.Views
import Derived.Lib.SlKeysI
import Derived.Test.YtilhicefhhgecaaGreatDoorFjq
import Derived.Test.YtilhicefhhgecaaGreatDoorFcq
import Derived.DeepKeys4
import Derived.WideKeyMaps
import Derived.MapKept
import Derived.MapFrom
import Derived.ChangeMaps4
import Derived.Laws.Bits64b
import Derived.Ground.SlgnProg
import Derived.Ground.SlgfProg
import Derived.Shelf.SlicesE.DeleteFunc
import Derived.Shelf.SortM.Plain
import Derived.Shelf.SlicesG.CompactI
import Derived.Test.YtilhicefhhgecaaGreatDoorProg
import Derived.Test.YtilhicefhhgecaaGreatDoorZbq
import Derived.Sort.OwnSortedInts
import Derived.Deep.RegionHeld3
import Derived.Deep.RegionLaw
import Derived.Test.YtilhicefhhgecaaGreatDoorQvq
import Derived.Test.YtilhicefhhgecaaGreatDoorZcq
import Derived.Test.YtilhicefhhgecaaGreatDoorPdq
import Derived.Test.YtilhicefhhgecaaGreatDoorFaq
import Derived.Test.YtilhicefhhgecaaGreatDoorRcq
namespace Pv
open Go Go.RowKit

abbrev chX (c : Int) : Tr := .mk ⟨1, [⟨c, c⟩], 0, 0, 0⟩ []
abbrev noX : Tr := .mk ⟨1, [], 0, 0, 0⟩ []
abbrev epX : Tr := .mk ⟨0, [], 0, 0, 0⟩ []
abbrev caX (ks : List Tr) : Tr := .mk ⟨2, [], ks.length, 0, 0⟩ ks
abbrev reX (a b : Int) (k : Tr) : Tr := .mk ⟨4, [], 1, a, b⟩ [k]
-- (ab)*c, a{2,3}, ()*, [], []*, a*, a, a|b, (a{16}){16}, (a|b)*, (a*b*)*
def s1 : Bs := [40, 97, 98, 41, 42, 99]
def t1 : Tr := caX [reX 0 (-1) (caX [chX 97, chX 98]), chX 99]
def s2 : Bs := [97, 123, 50, 44, 51, 125]
def t2 : Tr := reX 2 3 (chX 97)
def t3 : Tr := reX 0 (-1) epX
def s4 : Bs := [91, 93]
def t5 : Tr := reX 0 (-1) noX
end Pv
