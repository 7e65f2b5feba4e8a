/- What the walker has seen: the map from places of nodes and places to places. -/
import Derived.Test.YtilhicefhhgecaaGreatDoorTin
import Derived.Test.YtilhicefhhgecaaGreatDoorTbn
import Derived.Deep.RegionHeld3
import Derived.Deep.RegionLaw
import Derived.Test.YtilhicefhhgecaaGreatDoorPgn
import Derived.Test.YtilhicefhhgecaaGreatDoorHsn
import Derived.Test.YtilhicefhhgecaaGreatDoorQvn
import Derived.Deep.OwnRows
import Derived.StillTailTactics
import Derived.Lib.SliceRun
import Derived.Test.YtilhicefhhgecaaGreatDoorWhn
import Derived.Laws.BytesArg
import Derived.DeepKeys4
import Derived.WideKeyMaps
import Derived.MapKept
import Derived.MapFrom
import Derived.ChangeMaps4
namespace Pv
open Go Go.RowKit
end Pv
namespace Go.Proofs.YtilhicefhhgecaaGreatDoor
open Go.RowKit Go.ChangeMaps Pv

theorem c1 : Tryz.prog.cellsOf 3 = 1 := by kernel_rfl
theorem c2 : Tryz.prog.cellsOf 9 = 1 := by kernel_rfl
theorem c3 : Tryz.prog.cellsOf 219 = 2 := by kernel_rfl
end Go.Proofs.YtilhicefhhgecaaGreatDoor
