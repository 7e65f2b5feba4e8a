/- Walks: sets of states, by the document: the list of a table, whether a number is on a list, where a number leads. PUT1 -/
import Derived.Test.YtilhicefhhgecaaGreatDoorZbq
import Derived.Test.YtilhicefhhgecaaGreatDoorTaq
import Derived.Test.YtilhicefhhgecaaGreatDoorMemq
import Derived.Test.YtilhicefhhgecaaGreatDoorChecked
import Derived.WalkKit
import Derived.WalkSpells
import Derived.WalkLawsBesides
import Derived.Deep.QuietTactic
import Derived.BigQuiet
import Derived.Lib.Hide
import Derived.Outline
import Derived.Test.YtilhicefhhgecaaGreatDoorHsq
import Derived.Test.YtilhicefhhgecaaGreatDoorQgq
import Derived.Test.YtilhicefhhgecaaGreatDoorQvq
import Derived.Deep.OwnRows
import Derived.StillTailTactics
namespace Go.Proofs.YtilhicefhhgecaaGreatDoor
open Go.RowKit Pv

theorem info_int9 : (Tryz.prog.info? 3).map (fun i => (i.zero, i.size, i.bytes)) = some (some (.int .i64 0), 1, 8) := by kernel_rfl
section
variable {w w' : World} {g n : Nat} {S S' : Nat → Prop}
end

end Go.Proofs.YtilhicefhhgecaaGreatDoor
