/- Walks: the document's states and free edges. -/
import Derived.Test.YtilhicefhhgecaaGreatDoorBan
import Derived.RegionTactic
import Derived.ChangeAlike
namespace Go.Proofs.YtilhicefhhgecaaGreatDoor
open Go.RowKit Pv

theorem TA_auto : ∀ e, e ∈ TA → e ≠ TAuto := by decide
end Go.Proofs.YtilhicefhhgecaaGreatDoor
