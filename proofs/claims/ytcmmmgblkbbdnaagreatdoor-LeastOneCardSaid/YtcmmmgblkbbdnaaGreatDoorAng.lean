/- Walks: the document's states and free edges. -/
import Derived.Test.YtcmmmgblkbbdnaaGreatDoorBag
import Derived.RegionTactic
import Derived.ChangeAlike
namespace Go.Proofs.YtcmmmgblkbbdnaaGreatDoor
open Go.RowKit Pv

theorem TA_auto : ∀ e, e ∈ TA → e ≠ TAuto := by decide
end Go.Proofs.YtcmmmgblkbbdnaaGreatDoor
