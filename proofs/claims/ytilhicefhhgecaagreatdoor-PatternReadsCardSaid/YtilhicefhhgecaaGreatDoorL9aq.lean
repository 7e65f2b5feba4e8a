/- Walks: is that the automaton of a pattern's text? (laws of the automata's chapter): set, is. PUT1 -/
import Derived.Test.YtilhicefhhgecaaGreatDoorRpq
import Derived.Test.YtilhicefhhgecaaGreatDoorPjq
import Derived.Test.YtilhicefhhgecaaGreatDoorTaq
import Derived.Test.YtilhicefhhgecaaGreatDoorMemq
import Derived.Test.YtilhicefhhgecaaGreatDoorChecked
import Derived.WalkKit
import Derived.WalkSpells
import Derived.WalkLawsBesides
import Derived.Deep.QuietTactic
import Derived.BigQuiet
import Derived.Lib.Hide
import Derived.Outline
import Derived.RegionTactic
import Derived.ChangeAlike
import Derived.Test.YtilhicefhhgecaaGreatDoorQvq
import Derived.Lib.SliceRun
import Derived.Laws.EntriesVeiled
import Derived.Test.YtilhicefhhgecaaGreatDoorPdq
namespace Pv
open Go Go.RowKit
theorem At.ofBlk {α : Type} {w : World} {g : Nat} {t : TypeId} {cs : Array Value} {R : Value → α → Prop} {xs : List α} (h : Blk w g t cs) (hr : Rel R cs.toList xs) (hl : xs.length ≤ 100000) : At w (some ⟨g, 0, none⟩) R xs := by
  refine ⟨by omega, fun _ => ⟨g, 0, rfl, h.lt, fun i x hx => ?_⟩⟩
  have hi : i < cs.toList.length := by rw [hr.1]; exact lt_of_get hx
  refine ⟨cs.toList[i], ?_, hr.2 i _ x (List.getElem?_eq_getElem hi) hx⟩
  rw [h.cell (0 + i), Nat.zero_add, ← Array.getElem?_toList, List.getElem?_eq_getElem hi]
end Pv
namespace Go.Proofs.YtilhicefhhgecaaGreatDoor
open Go.RowKit Pv

end Go.Proofs.YtilhicefhhgecaaGreatDoor
