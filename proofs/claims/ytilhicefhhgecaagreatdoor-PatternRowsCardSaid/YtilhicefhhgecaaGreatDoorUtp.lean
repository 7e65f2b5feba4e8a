/- Walks: the document's code points: Is, Bytes. PUT1 -/
import Derived.Test.YtilhicefhhgecaaGreatDoorYe0p
import Derived.Test.YtilhicefhhgecaaGreatDoorQvp
import Derived.ProofKit
import Derived.Test.YtilhicefhhgecaaGreatDoorProg
import Derived.Laws.IdiomStrings
namespace Go.Proofs.YtilhicefhhgecaaGreatDoor
open Go.RowKit Pv

abbrev T8 : TypeId := 5
theorem conv_bytes (b cap : Nat) (l : List UInt8) (w : World) (h : ∀ j x, l[j]? = some x → w.cell? ⟨b, j, none⟩ = some (.int .u8 (x.toNat : Int))) :
    (convert 162 9 (.slice (some ⟨b, 0, none⟩) l.length cap)).run Tryz.prog w = .ok (.string (mkS l)) w :=
  run_convert_bytes_back w _ _ T8 ⟨b, 0, none⟩ cap l Tryz.underlying162 Tryz.underlying5 Tryz.underlying9 (fun j hj => by
    have e : (⟨b, 0, none⟩ : Addr).add j = ⟨b, j, none⟩ := by unfold Addr.add; by_cases hj : j = 0 <;> simp [hj]
    rw [e]; exact h j _ (List.getElem?_eq_getElem hj))

end Go.Proofs.YtilhicefhhgecaaGreatDoor
