/- An element of a list that the call owns. -/
import Derived.Test.YtjnjbcigbnjmkaaMem4y
namespace Go.Proofs.Ytjnjbcigbnjmkaa
open Go.RowKit Pv

theorem own_get1 {w : World} {b e n k c : Nat} {A : Option Addr} {us : List Value} {u : Value} (h : w.ownsRow b e 1 (.slice A n c) n us) (hk : us[k]? = some u) : ∃ g, A = some ⟨g, 0, none⟩ ∧ g < w.heap.size ∧ w.cell? ⟨g, k, none⟩ = some u := by
  rcases h.2 with ⟨hv, h0⟩ | ⟨g, cap, cur, hv, hg, hh, hnc, hcm, hcs, htk⟩
  · have := h.1; have := lt_of_get hk; omega
  · injection hv with e1 e2 e3
    subst e1
    have hb : Blk w g e cur := hh
    refine ⟨g, rfl, hb.lt, ?_⟩
    rw [hb.cell k]
    rw [← htk, List.getElem?_take] at hk
    split at hk
    · simpa using hk
    · cases hk
end Go.Proofs.Ytjnjbcigbnjmkaa
