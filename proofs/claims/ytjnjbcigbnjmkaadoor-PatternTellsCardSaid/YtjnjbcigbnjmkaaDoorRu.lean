/- What a list of places holds. -/
import Derived.Test.YtjnjbcigbnjmkaaDoorPj
import Derived.Test.YtjnjbcigbnjmkaaDoorRt
namespace Go.Proofs.YtjnjbcigbnjmkaaDoor
open Go.RowKit Pv

theorem own_get1 {w : World} {b e n k c : Nat} {A : Option Addr} {us : List Value} {u : Value} (h : w.ownsRow b e 1 (.slice A n c) n us) (hk : us[k]? = some u) : ∃ g, A = some ⟨g, 0, none⟩ ∧ g < w.heap.size ∧ w.cell? ⟨g, k, none⟩ = some u := by
  rcases h.2 with ⟨hv, h0⟩ | ⟨g, cap, cur, hv, hg, hh, hnc, hcm, hcs, htk⟩
  · have := h.1; have := lt_of_get hk; omega
  · injection hv with e1 e2 e3
    subst e1
    have hb : Blk w g e cur := hh
    refine ⟨g, rfl, hb.lt, ?_⟩
    rw [hb.cell k]
    rw [← htk, List.getElem?_take] at hk
    split at hk
    · simpa using hk
    · cases hk
theorem starts_len1 {t : List Rx} {i : Nat} : ∀ q, (starts t i q).length = q
  | 0 => rfl
  | q + 1 => by simp [starts, starts_len1 q]
theorem starts_get1 {t : List Rx} {i : Nat} : ∀ {q k : Nat}, k < q → (starts t i q)[k]? = some (bR (again (behind t 16) k i))
  | q + 1, k, h => by
    rw [starts]
    by_cases hk : k < q
    · rw [List.getElem?_append_left (by rw [starts_len1]; exact hk)]; exact starts_get1 hk
    · obtain rfl : k = q := by omega
      rw [List.getElem?_append_right (by rw [starts_len1]; omega), starts_len1]; simp


end Go.Proofs.YtjnjbcigbnjmkaaDoor
