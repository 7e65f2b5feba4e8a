/- A pattern's text: by its tree. Nothing of a program stands here. -/
import Derived.Test.YtilhicefhhgecaaGreatDoorYgp
import Derived.Test.YtilhicefhhgecaaGreatDoorYi0p
import Derived.Test.YtilhicefhhgecaaGreatDoorYe0p
import Derived.Lib.Join
namespace Pv
open Go Go.RowKit

theorem joinTail_len (sep : List UInt8) (l : List (List UInt8)) : (Lib.joinTail sep l).length = (l.map fun x => sep.length + x.length).sum := by
  unfold Lib.joinTail
  rw [List.length_flatten, List.map_map]
  congr 1
  refine List.map_congr_left fun x _ => ?_
  simp
theorem joinT_len (sep : List UInt8) (hs : sep.length ≤ 1) (l : List (List UInt8)) : (Lib.join l sep).length ≤ (l.map fun x => 1 + x.length).sum := by
  cases l with
  | nil => simp [Lib.join_nil]
  | cons x l =>
    rw [Lib.join_cons, List.length_append, joinTail_len, List.map_cons, List.sum_cons]
    have : (l.map fun x => sep.length + x.length).sum ≤ (l.map fun x => 1 + x.length).sum := by
      induction l with
      | nil => simp
      | cons y l ih => simp only [List.map_cons, List.sum_cons]; omega
    omega
theorem sepK_len (o : Int) : (sepK o).length ≤ 1 := by unfold sepK; split <;> simp
theorem brS_len (b : Bool) (l : List UInt8) : (brS b l).length ≤ l.length + 2 := by unfold brS; split <;> simp
mutual
theorem Tr.txt_len : ∀ (T : Tr) (d : Nat), T.Ok d → T.txt.length + 20 ≤ 4400 * T.size
  | .mk x ks, d, h => by
    have h1 := h.one
    rw [Tr.size_mk]
    by_cases h0 : x.kind = 0
    · rw [txt_empty h0]; simp; omega
    by_cases h2 : x.kind = 1
    · rw [txt_set h2]
      have hs : SetOk x.set := by rcases h1 with h | h | h | h <;> first | exact h.2.1 | omega
      have := setL_len hs.few
      omega
    · have hk : 1 < x.kind := by rcases h1 with h | h | h | h <;> omega
      rw [txt_in hk, List.length_append]
      have h3 := joinT_len (sepK x.kind) (sepK_len _) (txts x.kind ks)
      have h4 := txts_len x.kind ks (d - 1) (fun k hk => h.kid hk)
      have h5 : (if x.kind = 4 then oftL x.least x.most else []).length ≤ 7 := by
        split
        · exact oftL_len _ _
        · simp
      omega
theorem txts_len (o : Int) : ∀ (ks : List Tr) (d : Nat), (∀ k, k ∈ ks → k.Ok d) → ((txts o ks).map fun x => 1 + x.length).sum ≤ 4400 * sizes ks
  | [], _, _ => by simp [txts]
  | k :: ks, d, h => by
    have h1 := Tr.txt_len k d (h k (by simp))
    have h2 := txts_len o ks d (fun k' hk => h k' (by simp [hk]))
    have h3 := brS_len (inK o k.root.kind) k.txt
    rw [txts, sizes_cons, List.map_cons, List.sum_cons]
    omega
end
end Pv
