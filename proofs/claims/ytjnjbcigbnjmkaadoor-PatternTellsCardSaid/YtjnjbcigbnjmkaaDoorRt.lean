/- Trees: where their nodes stand. Nothing of a program stands here. -/
import Derived.Test.YtjnjbcigbnjmkaaDoorRx
namespace Pv
open Go Go.RowKit
theorem sizes_mem {k : Tr} : ∀ {ks : List Tr}, k ∈ ks → k.size ≤ sizes ks
  | j :: ks, h => by
    rw [sizes_cons]
    rcases List.mem_cons.1 h with rfl | h
    · omega
    · have := sizes_mem h; omega
theorem length_sizes : ∀ ks : List Tr, ks.length ≤ sizes ks
  | [] => by simp
  | k :: ks => by rw [sizes_cons, List.length_cons]; have := length_sizes ks; have := k.size_pos; omega

theorem kids_at {t : List Rx} {ks : List Tr} {i : Nat} {r : List Rx} (hd : t.drop i = flats ks ++ r) (hk : ∀ k, k ∈ ks → k.Ok 16) :
    ∀ j, j ≤ ks.length → again (behind t 16) j i = some (i + sizes (ks.take j)) ∧ t.drop (i + sizes (ks.take j)) = flats (ks.drop j) ++ r
  | 0, _ => ⟨by simp [again, sizes, flats], by simpa [sizes, flats] using hd⟩
  | j + 1, hj => by
    obtain ⟨h1, h2⟩ := kids_at hd hk j (by omega)
    have hg : ks.drop j = ks[j] :: ks.drop (j + 1) := List.drop_eq_getElem_cons (by omega)
    rw [hg] at h2
    simp only [flats, List.append_assoc] at h2
    have h3 := tree_behind (hk ks[j] (List.getElem_mem _)) h2
    have h4 : sizes (ks.take (j + 1)) = sizes (ks.take j) + ks[j].size := by
      show (flats (ks.take (j + 1))).length = (flats (ks.take j)).length + ks[j].flat.length
      rw [List.take_succ_eq_append_getElem (by omega), flats_app, List.length_append]
      simp only [flats, List.append_nil]
    refine ⟨?_, ?_⟩
    · rw [again_snoc, h1]
      show behind t 16 _ = _
      rw [h3, h4]; congr 1; omega
    · rw [h4, ← Nat.add_assoc]
      exact drop_app h2
theorem sizes_le {t : List Rx} {ks : List Tr} {i : Nat} {r : List Rx} (hd : t.drop i = flats ks ++ r) (j : Nat) (hi : i ≤ t.length) : i + sizes (ks.take j) ≤ t.length := by
  have h1 := congrArg List.length hd
  simp only [List.length_drop, List.length_append] at h1
  have h2 : sizes (ks.take j) + sizes (ks.drop j) = sizes ks := by
    rw [sizes, sizes, sizes, ← List.length_append, ← flats_app, List.take_append_drop]
  have h3 : sizes ks = (flats ks).length := rfl
  omega
theorem sizes_take_le {ks : List Tr} (j : Nat) : sizes (ks.take j) ≤ sizes ks := by
  have h2 : sizes (ks.take j) + sizes (ks.drop j) = sizes ks := by
    rw [sizes, sizes, sizes, ← List.length_append, ← flats_app, List.take_append_drop]
  omega

end Pv
