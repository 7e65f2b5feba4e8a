/- Where a node's nodes stand; how the document's leading unfolds. Nothing of a program stands here. -/
import Derived.Test.YtjnjbcigbnjmkaaAv
namespace Pv
open Go Go.RowKit

theorem kids_at {t : List Rx} {ks : List Tr} {i : Nat} {r : List Rx} (hd : t.drop i = flats ks ++ r) (hk : ∀ k, k ∈ ks → k.Ok 16) :
    ∀ j, j ≤ ks.length → again (behind t 16) j i = some (i + sizes (ks.take j)) ∧ t.drop (i + sizes (ks.take j)) = flats (ks.drop j) ++ r
  | 0, _ => ⟨by simp [again, sizes, flats], by simpa [sizes, flats] using hd⟩
  | j + 1, hj => by
    obtain ⟨h1, h2⟩ := kids_at hd hk j (by omega)
    have hg : ks.drop j = ks[j] :: ks.drop (j + 1) := List.drop_eq_getElem_cons (by omega)
    rw [hg] at h2
    simp only [flats, List.append_assoc] at h2
    have h3 := tree_behind (hk ks[j] (List.getElem_mem _)) h2
    have h4 : sizes (ks.take (j + 1)) = sizes (ks.take j) + ks[j].size := by
      show (flats (ks.take (j + 1))).length = (flats (ks.take j)).length + ks[j].flat.length
      rw [List.take_succ_eq_append_getElem (by omega), flats_app, List.length_append]
      simp only [flats, List.append_nil]
    refine ⟨?_, ?_⟩
    · rw [again_snoc, h1]
      show behind t 16 _ = _
      rw [h3, h4]; congr 1; omega
    · rw [h4, ← Nat.add_assoc]
      exact drop_app h2
theorem sizes_le {t : List Rx} {ks : List Tr} {i : Nat} {r : List Rx} (hd : t.drop i = flats ks ++ r) (j : Nat) (hi : i ≤ t.length) : i + sizes (ks.take j) ≤ t.length := by
  have h1 := congrArg List.length hd
  simp only [List.length_drop, List.length_append] at h1
  have h2 : sizes (ks.take j) + sizes (ks.drop j) = sizes ks := by
    rw [sizes, sizes, sizes, ← List.length_append, ← flats_app, List.take_append_drop]
  have h3 : sizes ks = (flats ks).length := rfl
  omega
theorem sizes_take_le {ks : List Tr} (j : Nat) : sizes (ks.take j) ≤ sizes ks := by
  have h2 : sizes (ks.take j) + sizes (ks.drop j) = sizes ks := by
    rw [sizes, sizes, sizes, ← List.length_append, ← flats_app, List.take_append_drop]
  omega

section
variable {x : Rx} {ks : List Tr} {a : Au} {s : Int}
theorem leadR_stop {T : Tr} (h : s < 0 ∨ 256 < a.length) : leadR T a s = (a, -1) := by cases T; rw [leadR, if_pos h]
theorem leadR_leaf (h : ¬ (s < 0 ∨ 256 < a.length)) (hk : x.kind = 0 ∨ x.kind = 1) : leadR (.mk x ks) a s = (auEdge (a ++ [[]]) s.toNat ⟨a.length, x.kind == 0, x.set⟩, (a.length : Int)) := by rw [leadR, if_neg h, if_pos hk]
theorem leadR_cat (h : ¬ (s < 0 ∨ 256 < a.length)) (hk : x.kind = 2) : leadR (.mk x ks) a s = catR ks a s := by rw [leadR, if_neg h, if_neg (by omega), if_pos hk]
theorem leadR_alt (h : ¬ (s < 0 ∨ 256 < a.length)) (hk : x.kind = 3) : leadR (.mk x ks) a s = shutR x (leadHdR ks) (altR ks a s) := by rw [leadR, if_neg h, if_neg (by omega), if_neg (by omega), if_pos hk]
theorem leadR_rep (h : ¬ (s < 0 ∨ 256 < a.length)) (hk : x.kind = 4) : leadR (.mk x ks) a s = shutR x (leadHdR ks) (itersR (leadHdR ks) (x.most - x.least).toNat (iterR (leadHdR ks) x.least.toNat a s).1 (iterR (leadHdR ks) x.least.toNat a s).2) := by
  rw [leadR, if_neg h, if_neg (by omega), if_neg (by omega), if_neg (by omega)]
end
theorem catR_take {ks : List Tr} {k : Tr} {j : Nat} (hj : ks[j]? = some k) (a : Au) (s : Int) : catR (ks.take (j + 1)) a s = leadR k (catR (ks.take j) a s).1 (catR (ks.take j) a s).2 := by rw [take_snoc hj, catR_snoc]
theorem altR_take {ks : List Tr} {k : Tr} {j : Nat} (hj : ks[j]? = some k) (a : Au) (s : Int) : altR (ks.take (j + 1)) a s = ((leadR k (altR (ks.take j) a s).1 s).1, (altR (ks.take j) a s).2 ++ [(leadR k (altR (ks.take j) a s).1 s).2]) := by rw [take_snoc hj, altR_snoc]
end Pv
