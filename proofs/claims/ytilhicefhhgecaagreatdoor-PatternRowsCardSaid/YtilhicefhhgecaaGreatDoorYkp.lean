/- Walks: the document's text of a node of nodes (genyj.py prints this). PUT1 -/
import Derived.Test.YtilhicefhhgecaaGreatDoorYip
import Derived.Test.YtilhicefhhgecaaGreatDoorPjp
import Derived.Test.YtilhicefhhgecaaGreatDoorYe0p
namespace Pv
open Go Go.RowKit
/-- The text of a node's first nodes. -/
def preT (o : Int) (ks : List Tr) (k : Nat) : ByteArray := mkS (Lib.join (txts o (ks.take k)) (sepK o))
theorem txts_snoc {o : Int} {ks : List Tr} {k : Nat} {K : Tr} (h : ks[k]? = some K) : txts o (ks.take (k + 1)) = txts o (ks.take k) ++ [brS (inK o K.root.kind) K.txt] := by
  rw [txts_map, txts_map, take_snoc h, List.map_append]; rfl
theorem br_yes (l : List UInt8) : mkS (brS true l) = (⟨#[40]⟩ : ByteArray) ++ mkS l ++ ⟨#[41]⟩ := by
  rw [show (⟨#[40]⟩ : ByteArray) = mkS [40] from rfl, show (⟨#[41]⟩ : ByteArray) = mkS [41] from rfl, ← mkS_app, ← mkS_app]
  rfl
theorem preT_all {o : Int} {ks : List Tr} {k : Nat} (h : k = ks.length) : preT o ks k = mkS (Lib.join (txts o ks) (sepK o)) := by
  unfold preT; rw [List.take_of_length_le (by omega)]
theorem preT_len {o : Int} {ks : List Tr} {d k : Nat} (h : ∀ K, K ∈ ks → Tr.Ok d K) (hz : sizes ks ≤ 64) : (preT o ks k).size ≤ 281600 := by
  unfold preT
  rw [mkS_size]
  have h1 := joinT_len (sepK o) (sepK_len _) (txts o (ks.take k))
  have h2 := txts_len o (ks.take k) d (fun K hK => h K (List.mem_of_mem_take hK))
  have h3 := sizes_take_le (ks := ks) k
  omega
theorem txt_size {T : Tr} {d : Nat} (h : T.Ok d) (hz : T.size ≤ 64) : (mkS T.txt).size ≤ 281600 := by
  rw [mkS_size]; have := T.txt_len d h; omega
theorem root_at {t : List Rx} {T : Tr} {i : Nat} {r : List Rx} (h : t.drop i = T.flat ++ r) : t[i]? = some T.root := by
  obtain ⟨x, ks⟩ := T
  exact (drop_head h).1
theorem Rx.One.kinds {x : Rx} (h : x.One) : x.kind = 0 ∨ x.kind = 1 ∨ x.kind = 2 ∨ x.kind = 3 ∨ x.kind = 4 := by
  rcases h with h | h | h | h <;> omega
theorem Tr.root_one {T : Tr} {d : Nat} (h : T.Ok d) : T.root.One := by obtain ⟨x, ks⟩ := T; exact h.one
end Pv
namespace Go.Proofs.YtilhicefhhgecaaGreatDoor
open Go.RowKit Pv

end Go.Proofs.YtilhicefhhgecaaGreatDoor

namespace Go.Proofs.YtilhicefhhgecaaGreatDoor
open Go.RowKit Pv

/-- What a node of nodes has, by its tree. -/
theorem kids_all {t : List Rx} {x : Rx} {ks : List Tr} {i d n : Nat} {r : List Rx} (hd : t.drop i = (Tr.mk x ks).flat ++ r) (hk : ∀ k, k ∈ ks → k.Ok d) (hd16 : d ≤ 16) (hn : t.length = n) (h64 : n ≤ 64) :
    t[i]? = some x ∧ t.drop (i + 1) = flats ks ++ r ∧ (∀ j, j ≤ ks.length → again (behind t 16) j (i + 1) = some (i + 1 + sizes (ks.take j)) ∧ i + 1 + sizes (ks.take j) ≤ n) ∧ sizes ks ≤ 64 ∧ ks.length ≤ 64 ∧
      ∀ j K, ks[j]? = some K → ∃ r', t.drop (i + 1 + sizes (ks.take j)) = K.flat ++ r' := by
  simp only [Tr.flat, List.cons_append] at hd
  obtain ⟨hg, hd2⟩ := drop_head hd
  have hi := lt_of_get hg
  have hka := kids_at hd2 (fun k h => (hk k h).up hd16)
  have hz : sizes ks ≤ 64 := by
    have h1 := congrArg List.length hd2
    simp only [List.length_drop, List.length_append] at h1
    have h3 : sizes ks = (flats ks).length := rfl
    omega
  refine ⟨hg, hd2, fun j hj => ⟨(hka j hj).1, ?_⟩, hz, by have := length_sizes ks; omega, fun j K hK => ?_⟩
  · rw [← hn]; exact sizes_le hd2 j hi
  · have h1 := (hka j (Nat.le_of_lt (lt_of_get hK))).2
    rw [drop_cons hK] at h1
    simp only [flats, List.append_assoc] at h1
    exact ⟨_, h1⟩

/-- A pattern's tree, its text. -/
noncomputable def patT (t : List Rx) : Tr := open Classical in if h : Pat t then Classical.choose h.tree else .mk ⟨0, [], 0, 0, 0⟩ []
theorem patT_is {t : List Rx} (h : Pat t) : (patT t).Ok 16 ∧ t = (patT t).flat := by
  unfold patT
  rw [dif_pos h]
  exact Classical.choose_spec h.tree
noncomputable def textL (t : List Rx) : List UInt8 := if patB t = true then (patT t).txt else []
theorem textL_yes {t : List Rx} (h : Pat t) : textL t = (patT t).txt := by unfold textL; rw [if_pos (patB_yes h)]
theorem textL_no {t : List Rx} (h : ¬ Pat t) : textL t = [] := by unfold textL; rw [if_neg (by rw [patB_no h]; simp)]

end Go.Proofs.YtilhicefhhgecaaGreatDoor
