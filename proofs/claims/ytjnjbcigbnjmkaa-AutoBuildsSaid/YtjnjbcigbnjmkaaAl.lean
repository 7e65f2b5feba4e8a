/- How the document's leading is shut, case by case. Nothing of a program stands here. -/
import Derived.Test.YtjnjbcigbnjmkaaAk
namespace Pv
open Go Go.RowKit

theorem frees_app (m : Nat) : ∀ (l1 : List Int) (a : Au) (l2 : List Int), (∀ e, e ∈ l1 → 0 ≤ e) → freesR m a (l1 ++ l2) = freesR m (freesR m a l1).1 l2
  | [], a, l2, _ => rfl
  | e :: l1, a, l2, h => by
    have h0 : ¬ e < 0 := by have := h e (by simp); omega
    rw [List.cons_append, freesR, if_neg h0, freesR, if_neg h0]
    exact frees_app m l1 _ l2 (fun e he => h e (by simp [he]))
theorem frees_all (m : Nat) : ∀ (l : List Int) (a : Au), (∀ e, e ∈ l → 0 ≤ e) → (freesR m a l).2 = m
  | [], a, _ => rfl
  | e :: l, a, h => by
    have h0 : ¬ e < 0 := by have := h e (by simp); omega
    rw [freesR, if_neg h0]
    exact frees_all m l _ (fun e he => h e (by simp [he]))
theorem frees_step {m : Nat} {l : List Int} {a : Au} {k : Nat} {e : Int} (hk : l[k]? = some e) (h : ∀ e, e ∈ l.take k → 0 ≤ e) (he : 0 ≤ e) : (freesR m a (l.take (k + 1))).1 = auEdge (freesR m a (l.take k)).1 e.toNat ⟨m, true, []⟩ := by
  rw [take_snoc hk, frees_app m _ _ _ h, freesR, if_neg (by omega), freesR]
theorem frees_neg {m : Nat} {l : List Int} {a : Au} {k : Nat} {e : Int} (hk : l[k]? = some e) (h : ∀ e, e ∈ l.take k → 0 ≤ e) (he : e < 0) : freesR m a l = ((freesR m a (l.take k)).1, -1) := by
  have : l = l.take k ++ e :: l.drop (k + 1) := by rw [← drop_cons hk, List.take_append_drop]
  conv => lhs; rw [this]
  rw [frees_app m _ _ _ h, freesR, if_pos he]
section
variable {x : Rx} {f : Au → Int → Au × Int} {a : Au} {l : List Int}
theorem shut_neg (h : (freesR a.length (a ++ [[]]) l).2 < 0) : shutR x f (a, l) = ((freesR a.length (a ++ [[]]) l).1, -1) := by unfold shutR; rw [if_pos h]
theorem shut_plain (h : ∀ e, e ∈ l → 0 ≤ e) (hx : ¬ (x.kind = 4 ∧ x.most < 0)) : shutR x f (a, l) = ((freesR a.length (a ++ [[]]) l).1, (a.length : Int)) := by
  unfold shutR; simp only; rw [frees_all _ _ _ h, if_neg (by omega), if_neg hx]
theorem shut_star_neg (h : ∀ e, e ∈ l → 0 ≤ e) (hx : x.kind = 4 ∧ x.most < 0) (hz : (f (freesR a.length (a ++ [[]]) l).1 a.length).2 < 0) : shutR x f (a, l) = ((f (freesR a.length (a ++ [[]]) l).1 a.length).1, -1) := by
  unfold shutR; simp only; rw [frees_all _ _ _ h, if_neg (by omega), if_pos hx, if_pos hz]
theorem shut_star (h : ∀ e, e ∈ l → 0 ≤ e) (hx : x.kind = 4 ∧ x.most < 0) (hz : ¬ (f (freesR a.length (a ++ [[]]) l).1 a.length).2 < 0) :
    shutR x f (a, l) = (auEdge (f (freesR a.length (a ++ [[]]) l).1 a.length).1 (f (freesR a.length (a ++ [[]]) l).1 a.length).2.toNat ⟨a.length, true, []⟩, (a.length : Int)) := by
  unfold shutR; simp only; rw [frees_all _ _ _ h, if_neg (by omega), if_pos hx, if_neg hz]
end
end Pv
