/- A region that draws its order: a load that operation n waits for by way of operation c is taken first. Nothing of a program stands here. -/
import Derived.Test.YtjbfkceficokbaaDoorQt
namespace Pv
open Go Go.RowKit
section
variable {P : Program} {md : Region.Mode} {ops : Array Oper} {Q : Exit → Act → World → Prop} {S : World → Prop} {n : Nat}
theorem not_ready_of {j i : Nat} {listed : Array Bool} (hwait : Region.waitsFor md ops j i = true) (hi : listed.getD i true = false) : j ∉ Region.ready md ops listed := fun hj => by
  obtain ⟨oj, hoj, e, he, hb, hon⟩ := Region.waitsFor_spec hwait
  obtain ⟨_, oj', hoj', hall⟩ := mem_ready.1 hj
  obtain rfl := Option.some.inj (hoj.symm.trans hoj')
  have h1 := hall e he hb
  rw [hon, unlisted hi] at h1
  cases h1
theorem wpAnyT_first2 {i c : Nat} {oi : Oper} {v : Value} (hi : ops[i]? = some oi) (hw1 : Region.waitsFor md ops n c = true) (hw2 : Region.waitsFor md ops c i = true) (hsel : ∀ (j : Nat) (o : Oper) cs b, ops[j]? = some o → o.op ≠ .select cs b)
    (hQ : ∀ c a w, Q (.panic c) (a.put oi.dst v) w → Q (.panic c) a w) (fuel : Nat) : ∀ (listed : Array Bool) (a : Act) (w : World),
      (∀ j oj, ops[j]? = some oj → j ≠ i → listed.getD j true = false → (∀ e ∈ oj.after, Region.binds md e = true → e.on ≠ i) → oi.apart ops oj = true) →
      i ∈ Region.ready md ops listed → listed.getD c true = false → listed.getD n true = false → YieldsIf P ops S oi v a → S w →
      wpAnyT P md ops Q S n fuel (listed.setIfInBounds i true) (a.put oi.dst v) w → wpAnyT P md ops Q S n (fuel + 1) listed a w := by
  have hni : ∀ {listed : Array Bool}, listed.getD c true = false → i ∈ Region.ready md ops listed → i ≠ n := fun {listed} hc hr e => not_ready_of hw1 hc (e ▸ hr)
  induction fuel with
  | zero =>
    intro listed a w _ hr _ _ hy hS H
    refine ⟨fun h => (by rw [h] at hr; cases hr), fun j hj => ?_⟩
    by_cases hji : j = i
    · subst hji; exact hy.wpOp hi hS ⟨fun _ => hS, H⟩
    · have h1 := ready_mono hj hji
      rw [H.1] at h1
      cases h1
  | succ fuel ih =>
    intro listed a w hfree hr hc0 hn0 hy hS H
    refine ⟨fun h => (by rw [h] at hr; cases hr), fun j hj => ?_⟩
    by_cases hji : j = i
    · subst hji; exact hy.wpOp hi hS ⟨fun _ => hS, H⟩
    have hjn : j ≠ n := fun e => not_ready_of hw1 hc0 (e ▸ hj)
    have hjc : j ≠ c := fun e => not_ready_of hw2 (mem_ready.1 hr).1 (e ▸ hj)
    obtain ⟨hjun, oj, hoj, hall⟩ := mem_ready.1 hj
    have hnot : ∀ e ∈ oj.after, Region.binds md e = true → e.on ≠ i := fun e he hb heq => by
      have h1 := hall e he hb
      rw [heq, unlisted (mem_ready.1 hr).1] at h1
      cases h1
    have h2 := wpOp_putIf hoj (hfree j oj hoj hji hjun hnot) (fun cs b => hsel i oi cs b hi) (fun cs b => hsel j oj cs b hoj) hQ hy (H.2 j (ready_mono hj hji))
    refine wpOp_mono (fun a' w' h3 => ⟨fun _ => h3.2.1 (by rw [getD_set_ne true hjn, getD_set_ne true (hni hc0 hr)]; exact hn0), ih (listed.setIfInBounds j true) a' w' (fun k ok hk hki hun hno => hfree k ok hk hki ?_ hno) (ready_mono hr (Ne.symm hji)) (by rw [getD_set_ne true hjc]; exact hc0) (by rw [getD_set_ne true hjn]; exact hn0) h3.1 (h3.2.1 (by rw [getD_set_ne true hjn, getD_set_ne true (hni hc0 hr)]; exact hn0)) ?_⟩) h2
    · by_cases hjk : j = k
      · subst hjk; exact hjun
      · rw [getD_set_ne true hjk] at hun; exact hun
    · rw [Array.setIfInBounds_comm _ _ hji]
      exact h3.2.2
/-- take number i first; n waits for c, c for i -/
theorem wpAnyT_take2 {i : Nat} (c : Nat) {oi : Oper} {v : Value} {fuel : Nat} {listed : Array Bool} {a : Act} {w : World} (hi : ops[i]? = some oi) (hw1 : Region.waitsFor md ops n c = true) (hw2 : Region.waitsFor md ops c i = true)
    (hs : Region.noSelect ops = true) (hf : Region.free md ops listed i = true) (hr : (Region.ready md ops listed).contains i = true) (hc0 : listed.getD c true = false) (hn0 : listed.getD n true = false)
    (hQ : ∀ c a w, Q (.panic c) (a.put oi.dst v) w → Q (.panic c) a w) (hy : YieldsIf P ops S oi v a) (hS : S w)
    (h : wpAnyT P md ops Q S n fuel (listed.setIfInBounds i true) (a.put oi.dst v) w) : wpAnyT P md ops Q S n (fuel + 1) listed a w :=
  wpAnyT_first2 hi hw1 hw2 (Region.noSelect_spec hs) hQ fuel listed a w (Region.free_spec hi hf) (by simpa using hr) hc0 hn0 hy hS h
end
end Pv
