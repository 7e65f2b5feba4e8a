/- A region that draws its order: a load that operation n waits for by way of others is taken first. Nothing of a program stands here. -/
import Derived.Test.YtbdkedjgfihamaaGreatDoorQuu
namespace Pv
open Go Go.RowKit
/-- Each waits for the next one. -/
def chainW (md : Region.Mode) (ops : Array Oper) : List Nat → Bool
  | a :: b :: l => Region.waitsFor md ops a b && chainW md ops (b :: l)
  | _ => true
def allOpen (listed : Array Bool) (L : List Nat) : Bool := L.all fun x => !listed.getD x true
section
variable {P : Program} {md : Region.Mode} {ops : Array Oper} {Q : Exit → Act → World → Prop} {S : World → Prop} {n : Nat}
theorem allOpen_mem {listed : Array Bool} {L : List Nat} (h : allOpen listed L = true) {x : Nat} (hx : x ∈ L) : listed.getD x true = false := by
  unfold allOpen at h
  have := List.all_eq_true.1 h x hx
  simpa using this
theorem chain_not_ready {listed : Array Bool} {i : Nat} (hi : listed.getD i true = false) : ∀ (L : List Nat), chainW md ops (L ++ [i]) = true → allOpen listed L = true → ∀ x ∈ L, x ∉ Region.ready md ops listed
  | [], _, _, x, hx => by simp at hx
  | [y], hc, _, x, hx => by
    simp at hx; subst hx
    simp [chainW] at hc
    exact not_ready_of hc hi
  | y :: z :: L, hc, ho, x, hx => by
    simp only [List.cons_append, chainW, Bool.and_eq_true] at hc
    rcases List.mem_cons.1 hx with rfl | hx
    · exact not_ready_of hc.1 (allOpen_mem ho (by simp))
    · exact chain_not_ready hi (z :: L) (by simpa [chainW] using hc.2) (by unfold allOpen at ho ⊢; simp only [List.all_cons, Bool.and_eq_true] at ho ⊢; exact ho.2) x hx
theorem wpAnyT_firstC {i : Nat} {L : List Nat} {oi : Oper} {v : Value} (hi : ops[i]? = some oi) (hn : n ∈ L) (hc : chainW md ops (L ++ [i]) = true) (hsel : ∀ (j : Nat) (o : Oper) cs b, ops[j]? = some o → o.op ≠ .select cs b)
    (hQ : ∀ c a w, Q (.panic c) (a.put oi.dst v) w → Q (.panic c) a w) (fuel : Nat) : ∀ (listed : Array Bool) (a : Act) (w : World),
      (∀ j oj, ops[j]? = some oj → j ≠ i → listed.getD j true = false → (∀ e ∈ oj.after, Region.binds md e = true → e.on ≠ i) → oi.apart ops oj = true) →
      i ∈ Region.ready md ops listed → allOpen listed L = true → YieldsIf P ops S oi v a → S w →
      wpAnyT P md ops Q S n fuel (listed.setIfInBounds i true) (a.put oi.dst v) w → wpAnyT P md ops Q S n (fuel + 1) listed a w := by
  have open_i : ∀ {listed : Array Bool}, i ∈ Region.ready md ops listed → listed.getD i true = false := fun {listed} hr => by
    have := (mem_ready.1 hr).1
    exact this
  have hni : ∀ {listed : Array Bool}, allOpen listed L = true → i ∈ Region.ready md ops listed → i ≠ n := fun {listed} ho hr e => chain_not_ready (open_i hr) L hc ho n hn (e ▸ hr)
  induction fuel with
  | zero =>
    intro listed a w _ hr _ hy hS H
    refine ⟨fun h => (by rw [h] at hr; cases hr), fun j hj => ?_⟩
    by_cases hji : j = i
    · subst hji; exact hy.wpOp hi hS ⟨fun _ => hS, H⟩
    · have h1 := ready_mono hj hji
      rw [H.1] at h1
      cases h1
  | succ fuel ih =>
    intro listed a w hfree hr ho hy hS H
    refine ⟨fun h => (by rw [h] at hr; cases hr), fun j hj => ?_⟩
    by_cases hji : j = i
    · subst hji; exact hy.wpOp hi hS ⟨fun _ => hS, H⟩
    have hjL : j ∉ L := fun hm => chain_not_ready (open_i hr) L hc ho j hm hj
    have hjn : j ≠ n := fun e => hjL (e ▸ hn)
    have hn0 : listed.getD n true = false := allOpen_mem ho hn
    obtain ⟨hjun, oj, hoj, hall⟩ := mem_ready.1 hj
    have hnot : ∀ e ∈ oj.after, Region.binds md e = true → e.on ≠ i := fun e he hb heq => by
      have h1 := hall e he hb
      rw [heq, unlisted (mem_ready.1 hr).1] at h1
      cases h1
    have ho2 : allOpen (listed.setIfInBounds j true) L = true := by
      unfold allOpen
      refine List.all_eq_true.2 fun x hx => ?_
      have hxj : j ≠ x := fun e => hjL (e ▸ hx)
      have := allOpen_mem ho hx
      rw [getD_set_ne true hxj, this]; rfl
    have h2 := wpOp_putIf hoj (hfree j oj hoj hji hjun hnot) (fun cs b => hsel i oi cs b hi) (fun cs b => hsel j oj cs b hoj) hQ hy (H.2 j (ready_mono hj hji))
    refine wpOp_mono (fun a' w' h3 => ⟨fun _ => h3.2.1 (by rw [getD_set_ne true hjn, getD_set_ne true (hni ho hr)]; exact hn0), ih (listed.setIfInBounds j true) a' w' (fun k ok hk hki hun hno => hfree k ok hk hki ?_ hno) (ready_mono hr (Ne.symm hji)) ho2 h3.1 (h3.2.1 (by rw [getD_set_ne true hjn, getD_set_ne true (hni ho hr)]; exact hn0)) ?_⟩) h2
    · by_cases hjk : j = k
      · subst hjk; exact hjun
      · rw [getD_set_ne true hjk] at hun; exact hun
    · rw [Array.setIfInBounds_comm _ _ hji]
      exact h3.2.2
/-- take number i first; n is the first of L, each of which waits for the next one, the last for i -/
theorem wpAnyT_takeC {i : Nat} (L : List Nat) {oi : Oper} {v : Value} {fuel : Nat} {listed : Array Bool} {a : Act} {w : World} (hi : ops[i]? = some oi) (hn : L.contains n = true) (hc : chainW md ops (L ++ [i]) = true)
    (hs : Region.noSelect ops = true) (hf : Region.free md ops listed i = true) (hr : (Region.ready md ops listed).contains i = true) (ho : allOpen listed L = true)
    (hQ : ∀ c a w, Q (.panic c) (a.put oi.dst v) w → Q (.panic c) a w) (hy : YieldsIf P ops S oi v a) (hS : S w)
    (h : wpAnyT P md ops Q S n fuel (listed.setIfInBounds i true) (a.put oi.dst v) w) : wpAnyT P md ops Q S n (fuel + 1) listed a w :=
  wpAnyT_firstC hi (by simpa using hn) hc (Region.noSelect_spec hs) hQ fuel listed a w (Region.free_spec hi hf) (by simpa using hr) ho hy hS h
end
end Pv
