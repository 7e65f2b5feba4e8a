/- Automata that may go many ways, as data: which may be, where states lead, sets of states as rising lists, and as maps' keys. Nothing of a program stands here. -/
import Derived.Test.YtjnjbcigbnjmkaaTay
import Derived.Maps.OwnSet
import Derived.Maps.Views
import Derived.Lib.SlKeysI
namespace Pv
open Go Go.RowKit Go.Maps

theorem least_ex {p : Nat → Prop} : ∀ n, p n → ∃ m, p m ∧ ∀ k, p k → m ≤ k := fun n => by
  induction n using Nat.strongRecOn with
  | _ n ih =>
    intro h
    by_cases hk : ∃ k, p k ∧ k < n
    · obtain ⟨k, h1, h2⟩ := hk
      exact ih k h2 h1
    · exact ⟨n, h, fun k h1 => Nat.le_of_not_lt fun h2 => hk ⟨k, h1, h2⟩⟩
/-- the least number that meets a condition -/
noncomputable def leastN (p : Nat → Prop) : Nat := open Classical in if h : ∃ m, p m ∧ ∀ k, p k → m ≤ k then Classical.choose h else 0
theorem leastN_spec {p : Nat → Prop} (h : ∃ n, p n) : p (leastN p) := by
  obtain ⟨n, hn⟩ := h
  have h2 := least_ex n hn
  unfold leastN; rw [dif_pos h2]; exact (Classical.choose_spec h2).1
theorem leastN_le {p : Nat → Prop} {n : Nat} (hn : p n) : leastN p ≤ n := by
  have h2 := least_ex n hn
  unfold leastN; rw [dif_pos h2]; exact (Classical.choose_spec h2).2 n hn

def edgesS (a : Au) : Nat := (a.map List.length).sum
/-- May an automaton be? -/
structure AuOk (a : Au) (acc : Int) : Prop where
  pos : 1 ≤ a.length
  few : a.length ≤ 256
  acc0 : 0 ≤ acc
  acc1 : acc < a.length
  edges : edgesS a ≤ 1024
  each : ∀ es, es ∈ a → ∀ x, x ∈ es → 0 ≤ x.to ∧ x.to < a.length ∧ SetOk x.set ∧ (x.free = true → x.set = [])
noncomputable def auB (a : Au) (acc : Int) : Bool := yes (AuOk a acc)
theorem auB_yes {a : Au} {acc : Int} (h : AuOk a acc) : auB a acc = true := yes_t h
theorem auB_no {a : Au} {acc : Int} (h : ¬ AuOk a acc) : auB a acc = false := yes_f h
noncomputable def auE (a : Au) (acc : Int) : Int := if auB a acc = true then 0 else 8
theorem auE_yes {a : Au} {acc : Int} (h : AuOk a acc) : auE a acc = 0 := by unfold auE; rw [if_pos (auB_yes h)]
theorem auE_no {a : Au} {acc : Int} (h : ¬ AuOk a acc) : auE a acc = 8 := by unfold auE; rw [if_neg (by rw [auB_no h]; simp)]
/-- .. and states of it? -/
def InAu (n : Nat) (l : List Int) : Prop := ∀ s, s ∈ l → 0 ≤ s ∧ s < (n : Int)
noncomputable def askE (a : Au) (acc : Int) (l : List Int) : Int := if auB a acc = true then (if yes (InAu a.length l) = true then 0 else 2) else 8
theorem askE_yes {a : Au} {acc : Int} {l : List Int} (h : AuOk a acc) (h2 : InAu a.length l) : askE a acc l = 0 := by unfold askE; rw [if_pos (auB_yes h), if_pos (yes_t h2)]
theorem askE_out {a : Au} {acc : Int} {l : List Int} (h : AuOk a acc) (h2 : ¬ InAu a.length l) : askE a acc l = 2 := by unfold askE; rw [if_pos (auB_yes h), if_neg (by rw [yes_f h2]; simp)]
theorem askE_no {a : Au} {acc : Int} {l : List Int} (h : ¬ AuOk a acc) : askE a acc l = 8 := by unfold askE; rw [if_neg (by rw [auB_no h]; simp)]

/-- By a free edge; by a number. -/
def FreeTo (a : Au) (s t : Nat) : Prop := ∃ es x, a[s]? = some es ∧ x ∈ es ∧ x.free = true ∧ x.to = (t : Int)
def NumTo (a : Au) (p : Int) (s t : Nat) : Prop := ∃ es x, a[s]? = some es ∧ x ∈ es ∧ x.free = false ∧ InSet x.set p ∧ x.to = (t : Int)
/-- States, and all that free edges lead to. -/
inductive Clo (a : Au) (S : Nat → Prop) : Nat → Prop where
  | base {s : Nat} (h : S s) : Clo a S s
  | step {s t : Nat} (h : Clo a S s) (h2 : FreeTo a s t) : Clo a S t
def Stp (a : Au) (p : Int) (S : Nat → Prop) (t : Nat) : Prop := ∃ s, S s ∧ NumTo a p s t
def Of (l : List Int) (s : Nat) : Prop := (s : Int) ∈ l
theorem Clo.least {a : Au} {S T : Nat → Prop} (h : ∀ s, S s → T s) (hc : ∀ s t, T s → FreeTo a s t → T t) {s : Nat} (hs : Clo a S s) : T s := by
  induction hs with
  | base h1 => exact h _ h1
  | step _ h2 ih => exact hc _ _ ih h2
theorem Clo.is {a : Au} {S T : Nat → Prop} (h : ∀ s, S s → T s) (hc : ∀ s t, T s → FreeTo a s t → T t) (h2 : ∀ s, T s → Clo a S s) (s : Nat) : T s ↔ Clo a S s := ⟨h2 s, Clo.least h hc⟩

/-- A set of states as a rising list. -/
noncomputable def stL (n : Nat) (S : Nat → Prop) : List Int := ((List.range n).filter fun i => yes (S i)).map fun i : Nat => (i : Int)
theorem stL_ext {n : Nat} {S T : Nat → Prop} (h : ∀ s, s < n → (S s ↔ T s)) : stL n S = stL n T := by
  unfold stL
  congr 1
  refine List.filter_congr fun i hi => ?_
  have hi' : i < n := by simpa using hi
  by_cases hs : S i
  · rw [yes_t hs, yes_t ((h i hi').1 hs)]
  · rw [yes_f hs, yes_f fun ht => hs ((h i hi').2 ht)]
theorem stL_mem {n : Nat} {S : Nat → Prop} {x : Int} : x ∈ stL n S ↔ ∃ s : Nat, s < n ∧ S s ∧ x = (s : Int) := by
  unfold stL
  simp only [List.mem_map, List.mem_filter, List.mem_range]
  constructor
  · rintro ⟨s, ⟨h1, h2⟩, rfl⟩; exact ⟨s, h1, of_yes h2, rfl⟩
  · rintro ⟨s, h1, h2, rfl⟩; exact ⟨s, ⟨h1, yes_t h2⟩, rfl⟩
theorem stL_in {n : Nat} {S : Nat → Prop} : InAu n (stL n S) := fun x hx => by obtain ⟨s, h1, _, rfl⟩ := stL_mem.1 hx; omega
theorem stL_of {n : Nat} {S : Nat → Prop} {s : Nat} (h : s < n) : Of (stL n S) s ↔ S s := by
  unfold Of
  rw [stL_mem]
  constructor
  · rintro ⟨t, h1, h2, h3⟩; obtain rfl : s = t := by omega
    exact h2
  · intro h2; exact ⟨s, h, h2, rfl⟩
theorem stL_len (n : Nat) (S : Nat → Prop) : (stL n S).length ≤ n := by
  unfold stL
  rw [List.length_map]
  have := List.length_filter_le (fun i => yes (S i)) (List.range n)
  simpa using this
theorem stL_pair (n : Nat) (S : Nat → Prop) : (stL n S).Pairwise (· < ·) := by
  unfold stL
  rw [List.pairwise_map]
  refine List.Pairwise.filter _ ?_
  exact List.pairwise_lt_range.imp fun h => by omega
/-- What a closed set's list has below k. -/
theorem stL_succ (S : Nat → Prop) (k : Nat) : stL (k + 1) S = if yes (S k) = true then stL k S ++ [(k : Int)] else stL k S := by
  unfold stL
  rw [List.range_succ, List.filter_append, List.map_append]
  by_cases h : S k
  · rw [if_pos (yes_t h)]; simp [yes_t h]
  · rw [if_neg (by rw [yes_f h]; simp)]; simp [yes_f h]
/-- A list without doubles, sorted, is its set's rising list. -/
theorem sort_stL {n : Nat} {S : Nat → Prop} {ss : List Int} (hnd : ss.Nodup) (hm : ∀ x, x ∈ ss ↔ x ∈ stL n S) : ss.mergeSort (fun x y => decide (x ≤ y)) = stL n S := by
  have hp : ss.Perm (stL n S) := (List.perm_ext_iff_of_nodup hnd ((stL_pair n S).imp fun h => Int.ne_of_lt h)).2 hm
  have h1 := mergeSort_of_perm_i hp
  show ss.mergeSort leI = _
  rw [h1]
  exact List.mergeSort_of_pairwise ((stL_pair n S).imp fun h => by simp only [leI, decide_eq_true_eq]; omega)

/-- A set of numbers as a map's keys. -/
abbrev litI (x : Int) : Lit := .int .i64 x
def setM (l : List Int) : DataW Unit := setOf (.agg []) (l.map litI)
theorem litI_key (x : Int) : WideAt.IsKeyLit (litI x) := trivial
theorem setM_keys (l : List Int) : ∀ x ∈ l.map litI, WideAt.IsKeyLit x := fun x hx => by obtain ⟨y, _, rfl⟩ := List.mem_map.1 hx; exact litI_key y
theorem sameKey_int (x y : Int) : (litI x).sameKey (litI y) = decide (x = y) := by simp [litI, Lit.sameKey]
theorem setM_has (l : List Int) (x : Int) : Maps.has (setM l) (litI x) = decide (x ∈ l) := by
  unfold setM
  rw [has_setOf _ _ _ (setM_keys l), List.any_map, Bool.eq_iff_iff, List.any_eq_true, decide_eq_true_iff]
  constructor
  · rintro ⟨y, h1, h2⟩
    simp only [Function.comp, sameKey_int, decide_eq_true_eq] at h2
    exact h2 ▸ h1
  · intro h
    exact ⟨x, h, by simp [sameKey_int]⟩
theorem setM_put (l : List Int) (x : Int) : (setM l).put (litI x) (.agg []) = setM (l ++ [x]) := by
  unfold setM
  rw [List.map_append]
  exact (setOf_snoc _ _ _).symm
theorem mem_insert {x y : Lit × DataW Unit} : ∀ {es : List (Lit × DataW Unit)}, y ∈ DataW.insert x es → y = x ∨ y ∈ es
  | [], h => by simp [DataW.insert] at h; exact .inl h
  | z :: es, h => by
    unfold DataW.insert at h
    split at h
    · exact List.mem_cons.1 h
    · rcases List.mem_cons.1 h with h | h
      · exact .inr (by simp [h])
      · rcases mem_insert h with h | h
        · exact .inl h
        · exact .inr (by simp [h])
theorem fold_keys : ∀ (l : List Int) (es : List (Lit × DataW Unit)), (∀ p ∈ es, ∃ x, p.1 = litI x) → ∃ es' : List (Lit × DataW Unit), (l.map litI).foldl (fun (m : DataW Unit) x => m.put x (.agg [])) (.map es) = .map es' ∧ ∀ p ∈ es', ∃ x, p.1 = litI x
  | [], es, h => ⟨es, rfl, h⟩
  | x :: l, es, h => fold_keys l _ fun p hp => by
    rcases mem_insert hp with h1 | h1
    · exact ⟨x, by rw [h1]⟩
    · exact h p (List.mem_filter.1 h1).1
theorem setM_perm (l ss : List Int) (hnd : ss.Nodup) (h : ∀ x, x ∈ ss ↔ x ∈ l) : ss.Perm (intKeys (setM l)) := by
  obtain ⟨es', e, hk⟩ := fold_keys l [] (by simp)
  have e2 : setM l = .map es' := e
  obtain ⟨es2, e3, hp⟩ := tidy_setOf (H := Unit) (.agg []) (l.map litI) (setM_keys l)
  have e4 : setM l = .map es2 := e3
  rw [e2] at e4
  injection e4 with e4
  subst e4
  rw [e2]
  refine perm_intKeys hp hk hnd fun x => ?_
  rw [← e2, show (Lit.int .i64 x) = litI x from rfl, setM_has, h x]
  simp
theorem setM_size (l : List Int) : Maps.size (setM l) ≤ l.length := by
  unfold setM
  have h := size_setOf (H := Unit) (.agg []) (l.map litI) (setM_keys l)
  rw [h]
  have : ∀ (xs acc : List Lit), (xs.foldl addKey acc).length ≤ acc.length + xs.length := by
    intro xs
    induction xs with
    | nil => intro acc; simp
    | cons x xs ih =>
      intro acc
      rw [List.foldl_cons]
      have h1 := ih (addKey acc x)
      have h2 : (addKey acc x).length ≤ acc.length + 1 := by unfold addKey; split <;> simp
      simp only [List.length_cons]
      omega
  have h2 := this (l.map litI) []
  simpa using h2
/-- The keys of a map that holds a set, sorted. -/
theorem setM_sorted {n : Nat} {S : Nat → Prop} {l ss : List Int} (h : ∀ x, x ∈ l ↔ x ∈ stL n S) (hp : ss.Perm (intKeys (setM l))) : ss.mergeSort (fun x y => decide (x ≤ y)) = stL n S := by
  have h1 := setM_perm l (stL n S) ((stL_pair n S).imp fun h => Int.ne_of_lt h) (fun x => (h x).symm)
  have h2 := mergeSort_of_perm_i (hp.trans h1.symm)
  show ss.mergeSort leI = _
  rw [h2]
  exact List.mergeSort_of_pairwise ((stL_pair n S).imp fun h => by simp only [leI, decide_eq_true_eq]; omega)
end Pv
