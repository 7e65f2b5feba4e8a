/- Automata that may go many ways, as data: which may be, where states lead, sets of states as rising lists, and as maps' keys. Nothing of a program stands here. -/
import Derived.Test.YtilhicefhhgecaaGreatDoorTbn
import Derived.Maps.OwnSet
import Derived.Maps.Views
import Derived.Lib.SlKeysI
import Derived.Test.YtilhicefhhgecaaGreatDoorDfan
namespace Pv
open Go Go.RowKit Go.Maps

theorem least_ex {p : Nat → Prop} : ∀ n, p n → ∃ m, p m ∧ ∀ k, p k → m ≤ k := fun n => by
  induction n using Nat.strongRecOn with
  | _ n ih =>
    intro h
    by_cases hk : ∃ k, p k ∧ k < n
    · obtain ⟨k, h1, h2⟩ := hk
      exact ih k h2 h1
    · exact ⟨n, h, fun k h1 => Nat.le_of_not_lt fun h2 => hk ⟨k, h1, h2⟩⟩
/-- the least number that meets a condition -/
noncomputable def leastN (p : Nat → Prop) : Nat := open Classical in if h : ∃ m, p m ∧ ∀ k, p k → m ≤ k then Classical.choose h else 0
theorem leastN_spec {p : Nat → Prop} (h : ∃ n, p n) : p (leastN p) := by
  obtain ⟨n, hn⟩ := h
  have h2 := least_ex n hn
  unfold leastN; rw [dif_pos h2]; exact (Classical.choose_spec h2).1
theorem leastN_le {p : Nat → Prop} {n : Nat} (hn : p n) : leastN p ≤ n := by
  have h2 := least_ex n hn
  unfold leastN; rw [dif_pos h2]; exact (Classical.choose_spec h2).2 n hn

def edgesS (a : Au) : Nat := (a.map List.length).sum
/-- May an automaton be? -/
structure AuOk (a : Au) (acc : Int) : Prop where
  pos : 1 ≤ a.length
  few : a.length ≤ 256
  acc0 : 0 ≤ acc
  acc1 : acc < a.length
  edges : edgesS a ≤ 1024
  each : ∀ es, es ∈ a → ∀ x, x ∈ es → 0 ≤ x.to ∧ x.to < a.length ∧ SetOk x.set ∧ (x.free = true → x.set = [])
noncomputable def auB (a : Au) (acc : Int) : Bool := yes (AuOk a acc)
theorem auB_yes {a : Au} {acc : Int} (h : AuOk a acc) : auB a acc = true := yes_t h
theorem auB_no {a : Au} {acc : Int} (h : ¬ AuOk a acc) : auB a acc = false := yes_f h
noncomputable def auE (a : Au) (acc : Int) : Int := if auB a acc = true then 0 else 8
theorem auE_yes {a : Au} {acc : Int} (h : AuOk a acc) : auE a acc = 0 := by unfold auE; rw [if_pos (auB_yes h)]
theorem auE_no {a : Au} {acc : Int} (h : ¬ AuOk a acc) : auE a acc = 8 := by unfold auE; rw [if_neg (by rw [auB_no h]; simp)]
/-- .. and states of it? -/
def InAu (n : Nat) (l : List Int) : Prop := ∀ s, s ∈ l → 0 ≤ s ∧ s < (n : Int)
noncomputable def askE (a : Au) (acc : Int) (l : List Int) : Int := if auB a acc = true then (if yes (InAu a.length l) = true then 0 else 2) else 8
theorem askE_yes {a : Au} {acc : Int} {l : List Int} (h : AuOk a acc) (h2 : InAu a.length l) : askE a acc l = 0 := by unfold askE; rw [if_pos (auB_yes h), if_pos (yes_t h2)]
theorem askE_out {a : Au} {acc : Int} {l : List Int} (h : AuOk a acc) (h2 : ¬ InAu a.length l) : askE a acc l = 2 := by unfold askE; rw [if_pos (auB_yes h), if_neg (by rw [yes_f h2]; simp)]
theorem askE_no {a : Au} {acc : Int} {l : List Int} (h : ¬ AuOk a acc) : askE a acc l = 8 := by unfold askE; rw [if_neg (by rw [auB_no h]; simp)]

/-- By a free edge; by a number. -/
def FreeTo (a : Au) (s t : Nat) : Prop := ∃ es x, a[s]? = some es ∧ x ∈ es ∧ x.free = true ∧ x.to = (t : Int)
def NumTo (a : Au) (p : Int) (s t : Nat) : Prop := ∃ es x, a[s]? = some es ∧ x ∈ es ∧ x.free = false ∧ InSet x.set p ∧ x.to = (t : Int)
/-- States, and all that free edges lead to. -/
inductive Clo (a : Au) (S : Nat → Prop) : Nat → Prop where
  | base {s : Nat} (h : S s) : Clo a S s
  | step {s t : Nat} (h : Clo a S s) (h2 : FreeTo a s t) : Clo a S t
def Stp (a : Au) (p : Int) (S : Nat → Prop) (t : Nat) : Prop := ∃ s, S s ∧ NumTo a p s t
def Of (l : List Int) (s : Nat) : Prop := (s : Int) ∈ l
theorem Clo.least {a : Au} {S T : Nat → Prop} (h : ∀ s, S s → T s) (hc : ∀ s t, T s → FreeTo a s t → T t) {s : Nat} (hs : Clo a S s) : T s := by
  induction hs with
  | base h1 => exact h _ h1
  | step _ h2 ih => exact hc _ _ ih h2
theorem Clo.is {a : Au} {S T : Nat → Prop} (h : ∀ s, S s → T s) (hc : ∀ s t, T s → FreeTo a s t → T t) (h2 : ∀ s, T s → Clo a S s) (s : Nat) : T s ↔ Clo a S s := ⟨h2 s, Clo.least h hc⟩

/-- A set of states as a rising list. -/
noncomputable def stL (n : Nat) (S : Nat → Prop) : List Int := ((List.range n).filter fun i => yes (S i)).map fun i : Nat => (i : Int)
theorem stL_ext {n : Nat} {S T : Nat → Prop} (h : ∀ s, s < n → (S s ↔ T s)) : stL n S = stL n T := by
  unfold stL
  congr 1
  refine List.filter_congr fun i hi => ?_
  have hi' : i < n := by simpa using hi
  by_cases hs : S i
  · rw [yes_t hs, yes_t ((h i hi').1 hs)]
  · rw [yes_f hs, yes_f fun ht => hs ((h i hi').2 ht)]
theorem stL_mem {n : Nat} {S : Nat → Prop} {x : Int} : x ∈ stL n S ↔ ∃ s : Nat, s < n ∧ S s ∧ x = (s : Int) := by
  unfold stL
  simp only [List.mem_map, List.mem_filter, List.mem_range]
  constructor
  · rintro ⟨s, ⟨h1, h2⟩, rfl⟩; exact ⟨s, h1, of_yes h2, rfl⟩
  · rintro ⟨s, h1, h2, rfl⟩; exact ⟨s, ⟨h1, yes_t h2⟩, rfl⟩
theorem stL_in {n : Nat} {S : Nat → Prop} : InAu n (stL n S) := fun x hx => by obtain ⟨s, h1, _, rfl⟩ := stL_mem.1 hx; omega
theorem stL_of {n : Nat} {S : Nat → Prop} {s : Nat} (h : s < n) : Of (stL n S) s ↔ S s := by
  unfold Of
  rw [stL_mem]
  constructor
  · rintro ⟨t, h1, h2, h3⟩; obtain rfl : s = t := by omega
    exact h2
  · intro h2; exact ⟨s, h, h2, rfl⟩
theorem stL_len (n : Nat) (S : Nat → Prop) : (stL n S).length ≤ n := by
  unfold stL
  rw [List.length_map]
  have := List.length_filter_le (fun i => yes (S i)) (List.range n)
  simpa using this
theorem stL_pair (n : Nat) (S : Nat → Prop) : (stL n S).Pairwise (· < ·) := by
  unfold stL
  rw [List.pairwise_map]
  refine List.Pairwise.filter _ ?_
  exact List.pairwise_lt_range.imp fun h => by omega
/-- A list without doubles, sorted, is its set's rising list. -/
theorem sort_stL {n : Nat} {S : Nat → Prop} {ss : List Int} (hnd : ss.Nodup) (hm : ∀ x, x ∈ ss ↔ x ∈ stL n S) : ss.mergeSort (fun x y => decide (x ≤ y)) = stL n S := by
  have hp : ss.Perm (stL n S) := (List.perm_ext_iff_of_nodup hnd ((stL_pair n S).imp fun h => Int.ne_of_lt h)).2 hm
  have h1 := mergeSort_of_perm_i hp
  show ss.mergeSort leI = _
  rw [h1]
  exact List.mergeSort_of_pairwise ((stL_pair n S).imp fun h => by simp only [leI, decide_eq_true_eq]; omega)

/-- A set of numbers as a map's keys. -/
abbrev litI (x : Int) : Lit := .int .i64 x
def setM (l : List Int) : DataW Unit := setOf (.agg []) (l.map litI)
theorem litI_key (x : Int) : WideAt.IsKeyLit (litI x) := trivial
theorem setM_keys (l : List Int) : ∀ x ∈ l.map litI, WideAt.IsKeyLit x := fun x hx => by obtain ⟨y, _, rfl⟩ := List.mem_map.1 hx; exact litI_key y
theorem sameKey_int (x y : Int) : (litI x).sameKey (litI y) = decide (x = y) := by simp [Lit.sameKey]
theorem setM_has (l : List Int) (x : Int) : Maps.has (setM l) (litI x) = decide (x ∈ l) := by
  unfold setM
  rw [has_setOf _ _ _ (setM_keys l), List.any_map, Bool.eq_iff_iff, List.any_eq_true, decide_eq_true_iff]
  constructor
  · rintro ⟨y, h1, h2⟩
    simp only [Function.comp, sameKey_int, decide_eq_true_eq] at h2
    exact h2 ▸ h1
  · intro h
    exact ⟨x, h, by simp [sameKey_int]⟩
theorem setM_put (l : List Int) (x : Int) : (setM l).put (litI x) (.agg []) = setM (l ++ [x]) := by
  unfold setM
  rw [List.map_append]
  exact (setOf_snoc _ _ _).symm
theorem mem_insert {x y : Lit × DataW Unit} : ∀ {es : List (Lit × DataW Unit)}, y ∈ DataW.insert x es → y = x ∨ y ∈ es
  | [], h => by simp [DataW.insert] at h; exact .inl h
  | z :: es, h => by
    unfold DataW.insert at h
    split at h
    · exact List.mem_cons.1 h
    · rcases List.mem_cons.1 h with h | h
      · exact .inr (by simp [h])
      · rcases mem_insert h with h | h
        · exact .inl h
        · exact .inr (by simp [h])
theorem fold_keys : ∀ (l : List Int) (es : List (Lit × DataW Unit)), (∀ p ∈ es, ∃ x, p.1 = litI x) → ∃ es' : List (Lit × DataW Unit), (l.map litI).foldl (fun (m : DataW Unit) x => m.put x (.agg [])) (.map es) = .map es' ∧ ∀ p ∈ es', ∃ x, p.1 = litI x
  | [], es, h => ⟨es, rfl, h⟩
  | x :: l, es, h => fold_keys l _ fun p hp => by
    rcases mem_insert hp with h1 | h1
    · exact ⟨x, by rw [h1]⟩
    · exact h p (List.mem_filter.1 h1).1
theorem setM_perm (l ss : List Int) (hnd : ss.Nodup) (h : ∀ x, x ∈ ss ↔ x ∈ l) : ss.Perm (intKeys (setM l)) := by
  obtain ⟨es', e, hk⟩ := fold_keys l [] (by simp)
  have e2 : setM l = .map es' := e
  obtain ⟨es2, e3, hp⟩ := tidy_setOf (H := Unit) (.agg []) (l.map litI) (setM_keys l)
  have e4 : setM l = .map es2 := e3
  rw [e2] at e4
  injection e4 with e4
  subst e4
  rw [e2]
  refine perm_intKeys hp hk hnd fun x => ?_
  rw [← e2, show (Lit.int .i64 x) = litI x from rfl, setM_has, h x]
  simp
theorem setM_size (l : List Int) : Maps.size (setM l) ≤ l.length := by
  unfold setM
  have h := size_setOf (H := Unit) (.agg []) (l.map litI) (setM_keys l)
  rw [h]
  have : ∀ (xs acc : List Lit), (xs.foldl addKey acc).length ≤ acc.length + xs.length := by
    intro xs
    induction xs with
    | nil => intro acc; simp
    | cons x xs ih =>
      intro acc
      rw [List.foldl_cons]
      have h1 := ih (addKey acc x)
      have h2 : (addKey acc x).length ≤ acc.length + 1 := by unfold addKey; split <;> simp
      simp only [List.length_cons]
      omega
  have h2 := this (l.map litI) []
  simpa using h2
/-- The keys of a map that holds a set, sorted. -/
theorem setM_sorted {n : Nat} {S : Nat → Prop} {l ss : List Int} (h : ∀ x, x ∈ l ↔ x ∈ stL n S) (hp : ss.Perm (intKeys (setM l))) : ss.mergeSort (fun x y => decide (x ≤ y)) = stL n S := by
  have h1 := setM_perm l (stL n S) ((stL_pair n S).imp fun h => Int.ne_of_lt h) (fun x => (h x).symm)
  have h2 := mergeSort_of_perm_i (hp.trans h1.symm)
  show ss.mergeSort leI = _
  rw [h2]
  exact List.mergeSort_of_pairwise ((stL_pair n S).imp fun h => by simp only [leI, decide_eq_true_eq]; omega)
end Pv

namespace Pv
open Go Go.RowKit

/-- Edges that may be: to states that there are. -/
def GoodA (a : Au) : Prop := ∀ es, es ∈ a → ∀ x, x ∈ es → 0 ≤ x.to ∧ x.to < (a.length : Int) ∧ SetOk x.set ∧ (x.free = true → x.set = [])
theorem GoodA.one : GoodA [[]] := fun es h => by simp at h; subst h; exact fun x h => by simp at h
theorem GoodA.new {a : Au} (h : GoodA a) : GoodA (a ++ [[]]) := fun es he x hx => by
  rcases List.mem_append.1 he with he | he
  · have := h es he x hx
    refine ⟨this.1, ?_, this.2.2⟩
    have h2 := this.2.1
    simp
    omega
  · simp at he; subst he; simp at hx
theorem auEdge_mem {a : Au} {s : Nat} {y : Ed} {es : List Ed} (h : es ∈ auEdge a s y) {x : Ed} (hx : x ∈ es) : x = y ∨ ∃ es', es' ∈ a ∧ x ∈ es' := by
  obtain ⟨u, hu⟩ := List.getElem?_of_mem h
  unfold auEdge at hu
  rw [List.getElem?_modify] at hu
  cases ha : a[u]? with
  | none => rw [ha] at hu; simp at hu
  | some es' =>
    rw [ha] at hu
    by_cases e : s = u
    · subst e
      simp at hu
      subst hu
      rcases List.mem_append.1 hx with hx | hx
      · exact .inr ⟨es', mem_of_get ha, hx⟩
      · simp at hx; exact .inl hx
    · simp [e] at hu
      subst hu
      exact .inr ⟨es', mem_of_get ha, hx⟩
theorem GoodA.edge {a : Au} (h : GoodA a) (s : Nat) {y : Ed} (hy : 0 ≤ y.to ∧ y.to < (a.length : Int) ∧ SetOk y.set ∧ (y.free = true → y.set = [])) : GoodA (auEdge a s y) := fun es he x hx => by
  rw [auEdge_length]
  rcases auEdge_mem he hx with rfl | ⟨es', h1, h2⟩
  · exact hy
  · exact h es' h1 x h2
theorem GoodA.frees {m : Nat} : ∀ (es : List Nat) {a : Au}, GoodA a → m < a.length → GoodA (auFrees m a es)
  | [], _, h, _ => h
  | s :: es, a, h, hm => GoodA.frees es (h.edge s ⟨by simp only; omega, by simp only; omega, SetOk.nil, fun _ => rfl⟩) (by rw [auEdge_length]; exact hm)
theorem GoodA.join {a : Au} (h : GoodA a) (es : List Nat) : GoodA (auJoin a es) := GoodA.frees es h.new (by simp)
theorem edges_new (a : Au) : edgesS (a ++ [[]]) = edgesS a := by simp [edgesS]
theorem edges_edge : ∀ (a : Au) (s : Nat) (x : Ed), s < a.length → edgesS (auEdge a s x) = edgesS a + 1
  | [], s, x, h => by simp at h
  | es :: a, 0, x, _ => by simp [edgesS, auEdge]; omega
  | es :: a, s + 1, x, h => by
    have ih := edges_edge a s x (by simpa using h)
    unfold edgesS auEdge at *
    simp only [List.modify_succ_cons, List.map_cons, List.sum_cons] at *
    omega
theorem edges_frees {m : Nat} : ∀ (es : List Nat) (a : Au), (∀ e, e ∈ es → e < a.length) → edgesS (auFrees m a es) = edgesS a + es.length
  | [], a, _ => rfl
  | s :: es, a, h => by
    rw [auFrees, edges_frees es _ (fun e he => by rw [auEdge_length]; exact h e (by simp [he])), edges_edge _ _ _ (h s (by simp))]
    simp; omega
theorem edges_join (a : Au) (es : List Nat) (h : ∀ e, e ∈ es → e < a.length) : edgesS (auJoin a es) = edgesS a + es.length := by
  unfold auJoin
  rw [edges_frees _ _ (fun e he => by have := h e he; simp; omega), edges_new]
/-- A way of leading that lays fewer than twice c edges, all of which may be. -/
structure LeadE (f : Au → Nat → Au × Nat) (c : Nat) : Prop where
  leads : Leads f c
  edges : ∀ a s, s < a.length → edgesS (f a s).1 + 1 ≤ edgesS a + 2 * c
  good : ∀ a s, s < a.length → GoodA a → GoodA (f a s).1
theorem LeadE.iter {f : Au → Nat → Au × Nat} {c : Nat} (h : LeadE f c) : ∀ (n : Nat) (a : Au) (s : Nat), s < a.length → edgesS (Pv.iter f n a s).1 + n ≤ edgesS a + 2 * (c * n) ∧ (GoodA a → GoodA (Pv.iter f n a s).1)
  | 0, a, s, _ => ⟨by simp [Pv.iter], fun g => g⟩
  | n + 1, a, s, hs => by
    have h1 := h.edges a s hs
    have h2 := h.leads a s hs
    have h3 := LeadE.iter h n (f a s).1 (f a s).2 h2.2
    refine ⟨?_, fun g => h3.2 (h.good a s hs g)⟩
    show edgesS (Pv.iter f n (f a s).1 (f a s).2).1 + (n + 1) ≤ _
    rw [Nat.mul_add]
    omega
theorem LeadE.iters {f : Au → Nat → Au × Nat} {c : Nat} (h : LeadE f c) : ∀ (n : Nat) (a : Au) (s : Nat), s < a.length → edgesS (Pv.iters f n a s).1 + n ≤ edgesS a + 2 * (c * n) ∧ (GoodA a → GoodA (Pv.iters f n a s).1)
  | 0, a, s, _ => ⟨by simp [Pv.iters], fun g => g⟩
  | n + 1, a, s, hs => by
    have h1 := h.edges a s hs
    have h2 := h.leads a s hs
    have h3 := LeadE.iters h n (f a s).1 (f a s).2 h2.2
    refine ⟨?_, fun g => h3.2 (h.good a s hs g)⟩
    show edgesS (Pv.iters f n (f a s).1 (f a s).2).1 + (n + 1) ≤ _
    rw [Nat.mul_add]
    omega
mutual
theorem leadT_e : ∀ (T : Tr) (d : Nat), T.Ok d → LeadE (leadT T) (statesT T)
  | .mk x ks, d, hok => by
    have hone := hok.one
    have hlen := hok.len
    have hkids := fun k hk => hok.kid (k := k) hk
    refine ⟨leadT_leads _, fun a s hs => ?_, fun a s hs g => ?_⟩
    · rw [leadT, statesT]
      by_cases h0 : x.kind = 0
      · rw [if_pos h0, if_pos h0]
        show edgesS (auJoin a [s]) + 1 ≤ _
        rw [edges_join _ _ (fun e he => by simp at he; omega)]
        simp
      rw [if_neg h0, if_neg h0]
      by_cases h1 : x.kind = 1
      · rw [if_pos h1, if_pos h1, edges_edge _ _ _ (by simp; omega), edges_new]
        omega
      rw [if_neg h1, if_neg h1]
      by_cases h2 : x.kind = 2
      · rw [if_pos h2, if_pos h2]
        have := (leadCat_e ks (d - 1) hkids a s hs).1
        have hk : 2 ≤ x.many := by rcases hone with h | h | h | h <;> omega
        omega
      rw [if_neg h2, if_neg h2]
      by_cases h3 : x.kind = 3
      · rw [if_pos h3, if_pos h3]
        obtain ⟨q1, q2, q3, _⟩ := leadAlt_e ks (d - 1) hkids a s hs
        show edgesS (auJoin (leadAlt ks a s).1 (leadAlt ks a s).2) + 1 ≤ _
        rw [edges_join _ _ q2, q3]
        omega
      rw [if_neg h3, if_neg h3]
      have hk : x.many = 1 ∧ 0 ≤ x.least ∧ (x.most < 0 ∨ x.least ≤ x.most) := by rcases hone with h | h | h | h <;> omega
      obtain ⟨k, rfl⟩ : ∃ k, ks = [k] := by
        cases ks with
        | nil => simp at hlen; omega
        | cons k r => cases r with
          | nil => exact ⟨k, rfl⟩
          | cons => simp at hlen; omega
      have hf : leadHd [k] = leadT k := by funext a s; rw [leadHd]
      have hs' : statesH [k] = statesT k := by rw [statesH]
      have he := leadT_e k (d - 1) (hkids k (by simp))
      rw [hf, hs']
      have hi := he.iter x.least.toNat a s hs
      have hl := (Leads.iter he.leads x.least.toNat) a s hs
      by_cases hm : x.most < 0
      · rw [if_pos hm, timesOf, if_pos hm]
        generalize Pv.iter (leadT k) x.least.toNat a s = r at hi hl
        have e1 := edges_join r.1 [r.2] (fun e he => by simp at he; subst he; exact hl.2)
        have e2 := he.edges (auJoin r.1 [r.2]) r.1.length (by rw [auJoin_length]; omega)
        have e3 := he.leads (auJoin r.1 [r.2]) r.1.length (by rw [auJoin_length]; omega)
        show edgesS (auEdge _ _ _) + 1 ≤ _
        rw [edges_edge _ _ _ e3.2]
        rw [Nat.mul_add (statesT k) x.least.toNat 1]
        simp at e1
        omega
      · rw [if_neg hm, timesOf, if_neg hm]
        generalize Pv.iter (leadT k) x.least.toNat a s = r at hi hl
        have e1 := he.iters (x.most - x.least).toNat r.1 r.2 hl.2
        have e2 := Leads.iters he.leads (x.most - x.least).toNat r.1 r.2 hl.2
        show edgesS (auJoin _ _) + 1 ≤ _
        rw [edges_join _ _ e2.2, iters_len, Nat.mul_add (statesT k) x.least.toNat (x.most - x.least).toNat]
        omega
    · rw [leadT]
      by_cases h0 : x.kind = 0
      · rw [if_pos h0]; exact g.join _
      rw [if_neg h0]
      by_cases h1 : x.kind = 1
      · rw [if_pos h1]
        have hset : SetOk x.set := by
          rcases hone with h | h | h | h
          all_goals first | exact h.2.1 | (exfalso; omega) | skip
        exact (g.new).edge s ⟨by simp only; omega, by simp; omega, hset, fun h => by simp at h⟩
      rw [if_neg h1]
      by_cases h2 : x.kind = 2
      · rw [if_pos h2]; exact (leadCat_e ks (d - 1) hkids a s hs).2.2 g
      rw [if_neg h2]
      by_cases h3 : x.kind = 3
      · rw [if_pos h3]; exact ((leadAlt_e ks (d - 1) hkids a s hs).2.2.2 g).join _
      rw [if_neg h3]
      have hk : x.many = 1 := by rcases hone with h | h | h | h <;> omega
      obtain ⟨k, rfl⟩ : ∃ k, ks = [k] := by
        cases ks with
        | nil => simp at hlen; omega
        | cons k r => cases r with
          | nil => exact ⟨k, rfl⟩
          | cons => simp at hlen; omega
      have hf : leadHd [k] = leadT k := by funext a s; rw [leadHd]
      have he := leadT_e k (d - 1) (hkids k (by simp))
      rw [hf]
      have hi := he.iter x.least.toNat a s hs
      have hl := (Leads.iter he.leads x.least.toNat) a s hs
      by_cases hm : x.most < 0
      · rw [if_pos hm]
        generalize Pv.iter (leadT k) x.least.toNat a s = r at hi hl
        have e3 := he.leads (auJoin r.1 [r.2]) r.1.length (by rw [auJoin_length]; omega)
        have g2 := he.good (auJoin r.1 [r.2]) r.1.length (by rw [auJoin_length]; omega) ((hi.2 g).join _)
        rw [auJoin_length] at e3
        exact g2.edge _ ⟨by simp only; omega, by simp only; omega, SetOk.nil, fun _ => rfl⟩
      · rw [if_neg hm]
        generalize Pv.iter (leadT k) x.least.toNat a s = r at hi hl
        exact ((he.iters (x.most - x.least).toNat r.1 r.2 hl.2).2 (hi.2 g)).join _
theorem leadCat_e : ∀ (ks : List Tr) (d : Nat), (∀ k, k ∈ ks → k.Ok d) → ∀ a s, s < a.length → edgesS (leadCat ks a s).1 + ks.length ≤ edgesS a + 2 * statesL ks ∧ (leadCat ks a s).2 < (leadCat ks a s).1.length ∧ (GoodA a → GoodA (leadCat ks a s).1)
  | [], _, _, a, s, hs => by rw [leadCat, statesL]; exact ⟨by simp, hs, fun g => g⟩
  | k :: ks, d, h, a, s, hs => by
    have h0 := leadT_e k d (h k (by simp))
    have h1 := h0.leads a s hs
    have h2 := h0.edges a s hs
    obtain ⟨h3, h4, h5⟩ := leadCat_e ks d (fun x hx => h x (by simp [hx])) (leadT k a s).1 (leadT k a s).2 h1.2
    rw [leadCat, statesL]
    refine ⟨by simp only [List.length_cons]; omega, h4, fun g => h5 (h0.good a s hs g)⟩
theorem leadAlt_e : ∀ (ks : List Tr) (d : Nat), (∀ k, k ∈ ks → k.Ok d) → ∀ a s, s < a.length → edgesS (leadAlt ks a s).1 + ks.length ≤ edgesS a + 2 * statesL ks ∧ (∀ e, e ∈ (leadAlt ks a s).2 → e < (leadAlt ks a s).1.length) ∧ (leadAlt ks a s).2.length = ks.length ∧ (GoodA a → GoodA (leadAlt ks a s).1)
  | [], _, _, a, s, hs => by rw [leadAlt, statesL]; exact ⟨by simp, fun e he => by simp at he, rfl, fun g => g⟩
  | k :: ks, d, h, a, s, hs => by
    have h0 := leadT_e k d (h k (by simp))
    have h1 := h0.leads a s hs
    have h2 := h0.edges a s hs
    obtain ⟨h3, h4, h5, h6⟩ := leadAlt_e ks d (fun x hx => h x (by simp [hx])) (leadT k a s).1 s (by omega)
    have hle : (leadT k a s).1.length ≤ (leadAlt ks (leadT k a s).1 s).1.length := by have := (leadAlt_leads ks (leadT k a s).1 s (by omega)).1; omega
    rw [leadAlt, statesL]
    refine ⟨by simp only [List.length_cons]; omega, fun e he => ?_, by simp [h5], fun g => h6 (h0.good a s hs g)⟩
    simp only [List.mem_cons] at he
    rcases he with rfl | he
    · simp only; omega
    · exact h4 e he
end
/-- THE AUTOMATON of a pattern that has not too many states may be. -/
theorem lead_ok {T : Tr} {d : Nat} (h : T.Ok d) (hf : 1 + statesT T ≤ 256) : AuOk (leadT T [[]] 0).1 ((leadT T [[]] 0).2 : Nat) := by
  have he := leadT_e T d h
  have h1 := he.leads [[]] 0 (by simp)
  have h2 := he.edges [[]] 0 (by simp)
  have h3 := he.good [[]] 0 (by simp) GoodA.one
  have e0 : edgesS [[]] = 0 := by simp [edgesS]
  simp only [List.length_cons, List.length_nil, Nat.zero_add] at h1
  exact ⟨by omega, by omega, by omega, by have := h1.2; omega, by omega, fun es hes x hx => h3 es hes x hx⟩
end Pv

namespace Pv
open Go Go.RowKit
/-- Where a state goes by a class; does it accept? -/
def Dfa.go (d : Dfa) (s c : Nat) : Nat := ((d.next.getD s []).getD c 0).toNat
def Dfa.acc (d : Dfa) (s : Nat) : Bool := d.accept.getD s false
theorem Dfa.Ok.cell {d : Dfa} (h : d.Ok) {s c : Nat} (hs : s < d.next.length) (hc : c < d.cuts.length) : ∃ r, d.next[s]? = some r ∧ r.length = d.cuts.length ∧ r[c]? = some (d.go s c : Int) ∧ d.go s c < d.next.length := by
  have h1 : d.next[s]? = some d.next[s] := List.getElem?_eq_getElem hs
  have h2 := h.rl s _ h1
  have h4 : (d.next[s])[c]? = some ((d.next[s])[c]'(by omega)) := List.getElem?_eq_getElem (by omega)
  have h5 := h.rx s _ h1 _ _ h4
  have h6 : d.go s c = ((d.next[s])[c]'(by omega)).toNat := by unfold Dfa.go; rw [getD_of h1, getD_of h4]
  exact ⟨_, h1, h2, by rw [h4, h6]; congr 1; omega, by omega⟩
theorem Dfa.Ok.accAt {d : Dfa} (h : d.Ok) {s : Nat} (hs : s < d.next.length) : d.accept[s]? = some (d.acc s) := by
  have h1 : d.accept[s]? = some (d.accept[s]'(by rw [h.a]; exact hs)) := List.getElem?_eq_getElem _
  unfold Dfa.acc
  rw [getD_of h1, h1]
/-- Lks for k steps; alike. -/
def Lk (d : Dfa) : Nat → Nat → Nat → Prop
  | 0, s, t => d.acc s = d.acc t
  | k + 1, s, t => Lk d k s t ∧ ∀ c, c < d.cuts.length → Lk d k (d.go s c) (d.go t c)
def Lks (d : Dfa) (s t : Nat) : Prop := ∀ k, Lk d k s t
section
variable {d : Dfa}
theorem Lk.refl : ∀ (k s : Nat), Lk d k s s
  | 0, _ => rfl
  | k + 1, s => ⟨Lk.refl k s, fun _c _ => Lk.refl k _⟩
theorem Lk.symm : ∀ {k s t : Nat}, Lk d k s t → Lk d k t s
  | 0, _, _, h => Eq.symm h
  | _ + 1, _, _, h => ⟨Lk.symm h.1, fun c hc => Lk.symm (h.2 c hc)⟩
theorem Lk.trans : ∀ {k s t u : Nat}, Lk d k s t → Lk d k t u → Lk d k s u
  | 0, _, _, _, h, g => Eq.trans h g
  | _ + 1, _, _, _, h, g => ⟨Lk.trans h.1 g.1, fun c hc => Lk.trans (h.2 c hc) (g.2 c hc)⟩
theorem Lks.refl (s : Nat) : Lks d s s := fun k => Lk.refl k s
theorem Lks.symm {s t : Nat} (h : Lks d s t) : Lks d t s := fun k => (h k).symm
theorem Lks.trans {s t u : Nat} (h : Lks d s t) (g : Lks d t u) : Lks d s u := fun k => (h k).trans (g k)
theorem Lks.go {s t c : Nat} (h : Lks d s t) (hc : c < d.cuts.length) : Lks d (d.go s c) (d.go t c) := fun k => (h (k + 1)).2 c hc
theorem Lks.acc {s t : Nat} (h : Lks d s t) : d.acc s = d.acc t := h 0
/-- What is told apart by nothing is alike. -/
theorem Lks.of {R : Nat → Nat → Prop} (hok : d.Ok) (ha : ∀ s t, s < d.next.length → t < d.next.length → R s t → d.acc s = d.acc t)
    (hg : ∀ s t c, s < d.next.length → t < d.next.length → c < d.cuts.length → R s t → R (d.go s c) (d.go t c)) {s t : Nat} (hs : s < d.next.length) (ht : t < d.next.length) (h : R s t) : Lks d s t := by
  intro k
  induction k generalizing s t with
  | zero => exact ha s t hs ht h
  | succ k ih =>
    refine ⟨ih hs ht h, fun c hc => ?_⟩
    obtain ⟨_, _, _, _, h1⟩ := hok.cell hs hc
    obtain ⟨_, _, _, _, h2⟩ := hok.cell ht hc
    exact ih h1 h2 (hg s t c hs ht hc h)
/-- When one step more tells nothing apart, none does. -/
theorem Lks.still (hok : d.Ok) {k : Nat} (h : ∀ s t, s < d.next.length → t < d.next.length → Lk d k s t → Lk d (k + 1) s t) {s t : Nat} (hs : s < d.next.length) (ht : t < d.next.length) : Lk d k s t ↔ Lks d s t := by
  refine ⟨fun h1 => ?_, fun h1 => h1 k⟩
  have h0 : ∀ {k s t}, Lk d k s t → d.acc s = d.acc t := fun {k} => by
    induction k with
    | zero => intro s t h; exact h
    | succ k ih => intro s t h; exact ih h.1
  exact Lks.of (R := fun s t => Lk d k s t) hok (fun s t _ _ h => h0 h) (fun s t c hs ht hc h1 => (h s t hs ht h1).2 c hc) hs ht h1
end
/-- The first state alike to one. -/
noncomputable def rep (d : Dfa) (s : Nat) : Nat := leastN fun i => Lks d i s
section
variable {d : Dfa}
theorem rep_alike (s : Nat) : Lks d (rep d s) s := leastN_spec (p := fun i => Lks d i s) ⟨s, Lks.refl s⟩
theorem rep_le {s i : Nat} (h : Lks d i s) : rep d s ≤ i := leastN_le (p := fun i => Lks d i s) h
theorem rep_self (s : Nat) : rep d s ≤ s := rep_le (Lks.refl s)
theorem rep_eq {s t : Nat} (h : Lks d s t) : rep d s = rep d t := Nat.le_antisymm (rep_le ((rep_alike t).trans h.symm)) (rep_le ((rep_alike s).trans h))
theorem alike_of_rep {s t : Nat} (h : rep d s = rep d t) : Lks d s t := ((rep_alike s).symm.trans (h ▸ rep_alike t : Lks d (rep d s) t))
theorem rep_iff {s t : Nat} : rep d s = rep d t ↔ Lks d s t := ⟨alike_of_rep, rep_eq⟩
theorem rep_rep (s : Nat) : rep d (rep d s) = rep d s := rep_eq (rep_alike s)
theorem rep_go {s c : Nat} (hc : c < d.cuts.length) : rep d (d.go (rep d s) c) = rep d (d.go s c) := rep_eq ((rep_alike s).go hc)
end
/-- States met, in the order in which they are met. -/
def addN (l : List Nat) (s : Nat) : List Nat := if s ∈ l then l else l ++ [s]
theorem addN_in {l : List Nat} {s : Nat} (h : s ∈ l) : addN l s = l := by unfold addN; rw [if_pos h]
theorem addN_new {l : List Nat} {s : Nat} (h : s ∉ l) : addN l s = l ++ [s] := by unfold addN; rw [if_neg h]
theorem addN_nodup {l : List Nat} {s : Nat} (h : l.Nodup) : (addN l s).Nodup := by
  unfold addN
  split
  · exact h
  · rename_i hs
    rw [List.nodup_append]
    exact ⟨h, by simp, fun a ha b hb => by simp at hb; subst hb; exact fun e => hs (e ▸ ha)⟩
noncomputable def metRow (d : Dfa) (m : Nat) (met : List Nat) (c : Nat) : List Nat := ((List.range c).foldl (fun l c => addN l (rep d (d.go m c))) met)
theorem metRow_succ (d : Dfa) (m : Nat) (met : List Nat) (c : Nat) : metRow d m met (c + 1) = addN (metRow d m met c) (rep d (d.go m c)) := by simp [metRow, List.range_succ, List.foldl_append]
noncomputable def metF (d : Dfa) : Nat → Nat → List Nat → List Nat
  | 0, _, met => met
  | f + 1, i, met => match met[i]? with
    | none => met
    | some m => metF d f (i + 1) (metRow d m met d.cuts.length)
theorem metF_end {d : Dfa} {f i : Nat} {met : List Nat} (h : met.length ≤ i) : metF d f i met = met := by
  cases f with
  | zero => rfl
  | succ f => unfold metF; rw [List.getElem?_eq_none h]
theorem metF_row {d : Dfa} {f i m : Nat} {met : List Nat} (h : met[i]? = some m) : metF d (f + 1) i met = metF d f (i + 1) (metRow d m met d.cuts.length) := by
  conv => lhs; unfold metF
  rw [h]
/-- What is met: states, each once, each the first of those alike to it. -/
structure MetOk (d : Dfa) (met : List Nat) : Prop where
  nodup : met.Nodup
  lt : ∀ s, s ∈ met → s < d.next.length
  self : ∀ s, s ∈ met → rep d s = s
theorem MetOk.len {d : Dfa} {met : List Nat} (h : MetOk d met) : met.length ≤ d.next.length := by
  have h1 : met.length ≤ (List.range d.next.length).length := List.Nodup.length_le_of_subset h.nodup (fun x hx => List.mem_range.2 (h.lt x hx))
  simpa using h1
theorem MetOk.one {d : Dfa} (h : d.Ok) : MetOk d [rep d 0] := ⟨by simp, fun s hs => by simp at hs; subst hs; have := rep_self (d := d) 0; have := h.n1; omega, fun s hs => by simp at hs; subst hs; exact rep_rep 0⟩
theorem MetOk.add {d : Dfa} {met : List Nat} (h : MetOk d met) {s : Nat} (hs : s < d.next.length) : MetOk d (addN met (rep d s)) := by
  refine ⟨addN_nodup h.nodup, fun t ht => ?_, fun t ht => ?_⟩
  all_goals
    unfold addN at ht
    split at ht
    · first | exact h.lt t ht | exact h.self t ht
    · rcases List.mem_append.1 ht with ht | ht
      · first | exact h.lt t ht | exact h.self t ht
      · simp at ht; subst ht; first | (have := rep_self (d := d) s; omega) | exact rep_rep s
theorem MetOk.row {d : Dfa} (hd : d.Ok) {met : List Nat} (h : MetOk d met) {m : Nat} (hm : m < d.next.length) : ∀ {c : Nat}, c ≤ d.cuts.length → MetOk d (metRow d m met c)
  | 0, _ => h
  | c + 1, hc => by
    rw [metRow_succ]
    obtain ⟨_, _, _, _, h1⟩ := hd.cell hm (show c < d.cuts.length by omega)
    exact (MetOk.row hd h hm (by omega)).add h1
theorem addN_pre (l : List Nat) (s : Nat) : l <+: addN l s := by
  unfold addN
  split
  · exact List.prefix_refl l
  · exact List.prefix_append _ _
theorem metRow_pre (d : Dfa) (m : Nat) (met : List Nat) : ∀ c, met <+: metRow d m met c
  | 0 => List.prefix_refl _
  | c + 1 => by rw [metRow_succ]; exact (metRow_pre d m met c).trans (addN_pre _ _)
theorem metF_ok {d : Dfa} (hd : d.Ok) : ∀ (f i : Nat) (met : List Nat), MetOk d met → MetOk d (metF d f i met)
  | 0, _, _, h => h
  | f + 1, i, met, h => by
    cases hm : met[i]? with
    | none => unfold metF; rw [hm]; exact h
    | some m => rw [metF_row hm]; exact metF_ok hd f _ _ (h.row hd (h.lt m (mem_of_get hm)) (Nat.le_refl _))
/-- All that is met: closed. -/
theorem metF_shut {d : Dfa} (hd : d.Ok) : ∀ (f i : Nat) (met : List Nat), MetOk d met → d.next.length < f + i → (∀ j m, j < i → met[j]? = some m → ∀ c, c < d.cuts.length → rep d (d.go m c) ∈ met) →
    ∀ m, m ∈ metF d f i met → ∀ c, c < d.cuts.length → rep d (d.go m c) ∈ metF d f i met
  | 0, i, met, h, hf, hs => by
    intro m hm c hc
    obtain ⟨j, hj⟩ := List.getElem?_of_mem hm
    exact hs j m (by have := lt_of_get hj; have := h.len; unfold metF at *; omega) hj c hc
  | f + 1, i, met, h, hf, hs => by
    cases hm : met[i]? with
    | none =>
      rw [metF_end (by simpa using hm)]
      intro m hm2 c hc
      obtain ⟨j, hj⟩ := List.getElem?_of_mem hm2
      refine hs j m ?_ hj c hc
      have := lt_of_get hj
      have : met.length ≤ i := by simpa using hm
      omega
    | some m =>
      rw [metF_row hm]
      have hml := h.lt m (mem_of_get hm)
      refine metF_shut hd f (i + 1) _ (h.row hd hml (Nat.le_refl _)) (by omega) fun j m' hj hm' c hc => ?_
      have hpre := metRow_pre d m met d.cuts.length
      have hil := lt_of_get hm
      have hj2 : met[j]? = some m' := by
        obtain ⟨t, ht⟩ := hpre
        rw [← ht, List.getElem?_append_left (by omega)] at hm'
        exact hm'
      by_cases e : j = i
      · subst e
        rw [hm] at hj2
        obtain rfl := Option.some.inj hj2
        have key : ∀ k, c < k → rep d (d.go m c) ∈ metRow d m met k := fun k => by
          induction k with
          | zero => intro h; omega
          | succ k ih =>
            intro hk
            rw [metRow_succ]
            by_cases e : c = k
            · subst e
              unfold addN
              split
              · assumption
              · simp
            · exact (addN_pre _ _).subset (ih (by omega))
        exact key _ hc
      · exact hpre.subset (hs j m' (by omega) hj2 c hc)
noncomputable def metL (d : Dfa) : List Nat := metF d (d.next.length + 1) 0 [rep d 0]
theorem metL_ok {d : Dfa} (h : d.Ok) : MetOk d (metL d) := metF_ok h _ _ _ (MetOk.one h)
theorem metL_shut {d : Dfa} (h : d.Ok) {m : Nat} (hm : m ∈ metL d) {c : Nat} (hc : c < d.cuts.length) : rep d (d.go m c) ∈ metL d := metF_shut h (d.next.length + 1) 0 _ (MetOk.one h) (by omega) (fun j m hj => by omega) m hm c hc
/-- Where classes turn. -/
def TurnsC (d : Dfa) (met : List Nat) (c : Nat) : Prop := c = 0 ∨ ∃ m, m ∈ met ∧ rep d (d.go m c) ≠ rep d (d.go m (c - 1))
noncomputable def clsN (d : Dfa) (met : List Nat) (k : Nat) : List Nat := (List.range k).filter fun c => yes (TurnsC d met c)
theorem clsN_succ (d : Dfa) (met : List Nat) (k : Nat) : clsN d met (k + 1) = if yes (TurnsC d met k) = true then clsN d met k ++ [k] else clsN d met k := by
  unfold clsN
  rw [List.range_succ, List.filter_append]
  by_cases h : TurnsC d met k
  · rw [if_pos (yes_t h)]; simp [yes_t h]
  · rw [if_neg (by rw [yes_f h]; simp)]; simp [yes_f h]
noncomputable def rowN (d : Dfa) (met cls : List Nat) (m : Nat) : List Int := cls.map fun c => (met.idxOf (rep d (d.go m c)) : Int)
/-- The least automaton. -/
noncomputable def leastD (d : Dfa) : Dfa := ⟨(clsN d (metL d) d.cuts.length).map fun c => d.cuts.getD c 0, (metL d).map (rowN d (metL d) (clsN d (metL d) d.cuts.length)), (metL d).map d.acc⟩
end Pv

namespace Pv
open Go Go.RowKit
/-- Two states, and a word that leads to them. -/
structure Pr where
  a : Nat
  b : Nat
  w : List Int
def knownP (l : List Pr) (a b : Nat) : Prop := ∃ x, x ∈ l ∧ x.a = a ∧ x.b = b
open Classical in
noncomputable def addP (l : List Pr) (x : Pr) : List Pr := if knownP l x.a x.b then l else l ++ [x]
theorem addP_in {l : List Pr} {x : Pr} (h : knownP l x.a x.b) : addP l x = l := by unfold addP; rw [if_pos h]
theorem addP_new {l : List Pr} {x : Pr} (h : ¬ knownP l x.a x.b) : addP l x = l ++ [x] := by unfold addP; rw [if_neg h]
theorem addP_pre (l : List Pr) (x : Pr) : l <+: addP l x := by
  unfold addP
  split
  · exact List.prefix_refl l
  · exact List.prefix_append _ _
def nxtPr (d o : Dfa) (x : Pr) (p : Int) : Pr := ⟨d.step x.a p, o.step x.b p, x.w ++ [p]⟩
noncomputable def rowP (d o : Dfa) (x : Pr) (l : List Pr) (ps : List Int) : List Pr := ps.foldl (fun l p => addP l (nxtPr d o x p)) l
theorem rowP_snoc (d o : Dfa) (x : Pr) (l : List Pr) (ps : List Int) (p : Int) : rowP d o x l (ps ++ [p]) = addP (rowP d o x l ps) (nxtPr d o x p) := by simp [rowP, List.foldl_append]
noncomputable def wordF (d o : Dfa) (ps : List Int) : Nat → Nat → List Pr → Option (List Int)
  | 0, _, _ => none
  | f + 1, i, l => match l[i]? with
    | none => none
    | some x => if d.acc x.a = o.acc x.b then wordF d o ps f (i + 1) (rowP d o x l ps) else some x.w
theorem wordF_end {d o : Dfa} {ps : List Int} {f i : Nat} {l : List Pr} (h : l.length ≤ i) : wordF d o ps f i l = none := by
  cases f with
  | zero => rfl
  | succ f => unfold wordF; rw [List.getElem?_eq_none h]
theorem wordF_row {d o : Dfa} {ps : List Int} {f i : Nat} {l : List Pr} {x : Pr} (h : l[i]? = some x) (h2 : d.acc x.a = o.acc x.b) : wordF d o ps (f + 1) i l = wordF d o ps f (i + 1) (rowP d o x l ps) := by
  conv => lhs; unfold wordF
  rw [h]; simp only [if_pos h2]
theorem wordF_word {d o : Dfa} {ps : List Int} {f i : Nat} {l : List Pr} {x : Pr} (h : l[i]? = some x) (h2 : d.acc x.a ≠ o.acc x.b) : wordF d o ps (f + 1) i l = some x.w := by
  unfold wordF; rw [h]; simp only [if_neg h2]
/-- Pairs met: of states that there are, each once. -/
structure PrOk (d o : Dfa) (l : List Pr) : Prop where
  lt : ∀ x, x ∈ l → x.a < d.next.length ∧ x.b < o.next.length
  nodup : (l.map fun x => (x.a, x.b)).Nodup
theorem PrOk.len {d o : Dfa} {l : List Pr} (h : PrOk d o l) : l.length ≤ d.next.length * o.next.length := by
  have h1 : (l.map fun x => x.a * o.next.length + x.b).Nodup := by
    have h2 := h.nodup
    unfold List.Nodup at h2 ⊢
    rw [List.pairwise_map] at h2 ⊢
    refine h2.imp_of_mem fun {x y} hx hy hne e => hne ?_
    have hx2 := (h.lt x hx).2
    have hy2 := (h.lt y hy).2
    have e1 : x.a = y.a := by
      have : (x.a * o.next.length + x.b) / o.next.length = (y.a * o.next.length + y.b) / o.next.length := congrArg (fun n => n / o.next.length) e
      have hp : 0 < o.next.length := by omega
      have dv : ∀ m n : Nat, n < o.next.length → (m * o.next.length + n) / o.next.length = m := fun m n h => by
        rw [Nat.add_comm, Nat.add_mul_div_right _ _ hp, Nat.div_eq_of_lt h, Nat.zero_add]
      rw [dv _ _ hx2, dv _ _ hy2] at this
      exact this
    rw [e1] at e
    rw [e1, show x.b = y.b by omega]
  have h2 : (l.map fun x => x.a * o.next.length + x.b).length ≤ (List.range (d.next.length * o.next.length)).length := List.Nodup.length_le_of_subset h1 fun n hn => by
    obtain ⟨x, hx, rfl⟩ := List.mem_map.1 hn
    have h3 := h.lt x hx
    rw [List.mem_range]
    have : (x.a + 1) * o.next.length ≤ d.next.length * o.next.length := Nat.mul_le_mul_right _ h3.1
    rw [Nat.add_mul] at this
    omega
  simpa using h2
theorem PrOk.one {d o : Dfa} (hd : d.Ok) (ho : o.Ok) : PrOk d o [⟨0, 0, []⟩] := ⟨fun x hx => by simp at hx; subst hx; exact ⟨hd.n1, ho.n1⟩, by simp⟩
theorem PrOk.add {d o : Dfa} {l : List Pr} (h : PrOk d o l) {x : Pr} (ha : x.a < d.next.length) (hb : x.b < o.next.length) : PrOk d o (addP l x) := by
  unfold addP
  split
  · exact h
  · rename_i hn
    refine ⟨fun y hy => ?_, ?_⟩
    · rcases List.mem_append.1 hy with hy | hy
      · exact h.lt y hy
      · simp at hy; subst hy; exact ⟨ha, hb⟩
    · rw [List.map_append, List.nodup_append]
      refine ⟨h.nodup, by simp, fun p hp q hq => ?_⟩
      simp at hq
      subst hq
      rintro rfl
      obtain ⟨y, hy, e⟩ := List.mem_map.1 hp
      injection e with e1 e2
      exact hn ⟨y, hy, e1, e2⟩
/-- The cuts of both, rising, each once. -/
def mergeL : List Int → List Int → List Int
  | [], ys => ys
  | x :: xs, [] => x :: xs
  | x :: xs, y :: ys => if x < y then x :: mergeL xs (y :: ys) else if x = y then y :: mergeL xs ys else y :: mergeL (x :: xs) ys
termination_by xs ys => xs.length + ys.length
noncomputable def wordD (d o : Dfa) : Option (List Int) := wordF d o (mergeL d.cuts o.cuts) (d.next.length * o.next.length + 1) 0 [⟨0, 0, []⟩]
end Pv

namespace Pv
open Go Go.RowKit
/-- The first state alike for k steps; those that are first, among the first j states. -/
noncomputable def fstOf (d : Dfa) (k s : Nat) : Nat := leastN fun t => Lk d k t s
noncomputable def fsts (d : Dfa) (k j : Nat) : List Nat := (List.range j).filter fun s => yes (fstOf d k s = s)
section
variable {d : Dfa}
theorem fstOf_lk (k s : Nat) : Lk d k (fstOf d k s) s := leastN_spec (p := fun t => Lk d k t s) ⟨s, Lk.refl k s⟩
theorem fstOf_le {k s t : Nat} (h : Lk d k t s) : fstOf d k s ≤ t := leastN_le (p := fun t => Lk d k t s) h
theorem fstOf_self (k s : Nat) : fstOf d k s ≤ s := fstOf_le (Lk.refl k s)
theorem fstOf_eq {k s t : Nat} (h : Lk d k s t) : fstOf d k s = fstOf d k t := Nat.le_antisymm (fstOf_le ((fstOf_lk k t).trans h.symm)) (fstOf_le ((fstOf_lk k s).trans h))
theorem lk_of_fst {k s t : Nat} (h : fstOf d k s = fstOf d k t) : Lk d k s t := ((fstOf_lk k s).symm.trans (h ▸ fstOf_lk k t : Lk d k (fstOf d k s) t))
theorem fstOf_fst (k s : Nat) : fstOf d k (fstOf d k s) = fstOf d k s := fstOf_eq (fstOf_lk k s)
theorem fsts_mem {k j s : Nat} : s ∈ fsts d k j ↔ s < j ∧ fstOf d k s = s := by
  unfold fsts
  rw [List.mem_filter, List.mem_range]
  exact ⟨fun ⟨h1, h2⟩ => ⟨h1, of_yes h2⟩, fun ⟨h1, h2⟩ => ⟨h1, yes_t h2⟩⟩
theorem fsts_succ (k j : Nat) : fsts d k (j + 1) = if yes (fstOf d k j = j) = true then fsts d k j ++ [j] else fsts d k j := by
  unfold fsts
  rw [List.range_succ, List.filter_append]
  by_cases h : fstOf d k j = j
  · rw [if_pos (yes_t h)]; simp [yes_t h]
  · rw [if_neg (by rw [yes_f h]; simp)]; simp [yes_f h]
theorem fsts_len (k j : Nat) : (fsts d k j).length ≤ j := by
  have := List.length_filter_le (fun s => yes (fstOf d k s = s)) (List.range j)
  simpa [fsts] using this
theorem fstOf_mem {k j s : Nat} (h : s < j) : fstOf d k s ∈ fsts d k j := fsts_mem.2 ⟨by have := fstOf_self (d := d) k s; omega, fstOf_fst k s⟩
theorem fsts_pre (k j : Nat) : ∀ {m : Nat}, j ≤ m → fsts d k j <+: fsts d k m
  | 0, h => by have : j = 0 := by omega
               subst this; exact List.prefix_refl _
  | m + 1, h => by
    by_cases e : j = m + 1
    · subst e; exact List.prefix_refl _
    · rw [fsts_succ]
      have h1 := fsts_pre k j (m := m) (by omega)
      split
      · exact h1.trans (List.prefix_append _ _)
      · exact h1
/-- A state's part: the number of the first alike to it. -/
noncomputable def prt (d : Dfa) (k j s : Nat) : Nat := (fsts d k j).idxOf (fstOf d k s)
theorem prt_pre {k j m s : Nat} (h : s < j) (hm : j ≤ m) : prt d k m s = prt d k j s := by
  unfold prt
  obtain ⟨t, ht⟩ := fsts_pre (d := d) k j hm
  rw [← ht, List.idxOf_append, if_pos (fstOf_mem h)]
theorem prt_lt {k j s : Nat} (h : s < j) : prt d k j s < (fsts d k j).length := List.idxOf_lt_length_of_mem (fstOf_mem h)
theorem prt_get {k j s : Nat} (h : s < j) : (fsts d k j)[prt d k j s]? = some (fstOf d k s) := by
  unfold prt
  rw [List.getElem?_eq_getElem (List.idxOf_lt_length_of_mem (fstOf_mem h)), List.getElem_idxOf]
theorem prt_iff {k j s t : Nat} (hs : s < j) (ht : t < j) : prt d k j s = prt d k j t ↔ Lk d k s t := by
  constructor
  · intro h
    have h1 := prt_get (d := d) (k := k) hs
    rw [h, prt_get ht] at h1
    exact lk_of_fst (Option.some.inj h1).symm
  · intro h; unfold prt; rw [fstOf_eq h]
theorem fsts_sub (k j : Nat) : List.Sublist (fsts d k j) (fsts d (k + 1) j) := by
  unfold fsts
  have : (List.range j).filter (fun s => yes (fstOf d k s = s)) = ((List.range j).filter (fun s => yes (fstOf d (k + 1) s = s))).filter fun s => yes (fstOf d k s = s) := by
    rw [List.filter_filter]
    refine List.filter_congr fun s _ => ?_
    by_cases h : fstOf d k s = s
    · have h2 : fstOf d (k + 1) s = s := Nat.le_antisymm (fstOf_self _ _) (by have := fstOf_le (fstOf_lk (d := d) (k + 1) s).1; omega)
      rw [yes_t h, yes_t h2]; rfl
    · rw [yes_f h]; rfl
  rw [this]
  exact List.filter_sublist
theorem still_of {k j : Nat} (h : (fsts d (k + 1) j).length = (fsts d k j).length) {s t : Nat} (hs : s < j) (ht : t < j) (hl : Lk d k s t) : Lk d (k + 1) s t := by
  have e : fsts d k j = fsts d (k + 1) j := (fsts_sub k j).eq_of_length h.symm
  have h1 := fstOf_mem (d := d) (k := k + 1) hs
  have h2 := fstOf_mem (d := d) (k := k + 1) ht
  rw [← e] at h1 h2
  have h3 := (fsts_mem.1 h1).2
  have h4 := (fsts_mem.1 h2).2
  have h5 : Lk d k (fstOf d (k + 1) s) (fstOf d (k + 1) t) := ((fstOf_lk (d := d) (k + 1) s).1.trans hl).trans (fstOf_lk (d := d) (k + 1) t).1.symm
  have h6 := fstOf_eq h5
  rw [h3, h4] at h6
  exact lk_of_fst h6
theorem fsts_grow (k j : Nat) : (fsts d k j).length ≤ (fsts d (k + 1) j).length := (fsts_sub k j).length_le
end
/-- What stands for the parts of k steps. -/
structure PartsK (d : Dfa) (k : Nat) (out : List Int) : Prop where
  len : out.length = d.next.length
  iff : ∀ s t, s < d.next.length → t < d.next.length → (out.getD s 0 = out.getD t 0 ↔ Lk d k s t)
/-- What a state tells. -/
noncomputable def keyP (d : Dfa) (out : List Int) (s : Nat) : List Int := out.getD s 0 :: (List.range d.cuts.length).map fun c => out.getD (d.go s c) 0
theorem go_lt {d : Dfa} (h : d.Ok) {s c : Nat} (hs : s < d.next.length) (hc : c < d.cuts.length) : d.go s c < d.next.length := by obtain ⟨_, _, _, _, h1⟩ := h.cell hs hc; exact h1
theorem keyP_iff {d : Dfa} (hd : d.Ok) {k : Nat} {out : List Int} (h : PartsK d k out) {s t : Nat} (hs : s < d.next.length) (ht : t < d.next.length) : keyP d out s = keyP d out t ↔ Lk d (k + 1) s t := by
  unfold keyP
  rw [List.cons.injEq, h.iff s t hs ht]
  refine and_congr Iff.rfl ⟨fun e c hc => ?_, fun e => ?_⟩
  · rw [← h.iff _ _ (go_lt hd hs hc) (go_lt hd ht hc)]
    have h1 := congrArg (fun l => l[c]?) e
    simpa [hc] using h1
  · refine List.map_congr_left fun c hc => ?_
    rw [List.mem_range] at hc
    exact (h.iff _ _ (go_lt hd hs hc) (go_lt hd ht hc)).2 (e c hc)
end Pv

namespace Pv
open Go Go.RowKit
noncomputable def addT (d : Dfa) (st : List Nat) (t : Nat) : List Nat := if rep d t ∈ st.map (rep d) then st else st ++ [t]
noncomputable def rowT (d : Dfa) (s : Nat) (st : List Nat) (c : Nat) : List Nat := (List.range c).foldl (fun l c => addT d l (d.go s c)) st
noncomputable def stF (d : Dfa) : Nat → Nat → List Nat → List Nat
  | 0, _, st => st
  | f + 1, i, st => match st[i]? with
    | none => st
    | some s => stF d f (i + 1) (rowT d s st d.cuts.length)
section
variable {d : Dfa}
theorem addT_in {st : List Nat} {t : Nat} (h : rep d t ∈ st.map (rep d)) : addT d st t = st := by unfold addT; rw [if_pos h]
theorem addT_new {st : List Nat} {t : Nat} (h : rep d t ∉ st.map (rep d)) : addT d st t = st ++ [t] := by unfold addT; rw [if_neg h]
theorem addT_map (st : List Nat) (t : Nat) : (addT d st t).map (rep d) = addN (st.map (rep d)) (rep d t) := by
  by_cases h : rep d t ∈ st.map (rep d)
  · rw [addT_in h, addN_in h]
  · rw [addT_new h, addN_new h, List.map_append]; rfl
theorem rowT_succ (s : Nat) (st : List Nat) (c : Nat) : rowT d s st (c + 1) = addT d (rowT d s st c) (d.go s c) := by simp [rowT, List.range_succ, List.foldl_append]
theorem rowT_map (s : Nat) (st : List Nat) : ∀ c, c ≤ d.cuts.length → (rowT d s st c).map (rep d) = metRow d (rep d s) (st.map (rep d)) c
  | 0, _ => rfl
  | c + 1, hc => by rw [rowT_succ, addT_map, rowT_map s st c (by omega), metRow_succ, rep_go (by omega)]
theorem stF_end {f i : Nat} {st : List Nat} (h : st.length ≤ i) : stF d f i st = st := by
  cases f with
  | zero => rfl
  | succ f => unfold stF; rw [List.getElem?_eq_none h]
theorem stF_row {f i s : Nat} {st : List Nat} (h : st[i]? = some s) : stF d (f + 1) i st = stF d f (i + 1) (rowT d s st d.cuts.length) := by
  conv => lhs; unfold stF
  rw [h]
theorem stF_map : ∀ (f i : Nat) (st : List Nat), (stF d f i st).map (rep d) = metF d f i (st.map (rep d))
  | 0, _, _ => rfl
  | f + 1, i, st => by
    cases h : st[i]? with
    | none =>
      have h1 : st.length ≤ i := by simpa using h
      rw [stF_end h1, metF_end (by simpa using h1)]
    | some s =>
      have h1 : (st.map (rep d))[i]? = some (rep d s) := by simp [h]
      rw [stF_row h, metF_row h1, stF_map, rowT_map _ _ _ (Nat.le_refl _)]
end
/-- The program's states. -/
noncomputable def stA (d : Dfa) : List Nat := stF d (d.next.length + 1) 0 [0]
theorem stA_map (d : Dfa) : (stA d).map (rep d) = metL d := stF_map _ _ _
/-- States that there are, no two of one part. -/
structure StOk (d : Dfa) (st : List Nat) : Prop where
  nodup : (st.map (rep d)).Nodup
  lt : ∀ s, s ∈ st → s < d.next.length
theorem StOk.len {d : Dfa} {st : List Nat} (h : StOk d st) : st.length ≤ d.next.length := by
  have h1 : (st.map (rep d)).length ≤ (List.range d.next.length).length := List.Nodup.length_le_of_subset h.nodup (fun x hx => by
    obtain ⟨s, hs, rfl⟩ := List.mem_map.1 hx
    have h2 := h.lt s hs
    have h3 := rep_self (d := d) s
    exact List.mem_range.2 (by omega))
  simpa using h1
theorem StOk.one {d : Dfa} (h : d.Ok) : StOk d [0] := ⟨by simp, fun s hs => by simp at hs; subst hs; exact h.n1⟩
theorem StOk.add {d : Dfa} {st : List Nat} (h : StOk d st) {t : Nat} (ht : t < d.next.length) : StOk d (addT d st t) := by
  refine ⟨by rw [addT_map]; exact addN_nodup h.nodup, fun s hs => ?_⟩
  unfold addT at hs
  split at hs
  · exact h.lt s hs
  · rcases List.mem_append.1 hs with hs | hs
    · exact h.lt s hs
    · simp at hs; subst hs; exact ht
/-- Where classes turn, asked of the program's states. -/
theorem turns_st {d : Dfa} {c : Nat} (hc : c < d.cuts.length) : TurnsC d (metL d) c ↔ c = 0 ∨ ∃ s, s ∈ stA d ∧ rep d (d.go s c) ≠ rep d (d.go s (c - 1)) := by
  unfold TurnsC
  rw [← stA_map]
  constructor
  · rintro (h | ⟨m, hm, h⟩)
    · exact .inl h
    · obtain ⟨s, hs, rfl⟩ := List.mem_map.1 hm
      exact .inr ⟨s, hs, by rwa [rep_go hc, rep_go (by omega)] at h⟩
  · rintro (h | ⟨s, hs, h⟩)
    · exact .inl h
    · exact .inr ⟨rep d s, List.mem_map.2 ⟨s, hs, rfl⟩, by rw [rep_go hc, rep_go (by omega)]; exact h⟩
theorem row_st {d : Dfa} {st cls : List Nat} {s : Nat} (h : ∀ c, c ∈ cls → c < d.cuts.length) : rowN d st cls (rep d s) = cls.map fun c => (st.idxOf (rep d (d.go s c)) : Int) := by
  unfold rowN
  exact List.map_congr_left fun c hc => by rw [rep_go (h c hc)]
end Pv
