/- Automata that may go many ways, as data: which may be, where states lead, sets of states as rising lists, and as maps' keys. Nothing of a program stands here. -/
import Derived.Test.YtcmmmgblkbbdnaaGreatDoorAuh
import Derived.Test.YtcmmmgblkbbdnaaGreatDoorTi0h
import Derived.Maps.OwnSet
import Derived.Maps.Views
import Derived.Lib.SlKeysI
namespace Pv
open Go Go.RowKit Go.Maps

theorem least_ex {p : Nat → Prop} : ∀ n, p n → ∃ m, p m ∧ ∀ k, p k → m ≤ k := fun n => by
  induction n using Nat.strongRecOn with
  | _ n ih =>
    intro h
    by_cases hk : ∃ k, p k ∧ k < n
    · obtain ⟨k, h1, h2⟩ := hk
      exact ih k h2 h1
    · exact ⟨n, h, fun k h1 => Nat.le_of_not_lt fun h2 => hk ⟨k, h1, h2⟩⟩
/-- the least number that meets a condition -/
noncomputable def leastN (p : Nat → Prop) : Nat := open Classical in if h : ∃ m, p m ∧ ∀ k, p k → m ≤ k then Classical.choose h else 0
theorem leastN_spec {p : Nat → Prop} (h : ∃ n, p n) : p (leastN p) := by
  obtain ⟨n, hn⟩ := h
  have h2 := least_ex n hn
  unfold leastN; rw [dif_pos h2]; exact (Classical.choose_spec h2).1
theorem leastN_le {p : Nat → Prop} {n : Nat} (hn : p n) : leastN p ≤ n := by
  have h2 := least_ex n hn
  unfold leastN; rw [dif_pos h2]; exact (Classical.choose_spec h2).2 n hn

def edgesS (a : Au) : Nat := (a.map List.length).sum
/-- May an automaton be? -/
structure AuOk (a : Au) (acc : Int) : Prop where
  pos : 1 ≤ a.length
  few : a.length ≤ 256
  acc0 : 0 ≤ acc
  acc1 : acc < a.length
  edges : edgesS a ≤ 1024
  each : ∀ es, es ∈ a → ∀ x, x ∈ es → 0 ≤ x.to ∧ x.to < a.length ∧ SetOk x.set ∧ (x.free = true → x.set = [])
noncomputable def auB (a : Au) (acc : Int) : Bool := yes (AuOk a acc)
theorem auB_yes {a : Au} {acc : Int} (h : AuOk a acc) : auB a acc = true := yes_t h
theorem auB_no {a : Au} {acc : Int} (h : ¬ AuOk a acc) : auB a acc = false := yes_f h
noncomputable def auE (a : Au) (acc : Int) : Int := if auB a acc = true then 0 else 8
theorem auE_yes {a : Au} {acc : Int} (h : AuOk a acc) : auE a acc = 0 := by unfold auE; rw [if_pos (auB_yes h)]
theorem auE_no {a : Au} {acc : Int} (h : ¬ AuOk a acc) : auE a acc = 8 := by unfold auE; rw [if_neg (by rw [auB_no h]; simp)]
/-- .. and states of it? -/
def InAu (n : Nat) (l : List Int) : Prop := ∀ s, s ∈ l → 0 ≤ s ∧ s < (n : Int)
noncomputable def askE (a : Au) (acc : Int) (l : List Int) : Int := if auB a acc = true then (if yes (InAu a.length l) = true then 0 else 2) else 8
theorem askE_yes {a : Au} {acc : Int} {l : List Int} (h : AuOk a acc) (h2 : InAu a.length l) : askE a acc l = 0 := by unfold askE; rw [if_pos (auB_yes h), if_pos (yes_t h2)]
theorem askE_out {a : Au} {acc : Int} {l : List Int} (h : AuOk a acc) (h2 : ¬ InAu a.length l) : askE a acc l = 2 := by unfold askE; rw [if_pos (auB_yes h), if_neg (by rw [yes_f h2]; simp)]
theorem askE_no {a : Au} {acc : Int} {l : List Int} (h : ¬ AuOk a acc) : askE a acc l = 8 := by unfold askE; rw [if_neg (by rw [auB_no h]; simp)]

/-- By a free edge; by a number. -/
def FreeTo (a : Au) (s t : Nat) : Prop := ∃ es x, a[s]? = some es ∧ x ∈ es ∧ x.free = true ∧ x.to = (t : Int)
def NumTo (a : Au) (p : Int) (s t : Nat) : Prop := ∃ es x, a[s]? = some es ∧ x ∈ es ∧ x.free = false ∧ InSet x.set p ∧ x.to = (t : Int)
/-- States, and all that free edges lead to. -/
inductive Clo (a : Au) (S : Nat → Prop) : Nat → Prop where
  | base {s : Nat} (h : S s) : Clo a S s
  | step {s t : Nat} (h : Clo a S s) (h2 : FreeTo a s t) : Clo a S t
def Stp (a : Au) (p : Int) (S : Nat → Prop) (t : Nat) : Prop := ∃ s, S s ∧ NumTo a p s t
def Of (l : List Int) (s : Nat) : Prop := (s : Int) ∈ l
theorem Clo.least {a : Au} {S T : Nat → Prop} (h : ∀ s, S s → T s) (hc : ∀ s t, T s → FreeTo a s t → T t) {s : Nat} (hs : Clo a S s) : T s := by
  induction hs with
  | base h1 => exact h _ h1
  | step _ h2 ih => exact hc _ _ ih h2
theorem Clo.is {a : Au} {S T : Nat → Prop} (h : ∀ s, S s → T s) (hc : ∀ s t, T s → FreeTo a s t → T t) (h2 : ∀ s, T s → Clo a S s) (s : Nat) : T s ↔ Clo a S s := ⟨h2 s, Clo.least h hc⟩

/-- A set of states as a rising list. -/
noncomputable def stL (n : Nat) (S : Nat → Prop) : List Int := ((List.range n).filter fun i => yes (S i)).map fun i : Nat => (i : Int)
theorem stL_ext {n : Nat} {S T : Nat → Prop} (h : ∀ s, s < n → (S s ↔ T s)) : stL n S = stL n T := by
  unfold stL
  congr 1
  refine List.filter_congr fun i hi => ?_
  have hi' : i < n := by simpa using hi
  by_cases hs : S i
  · rw [yes_t hs, yes_t ((h i hi').1 hs)]
  · rw [yes_f hs, yes_f fun ht => hs ((h i hi').2 ht)]
theorem stL_mem {n : Nat} {S : Nat → Prop} {x : Int} : x ∈ stL n S ↔ ∃ s : Nat, s < n ∧ S s ∧ x = (s : Int) := by
  unfold stL
  simp only [List.mem_map, List.mem_filter, List.mem_range]
  constructor
  · rintro ⟨s, ⟨h1, h2⟩, rfl⟩; exact ⟨s, h1, of_yes h2, rfl⟩
  · rintro ⟨s, h1, h2, rfl⟩; exact ⟨s, ⟨h1, yes_t h2⟩, rfl⟩
theorem stL_in {n : Nat} {S : Nat → Prop} : InAu n (stL n S) := fun x hx => by obtain ⟨s, h1, _, rfl⟩ := stL_mem.1 hx; omega
theorem stL_of {n : Nat} {S : Nat → Prop} {s : Nat} (h : s < n) : Of (stL n S) s ↔ S s := by
  unfold Of
  rw [stL_mem]
  constructor
  · rintro ⟨t, h1, h2, h3⟩; obtain rfl : s = t := by omega
    exact h2
  · intro h2; exact ⟨s, h, h2, rfl⟩
theorem stL_len (n : Nat) (S : Nat → Prop) : (stL n S).length ≤ n := by
  unfold stL
  rw [List.length_map]
  have := List.length_filter_le (fun i => yes (S i)) (List.range n)
  simpa using this
theorem stL_pair (n : Nat) (S : Nat → Prop) : (stL n S).Pairwise (· < ·) := by
  unfold stL
  rw [List.pairwise_map]
  refine List.Pairwise.filter _ ?_
  exact List.pairwise_lt_range.imp fun h => by omega
/-- A list without doubles, sorted, is its set's rising list. -/
theorem sort_stL {n : Nat} {S : Nat → Prop} {ss : List Int} (hnd : ss.Nodup) (hm : ∀ x, x ∈ ss ↔ x ∈ stL n S) : ss.mergeSort (fun x y => decide (x ≤ y)) = stL n S := by
  have hp : ss.Perm (stL n S) := (List.perm_ext_iff_of_nodup hnd ((stL_pair n S).imp fun h => Int.ne_of_lt h)).2 hm
  have h1 := mergeSort_of_perm_i hp
  show ss.mergeSort leI = _
  rw [h1]
  exact List.mergeSort_of_pairwise ((stL_pair n S).imp fun h => by simp only [leI, decide_eq_true_eq]; omega)

/-- A set of numbers as a map's keys. -/
abbrev litI (x : Int) : Lit := .int .i64 x
def setM (l : List Int) : DataW Unit := setOf (.agg []) (l.map litI)
theorem litI_key (x : Int) : WideAt.IsKeyLit (litI x) := trivial
theorem setM_keys (l : List Int) : ∀ x ∈ l.map litI, WideAt.IsKeyLit x := fun x hx => by obtain ⟨y, _, rfl⟩ := List.mem_map.1 hx; exact litI_key y
theorem sameKey_int (x y : Int) : (litI x).sameKey (litI y) = decide (x = y) := by simp [Lit.sameKey]
theorem setM_has (l : List Int) (x : Int) : Maps.has (setM l) (litI x) = decide (x ∈ l) := by
  unfold setM
  rw [has_setOf _ _ _ (setM_keys l), List.any_map, Bool.eq_iff_iff, List.any_eq_true, decide_eq_true_iff]
  constructor
  · rintro ⟨y, h1, h2⟩
    simp only [Function.comp, sameKey_int, decide_eq_true_eq] at h2
    exact h2 ▸ h1
  · intro h
    exact ⟨x, h, by simp [sameKey_int]⟩
theorem setM_put (l : List Int) (x : Int) : (setM l).put (litI x) (.agg []) = setM (l ++ [x]) := by
  unfold setM
  rw [List.map_append]
  exact (setOf_snoc _ _ _).symm
theorem mem_insert {x y : Lit × DataW Unit} : ∀ {es : List (Lit × DataW Unit)}, y ∈ DataW.insert x es → y = x ∨ y ∈ es
  | [], h => by simp [DataW.insert] at h; exact .inl h
  | z :: es, h => by
    unfold DataW.insert at h
    split at h
    · exact List.mem_cons.1 h
    · rcases List.mem_cons.1 h with h | h
      · exact .inr (by simp [h])
      · rcases mem_insert h with h | h
        · exact .inl h
        · exact .inr (by simp [h])
theorem fold_keys : ∀ (l : List Int) (es : List (Lit × DataW Unit)), (∀ p ∈ es, ∃ x, p.1 = litI x) → ∃ es' : List (Lit × DataW Unit), (l.map litI).foldl (fun (m : DataW Unit) x => m.put x (.agg [])) (.map es) = .map es' ∧ ∀ p ∈ es', ∃ x, p.1 = litI x
  | [], es, h => ⟨es, rfl, h⟩
  | x :: l, es, h => fold_keys l _ fun p hp => by
    rcases mem_insert hp with h1 | h1
    · exact ⟨x, by rw [h1]⟩
    · exact h p (List.mem_filter.1 h1).1
theorem setM_perm (l ss : List Int) (hnd : ss.Nodup) (h : ∀ x, x ∈ ss ↔ x ∈ l) : ss.Perm (intKeys (setM l)) := by
  obtain ⟨es', e, hk⟩ := fold_keys l [] (by simp)
  have e2 : setM l = .map es' := e
  obtain ⟨es2, e3, hp⟩ := tidy_setOf (H := Unit) (.agg []) (l.map litI) (setM_keys l)
  have e4 : setM l = .map es2 := e3
  rw [e2] at e4
  injection e4 with e4
  subst e4
  rw [e2]
  refine perm_intKeys hp hk hnd fun x => ?_
  rw [← e2, show (Lit.int .i64 x) = litI x from rfl, setM_has, h x]
  simp
theorem setM_size (l : List Int) : Maps.size (setM l) ≤ l.length := by
  unfold setM
  have h := size_setOf (H := Unit) (.agg []) (l.map litI) (setM_keys l)
  rw [h]
  have : ∀ (xs acc : List Lit), (xs.foldl addKey acc).length ≤ acc.length + xs.length := by
    intro xs
    induction xs with
    | nil => intro acc; simp
    | cons x xs ih =>
      intro acc
      rw [List.foldl_cons]
      have h1 := ih (addKey acc x)
      have h2 : (addKey acc x).length ≤ acc.length + 1 := by unfold addKey; split <;> simp
      simp only [List.length_cons]
      omega
  have h2 := this (l.map litI) []
  simpa using h2
/-- The keys of a map that holds a set, sorted. -/
theorem setM_sorted {n : Nat} {S : Nat → Prop} {l ss : List Int} (h : ∀ x, x ∈ l ↔ x ∈ stL n S) (hp : ss.Perm (intKeys (setM l))) : ss.mergeSort (fun x y => decide (x ≤ y)) = stL n S := by
  have h1 := setM_perm l (stL n S) ((stL_pair n S).imp fun h => Int.ne_of_lt h) (fun x => (h x).symm)
  have h2 := mergeSort_of_perm_i (hp.trans h1.symm)
  show ss.mergeSort leI = _
  rw [h2]
  exact List.mergeSort_of_pairwise ((stL_pair n S).imp fun h => by simp only [leI, decide_eq_true_eq]; omega)
end Pv

namespace Pv
open Go Go.RowKit

/-- Edges that may be: to states that there are. -/
def GoodA (a : Au) : Prop := ∀ es, es ∈ a → ∀ x, x ∈ es → 0 ≤ x.to ∧ x.to < (a.length : Int) ∧ SetOk x.set ∧ (x.free = true → x.set = [])
theorem GoodA.one : GoodA [[]] := fun es h => by simp at h; subst h; exact fun x h => by simp at h
theorem GoodA.new {a : Au} (h : GoodA a) : GoodA (a ++ [[]]) := fun es he x hx => by
  rcases List.mem_append.1 he with he | he
  · have := h es he x hx
    refine ⟨this.1, ?_, this.2.2⟩
    have h2 := this.2.1
    simp
    omega
  · simp at he; subst he; simp at hx
theorem auEdge_mem {a : Au} {s : Nat} {y : Ed} {es : List Ed} (h : es ∈ auEdge a s y) {x : Ed} (hx : x ∈ es) : x = y ∨ ∃ es', es' ∈ a ∧ x ∈ es' := by
  obtain ⟨u, hu⟩ := List.getElem?_of_mem h
  unfold auEdge at hu
  rw [List.getElem?_modify] at hu
  cases ha : a[u]? with
  | none => rw [ha] at hu; simp at hu
  | some es' =>
    rw [ha] at hu
    by_cases e : s = u
    · subst e
      simp at hu
      subst hu
      rcases List.mem_append.1 hx with hx | hx
      · exact .inr ⟨es', mem_of_get ha, hx⟩
      · simp at hx; exact .inl hx
    · simp [e] at hu
      subst hu
      exact .inr ⟨es', mem_of_get ha, hx⟩
theorem GoodA.edge {a : Au} (h : GoodA a) (s : Nat) {y : Ed} (hy : 0 ≤ y.to ∧ y.to < (a.length : Int) ∧ SetOk y.set ∧ (y.free = true → y.set = [])) : GoodA (auEdge a s y) := fun es he x hx => by
  rw [auEdge_length]
  rcases auEdge_mem he hx with rfl | ⟨es', h1, h2⟩
  · exact hy
  · exact h es' h1 x h2
theorem GoodA.frees {m : Nat} : ∀ (es : List Nat) {a : Au}, GoodA a → m < a.length → GoodA (auFrees m a es)
  | [], _, h, _ => h
  | s :: es, a, h, hm => GoodA.frees es (h.edge s ⟨by simp only; omega, by simp only; omega, SetOk.nil, fun _ => rfl⟩) (by rw [auEdge_length]; exact hm)
theorem GoodA.join {a : Au} (h : GoodA a) (es : List Nat) : GoodA (auJoin a es) := GoodA.frees es h.new (by simp)
theorem edges_new (a : Au) : edgesS (a ++ [[]]) = edgesS a := by simp [edgesS]
theorem edges_edge : ∀ (a : Au) (s : Nat) (x : Ed), s < a.length → edgesS (auEdge a s x) = edgesS a + 1
  | [], s, x, h => by simp at h
  | es :: a, 0, x, _ => by simp [edgesS, auEdge]; omega
  | es :: a, s + 1, x, h => by
    have ih := edges_edge a s x (by simpa using h)
    unfold edgesS auEdge at *
    simp only [List.modify_succ_cons, List.map_cons, List.sum_cons] at *
    omega
theorem edges_frees {m : Nat} : ∀ (es : List Nat) (a : Au), (∀ e, e ∈ es → e < a.length) → edgesS (auFrees m a es) = edgesS a + es.length
  | [], a, _ => rfl
  | s :: es, a, h => by
    rw [auFrees, edges_frees es _ (fun e he => by rw [auEdge_length]; exact h e (by simp [he])), edges_edge _ _ _ (h s (by simp))]
    simp; omega
theorem edges_join (a : Au) (es : List Nat) (h : ∀ e, e ∈ es → e < a.length) : edgesS (auJoin a es) = edgesS a + es.length := by
  unfold auJoin
  rw [edges_frees _ _ (fun e he => by have := h e he; simp; omega), edges_new]
/-- A way of leading that lays fewer than twice c edges, all of which may be. -/
structure LeadE (f : Au → Nat → Au × Nat) (c : Nat) : Prop where
  leads : Leads f c
  edges : ∀ a s, s < a.length → edgesS (f a s).1 + 1 ≤ edgesS a + 2 * c
  good : ∀ a s, s < a.length → GoodA a → GoodA (f a s).1
theorem LeadE.iter {f : Au → Nat → Au × Nat} {c : Nat} (h : LeadE f c) : ∀ (n : Nat) (a : Au) (s : Nat), s < a.length → edgesS (Pv.iter f n a s).1 + n ≤ edgesS a + 2 * (c * n) ∧ (GoodA a → GoodA (Pv.iter f n a s).1)
  | 0, a, s, _ => ⟨by simp [Pv.iter], fun g => g⟩
  | n + 1, a, s, hs => by
    have h1 := h.edges a s hs
    have h2 := h.leads a s hs
    have h3 := LeadE.iter h n (f a s).1 (f a s).2 h2.2
    refine ⟨?_, fun g => h3.2 (h.good a s hs g)⟩
    show edgesS (Pv.iter f n (f a s).1 (f a s).2).1 + (n + 1) ≤ _
    rw [Nat.mul_add]
    omega
theorem LeadE.iters {f : Au → Nat → Au × Nat} {c : Nat} (h : LeadE f c) : ∀ (n : Nat) (a : Au) (s : Nat), s < a.length → edgesS (Pv.iters f n a s).1 + n ≤ edgesS a + 2 * (c * n) ∧ (GoodA a → GoodA (Pv.iters f n a s).1)
  | 0, a, s, _ => ⟨by simp [Pv.iters], fun g => g⟩
  | n + 1, a, s, hs => by
    have h1 := h.edges a s hs
    have h2 := h.leads a s hs
    have h3 := LeadE.iters h n (f a s).1 (f a s).2 h2.2
    refine ⟨?_, fun g => h3.2 (h.good a s hs g)⟩
    show edgesS (Pv.iters f n (f a s).1 (f a s).2).1 + (n + 1) ≤ _
    rw [Nat.mul_add]
    omega
mutual
theorem leadT_e : ∀ (T : Tr) (d : Nat), T.Ok d → LeadE (leadT T) (statesT T)
  | .mk x ks, d, hok => by
    have hone := hok.one
    have hlen := hok.len
    have hkids := fun k hk => hok.kid (k := k) hk
    refine ⟨leadT_leads _, fun a s hs => ?_, fun a s hs g => ?_⟩
    · rw [leadT, statesT]
      by_cases h0 : x.kind = 0
      · rw [if_pos h0, if_pos h0]
        show edgesS (auJoin a [s]) + 1 ≤ _
        rw [edges_join _ _ (fun e he => by simp at he; omega)]
        simp
      rw [if_neg h0, if_neg h0]
      by_cases h1 : x.kind = 1
      · rw [if_pos h1, if_pos h1, edges_edge _ _ _ (by simp; omega), edges_new]
        omega
      rw [if_neg h1, if_neg h1]
      by_cases h2 : x.kind = 2
      · rw [if_pos h2, if_pos h2]
        have := (leadCat_e ks (d - 1) hkids a s hs).1
        have hk : 2 ≤ x.many := by rcases hone with h | h | h | h <;> omega
        omega
      rw [if_neg h2, if_neg h2]
      by_cases h3 : x.kind = 3
      · rw [if_pos h3, if_pos h3]
        obtain ⟨q1, q2, q3, _⟩ := leadAlt_e ks (d - 1) hkids a s hs
        show edgesS (auJoin (leadAlt ks a s).1 (leadAlt ks a s).2) + 1 ≤ _
        rw [edges_join _ _ q2, q3]
        omega
      rw [if_neg h3, if_neg h3]
      have hk : x.many = 1 ∧ 0 ≤ x.least ∧ (x.most < 0 ∨ x.least ≤ x.most) := by rcases hone with h | h | h | h <;> omega
      obtain ⟨k, rfl⟩ : ∃ k, ks = [k] := by
        cases ks with
        | nil => simp at hlen; omega
        | cons k r => cases r with
          | nil => exact ⟨k, rfl⟩
          | cons => simp at hlen; omega
      have hf : leadHd [k] = leadT k := by funext a s; rw [leadHd]
      have hs' : statesH [k] = statesT k := by rw [statesH]
      have he := leadT_e k (d - 1) (hkids k (by simp))
      rw [hf, hs']
      have hi := he.iter x.least.toNat a s hs
      have hl := (Leads.iter he.leads x.least.toNat) a s hs
      by_cases hm : x.most < 0
      · rw [if_pos hm, timesOf, if_pos hm]
        generalize Pv.iter (leadT k) x.least.toNat a s = r at hi hl
        have e1 := edges_join r.1 [r.2] (fun e he => by simp at he; subst he; exact hl.2)
        have e2 := he.edges (auJoin r.1 [r.2]) r.1.length (by rw [auJoin_length]; omega)
        have e3 := he.leads (auJoin r.1 [r.2]) r.1.length (by rw [auJoin_length]; omega)
        show edgesS (auEdge _ _ _) + 1 ≤ _
        rw [edges_edge _ _ _ e3.2]
        rw [Nat.mul_add (statesT k) x.least.toNat 1]
        simp at e1
        omega
      · rw [if_neg hm, timesOf, if_neg hm]
        generalize Pv.iter (leadT k) x.least.toNat a s = r at hi hl
        have e1 := he.iters (x.most - x.least).toNat r.1 r.2 hl.2
        have e2 := Leads.iters he.leads (x.most - x.least).toNat r.1 r.2 hl.2
        show edgesS (auJoin _ _) + 1 ≤ _
        rw [edges_join _ _ e2.2, iters_len, Nat.mul_add (statesT k) x.least.toNat (x.most - x.least).toNat]
        omega
    · rw [leadT]
      by_cases h0 : x.kind = 0
      · rw [if_pos h0]; exact g.join _
      rw [if_neg h0]
      by_cases h1 : x.kind = 1
      · rw [if_pos h1]
        have hset : SetOk x.set := by
          rcases hone with h | h | h | h
          all_goals first | exact h.2.1 | (exfalso; omega) | skip
        exact (g.new).edge s ⟨by simp only; omega, by simp; omega, hset, fun h => by simp at h⟩
      rw [if_neg h1]
      by_cases h2 : x.kind = 2
      · rw [if_pos h2]; exact (leadCat_e ks (d - 1) hkids a s hs).2.2 g
      rw [if_neg h2]
      by_cases h3 : x.kind = 3
      · rw [if_pos h3]; exact ((leadAlt_e ks (d - 1) hkids a s hs).2.2.2 g).join _
      rw [if_neg h3]
      have hk : x.many = 1 := by rcases hone with h | h | h | h <;> omega
      obtain ⟨k, rfl⟩ : ∃ k, ks = [k] := by
        cases ks with
        | nil => simp at hlen; omega
        | cons k r => cases r with
          | nil => exact ⟨k, rfl⟩
          | cons => simp at hlen; omega
      have hf : leadHd [k] = leadT k := by funext a s; rw [leadHd]
      have he := leadT_e k (d - 1) (hkids k (by simp))
      rw [hf]
      have hi := he.iter x.least.toNat a s hs
      have hl := (Leads.iter he.leads x.least.toNat) a s hs
      by_cases hm : x.most < 0
      · rw [if_pos hm]
        generalize Pv.iter (leadT k) x.least.toNat a s = r at hi hl
        have e3 := he.leads (auJoin r.1 [r.2]) r.1.length (by rw [auJoin_length]; omega)
        have g2 := he.good (auJoin r.1 [r.2]) r.1.length (by rw [auJoin_length]; omega) ((hi.2 g).join _)
        rw [auJoin_length] at e3
        exact g2.edge _ ⟨by simp only; omega, by simp only; omega, SetOk.nil, fun _ => rfl⟩
      · rw [if_neg hm]
        generalize Pv.iter (leadT k) x.least.toNat a s = r at hi hl
        exact ((he.iters (x.most - x.least).toNat r.1 r.2 hl.2).2 (hi.2 g)).join _
theorem leadCat_e : ∀ (ks : List Tr) (d : Nat), (∀ k, k ∈ ks → k.Ok d) → ∀ a s, s < a.length → edgesS (leadCat ks a s).1 + ks.length ≤ edgesS a + 2 * statesL ks ∧ (leadCat ks a s).2 < (leadCat ks a s).1.length ∧ (GoodA a → GoodA (leadCat ks a s).1)
  | [], _, _, a, s, hs => by rw [leadCat, statesL]; exact ⟨by simp, hs, fun g => g⟩
  | k :: ks, d, h, a, s, hs => by
    have h0 := leadT_e k d (h k (by simp))
    have h1 := h0.leads a s hs
    have h2 := h0.edges a s hs
    obtain ⟨h3, h4, h5⟩ := leadCat_e ks d (fun x hx => h x (by simp [hx])) (leadT k a s).1 (leadT k a s).2 h1.2
    rw [leadCat, statesL]
    refine ⟨by simp only [List.length_cons]; omega, h4, fun g => h5 (h0.good a s hs g)⟩
theorem leadAlt_e : ∀ (ks : List Tr) (d : Nat), (∀ k, k ∈ ks → k.Ok d) → ∀ a s, s < a.length → edgesS (leadAlt ks a s).1 + ks.length ≤ edgesS a + 2 * statesL ks ∧ (∀ e, e ∈ (leadAlt ks a s).2 → e < (leadAlt ks a s).1.length) ∧ (leadAlt ks a s).2.length = ks.length ∧ (GoodA a → GoodA (leadAlt ks a s).1)
  | [], _, _, a, s, hs => by rw [leadAlt, statesL]; exact ⟨by simp, fun e he => by simp at he, rfl, fun g => g⟩
  | k :: ks, d, h, a, s, hs => by
    have h0 := leadT_e k d (h k (by simp))
    have h1 := h0.leads a s hs
    have h2 := h0.edges a s hs
    obtain ⟨h3, h4, h5, h6⟩ := leadAlt_e ks d (fun x hx => h x (by simp [hx])) (leadT k a s).1 s (by omega)
    have hle : (leadT k a s).1.length ≤ (leadAlt ks (leadT k a s).1 s).1.length := by have := (leadAlt_leads ks (leadT k a s).1 s (by omega)).1; omega
    rw [leadAlt, statesL]
    refine ⟨by simp only [List.length_cons]; omega, fun e he => ?_, by simp [h5], fun g => h6 (h0.good a s hs g)⟩
    simp only [List.mem_cons] at he
    rcases he with rfl | he
    · simp only; omega
    · exact h4 e he
end
/-- THE AUTOMATON of a pattern that has not too many states may be. -/
theorem lead_ok {T : Tr} {d : Nat} (h : T.Ok d) (hf : 1 + statesT T ≤ 256) : AuOk (leadT T [[]] 0).1 ((leadT T [[]] 0).2 : Nat) := by
  have he := leadT_e T d h
  have h1 := he.leads [[]] 0 (by simp)
  have h2 := he.edges [[]] 0 (by simp)
  have h3 := he.good [[]] 0 (by simp) GoodA.one
  have e0 : edgesS [[]] = 0 := by simp [edgesS]
  simp only [List.length_cons, List.length_nil, Nat.zero_add] at h1
  exact ⟨by omega, by omega, by omega, by have := h1.2; omega, by omega, fun es hes x hx => h3 es hes x hx⟩
end Pv
