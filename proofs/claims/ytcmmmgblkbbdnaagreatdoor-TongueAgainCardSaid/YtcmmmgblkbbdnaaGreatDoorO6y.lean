/- Twins that can be reckoned: closures, steps, the automaton that goes one way, the least one. Nothing of a program stands here. -/
import Derived.Test.YtcmmmgblkbbdnaaGreatDoorFry
import Derived.Test.YtcmmmgblkbbdnaaGreatDoorGby
namespace Pv
open Go Go.RowKit

def inC (s : List Rng) (p : Int) : Bool := s.any fun r => decide (r.lo ≤ p) && decide (p ≤ r.hi)
def freeC (a : Au) (s : Nat) : List Nat := ((a.getD s []).filter fun x => x.free).map fun x => x.to.toNat
def numC (a : Au) (p : Int) (s : Nat) : List Nat := ((a.getD s []).filter fun x => !x.free && inC x.set p).map fun x => x.to.toNat
/-- All that some states lead to by free edges (those under way, those seen). -/
def cloC (a : Au) : Nat → List Nat → List Nat → List Nat
  | 0, _, seen => seen
  | _ + 1, [], seen => seen
  | f + 1, s :: todo, seen => if seen.contains s then cloC a f todo seen else cloC a f (freeC a s ++ todo) (s :: seen)
def shutC (a : Au) (l r : List Nat) : Bool := l.all (fun s => r.contains s) && r.all fun s => (freeC a s).all fun t => r.contains t
/-- Where edges lead is told by natural numbers. -/
def toOk (a : Au) : Bool := a.all fun es => es.all fun x => decide (0 ≤ x.to)
section
variable {a : Au}
theorem toOk_at (h : toOk a = true) {s : Nat} {es : List Ed} {x : Ed} (hs : a[s]? = some es) (hx : x ∈ es) : 0 ≤ x.to := by
  unfold toOk at h
  have := List.all_eq_true.1 (List.all_eq_true.1 h es (List.mem_of_getElem? hs)) x hx
  simpa using this
theorem freeC_iff (h : toOk a = true) {s t : Nat} : t ∈ freeC a s ↔ FreeTo a s t := by
  unfold freeC FreeTo
  simp only [List.mem_map, List.mem_filter]
  constructor
  · rintro ⟨x, ⟨h1, h2⟩, h3⟩
    cases hs : a[s]? with
    | none => simp [List.getD, hs] at h1
    | some es =>
      rw [getD_of hs] at h1
      have := toOk_at h hs h1
      exact ⟨es, x, rfl, h1, h2, by omega⟩
  · rintro ⟨es, x, h1, h2, h3, h4⟩
    exact ⟨x, ⟨by rw [getD_of h1]; exact h2, h3⟩, by omega⟩
theorem inC_iff (s : List Rng) (p : Int) : inC s p = true ↔ InSet s p := by
  unfold inC InSet
  simp only [List.any_eq_true, Bool.and_eq_true, decide_eq_true_eq]
  constructor
  · rintro ⟨r, h1, h2, h3⟩
    obtain ⟨i, hi⟩ := List.getElem?_of_mem h1
    exact ⟨i, r, hi, h2, h3⟩
  · rintro ⟨i, r, h1, h2, h3⟩
    exact ⟨r, List.mem_of_getElem? h1, h2, h3⟩
theorem numC_iff (h : toOk a = true) {p : Int} {s t : Nat} : t ∈ numC a p s ↔ NumTo a p s t := by
  unfold numC NumTo
  simp only [List.mem_map, List.mem_filter, Bool.and_eq_true, Bool.not_eq_true', inC_iff]
  constructor
  · rintro ⟨x, ⟨h1, h2, h2'⟩, h3⟩
    cases hs : a[s]? with
    | none => simp [List.getD, hs] at h1
    | some es =>
      rw [getD_of hs] at h1
      have := toOk_at h hs h1
      exact ⟨es, x, rfl, h1, h2, h2', by omega⟩
  · rintro ⟨es, x, h1, h2, h3, h3', h4⟩
    exact ⟨x, ⟨by rw [getD_of h1]; exact h2, h3, h3'⟩, by omega⟩
theorem cloC_sub (h : toOk a = true) {S : Nat → Prop} : ∀ (f : Nat) (todo seen : List Nat), (∀ s, s ∈ todo → Clo a S s) → (∀ s, s ∈ seen → Clo a S s) → ∀ s, s ∈ cloC a f todo seen → Clo a S s
  | 0, _, _, _, h2, s, hs => h2 s hs
  | _ + 1, [], _, _, h2, s, hs => h2 s hs
  | f + 1, x :: todo, seen, h1, h2, s, hs => by
    unfold cloC at hs
    split at hs
    · exact cloC_sub h f todo seen (fun y hy => h1 y (by simp [hy])) h2 s hs
    · refine cloC_sub h f _ _ (fun y hy => ?_) (fun y hy => ?_) s hs
      · rcases List.mem_append.1 hy with hy | hy
        · exact .step (h1 x (by simp)) ((freeC_iff h).1 hy)
        · exact h1 y (by simp [hy])
      · rcases List.mem_cons.1 hy with rfl | hy
        · exact h1 _ (by simp)
        · exact h2 y hy
theorem cloC_is (h : toOk a = true) {l r : List Nat} (hr : cloC a 100000 l [] = r) (hs : shutC a l r = true) (s : Nat) : s ∈ r ↔ Clo a (fun s => s ∈ l) s := by
  unfold shutC at hs
  simp only [Bool.and_eq_true, List.all_eq_true, List.contains_iff_mem] at hs
  refine Clo.is (T := fun s => s ∈ r) hs.1 (fun x y hx hxy => hs.2 x hx y ((freeC_iff h).2 hxy)) (fun x hx => ?_) s
  rw [← hr] at hx
  exact cloC_sub h _ _ _ (fun y hy => .base hy) (fun y hy => by simp at hy) x hx
end
/-- Some states as a rising list: those of which it is told. -/
def lstC (n : Nat) (r : List Nat) : List Int := ((List.range n).filter fun i => r.contains i).map fun i : Nat => (i : Int)
theorem lstC_is {n : Nat} {r : List Nat} {S : Nat → Prop} (h : ∀ s, s ∈ r ↔ S s) : lstC n r = stL n S := by
  unfold lstC stL
  congr 1
  refine List.filter_congr fun i _ => ?_
  by_cases hi : S i
  · rw [yes_t hi]; simpa using (h i).2 hi
  · rw [yes_f hi]
    have : i ∉ r := fun e => hi ((h i).1 e)
    simpa using this
/-- Where some states come to by a number, all free edges gone; none: not reckoned through. -/
def shutL (a : Au) (l : List Nat) : Option (List Int) := if shutC a l (cloC a 100000 l []) then some (lstC a.length (cloC a 100000 l [])) else none
theorem shutL_is {a : Au} (h : toOk a = true) {l : List Nat} {r : List Int} {S : Nat → Prop} (hS : ∀ s, s ∈ l ↔ S s) (hr : shutL a l = some r) : stL a.length (Clo a S) = r := by
  unfold shutL at hr
  split at hr
  · rename_i hs
    obtain rfl := Option.some.inj hr
    have e : S = fun s => s ∈ l := funext fun s => propext (hS s).symm
    rw [e]
    exact (lstC_is (cloC_is h rfl hs)).symm
  · cases hr
def stepC (a : Au) (l : List Int) (p : Int) : Option (List Int) := shutL a (l.flatMap fun s => numC a p s.toNat)
theorem stepC_is {a : Au} (h : toOk a = true) {l : List Int} {p : Int} {r : List Int} (hl : ∀ s, s ∈ l → 0 ≤ s) (hr : stepC a l p = some r) : stepS a l p = r := by
  refine shutL_is h (fun t => ?_) hr
  simp only [List.mem_flatMap]
  unfold Stp Of
  constructor
  · rintro ⟨s, h1, h2⟩
    have := hl s h1
    exact ⟨s.toNat, by rw [Int.toNat_of_nonneg this]; exact h1, (numC_iff h).1 h2⟩
  · rintro ⟨s, h1, h2⟩
    exact ⟨(s : Int), h1, by simpa using (numC_iff h).2 h2⟩
theorem lstC_nn {n : Nat} {r : List Nat} : ∀ s, s ∈ lstC n r → 0 ≤ s := fun s hs => by
  obtain ⟨i, _, rfl⟩ := List.mem_map.1 hs
  omega
end Pv

namespace Pv
open Go Go.RowKit
theorem rowM_mono {a : Au} {l : List Int} : ∀ (cs row : List Int) (all : List (List Int)) (row' : List Int) (all' : List (List Int)), rowM a l cs row all = some (row', all') → all.length ≤ all'.length
  | [], row, all, row', all', e => by
    unfold rowM at e
    injection e with e
    injection e with e1 e2
    subst e2
    omega
  | c :: cs, row, all, row', all', e => by
    by_cases h64 : 64 < (addS all (stepS a l c)).length
    · rw [rowM_many h64] at e; cases e
    · rw [rowM_next (by omega)] at e
      have h1 := rowM_mono cs _ _ _ _ e
      have h2 := addS_len all (stepS a l c)
      omega
theorem rowM_in {a : Au} {l : List Int} : ∀ (cs row : List Int) (all : List (List Int)) (row' : List Int) (all' : List (List Int)), rowM a l cs row all = some (row', all') → (∀ y, y ∈ row → 0 ≤ y ∧ y < (all.length : Int)) → ∀ y, y ∈ row' → 0 ≤ y ∧ y < (all'.length : Int)
  | [], row, all, row', all', e, h => by
    unfold rowM at e
    injection e with e
    injection e with e1 e2
    subst e1; subst e2
    exact h
  | c :: cs, row, all, row', all', e, h => by
    by_cases h64 : 64 < (addS all (stepS a l c)).length
    · rw [rowM_many h64] at e; cases e
    · rw [rowM_next (by omega)] at e
      refine rowM_in cs _ _ row' all' e fun y hy => ?_
      have h2 := addS_len all (stepS a l c)
      rcases List.mem_append.1 hy with hy | hy
      · have := h y hy; omega
      · simp at hy
        have := numS_lt all (stepS a l c)
        omega
theorem mkM_in {a : Au} {acc : Int} {cuts : List Int} : ∀ (f : Nat) (all rows : List (List Int)) (accs : List Bool) (rows' : List (List Int)) (accs' : List Bool), mkM a acc cuts f all rows accs = some (rows', accs') → rows.length ≤ all.length → (∀ r, r ∈ rows → ∀ y, y ∈ r → 0 ≤ y ∧ y < (all.length : Int)) → all.length ≤ rows'.length ∧ ∀ r, r ∈ rows' → ∀ y, y ∈ r → 0 ≤ y ∧ y < (rows'.length : Int)
  | 0, _, _, _, _, _, e, _, _ => by unfold mkM at e; cases e
  | f + 1, all, rows, accs, rows', accs', e, hr, h => by
    cases hx : all[rows.length]? with
    | none =>
      unfold mkM at e
      rw [hx] at e
      injection e with e
      injection e with e1 e2
      subst e1; subst e2
      have hge : all.length ≤ rows.length := by simpa using hx
      have he : all.length = rows.length := by omega
      exact ⟨hge, fun r hm y hy => by have := h r hm y hy; omega⟩
    | some l =>
      rw [mkM_row hx] at e
      cases hy : rowM a l cuts [] all with
      | none => rw [hy] at e; cases e
      | some q =>
        obtain ⟨row, all'⟩ := q
        rw [hy] at e
        have hmono := rowM_mono _ _ _ _ _ hy
        have hin := rowM_in _ _ _ _ _ hy (fun y hy => by simp at hy)
        have hlt := lt_of_get hx
        obtain ⟨k1, k2⟩ := mkM_in f all' _ _ rows' accs' e (by simp; omega) fun r hm z hz => by
          rcases List.mem_append.1 hm with hm | hm
          · have := h r hm z hz; omega
          · simp at hm; rw [hm] at hz; exact hin z hz
        exact ⟨by omega, k2⟩
theorem madeM_in {a : Au} {acc : Int} {cuts : List Int} {rows : List (List Int)} {accs : List Bool} (e : madeM a acc cuts = some (rows, accs)) : 1 ≤ rows.length ∧ ∀ r, r ∈ rows → ∀ y, y ∈ r → 0 ≤ y ∧ y < (rows.length : Int) := by
  obtain ⟨h1, h2⟩ := mkM_in 70 _ _ _ _ _ e (by simp) (fun r hr => by simp at hr)
  exact ⟨by simpa using h1, h2⟩
theorem Out.ok {a : Au} {acc : Int} {D : Dfa} (h : Out a acc D 0) : D.Ok := by
  generalize hc : (0 : Int) = code at h
  cases h with
  | bad h => exfalso; cases h <;> omega
  | made h g =>
    obtain ⟨b1, b2, b3⟩ := madeM_bd g
    obtain ⟨m1, m2⟩ := madeM_in g
    have hS := allSets_ok h.ok
    obtain ⟨l, hl⟩ := plcL_head hS
    have hr := plcL_rise (allSets a)
    refine ⟨by simp only [hl]; simp, h.p, by simp only [hl]; simp, m1, b2, b3, fun i x y hx hy => ⟨?_, (plcL_in hS (mem_of_get hy)).2⟩, fun i r hi => (b1.each r (mem_of_get hi)).2, fun i r hi j x hj => m2 r (mem_of_get hi) x (mem_of_get hj)⟩
    have h1 := lt_of_get hx; have h2 := lt_of_get hy
    have e1 := (List.getElem?_eq_some_iff.1 hx).2; have e2 := (List.getElem?_eq_some_iff.1 hy).2
    have := List.pairwise_iff_getElem.1 hr i (i + 1) h1 h2 (by omega)
    simp only at e1 e2
    rw [e1, e2] at this
    exact this
end Pv

namespace Pv
open Go Go.RowKit

theorem lastLe_spec {cuts : List Int} {n : Int} (h0 : cuts.getD 0 0 ≤ n) : ∀ k, 0 < k → cuts.getD (lastLe cuts n k) 0 ≤ n ∧ ∀ j, j < k → cuts.getD j 0 ≤ n → j ≤ lastLe cuts n k
  | 0, h => by omega
  | k + 1, _ => by
    unfold lastLe
    split
    · rename_i h; exact ⟨h, fun j hj _ => by omega⟩
    · rename_i h
      rcases Nat.eq_zero_or_pos k with h1 | h1
      · subst h1; exact absurd h0 h
      · obtain ⟨h2, h3⟩ := lastLe_spec h0 k h1
        refine ⟨h2, fun j hj hn => ?_⟩
        by_cases e : j = k
        · subst e; exact absurd hn h
        · exact h3 j (by omega) hn
/-- The cut that a number lies behind. -/
theorem cut_of {cuts : List Int} (hr : Rise cuts) {l : List Int} (hl : cuts = 0 :: l) {p : Int} (hp : 0 ≤ p) : ∃ q, cuts[lastLe cuts p cuts.length]? = some q ∧ q ≤ p ∧ ∀ x, x ∈ cuts → x ≤ p → x ≤ q := by
  have hpos : 0 < cuts.length := by rw [hl]; simp
  obtain ⟨h1, h2⟩ := lastLe_spec (cuts := cuts) (n := p) (by rw [hl]; simpa using hp) cuts.length hpos
  have hlt := lastLe_lt cuts p cuts.length hpos
  have e : cuts[lastLe cuts p cuts.length]? = some (cuts[lastLe cuts p cuts.length]'hlt) := List.getElem?_eq_getElem hlt
  rw [getD_of e] at h1
  refine ⟨_, e, h1, fun x hx hxp => ?_⟩
  obtain ⟨j, hj, rfl⟩ := List.mem_iff_getElem.1 hx
  have := h2 j hj (by rw [getD_of (List.getElem?_eq_getElem hj)]; exact hxp)
  rcases Nat.lt_or_ge j (lastLe cuts p cuts.length) with h3 | h3
  · exact Int.le_of_lt (List.pairwise_iff_getElem.1 hr j _ hj hlt h3)
  · obtain rfl : j = lastLe cuts p cuts.length := by omega
    exact Int.le_refl _
/-- Numbers between two cuts go alike. -/
theorem inSet_cut {S : List (List Rng)} {p q : Int} (hp : p ≤ 1114111) (hqp : q ≤ p) (hq : ∀ x, x ∈ plcL S → x ≤ p → x ≤ q) {s : List Rng} (hs : s ∈ S) : InSet s p ↔ InSet s q := by
  constructor
  · rintro ⟨i, r, hi, h1, h2⟩
    have hm : r.lo ∈ plcL S := plcL_mem.2 ⟨.inr ⟨s, hs, r, mem_of_get hi, .inl rfl⟩, by omega⟩
    have := hq _ hm h1
    exact ⟨i, r, hi, this, by omega⟩
  · rintro ⟨i, r, hi, h1, h2⟩
    refine ⟨i, r, hi, by omega, ?_⟩
    rcases (show r.hi < p ∨ p ≤ r.hi by omega) with h3 | h3
    · have hm : r.hi + 1 ∈ plcL S := plcL_mem.2 ⟨.inr ⟨s, hs, r, mem_of_get hi, .inr rfl⟩, by omega⟩
      have := hq _ hm (by omega)
      omega
    · exact h3
theorem mem_allSets {a : Au} {s : Nat} {es : List Ed} {x : Ed} (hs : a[s]? = some es) (hx : x ∈ es) (hf : x.free = false) : x.set ∈ allSets a := by
  unfold allSets rowSets
  simp only [List.mem_flatMap, List.mem_map, List.mem_filter]
  exact ⟨es, mem_of_get hs, x, ⟨hx, by simp [hf]⟩, rfl⟩
theorem stepS_cut {a : Au} {l : List Int} {p q : Int} (hp : p ≤ 1114111) (hqp : q ≤ p) (hq : ∀ x, x ∈ plcL (allSets a) → x ≤ p → x ≤ q) : stepS a l p = stepS a l q := by
  unfold stepS
  have e : Stp a p (Of l) = Stp a q (Of l) := by
    funext t
    refine propext ?_
    unfold Stp NumTo
    constructor
    · rintro ⟨s, h1, es, x, h2, h3, h4, h5, h6⟩
      exact ⟨s, h1, es, x, h2, h3, h4, (inSet_cut hp hqp hq (mem_allSets h2 h3 h4)).1 h5, h6⟩
    · rintro ⟨s, h1, es, x, h2, h3, h4, h5, h6⟩
      exact ⟨s, h1, es, x, h2, h3, h4, (inSet_cut hp hqp hq (mem_allSets h2 h3 h4)).2 h5, h6⟩
  rw [e]
theorem pre_get {α : Type} {l m : List α} (h : l <+: m) {i : Nat} {x : α} (hx : l[i]? = some x) : m[i]? = some x := by
  obtain ⟨t, rfl⟩ := h
  rw [List.getElem?_append_left (lt_of_get hx)]; exact hx
theorem addS_pre (all : List (List Int)) (l : List Int) : all <+: addS all l := by
  by_cases h : l ∈ all
  · rw [addS_in h]; exact List.prefix_refl _
  · rw [addS_new h]; exact List.prefix_append _ _
theorem addS_mem (all : List (List Int)) (l : List Int) : l ∈ addS all l := by
  by_cases h : l ∈ all
  · rw [addS_in h]; exact h
  · rw [addS_new h]; simp
theorem numS_pre {all all' : List (List Int)} (h : all <+: all') {l : List Int} (hl : l ∈ addS all l) (h2 : addS all l <+: all') : numS all l = numS all' l := by
  obtain ⟨t, rfl⟩ := h2
  unfold numS
  rw [List.idxOf_append, if_pos hl]
  by_cases hm : l ∈ all
  · rw [addS_in hm]
  · rw [addS_new hm, List.idxOf_append, if_neg hm, List.idxOf_eq_length hm]
    simp
/-- A row that is made, held against all states that there are in the end. -/
theorem rowM_row {a : Au} {l : List Int} : ∀ (cs row : List Int) (all : List (List Int)) (row' : List Int) (all' : List (List Int)), rowM a l cs row all = some (row', all') → all <+: all' ∧ (∀ c, c ∈ cs → stepS a l c ∈ all') ∧ row' = row ++ cs.map fun c => (numS all' (stepS a l c) : Int)
  | [], row, all, row', all', e => by
    unfold rowM at e
    injection e with e
    injection e with e1 e2
    subst e1; subst e2
    exact ⟨List.prefix_refl _, by simp, by simp⟩
  | c :: cs, row, all, row', all', e => by
    by_cases h64 : 64 < (addS all (stepS a l c)).length
    · rw [rowM_many h64] at e; cases e
    · rw [rowM_next (by omega)] at e
      obtain ⟨h1, h2, h3⟩ := rowM_row cs _ _ _ _ e
      have h0 := (addS_pre all (stepS a l c)).trans h1
      refine ⟨h0, fun x hx => ?_, ?_⟩
      · rcases List.mem_cons.1 hx with rfl | hx
        · exact h1.subset (addS_mem _ _)
        · exact h2 x hx
      · rw [h3, List.map_cons, numS_pre h0 (addS_mem _ _) h1]
        simp
theorem numS_grow {all all' : List (List Int)} (h : all <+: all') {l : List Int} (hl : l ∈ all) : numS all l = numS all' l := by
  obtain ⟨t, rfl⟩ := h
  unfold numS
  rw [List.idxOf_append, if_pos hl]
/-- What each row tells. -/
structure RowAt (a : Au) (acc : Int) (cuts : List Int) (all : List (List Int)) (r : List Int) (x : Bool) (l : List Int) : Prop where
  row : r = cuts.map fun c => (numS all (stepS a l c) : Int)
  mem : ∀ c, c ∈ cuts → stepS a l c ∈ all
  acc : x = decide (acc ∈ l)
theorem RowAt.grow {a : Au} {acc : Int} {cuts : List Int} {all all' : List (List Int)} {r : List Int} {x : Bool} {l : List Int} (h : RowAt a acc cuts all r x l) (hp : all <+: all') : RowAt a acc cuts all' r x l :=
  ⟨by rw [h.row]; exact List.map_congr_left fun c hc => by rw [numS_grow hp (h.mem c hc)], fun c hc => hp.subset (h.mem c hc), h.acc⟩
theorem mkM_rows {a : Au} {acc : Int} {cuts : List Int} : ∀ (f : Nat) (all rows : List (List Int)) (accs : List Bool) (rows' : List (List Int)) (accs' : List Bool), mkM a acc cuts f all rows accs = some (rows', accs') →
    rows.length ≤ all.length → accs.length = rows.length → (∀ (i : Nat) r x l, rows[i]? = some r → accs[i]? = some x → all[i]? = some l → RowAt a acc cuts all r x l) →
    ∃ all', all <+: all' ∧ all'.length = rows'.length ∧ accs'.length = rows'.length ∧ ∀ (i : Nat) r x l, rows'[i]? = some r → accs'[i]? = some x → all'[i]? = some l → RowAt a acc cuts all' r x l
  | 0, _, _, _, _, _, e, _, _, _ => by unfold mkM at e; cases e
  | f + 1, all, rows, accs, rows', accs', e, hr, ha, h => by
    cases hx : all[rows.length]? with
    | none =>
      unfold mkM at e
      rw [hx] at e
      injection e with e
      injection e with e1 e2
      subst e1; subst e2
      have hge : all.length ≤ rows.length := by simpa using hx
      exact ⟨all, List.prefix_refl _, by omega, ha, h⟩
    | some l =>
      rw [mkM_row hx] at e
      cases hy : rowM a l cuts [] all with
      | none => rw [hy] at e; cases e
      | some q =>
        obtain ⟨row, all'⟩ := q
        rw [hy] at e
        obtain ⟨h1, h2, h3⟩ := rowM_row _ _ _ _ _ hy
        have hlt := lt_of_get hx
        have hle := h1.length_le
        obtain ⟨all2, g1, g2, g3, g4⟩ := mkM_rows f all' _ _ rows' accs' e (by simp; omega) (by simp [ha]) (fun i r x m hi hj hk => by
          by_cases hil : i < rows.length
          · rw [List.getElem?_append_left hil] at hi
            rw [List.getElem?_append_left (by omega)] at hj
            have hk2 : all[i]? = some m := by
              have e3 : all[i]? = some (all[i]'(by omega)) := List.getElem?_eq_getElem _
              have e4 := pre_get h1 e3
              rw [e4] at hk
              rw [e3]; exact hk
            exact (h i r x m hi hj hk2).grow h1
          · have hlen := lt_of_get hi
            simp at hlen
            obtain rfl : i = rows.length := by omega
            rw [List.getElem?_append_right (by omega)] at hi
            rw [List.getElem?_append_right (by omega), ha] at hj
            simp at hi hj
            have e4 := pre_get h1 hx
            rw [e4] at hk
            obtain rfl := Option.some.inj hk
            subst hi
            exact ⟨by rw [h3]; simp, h2, hj.symm⟩)
        exact ⟨all2, h1.trans g1, g2, g3, g4⟩
/-- THE LANGUAGE of an automaton that was built. -/
theorem Out.to {a : Au} {acc : Int} {D : Dfa} (h : Out a acc D 0) : ∃ all : List (List Int), all.length = D.next.length ∧ (∀ (i : Nat) l, all[i]? = some l → D.accept.getD i false = decide (acc ∈ l)) ∧
    ∀ pts : List Int, (∀ p, p ∈ pts → 0 ≤ p ∧ p ≤ 1114111) → all[D.to 0 pts]? = some (stL a.length (runA a pts)) := by
  have hok := h.ok
  generalize hc : (0 : Int) = code at h
  cases h with
  | bad h => exfalso; cases h <;> omega
  | made h g =>
    rename_i rows accs
    obtain ⟨all, g1, g2, g3, g4⟩ := mkM_rows 70 [firstS a] [] [] rows accs g (by simp) rfl (fun i r x l hi => by simp at hi)
    have hS := allSets_ok h.ok
    obtain ⟨l0, hl0⟩ := plcL_head hS
    have hrise := plcL_rise (allSets a)
    refine ⟨all, g2, fun i l hi => ?_, fun pts => ?_⟩
    · have hlt := lt_of_get hi
      have e1 : rows[i]? = some (rows[i]'(by omega)) := List.getElem?_eq_getElem _
      have e2 : accs[i]? = some (accs[i]'(by omega)) := List.getElem?_eq_getElem _
      rw [getD_of e2]
      exact (g4 i _ _ l e1 e2 hi).acc
    · rw [← List.reverse_reverse pts]
      generalize pts.reverse = qs
      induction qs with
      | nil =>
        intro _
        exact pre_get g1 (by rfl)
      | cons p qs ih =>
        intro hp
        rw [List.reverse_cons] at hp ⊢
        have ih := ih fun x hx => hp x (by simp at hx ⊢; exact .inl hx)
        have hpb := hp p (by simp)
        rw [Dfa.to_snoc, runA_snoc]
        generalize Dfa.to ⟨plcL (allSets a), rows, accs⟩ 0 qs.reverse = s at ih ⊢
        have hs := lt_of_get ih
        have e1 : rows[s]? = some (rows[s]'(by omega)) := List.getElem?_eq_getElem _
        have e2 : accs[s]? = some (accs[s]'(by omega)) := List.getElem?_eq_getElem _
        have hrow := g4 s _ _ _ e1 e2 ih
        obtain ⟨q, k1, k2, k3⟩ := cut_of hrise hl0 hpb.1
        have hstep : Dfa.step ⟨plcL (allSets a), rows, accs⟩ s p = numS all (stepS a (stL a.length (runA a qs.reverse)) q) := by
          unfold Dfa.step
          simp only
          rw [getD_of e1, hrow.row]
          rw [getD_of (x := (numS all (stepS a (stL a.length (runA a qs.reverse)) q) : Int)) (by rw [List.getElem?_map, k1]; rfl)]
          simp
        have hmem := hrow.mem q (mem_of_get k1)
        rw [hstep]
        have hget : all[numS all (stepS a (stL a.length (runA a qs.reverse)) q)]? = some (stepS a (stL a.length (runA a qs.reverse)) q) := by
          unfold numS
          rw [List.getElem?_eq_getElem (List.idxOf_lt_length_of_mem hmem), List.getElem_idxOf]
        rw [hget, ← stepS_cut hpb.2 k2 k3]
        unfold stepS
        rw [of_stL (fun s hs => runA_in h.ok _ s hs)]
theorem Out.lang {a : Au} {acc : Int} {D : Dfa} (h : Out a acc D 0) {pts : List Int} (hp : ∀ p, p ∈ pts → 0 ≤ p ∧ p ≤ 1114111) : D.accept.getD (D.to 0 pts) false = decide (acc ∈ stL a.length (runA a pts)) := by
  obtain ⟨all, _, h2, h3⟩ := h.to
  exact h2 _ _ (h3 pts hp)
end Pv

namespace Pv
open Go Go.RowKit

/-- Numbers of code points. -/
def Pnt (p : Int) : Prop := 0 ≤ p ∧ p ≤ 1114111
def Pnts (l : List Int) : Prop := ∀ p, p ∈ l → Pnt p
theorem Pnts.nil : Pnts [] := fun _ h => by simp at h
theorem Pnts.cons {p : Int} {l : List Int} : Pnts (p :: l) ↔ Pnt p ∧ Pnts l := by
  constructor
  · exact fun h => ⟨h p (by simp), fun q hq => h q (by simp [hq])⟩
  · rintro ⟨h1, h2⟩ q hq
    rcases List.mem_cons.1 hq with rfl | hq
    · exact h1
    · exact h2 q hq
theorem Pnts.app {l m : List Int} : Pnts (l ++ m) ↔ Pnts l ∧ Pnts m := by
  constructor
  · exact fun h => ⟨fun q hq => h q (by simp [hq]), fun q hq => h q (by simp [hq])⟩
  · rintro ⟨h1, h2⟩ q hq
    rcases List.mem_append.1 hq with hq | hq
    · exact h1 q hq
    · exact h2 q hq
/-- The class of a number. -/
def Dfa.cls (d : Dfa) (p : Int) : Nat := lastLe d.cuts p d.cuts.length
theorem Dfa.step_go (d : Dfa) (s : Nat) (p : Int) : d.step s p = d.go s (d.cls p) := rfl
theorem Dfa.to_cons (d : Dfa) (s : Nat) (p : Int) (l : List Int) : d.to s (p :: l) = d.to (d.step s p) l := rfl
theorem Dfa.to_app (d : Dfa) (s : Nat) (l m : List Int) : d.to s (l ++ m) = d.to (d.to s l) m := by simp [Dfa.to]
section
variable {d o : Dfa}
theorem Dfa.Ok.head (h : d.Ok) : ∃ l, d.cuts = 0 :: l := by
  have h0 := h.c0
  cases hc : d.cuts with
  | nil => rw [hc] at h0; simp at h0
  | cons x l => rw [hc] at h0; simp at h0; subst h0; exact ⟨l, rfl⟩
theorem Dfa.Ok.cut_pnt (h : d.Ok) {x : Int} (hx : x ∈ d.cuts) : Pnt x := by
  obtain ⟨i, hi⟩ := List.getElem?_of_mem hx
  cases i with
  | zero => rw [h.c0] at hi; obtain rfl := Option.some.inj hi; exact ⟨by omega, by omega⟩
  | succ i =>
    have hlt := lt_of_get hi
    have e : d.cuts[i]? = some (d.cuts[i]'(by omega)) := List.getElem?_eq_getElem _
    obtain ⟨h1, h2⟩ := h.up i _ _ e hi
    exact ⟨by have := h.strict 0 0 h.c0 (i + 1) x (by omega) hi; omega, h2⟩
theorem Dfa.Ok.cls_lt (h : d.Ok) (p : Int) : d.cls p < d.cuts.length := lastLe_lt _ _ _ h.c1
/-- a number's class: the last cut that is not beyond it -/
theorem Dfa.Ok.cls_cut (h : d.Ok) {p : Int} (hp : 0 ≤ p) : ∃ q, d.cuts[d.cls p]? = some q ∧ q ≤ p ∧ ∀ (j : Nat) x, d.cuts[j]? = some x → x ≤ p → j ≤ d.cls p := by
  obtain ⟨l, hl⟩ := h.head
  have h1 := lastLe_spec (cuts := d.cuts) (n := p) (by rw [hl]; simpa using hp) d.cuts.length h.c1
  have e : d.cuts[d.cls p]? = some (d.cuts[d.cls p]'(h.cls_lt p)) := List.getElem?_eq_getElem _
  refine ⟨_, e, ?_, fun j x hj hx => h1.2 j (lt_of_get hj) (by rw [getD_of hj]; exact hx)⟩
  have := h1.1
  rwa [show lastLe d.cuts p d.cuts.length = d.cls p from rfl, getD_of e] at this
theorem Dfa.Ok.cls_at (h : d.Ok) {c : Nat} {x : Int} (hc : d.cuts[c]? = some x) : d.cls x = c := by
  have hx := h.cut_pnt (mem_of_get hc)
  obtain ⟨q, h1, h2, h3⟩ := h.cls_cut hx.1
  have h4 := h3 c x hc (Int.le_refl _)
  rcases Nat.lt_or_ge c (d.cls x) with h5 | h5
  · have := h.strict c x hc _ q h5 h1; omega
  · omega
theorem Dfa.Ok.step_lt (h : d.Ok) {s : Nat} (hs : s < d.next.length) (p : Int) : d.step s p < d.next.length := by
  obtain ⟨_, _, _, _, _, _, h1⟩ := h.row hs p
  exact h1
/-- Two states, of one or of two, from which words are accepted alike. -/
def Res (d o : Dfa) (s t : Nat) : Prop := ∀ l, Pnts l → d.acc (d.to s l) = o.acc (o.to t l)
theorem Res.refl (s : Nat) : Res d d s s := fun _ _ => rfl
theorem Res.symm {s t : Nat} (h : Res d o s t) : Res o d t s := fun l hl => (h l hl).symm
theorem Res.trans {e : Dfa} {s t u : Nat} (h : Res d o s t) (k : Res o e t u) : Res d e s u := fun l hl => (h l hl).trans (k l hl)
theorem Res.step {s t : Nat} (h : Res d o s t) {p : Int} (hp : Pnt p) : Res d o (d.step s p) (o.step t p) := fun l hl => h (p :: l) (Pnts.cons.2 ⟨hp, hl⟩)
theorem Res.to {s t : Nat} (h : Res d o s t) {l : List Int} (hl : Pnts l) : Res d o (d.to s l) (o.to t l) := fun m hm => by
  have := h (l ++ m) (Pnts.app.2 ⟨hl, hm⟩)
  rwa [Dfa.to_app, Dfa.to_app] at this
theorem Res.acc {s t : Nat} (h : Res d o s t) : d.acc s = o.acc t := h [] Pnts.nil
theorem lks_res (h : d.Ok) {s t : Nat} (hs : s < d.next.length) (ht : t < d.next.length) : Lks d s t ↔ Res d d s t := by
  constructor
  · intro k l
    induction l generalizing s t with
    | nil => exact fun _ => k.acc
    | cons p l ih =>
      intro hl
      rw [Dfa.to_cons, Dfa.to_cons]
      exact ih (h.step_lt hs p) (h.step_lt ht p) (k.go (h.cls_lt p)) (Pnts.cons.1 hl).2
  · intro k n
    induction n generalizing s t with
    | zero => exact k.acc
    | succ n ih =>
      refine ⟨ih hs ht k, fun c hc => ?_⟩
      have e : d.cuts[c]? = some (d.cuts[c]'hc) := List.getElem?_eq_getElem hc
      have hp := h.cut_pnt (mem_of_get e)
      have k2 := k.step hp
      rw [Dfa.step_go, Dfa.step_go, h.cls_at e] at k2
      exact ih (by have := h.step_lt hs (d.cuts[c]'hc); rwa [Dfa.step_go, h.cls_at e] at this) (by have := h.step_lt ht (d.cuts[c]'hc); rwa [Dfa.step_go, h.cls_at e] at this) k2
theorem rep_lt (h : d.Ok) {s : Nat} (hs : s < d.next.length) : rep d s < d.next.length := Nat.lt_of_le_of_lt (rep_self s) hs
theorem rep_res (h : d.Ok) {s : Nat} (hs : s < d.next.length) : Res d d (rep d s) s := (lks_res h (rep_lt h hs) hs).1 (rep_alike s)
theorem rep_eq_iff (h : d.Ok) {s t : Nat} (hs : s < d.next.length) (ht : t < d.next.length) : rep d s = rep d t ↔ Res d d s t := rep_iff.trans (lks_res h hs ht)
end
end Pv
