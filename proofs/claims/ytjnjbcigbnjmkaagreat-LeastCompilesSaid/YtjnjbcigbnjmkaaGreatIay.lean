/- Plain: what is built of an automaton may be (so it has a least one); what compiling a pattern gives, one answer. -/
import Derived.Test.YtjnjbcigbnjmkaaGreatGky
import Derived.Test.YtjnjbcigbnjmkaaGreatGjy
import Derived.Test.YtjnjbcigbnjmkaaGreatBvy
namespace Pv
open Go Go.RowKit
theorem rowM_mono {a : Au} {l : List Int} : ∀ (cs row : List Int) (all : List (List Int)) (row' : List Int) (all' : List (List Int)), rowM a l cs row all = some (row', all') → all.length ≤ all'.length
  | [], row, all, row', all', e => by
    unfold rowM at e
    injection e with e
    injection e with e1 e2
    subst e2
    omega
  | c :: cs, row, all, row', all', e => by
    by_cases h64 : 64 < (addS all (stepS a l c)).length
    · rw [rowM_many h64] at e; cases e
    · rw [rowM_next (by omega)] at e
      have h1 := rowM_mono cs _ _ _ _ e
      have h2 := addS_len all (stepS a l c)
      omega
theorem rowM_in {a : Au} {l : List Int} : ∀ (cs row : List Int) (all : List (List Int)) (row' : List Int) (all' : List (List Int)), rowM a l cs row all = some (row', all') → (∀ y, y ∈ row → 0 ≤ y ∧ y < (all.length : Int)) → ∀ y, y ∈ row' → 0 ≤ y ∧ y < (all'.length : Int)
  | [], row, all, row', all', e, h => by
    unfold rowM at e
    injection e with e
    injection e with e1 e2
    subst e1; subst e2
    exact h
  | c :: cs, row, all, row', all', e, h => by
    by_cases h64 : 64 < (addS all (stepS a l c)).length
    · rw [rowM_many h64] at e; cases e
    · rw [rowM_next (by omega)] at e
      refine rowM_in cs _ _ row' all' e fun y hy => ?_
      have h2 := addS_len all (stepS a l c)
      rcases List.mem_append.1 hy with hy | hy
      · have := h y hy; omega
      · simp at hy
        have := numS_lt all (stepS a l c)
        omega
theorem mkM_in {a : Au} {acc : Int} {cuts : List Int} : ∀ (f : Nat) (all rows : List (List Int)) (accs : List Bool) (rows' : List (List Int)) (accs' : List Bool), mkM a acc cuts f all rows accs = some (rows', accs') → rows.length ≤ all.length → (∀ r, r ∈ rows → ∀ y, y ∈ r → 0 ≤ y ∧ y < (all.length : Int)) → all.length ≤ rows'.length ∧ ∀ r, r ∈ rows' → ∀ y, y ∈ r → 0 ≤ y ∧ y < (rows'.length : Int)
  | 0, _, _, _, _, _, e, _, _ => by unfold mkM at e; cases e
  | f + 1, all, rows, accs, rows', accs', e, hr, h => by
    cases hx : all[rows.length]? with
    | none =>
      unfold mkM at e
      rw [hx] at e
      injection e with e
      injection e with e1 e2
      subst e1; subst e2
      have hge : all.length ≤ rows.length := by simpa using hx
      have he : all.length = rows.length := by omega
      exact ⟨hge, fun r hm y hy => by have := h r hm y hy; omega⟩
    | some l =>
      rw [mkM_row hx] at e
      cases hy : rowM a l cuts [] all with
      | none => rw [hy] at e; cases e
      | some q =>
        obtain ⟨row, all'⟩ := q
        rw [hy] at e
        have hmono := rowM_mono _ _ _ _ _ hy
        have hin := rowM_in _ _ _ _ _ hy (fun y hy => by simp at hy)
        have hlt := lt_of_get hx
        obtain ⟨k1, k2⟩ := mkM_in f all' _ _ rows' accs' e (by simp; omega) fun r hm z hz => by
          rcases List.mem_append.1 hm with hm | hm
          · have := h r hm z hz; omega
          · simp at hm; rw [hm] at hz; exact hin z hz
        exact ⟨by omega, k2⟩
theorem madeM_in {a : Au} {acc : Int} {cuts : List Int} {rows : List (List Int)} {accs : List Bool} (e : madeM a acc cuts = some (rows, accs)) : 1 ≤ rows.length ∧ ∀ r, r ∈ rows → ∀ y, y ∈ r → 0 ≤ y ∧ y < (rows.length : Int) := by
  obtain ⟨h1, h2⟩ := mkM_in 70 _ _ _ _ _ e (by simp) (fun r hr => by simp at hr)
  exact ⟨by simpa using h1, h2⟩
theorem Out.ok {a : Au} {acc : Int} {D : Dfa} (h : Out a acc D 0) : D.Ok := by
  generalize hc : (0 : Int) = code at h
  cases h with
  | bad h => exfalso; cases h <;> omega
  | made h g =>
    obtain ⟨b1, b2, b3⟩ := madeM_bd g
    obtain ⟨m1, m2⟩ := madeM_in g
    have hS := allSets_ok h.ok
    obtain ⟨l, hl⟩ := plcL_head hS
    have hr := plcL_rise (allSets a)
    refine ⟨by simp only [hl]; simp, h.p, by simp only [hl]; simp, m1, b2, b3, fun i x y hx hy => ⟨?_, (plcL_in hS (mem_of_get hy)).2⟩, fun i r hi => (b1.each r (mem_of_get hi)).2, fun i r hi j x hj => m2 r (mem_of_get hi) x (mem_of_get hj)⟩
    have h1 := lt_of_get hx; have h2 := lt_of_get hy
    have e1 := (List.getElem?_eq_some_iff.1 hx).2; have e2 := (List.getElem?_eq_some_iff.1 hy).2
    have := List.pairwise_iff_getElem.1 hr i (i + 1) h1 h2 (by omega)
    simp only at e1 e2
    rw [e1, e2] at this
    exact this
end Pv
namespace Go.Proofs.YtjnjbcigbnjmkaaGreat
open Go.RowKit Pv
/-- What compiling a pattern gives: the least automaton, or the error. -/
inductive CR (t : List Rx) : Dfa → Int → Prop where
  | auto {r : Au × Int × Int} (h : BR t r) (e : r.2.2 ≠ 0) : CR t ⟨[], [], []⟩ r.2.2
  | sub {r : Au × Int × Int} {D : Dfa} {code : Int} (h : BR t r) (e : r.2.2 = 0) (o : Out r.1 r.2.1 D code) (ne : code ≠ 0) : CR t ⟨[], [], []⟩ code
  | made {r : Au × Int × Int} {D : Dfa} (h : BR t r) (e : r.2.2 = 0) (o : Out r.1 r.2.1 D 0) : CR t (leastD D) 0
theorem CR.one {t : List Rx} {D D' : Dfa} {x y : Int} (h : CR t D x) (k : CR t D' y) : D = D' ∧ x = y := by
  cases h with
  | auto h e => cases k with
    | auto k e' => obtain rfl := h.one k; exact ⟨rfl, rfl⟩
    | sub k e' o ne => obtain rfl := h.one k; exact absurd e' e
    | made k e' o => obtain rfl := h.one k; exact absurd e' e
  | sub h e o ne => cases k with
    | auto k e' => obtain rfl := h.one k; exact absurd e e'
    | sub k e' o' ne' => obtain rfl := h.one k; exact ⟨rfl, (o.one o').2⟩
    | made k e' o' => obtain rfl := h.one k; exact absurd (o.one o').2 ne
  | made h e o => cases k with
    | auto k e' => obtain rfl := h.one k; exact absurd e e'
    | sub k e' o' ne' => obtain rfl := h.one k; exact absurd (o.one o').2.symm ne'
    | made k e' o' => obtain rfl := h.one k; obtain ⟨rfl, _⟩ := o.one o'; exact ⟨rfl, rfl⟩
theorem CR.pat {t : List Rx} {D : Dfa} {x : Int} (h : CR t D x) (hn : ¬ Pat t) : x = 8 := by
  have key : ∀ r, BR t r → r = ([], 0, 8) := fun r h => by
    rcases h with ⟨_, h⟩ | ⟨h, _⟩
    · exact h
    · exact absurd h hn
  cases h with
  | auto h e => rw [key _ h]
  | sub h e => rw [key _ h] at e; simp at e
  | made h e => rw [key _ h] at e; simp at e
end Go.Proofs.YtjnjbcigbnjmkaaGreat
