/- The document's Dfa: its parts in memory, whether one may be, classes, walks and runs, in plain words. -/
import Derived.Test.YtjnjbcigbnjmkaaMemy
namespace Pv
open Go Go.RowKit

/-- A deterministic automaton's parts. -/
structure Dfa where
  cuts : List Int
  next : List (List Int)
  accept : List Bool
/-- The three values of a Dfa read as it. -/
structure IsDfa (w : World) (v1 v2 v3 : Value) (d : Dfa) : Prop where
  cuts : IsInts w v1 d.cuts
  next : IsRows w v2 d.next
  accept : IsBools w v3 d.accept
theorem IsDfa.keep {w w' : World} {v1 v2 v3 : Value} {d : Dfa} (h : IsDfa w v1 v2 v3 d) (k : Keep w w') : IsDfa w' v1 v2 v3 d :=
  ⟨Sl.keep h.1 k, IsRows.keep h.2 k, Sl.keep h.3 k⟩

/-- A Dfa's three slices, opened: addresses, lengths. -/
structure DfaAt (w : World) (A1 A2 A3 : Option Addr) (n1 n2 n3 : Nat) (d : Dfa) : Prop where
  c : At w A1 RI d.cuts
  n : At w A2 (IsInts w) d.next
  a : At w A3 RB d.accept
  hc : Hid (d.cuts.length = n1)
  hn : Hid (d.next.length = n2)
  ha : Hid (d.accept.length = n3)
theorem DfaAt.keep {w w' : World} {A1 A2 A3 : Option Addr} {n1 n2 n3 : Nat} {d : Dfa} (h : DfaAt w A1 A2 A3 n1 n2 n3 d) (k : Keep w w') : DfaAt w' A1 A2 A3 n1 n2 n3 d :=
  ⟨h.c.keep k, h.n.keepR k (fun _ _ h => h.keep k), h.a.keep k, h.hc, h.hn, h.ha⟩
theorem IsDfa.opens {w : World} {v1 v2 v3 : Value} {d : Dfa} (h : IsDfa w v1 v2 v3 d) : ∃ A1 A2 A3 n1 n2 n3 c1 c2 c3, v1 = .slice A1 n1 c1 ∧ v2 = .slice A2 n2 c2 ∧ v3 = .slice A3 n3 c3 ∧ DfaAt w A1 A2 A3 n1 n2 n3 d := by
  obtain ⟨⟨A1, c1, rfl, h1, _⟩, ⟨A2, c2, rfl, h2, _⟩, ⟨A3, c3, rfl, h3, _⟩⟩ := h
  exact ⟨A1, A2, A3, _, _, _, c1, c2, c3, rfl, rfl, rfl, h1, h2, h3, rfl, rfl, rfl⟩

/-- May a Dfa be? -/
structure Dfa.Ok (d : Dfa) : Prop where
  c1 : 1 ≤ d.cuts.length
  c2 : d.cuts.length ≤ 256
  c0 : d.cuts[0]? = some 0
  n1 : 1 ≤ d.next.length
  n2 : d.next.length ≤ 64
  a : d.accept.length = d.next.length
  up : ∀ (i : Nat) a b, d.cuts[i]? = some a → d.cuts[i + 1]? = some b → a < b ∧ b ≤ 1114111
  rl : ∀ (i : Nat) r, d.next[i]? = some r → r.length = d.cuts.length
  rx : ∀ (i : Nat) r, d.next[i]? = some r → ∀ (j : Nat) x, r[j]? = some x → 0 ≤ x ∧ x < d.next.length
noncomputable def Dfa.okB (d : Dfa) : Bool := yes d.Ok
theorem Dfa.okB_yes {d : Dfa} (h : d.Ok) : d.okB = true := yes_t h
theorem Dfa.okB_no {d : Dfa} (h : ¬ d.Ok) : d.okB = false := yes_f h
theorem Dfa.ok_of {d : Dfa} (h : d.okB = true) : d.Ok := of_yes h
theorem Dfa.not_ok_of {d : Dfa} (h : d.okB = false) : ¬ d.Ok := of_no h

/-- The last of the first k cuts that is not beyond a number; 0: none. -/
def lastLe (cuts : List Int) (n : Int) : Nat → Nat
  | 0 => 0
  | k + 1 => if cuts.getD k 0 ≤ n then k else lastLe cuts n k
theorem lastLe_lt (cuts : List Int) (n : Int) : ∀ k, 0 < k → lastLe cuts n k < k
  | 0, h => by omega
  | k + 1, _ => by
    unfold lastLe
    split
    · omega
    · rcases Nat.eq_zero_or_pos k with h | h
      · subst h; simp [lastLe]
      · have := lastLe_lt cuts n k h; omega
theorem lastLe_le (cuts : List Int) (n : Int) (k : Nat) : lastLe cuts n k ≤ k := by
  rcases Nat.eq_zero_or_pos k with h | h
  · subst h; simp [lastLe]
  · exact Nat.le_of_lt (lastLe_lt cuts n k h)
/-- Where a state goes by a number; by numbers. -/
def Dfa.step (d : Dfa) (s : Nat) (p : Int) : Nat := ((d.next.getD s []).getD (lastLe d.cuts p d.cuts.length) 0).toNat
def Dfa.to (d : Dfa) (s : Nat) (pts : List Int) : Nat := pts.foldl d.step s
theorem Dfa.to_snoc (d : Dfa) (s : Nat) (pts : List Int) (p : Int) : d.to s (pts ++ [p]) = d.step (d.to s pts) p := by simp [Dfa.to]
/-- From a state that there is, by any number to one that there is. -/
theorem Dfa.Ok.row {d : Dfa} (h : d.Ok) {s : Nat} (hs : s < d.next.length) (p : Int) : ∃ r x, d.next[s]? = some r ∧ r.length = d.cuts.length ∧ r[lastLe d.cuts p d.cuts.length]? = some x ∧ x = (d.step s p : Int) ∧ d.step s p < d.next.length := by
  have h1 : d.next[s]? = some d.next[s] := List.getElem?_eq_getElem hs
  have h2 := h.rl s _ h1
  have h3 : lastLe d.cuts p d.cuts.length < (d.next[s]).length := by rw [h2]; exact lastLe_lt _ _ _ h.c1
  have h4 : (d.next[s])[lastLe d.cuts p d.cuts.length]? = some ((d.next[s])[lastLe d.cuts p d.cuts.length]) := List.getElem?_eq_getElem h3
  have h5 := h.rx s _ h1 _ _ h4
  have h6 : d.step s p = ((d.next[s])[lastLe d.cuts p d.cuts.length]).toNat := by unfold Dfa.step; rw [getD_of h1, getD_of h4]
  exact ⟨_, _, h1, h2, h4, by rw [h6]; omega, by rw [h6]; omega⟩
theorem Dfa.Ok.to_lt {d : Dfa} (h : d.Ok) (pts : List Int) : ∀ {s : Nat}, s < d.next.length → d.to s pts < d.next.length := by
  induction pts with
  | nil => intro s hs; exact hs
  | cons p ps ih =>
    intro s hs
    obtain ⟨r, x, _, _, _, _, h5⟩ := h.row hs p
    exact ih h5
/-- A number that is no code point among some? -/
def beyond (pts : List Int) : Prop := ∃ p ∈ pts, p < 0 ∨ 1114111 < p
/-- The classes, walks and runs that the document tells: the value, the error. -/
noncomputable def Dfa.classE (d : Dfa) (n : Int) : Int × Int :=
  if d.okB = true then if n < 0 ∨ 1114111 < n then (0, 2) else ((lastLe d.cuts n d.cuts.length : Nat), 0) else (0, 8)
open Classical in
noncomputable def Dfa.walkE (d : Dfa) (s : Int) (pts : List Int) : Int × Int :=
  if d.okB = true then if 1024 < pts.length then (0, 4) else if s < 0 ∨ (d.next.length : Int) ≤ s then (0, 2) else if beyond pts then (0, 2) else ((d.to s.toNat pts : Nat), 0) else (0, 8)
noncomputable def Dfa.runE (d : Dfa) (pts : List Int) : Bool × Int :=
  if (d.walkE 0 pts).2 = 0 then (d.accept.getD (d.walkE 0 pts).1.toNat false, 0) else (false, (d.walkE 0 pts).2)


theorem lastLe_eq (cuts : List Int) (n : Int) (i : Nat) (h0 : 0 < i) (hi : i ≤ cuts.length) (h1 : ∀ (j : Nat) a, j < i → cuts[j]? = some a → a ≤ n) (h2 : ∀ (j : Nat) a, i ≤ j → cuts[j]? = some a → n < a) :
    ∀ k, i ≤ k → k ≤ cuts.length → lastLe cuts n k = i - 1
  | 0, h, _ => by omega
  | k + 1, h, hk => by
    have hg : cuts[k]? = some cuts[k] := List.getElem?_eq_getElem (by omega)
    unfold lastLe
    rw [getD_of hg]
    by_cases hki : k + 1 = i
    · subst hki
      rw [if_pos (h1 k _ (by omega) hg)]
      rfl
    · have := h2 k _ (by omega) hg
      rw [if_neg (by omega)]
      exact lastLe_eq cuts n i h0 hi h1 h2 k (by omega) (by omega)
theorem Dfa.Ok.strict {d : Dfa} (h : d.Ok) (i : Nat) (a : Int) (ha : d.cuts[i]? = some a) : ∀ (j : Nat) b, i < j → d.cuts[j]? = some b → a < b
  | 0, b, hij, _ => by omega
  | j + 1, b, hij, hb => by
    have hj : d.cuts[j]? = some (d.cuts[j]'(by have := lt_of_get hb; omega)) := List.getElem?_eq_getElem (by have := lt_of_get hb; omega)
    have h1 := (h.up j _ b hj hb).1
    by_cases hji : i = j
    · subst hji
      rw [ha] at hj
      injection hj with hj
      omega
    · have := Dfa.Ok.strict h i a ha j _ (by omega) hj
      omega
/-- What the search tells is the class. -/
theorem Dfa.Ok.found {d : Dfa} (h : d.Ok) {n : Int} (hn : 0 ≤ n) {i : Nat} (hi : i ≤ d.cuts.length) (h1 : ∀ (j : Nat) a, j < i → d.cuts[j]? = some a → a < n) (h2 : ∀ (j : Nat) a, i ≤ j → d.cuts[j]? = some a → n ≤ a) :
    (d.cuts[i]? = some n → lastLe d.cuts n d.cuts.length = i) ∧ (d.cuts[i]? ≠ some n → 0 < i ∧ lastLe d.cuts n d.cuts.length = i - 1) := by
  constructor
  · intro hf
    have := lastLe_eq d.cuts n (i + 1) (by omega) (lt_of_get hf) (fun j a hj ha => by
      by_cases hji : j = i
      · subst hji; rw [hf] at ha; injection ha with ha; omega
      · have := h1 j a (by omega) ha; omega) (fun j a hj ha => h.strict i n hf j a (by omega) ha) d.cuts.length (lt_of_get hf) (Nat.le_refl _)
    simpa using this
  · intro hf
    have hi0 : 0 < i := by
      rcases Nat.eq_zero_or_pos i with h0 | h0
      · subst h0
        have := h2 0 0 (by omega) h.c0
        have hn0 : n = 0 := by omega
        rw [hn0] at hf
        exact absurd h.c0 hf
      · exact h0
    refine ⟨hi0, lastLe_eq d.cuts n i hi0 hi (fun j a hj ha => by have := h1 j a hj ha; omega) (fun j a hj ha => ?_) d.cuts.length hi (Nat.le_refl _)⟩
    have h3 := h2 j a hj ha
    by_cases hji : j = i
    · subst hji
      have : a ≠ n := fun e => hf (by rw [← e]; exact ha)
      omega
    · have hil : d.cuts[i]? = some (d.cuts[i]'(by have := lt_of_get ha; omega)) := List.getElem?_eq_getElem (by have := lt_of_get ha; omega)
      have h4 := h.strict i _ hil j a (by omega) ha
      have h5 := h2 i _ (Nat.le_refl _) hil
      omega

noncomputable def Dfa.checkE (d : Dfa) : Int := if d.okB = true then 0 else 8
theorem Dfa.checkE_no {d : Dfa} (h : d.okB = false) : d.checkE = 8 := by unfold Dfa.checkE; rw [if_neg (by rw [h]; simp)]
theorem Dfa.checkE_yes {d : Dfa} (h : d.okB = true) : d.checkE = 0 := by unfold Dfa.checkE; rw [if_pos h]

end Pv
