/- A text quoted, as data. Nothing of a program stands here. -/
import Derived.Test.YtjbfkceficokbaaDoorUf
namespace Pv
open Go Go.RowKit

/-- A digit to the base of 16. -/
def hx (n : Nat) : UInt8 := if n < 10 then UInt8.ofNat (48 + n) else UInt8.ofNat (87 + n)
/-- A byte, as it stands in quotes. -/
def esc8 (c : UInt8) : List UInt8 :=
  if c = 34 then [92, 34] else if c = 92 then [92, 92] else if c = 8 then [92, 98] else if c = 12 then [92, 102] else if c = 10 then [92, 110] else if c = 13 then [92, 114] else if c = 9 then [92, 116]
  else if c.toNat < 32 then [92, 117, 48, 48, hx (c.toNat / 16), hx (c.toNat % 16)] else [c]
def escL (l : List UInt8) : List UInt8 := l.flatMap esc8
def quoteL (l : List UInt8) : List UInt8 := 34 :: (escL l ++ [34])
theorem esc8_len (c : UInt8) : (esc8 c).length ≤ 6 := by
  unfold esc8; repeat' split
  all_goals simp
theorem esc8_pos (c : UInt8) : 1 ≤ (esc8 c).length := by
  unfold esc8; repeat' split
  all_goals simp
theorem escL_len (l : List UInt8) : (escL l).length ≤ 6 * l.length := by
  induction l with
  | nil => simp [escL]
  | cons c t ih =>
    have := esc8_len c
    simp only [escL, List.flatMap_cons, List.length_append, List.length_cons] at ih ⊢
    omega
theorem quoteL_len (l : List UInt8) : (quoteL l).length ≤ 6 * l.length + 2 := by
  have := escL_len l
  simp only [quoteL, List.length_cons, List.length_append, List.length_nil]
  omega
theorem escL_snoc (l : List UInt8) (c : UInt8) : escL (l ++ [c]) = escL l ++ esc8 c := by simp [escL]
/-- What is known of a byte: it stands for itself, or is told by a letter, or by two digits. -/
inductive EscC (c : UInt8) : Prop where
  | self (h : esc8 c = [c]) (h34 : c.toNat ≠ 34) (h92 : c.toNat ≠ 92) (h32 : 32 ≤ c.toNat) : EscC c
  | letter (k : Nat) (x : UInt8) (h : esc8 c = [92, x]) (hk : k < 8) (hk2 : k ≠ 2) (hc : ([34, 92, 47, 8, 12, 10, 13, 9] : List UInt8)[k]? = some c) (hx : ([34, 92, 47, 98, 102, 110, 114, 116] : List UInt8)[k]? = some x) : EscC c
  | digits (h : esc8 c = [92, 117, 48, 48, hx (c.toNat / 16), hx (c.toNat % 16)]) (h32 : c.toNat < 32) (hno : c ∉ ([34, 92, 47, 8, 12, 10, 13, 9] : List UInt8)) : EscC c
theorem escC (c : UInt8) : EscC c := by
  by_cases h1 : c = 34
  · subst h1; exact .letter 0 34 (by decide) (by omega) (by omega) (by decide) (by decide)
  by_cases h2 : c = 92
  · subst h2; exact .letter 1 92 (by decide) (by omega) (by omega) (by decide) (by decide)
  by_cases h3 : c = 8
  · subst h3; exact .letter 3 98 (by decide) (by omega) (by omega) (by decide) (by decide)
  by_cases h4 : c = 12
  · subst h4; exact .letter 4 102 (by decide) (by omega) (by omega) (by decide) (by decide)
  by_cases h5 : c = 10
  · subst h5; exact .letter 5 110 (by decide) (by omega) (by omega) (by decide) (by decide)
  by_cases h6 : c = 13
  · subst h6; exact .letter 6 114 (by decide) (by omega) (by omega) (by decide) (by decide)
  by_cases h7 : c = 9
  · subst h7; exact .letter 7 116 (by decide) (by omega) (by omega) (by decide) (by decide)
  have hn : ∀ d : UInt8, c ≠ d → c.toNat ≠ d.toNat := fun d h e => h (UInt8.toNat_inj.1 e)
  by_cases h8 : c.toNat < 32
  · refine .digits (by unfold esc8; rw [if_neg h1, if_neg h2, if_neg h3, if_neg h4, if_neg h5, if_neg h6, if_neg h7, if_pos h8]) h8 ?_
    have h9 : c ≠ 47 := fun e => by subst e; exact absurd h8 (by decide)
    simp [h1, h2, h3, h4, h5, h6, h7, h9]
  · exact .self (by unfold esc8; rw [if_neg h1, if_neg h2, if_neg h3, if_neg h4, if_neg h5, if_neg h6, if_neg h7, if_neg h8]) (hn 34 h1) (hn 92 h2) (by omega)
end Pv
