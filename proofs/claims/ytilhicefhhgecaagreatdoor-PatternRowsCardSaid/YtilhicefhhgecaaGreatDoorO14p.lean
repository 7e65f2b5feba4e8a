/- The patterns of the chapters' examples: their texts, their trees. Nothing of a program stands here. -/
import Derived.Test.YtilhicefhhgecaaGreatDoorO13p
import Derived.Test.YtilhicefhhgecaaGreatDoorP6p
namespace Pv
open Go Go.RowKit

abbrev chX (c : Int) : Tr := .mk ⟨1, [⟨c, c⟩], 0, 0, 0⟩ []
abbrev noX : Tr := .mk ⟨1, [], 0, 0, 0⟩ []
abbrev epX : Tr := .mk ⟨0, [], 0, 0, 0⟩ []
abbrev caX (ks : List Tr) : Tr := .mk ⟨2, [], ks.length, 0, 0⟩ ks
abbrev alX (ks : List Tr) : Tr := .mk ⟨3, [], ks.length, 0, 0⟩ ks
abbrev reX (a b : Int) (k : Tr) : Tr := .mk ⟨4, [], 1, a, b⟩ [k]
/-- A text that tells a tree. -/
def tellsT (s : Bs) (T : Tr) : Bool := knownT T && decide (s.length ≤ 1000) && s.all (fun b => decide (b.toNat < 128)) && plainC s && T.flat.all (fun x => decide (x.set.length ≤ 1000)) && (match rowsB (s.length + 1) s false with
  | none => false
  | some (t, r, w) => decide (t = T.flat) && r.isEmpty && !w)
structure Tells (s : Bs) (T : Tr) : Prop where
  known : Known T
  len : s.length ≤ 1000
  asc : ∀ b, b ∈ s → b.toNat < 128
  plain : PlainB s
  sets : ∀ x, x ∈ T.flat → x.set.length ≤ 1000
  rows : rowsB (s.length + 1) s false = some (T.flat, [], false)
theorem tellsT_is {s : Bs} {T : Tr} (h : tellsT s T = true) : Tells s T := by
  unfold tellsT at h
  simp only [Bool.and_eq_true, decide_eq_true_eq, List.all_eq_true] at h
  obtain ⟨⟨⟨⟨⟨h1, h2⟩, h3⟩, h5⟩, h6⟩, h4⟩ := h
  refine ⟨knownT_is h1, h2, h3, plainC_is h5, h6, ?_⟩
  cases e : rowsB (s.length + 1) s false with
  | none => rw [e] at h4; cases h4
  | some q =>
    obtain ⟨t, r, w⟩ := q
    rw [e] at h4
    simp only [Bool.and_eq_true, decide_eq_true_eq, List.isEmpty_iff, Bool.not_eq_true'] at h4
    obtain ⟨⟨rfl, rfl⟩, rfl⟩ := h4
    rfl
-- (ab)*c, a{2,3}, ()*, [], []*, a*, a, a|b, (a{16}){16}, (a|b)*, (a*b*)*
def s1 : Bs := [40, 97, 98, 41, 42, 99]
def t1 : Tr := caX [reX 0 (-1) (caX [chX 97, chX 98]), chX 99]
def s2 : Bs := [97, 123, 50, 44, 51, 125]
def t2 : Tr := reX 2 3 (chX 97)
def t3 : Tr := reX 0 (-1) epX
def s4 : Bs := [91, 93]
def t5 : Tr := reX 0 (-1) noX
def s7 : Bs := [97]
theorem tells7 : Tells s7 (chX 97) := tellsT_is (by decide +kernel)
end Pv
