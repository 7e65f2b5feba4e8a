/- UTF-8 by the document's definition, as numbers: one code point of so many bytes; what is a text. Nothing of a program stands here. -/
import Derived.Lib.ValidLaws
import Derived.Test.YtilhicefhhgecaaGreatDoorTbn
namespace Pv
open Go Go.RowKit

/-- The byte at a place, as a number. -/
def bN (l : List UInt8) (i : Nat) : Nat := (l.getD i 0).toNat
theorem bN_lt (l : List UInt8) (i : Nat) : bN l i < 256 := (l.getD i 0).toNat_lt
def leadN (size b : Nat) : Nat := if size = 2 then b % 32 else if size = 3 then b % 16 else if size = 4 then b % 8 else b
/-- What so many bytes would tell. -/
def numK (l : List UInt8) (size : Nat) : Nat → Nat
  | 0 => leadN size (bN l 0)
  | k + 1 => 64 * numK l size k + bN l (k + 1) % 64
def numP (l : List UInt8) (size : Nat) : Nat := numK l size (size - 1)
/-- The first so many bytes, as numbers. -/
def firstN (l : List UInt8) (k : Nat) : List Nat := (l.take k).map (·.toNat)
def goodP (l : List UInt8) (size : Nat) : Bool := decide (size ≤ l.length) && (isP (numP l size) && decide (bytesP (numP l size) = firstN l size))
/-- The code point that begins, and its size. -/
def nextP (l : List UInt8) : Option (Nat × Nat) :=
  if goodP l 1 then some (numP l 1, 1) else if goodP l 2 then some (numP l 2, 2) else if goodP l 3 then some (numP l 3, 3) else if goodP l 4 then some (numP l 4, 4) else none

theorem firstN_1 {l : List UInt8} (h : 1 ≤ l.length) : firstN l 1 = [bN l 0] := by
  match l, h with
  | a :: t, _ => simp [firstN, bN]
theorem good_iff (l : List UInt8) (k : Nat) : goodP l k = true ↔ k ≤ l.length ∧ (numP l k ≤ 1114111 ∧ (numP l k < 55296 ∨ 57343 < numP l k)) ∧ bytesP (numP l k) = firstN l k := by
  unfold goodP isP
  rw [Bool.and_eq_true, Bool.and_eq_true, decide_eq_true_eq, decide_eq_true_eq, decide_eq_true_eq]
theorem good_1 (l : List UInt8) : goodP l 1 = true ↔ 1 ≤ l.length ∧ bN l 0 < 128 := by
  rw [good_iff]
  by_cases h : 1 ≤ l.length
  · rw [firstN_1 h]
    have hb := bN_lt l 0
    have e : numP l 1 = bN l 0 := by simp [numP, numK, leadN]
    rw [e]
    constructor
    · rintro ⟨_, _, h2⟩
      exact ⟨h, range_1 (by rw [h2]; rfl)⟩
    · rintro ⟨_, h2⟩
      exact ⟨h, ⟨by omega, by omega⟩, bytesP_1 h2⟩
  · exact ⟨fun h' => absurd h'.1 h, fun h' => absurd h'.1 h⟩
end Pv

namespace Pv
open Go Go.RowKit

abbrev Bs := List UInt8
/-- What is told by a backslash ahead; digits to the base of 16; what stands for itself nowhere. -/
def marksB : Bs := [46, 91, 93, 40, 41, 42, 43, 63, 123, 125, 124, 92, 45, 94]
def hexB : Bs := [48, 49, 50, 51, 52, 53, 54, 55, 56, 57, 97, 98, 99, 100, 101, 102, 65, 66, 67, 68, 69, 70]
def noneC : Bs := [93, 45, 94, 91]
def noneA : Bs := [41, 93, 42, 43, 63, 123, 125, 124]
/-- One code point that is none of some. -/
def takeB (no : Bs) (l : Bs) : Option (Nat × Bs) := match nextP l with
  | none => none
  | some (n, k) => if decide (k = 1) && no.contains (l.getD 0 0) then none else some (n, l.drop k)
def isB (c : UInt8) (l : Bs) : Option Bs := match l with
  | [] => none
  | b :: r => if b = c then some r else none
def hexVB (b : UInt8) : Nat := if b.toNat < 58 then b.toNat - 48 else if b.toNat < 71 then b.toNat - 55 else b.toNat - 87
def hexNB (l : Bs) : Nat := l.foldl (fun a b => 16 * a + hexVB b) 0
def one1 (n : Int) : List Rng := [⟨n, n⟩]
def escS (c : Nat) : Option (List Rng × Bool) :=
  if decide (c < 128) && marksB.contains (UInt8.ofNat c) then some (one1 c, true)
  else if c = 110 then some (one1 10, true) else if c = 114 then some (one1 13, true) else if c = 116 then some (one1 9, true)
  else if c = 100 then some ([⟨48, 57⟩], false) else if c = 119 then some ([⟨48, 57⟩, ⟨65, 90⟩, ⟨95, 95⟩, ⟨97, 122⟩], false) else if c = 115 then some ([⟨9, 10⟩, ⟨13, 13⟩, ⟨32, 32⟩], false)
  else none
def escB (l : Bs) : Option (List Rng × Bool × Bs) := match takeB [] l with
  | none => none
  | some (c, r) => if decide (c = 117) then (if decide (r.length < 6) || !((r.take 6).all fun b => hexB.contains b) || decide (1114111 < hexNB (r.take 6)) then none else some (one1 (hexNB (r.take 6)), true, r.drop 6))
    else (escS c).map fun p => (p.1, p.2, r)
def itemB (l : Bs) : Option (List Rng × Bool × Bs) := match isB 92 l with
  | some r => escB r
  | none => (takeB noneC l).map fun p => (one1 p.1, true, p.2)
/-- The first range's end, turned. -/
def toR (l : List Rng) (n : Int) : List Rng := match l with
  | [] => []
  | x :: r => ⟨x.lo, n⟩ :: r
def rngB (l : Bs) : Option (List Rng × Bs) := match itemB l with
  | none => none
  | some (s, single, r) => match (if single then isB 45 r else none) with
    | none => some (s, r)
    | some r' => match itemB r' with
      | none => none
      | some (m, also, r2) => if !also || decide ((m.getD 0 ⟨0, 0⟩).hi < (s.getD 0 ⟨0, 0⟩).lo) then none else some (toR s (m.getD 0 ⟨0, 0⟩).hi, r2)
def clsB : Nat → Bs → List Rng → Option (List Rng × Bs)
  | 0, _, _ => none
  | f + 1, l, acc => match isB 93 l with
    | some r => some (acc, r)
    | none => match rngB l with
      | none => none
      | some (s, r) => clsB f r (acc ++ s)
/-- By their beginnings, one put in at a time. -/
def putIn (x : Rng) : List Rng → List Rng
  | [] => [x]
  | y :: l => if x.lo < y.lo then x :: y :: l else y :: putIn x l
def sortR (l : List Rng) : List Rng := l.foldl (fun a x => putIn x a) []
def join1 (out : List Rng) (x : Rng) : List Rng := match out.getLast? with
  | none => [x]
  | some y => if x.lo ≤ y.hi + 1 then out.dropLast ++ [⟨y.lo, max y.hi x.hi⟩] else out ++ [x]
def joinR (l : List Rng) : List Rng := l.foldl join1 []
def oth1 (p : Int × List Rng) (x : Rng) : Int × List Rng := (x.hi + 1, if p.1 < x.lo then p.2 ++ [⟨p.1, x.lo - 1⟩] else p.2)
def othR (l : List Rng) : List Rng := (List.foldl oth1 (0, []) (l ++ [Rng.mk 1114112 0])).2
def setX (l : List Rng) : Rx := ⟨1, l, 0, 0, 0⟩
abbrev PR := List Rx × Bs × Bool
def classB (l : Bs) (w : Bool) : Option PR := match clsB ((match isB 94 l with | some r => r | none => l).length + 1) (match isB 94 l with | some r => r | none => l) [] with
  | none => none
  | some (s, r) => some ([setX (if (isB 94 l).isSome then othR (joinR (sortR s)) else joinR (sortR s))], r, w || decide (256 < (if (isB 94 l).isSome then othR (joinR (sortR s)) else joinR (sortR s)).length))
def atomB (g : Bs → Bool → Option PR) (l : Bs) (w : Bool) : Option PR :=
  match isB 46 l with
  | some r => some ([setX [⟨0, 1114111⟩]], r, w)
  | none => match isB 40 l with
    | some r => (match g r w with
      | none => none
      | some (t, r2, w2) => (isB 41 r2).map fun r3 => (t, r3, w2))
    | none => match isB 91 l with
      | some r => classB r w
      | none => match isB 92 l with
        | some r => (escB r).map fun p => ([setX p.1], p.2.2, w)
        | none => (takeB noneA l).map fun p => ([setX (one1 p.1)], p.2, w)
def digs (l : Bs) : Bs := (l.take 2).takeWhile fun b => decide (48 ≤ b.toNat) && decide (b.toNat ≤ 57)
def decN (l : Bs) : Nat := l.foldl (fun a b => 10 * a + (b.toNat - 48)) 0
def countB (l : Bs) : Option (Nat × Bs) := if (digs l).isEmpty || decide (16 < decN (digs l)) then none else some (decN (digs l), l.drop (digs l).length)
/-- What stands behind an atom: how often; none at all; or it is bad. -/
def oftB (l : Bs) : Option (Option (Int × Int) × Bs) :=
  match isB 42 l with
  | some r => some (some (0, -1), r)
  | none => match isB 43 l with
    | some r => some (some (1, -1), r)
    | none => match isB 63 l with
      | some r => some (some (0, 1), r)
      | none => match isB 123 l with
        | none => some (none, l)
        | some r => match countB r with
          | none => none
          | some (a, r2) => match isB 44 r2 with
            | none => (isB 125 r2).map fun r3 => (some ((a : Int), (a : Int)), r3)
            | some r3 => match isB 125 r3 with
              | some r4 => some (some ((a : Int), -1), r4)
              | none => match countB r3 with
                | none => none
                | some (b, r4) => if b < a then none else (isB 125 r4).map fun r5 => (some ((a : Int), (b : Int)), r5)
def pieceB (g : Bs → Bool → Option PR) (l : Bs) (w : Bool) : Option PR := match atomB g l w with
  | none => none
  | some (t, r, w2) => match oftB r with
    | none => none
    | some (none, r2) => some (t, r2, w2)
    | some (some (a, b), r2) => some (⟨4, [], 1, a, b⟩ :: t, r2, w2)
def putB (kind : Int) (l : List (List Rx)) : List Rx := match l with
  | [] => [⟨0, [], 0, 0, 0⟩]
  | [x] => x
  | _ => ⟨kind, [], l.length, 0, 0⟩ :: l.flatten
def stopB (l : Bs) : Bool := match l with
  | [] => true
  | b :: _ => decide (b = 124) || decide (b = 41)
def piecesB (g : Bs → Bool → Option PR) : Nat → Bs → Bool → List (List Rx) → Option (List (List Rx) × Bs × Bool)
  | 0, _, _, _ => none
  | f + 1, l, w, acc => if stopB l then some (acc, l, w) else match pieceB g l w with
    | none => none
    | some (t, r, w2) => piecesB g f r w2 (acc ++ [t])
def altsB (g : Bs → Bool → Option PR) : Nat → Bs → Bool → List (List Rx) → Option PR
  | 0, _, _, _ => none
  | f + 1, l, w, acc => match piecesB g (l.length + 1) l w [] with
    | none => none
    | some (ps, r, w2) => match isB 124 r with
      | none => some (putB 3 (acc ++ [putB 2 ps]), r, w2)
      | some r2 => altsB g f r2 w2 (acc ++ [putB 2 ps])
def rowsB : Nat → Bs → Bool → Option PR
  | 0, _, _ => none
  | f + 1, l, w => altsB (rowsB f) (l.length + 1) l w []
end Pv

namespace Pv
open Go Go.RowKit

/-- A text below 128 without escapes; of classes the empty one alone. -/
def PlainB (l : Bs) : Prop := ∀ (i : Nat) b, l[i]? = some b → b.toNat < 128 ∧ b ≠ 92 ∧ (b = 91 → l[i + 1]? = some 93)
theorem PlainB.drop {l : Bs} (h : PlainB l) (n : Nat) : PlainB (l.drop n) := fun i b hb => by
  rw [List.getElem?_drop] at hb ⊢
  exact h (n + i) b hb
theorem PlainB.sfx {l r : Bs} (h : PlainB l) (hs : r <:+ l) : PlainB r := by
  obtain ⟨t, rfl⟩ := hs
  have := h.drop t.length
  rwa [List.drop_left] at this
theorem PlainB.head {b : UInt8} {r : Bs} (h : PlainB (b :: r)) : b.toNat < 128 ∧ b ≠ 92 ∧ (b = 91 → r[0]? = some 93) := h 0 b rfl
theorem PlainB.tail {b : UInt8} {r : Bs} (h : PlainB (b :: r)) : PlainB r := h.sfx (List.suffix_cons b r)
def plainC : Bs → Bool
  | [] => true
  | b :: r => decide (b.toNat < 128) && decide (b ≠ 92) && (decide (b ≠ 91) || decide (r[0]? = some 93)) && plainC r
theorem plainC_is : ∀ {l : Bs}, plainC l = true → PlainB l
  | [], _ => fun i b h => by simp at h
  | b :: r, h => by
    unfold plainC at h
    simp only [Bool.and_eq_true, Bool.or_eq_true, decide_eq_true_eq] at h
    obtain ⟨⟨⟨h1, h2⟩, h3⟩, h4⟩ := h
    intro i c hc
    match i with
    | 0 =>
      obtain rfl := Option.some.inj hc
      exact ⟨h1, h2, fun e => h3.elim (fun h => absurd e h) (fun h => h)⟩
    | i + 1 => exact plainC_is h4 i c hc

theorem isB_some {c : UInt8} {l r : Bs} (h : isB c l = some r) : l = c :: r := by
  unfold isB at h
  cases l with
  | nil => cases h
  | cons b l =>
    simp only at h
    split at h
    · rename_i e; subst e; obtain rfl := Option.some.inj h; rfl
    · cases h
theorem isB_none {c b : UInt8} {l : Bs} (h : isB c (b :: l) = none) : b ≠ c := fun e => by
  unfold isB at h
  simp only [if_pos e] at h
  cases h
theorem isB_hit (c : UInt8) (l : Bs) : isB c (c :: l) = some l := by unfold isB; simp
theorem isB_miss {c b : UInt8} (l : Bs) (h : b ≠ c) : isB c (b :: l) = none := by unfold isB; simp [h]
theorem isB_sfx {c : UInt8} {l r : Bs} (h : isB c l = some r) : r <:+ l := by rw [isB_some h]; exact List.suffix_cons c r
theorem takeB_some {no l r : Bs} {n : Nat} (h : takeB no l = some (n, r)) (hp : PlainB l) : ∃ b, l = b :: r ∧ n = b.toNat ∧ no.contains b = false := by
  cases l with
  | nil =>
    exfalso
    unfold takeB at h
    have : nextP ([] : Bs) = none := by decide
    rw [this] at h
    cases h
  | cons b l =>
    have hb := hp.head.1
    have e : nextP (b :: l) = some (b.toNat, 1) := by
      have h1 : goodP (b :: l) 1 = true := (good_1 _).2 ⟨by simp, by simpa [bN] using hb⟩
      have h2 : numP (b :: l) 1 = b.toNat := by
        unfold numP numK leadN bN
        simp
      unfold nextP
      rw [if_pos h1, h2]
    unfold takeB at h
    rw [e] at h
    simp only [decide_true, Bool.true_and, List.getD_cons_zero, List.drop_succ_cons, List.drop_zero] at h
    split at h
    · cases h
    · rename_i hc
      obtain ⟨rfl, rfl⟩ := Prod.mk.inj (Option.some.inj h)
      exact ⟨b, rfl, rfl, by simpa using hc⟩

theorem classB_empty (r : Bs) (w : Bool) : classB (93 :: r) w = some ([setX []], r, w) := by
  have h1 : isB 94 (93 :: r) = none := isB_miss r (by decide)
  have h2 : clsB (93 :: r).length.succ (93 :: r) [] = some ([], r) := by
    unfold clsB
    rw [isB_hit]
  unfold classB
  simp only [h1, Option.isSome_none]
  rw [show (93 :: r).length + 1 = (93 :: r).length.succ from rfl, h2]
  simp [joinR, sortR]

/-- What an atom is. -/
inductive AtomS (g : Bs → Bool → Option PR) (l : Bs) (wd : Bool) : PR → Prop
  | point (r : Bs) (e : l = 46 :: r) : AtomS g l wd ([setX [⟨0, 1114111⟩]], r, wd)
  | group (r : Bs) (t : List Rx) (r3 : Bs) (w2 : Bool) (e : l = 40 :: r) (h : g r wd = some (t, 41 :: r3, w2)) : AtomS g l wd (t, r3, w2)
  | none (r : Bs) (e : l = 91 :: 93 :: r) : AtomS g l wd ([setX []], r, wd)
  | self (b : UInt8) (r : Bs) (e : l = b :: r) (h1 : b ≠ 46) (h2 : b ≠ 40) (h3 : b ≠ 91) (h4 : b ≠ 92) (h5 : noneA.contains b = false) : AtomS g l wd ([setX (one1 b.toNat)], r, wd)
theorem atomB_steps {g : Bs → Bool → Option PR} {l : Bs} {wd : Bool} {x : PR} (h : atomB g l wd = some x) (hp : PlainB l) : AtomS g l wd x := by
  unfold atomB at h
  cases h1 : isB 46 l with
  | some r =>
    rw [h1] at h
    obtain rfl := Option.some.inj h
    exact .point r (isB_some h1)
  | none =>
    rw [h1] at h
    cases h2 : isB 40 l with
    | some r =>
      rw [h2] at h
      simp only at h
      cases h3 : g r wd with
      | none => rw [h3] at h; cases h
      | some q =>
        obtain ⟨t, r2, w2⟩ := q
        rw [h3] at h
        simp only at h
        cases h4 : isB 41 r2 with
        | none => rw [h4] at h; cases h
        | some r3 =>
          rw [h4] at h
          obtain rfl := Option.some.inj h
          rw [isB_some h4] at h3
          exact .group r t r3 w2 (isB_some h2) h3
    | none =>
      rw [h2] at h
      simp only at h
      cases h3 : isB 91 l with
      | some r =>
        rw [h3] at h
        simp only at h
        have e := isB_some h3
        subst e
        have h4 := hp.head.2.2 rfl
        cases r with
        | nil => simp at h4
        | cons c r =>
          obtain rfl := Option.some.inj h4
          rw [classB_empty] at h
          obtain rfl := Option.some.inj h
          exact .none r rfl
      | none =>
        rw [h3] at h
        simp only at h
        cases h4 : isB 92 l with
        | some r =>
          exfalso
          have e := isB_some h4
          subst e
          exact hp.head.2.1 rfl
        | none =>
          rw [h4] at h
          simp only at h
          cases h5 : takeB noneA l with
          | none => rw [h5] at h; cases h
          | some q =>
            obtain ⟨n, r⟩ := q
            rw [h5] at h
            obtain rfl := Option.some.inj h
            obtain ⟨b, rfl, rfl, hc⟩ := takeB_some h5 hp
            exact .self b r rfl (isB_none h1) (isB_none h2) (isB_none h3) (isB_none h4) hc

theorem digs_len (l : Bs) : (digs l).length ≤ 2 := by
  unfold digs
  refine Nat.le_trans (List.takeWhile_sublist _).length_le ?_
  rw [List.length_take]
  omega
theorem digs_pre (l : Bs) : l = digs l ++ l.drop (digs l).length := by
  have h : digs l <+: l := (List.takeWhile_prefix _).trans (List.take_prefix _ _)
  generalize digs l = d at *
  obtain ⟨t, rfl⟩ := h
  rw [List.drop_left]
theorem countB_some {l r : Bs} {n : Nat} (h : countB l = some (n, r)) : 1 ≤ (digs l).length ∧ n = decN (digs l) ∧ n ≤ 16 ∧ r = l.drop (digs l).length := by
  unfold countB at h
  split at h
  · cases h
  · rename_i hc
    obtain ⟨rfl, rfl⟩ := Prod.mk.inj (Option.some.inj h)
    simp only [Bool.or_eq_true, decide_eq_true_eq, not_or, List.isEmpty_iff] at hc
    refine ⟨?_, rfl, by omega, rfl⟩
    rcases Nat.eq_zero_or_pos (digs l).length with h0 | h0
    · exact absurd (List.eq_nil_of_length_eq_zero h0) hc.1
    · exact h0
theorem countB_sfx {l r : Bs} {n : Nat} (h : countB l = some (n, r)) : r <:+ l := by rw [(countB_some h).2.2.2]; exact List.drop_suffix _ _

/-- What stands behind an atom. -/
inductive OftS (l : Bs) : Option (Int × Int) × Bs → Prop
  | once (h1 : isB 42 l = none) (h2 : isB 43 l = none) (h3 : isB 63 l = none) (h4 : isB 123 l = none) : OftS l (none, l)
  | star (r : Bs) (e : l = 42 :: r) : OftS l (some (0, -1), r)
  | plus (r : Bs) (e : l = 43 :: r) : OftS l (some (1, -1), r)
  | perh (r : Bs) (e : l = 63 :: r) : OftS l (some (0, 1), r)
  | just (r r3 : Bs) (a : Nat) (e : l = 123 :: r) (h : countB r = some (a, 125 :: r3)) : OftS l (some ((a : Int), (a : Int)), r3)
  | from (r r4 : Bs) (a : Nat) (e : l = 123 :: r) (h : countB r = some (a, 44 :: 125 :: r4)) : OftS l (some ((a : Int), -1), r4)
  | some (r r3 r5 : Bs) (a b : Nat) (e : l = 123 :: r) (h : countB r = some (a, 44 :: r3)) (h2 : isB 125 r3 = none) (h3 : countB r3 = some (b, 125 :: r5)) (h4 : a ≤ b) : OftS l (some ((a : Int), (b : Int)), r5)
theorem oftB_steps {l : Bs} {x : Option (Int × Int) × Bs} (h : oftB l = Option.some x) : OftS l x := by
  unfold oftB at h
  cases h1 : isB 42 l with
  | some r =>
    rw [h1] at h
    obtain rfl := Option.some.inj h
    exact .star r (isB_some h1)
  | none =>
    rw [h1] at h
    cases h2 : isB 43 l with
    | some r =>
      rw [h2] at h
      obtain rfl := Option.some.inj h
      exact .plus r (isB_some h2)
    | none =>
      rw [h2] at h
      cases h3 : isB 63 l with
      | some r =>
        rw [h3] at h
        obtain rfl := Option.some.inj h
        exact .perh r (isB_some h3)
      | none =>
        rw [h3] at h
        cases h4 : isB 123 l with
        | none =>
          rw [h4] at h
          obtain rfl := Option.some.inj h
          exact .once h1 h2 h3 h4
        | some r =>
          rw [h4] at h
          simp only at h
          cases h5 : countB r with
          | none => rw [h5] at h; cases h
          | some q =>
            obtain ⟨a, r2⟩ := q
            rw [h5] at h
            simp only at h
            cases h6 : isB 44 r2 with
            | none =>
              rw [h6] at h
              simp only at h
              cases h7 : isB 125 r2 with
              | none => rw [h7] at h; cases h
              | some r3 =>
                rw [h7] at h
                obtain rfl := Option.some.inj h
                rw [isB_some h7] at h5
                exact .just r r3 a (isB_some h4) h5
            | some r3 =>
              rw [h6] at h
              simp only at h
              rw [isB_some h6] at h5
              cases h7 : isB 125 r3 with
              | some r4 =>
                rw [h7] at h
                obtain rfl := Option.some.inj h
                rw [isB_some h7] at h5
                exact .from r r4 a (isB_some h4) h5
              | none =>
                rw [h7] at h
                simp only at h
                cases h8 : countB r3 with
                | none => rw [h8] at h; cases h
                | some q =>
                  obtain ⟨b, r4⟩ := q
                  rw [h8] at h
                  simp only at h
                  split at h
                  · cases h
                  · rename_i hab
                    cases h9 : isB 125 r4 with
                    | none => rw [h9] at h; cases h
                    | some r5 =>
                      rw [h9] at h
                      obtain rfl := Option.some.inj h
                      rw [isB_some h9] at h8
                      exact .some r r3 r5 a b (isB_some h4) h5 h7 h8 (by omega)
theorem oftB_sfx {l r : Bs} {o : Option (Int × Int)} (h : oftB l = some (o, r)) : r <:+ l := by
  have s2 : ∀ {a b : UInt8} {l : Bs}, l <:+ a :: b :: l := fun {a b l} => ⟨[a, b], rfl⟩
  have s1 : ∀ {a : UInt8} {l : Bs}, l <:+ a :: l := fun {a l} => ⟨[a], rfl⟩
  cases oftB_steps h with
  | once => exact List.suffix_refl _
  | star r e => subst e; exact s1
  | plus r e => subst e; exact s1
  | perh r e => subst e; exact s1
  | just r r3 a e k => subst e; exact s1.trans ((countB_sfx k).trans s1)
  | «from» r r4 a e k => subst e; exact s2.trans ((countB_sfx k).trans s1)
  | some r r3 r5 a b e k h2 h3 h4 => subst e; exact (s1.trans (countB_sfx h3)).trans ((s1.trans (countB_sfx k)).trans s1)
/-- What is left is shorter. -/
def Sfx (g : Bs → Bool → Option PR) : Prop := ∀ l wd t r w2, PlainB l → g l wd = some (t, r, w2) → r <:+ l
theorem atomB_sfx {g : Bs → Bool → Option PR} (hg : Sfx g) {l r : Bs} {wd w2 : Bool} {t : List Rx} (h : atomB g l wd = some (t, r, w2)) (hp : PlainB l) : r <:+ l ∧ r.length < l.length := by
  have key : ∀ {b : UInt8} {m : Bs}, r <:+ m → l = b :: m → r <:+ l ∧ r.length < l.length := fun {b m} hs e => by
    subst e
    exact ⟨hs.trans (List.suffix_cons b m), by have := hs.length_le; simp; omega⟩
  cases atomB_steps h hp with
  | point _ e => exact key (List.suffix_refl _) e
  | group r1 _ _ _ e h1 => exact key ((List.suffix_cons 41 r).trans (hg _ _ _ _ _ (by subst e; exact hp.tail) h1)) e
  | none _ e => exact key (List.suffix_cons 93 r) e
  | self b _ e _ _ _ _ _ => exact key (List.suffix_refl _) e
/-- A piece. -/
theorem pieceB_steps {g : Bs → Bool → Option PR} {l r2 : Bs} {wd w3 : Bool} {t2 : List Rx} (h : pieceB g l wd = some (t2, r2, w3)) :
    ∃ t r, atomB g l wd = some (t, r, w3) ∧ ((oftB r = some (none, r2) ∧ t2 = t) ∨ ∃ a b, oftB r = some (some (a, b), r2) ∧ t2 = ⟨4, [], 1, a, b⟩ :: t) := by
  unfold pieceB at h
  cases h1 : atomB g l wd with
  | none => rw [h1] at h; cases h
  | some q =>
    obtain ⟨t, r, w2⟩ := q
    rw [h1] at h
    simp only at h
    cases h2 : oftB r with
    | none => rw [h2] at h; cases h
    | some q =>
      obtain ⟨o, r3⟩ := q
      rw [h2] at h
      cases o with
      | none =>
        simp only [Option.some.injEq, Prod.mk.injEq] at h
        obtain ⟨rfl, rfl, rfl⟩ := h
        exact ⟨_, _, rfl, .inl ⟨h2, rfl⟩⟩
      | some p =>
        obtain ⟨a, b⟩ := p
        simp only [Option.some.injEq, Prod.mk.injEq] at h
        obtain ⟨rfl, rfl, rfl⟩ := h
        exact ⟨_, _, rfl, .inr ⟨a, b, h2, rfl⟩⟩
theorem pieceB_sfx {g : Bs → Bool → Option PR} (hg : Sfx g) {l r : Bs} {wd w2 : Bool} {t : List Rx} (h : pieceB g l wd = some (t, r, w2)) (hp : PlainB l) : r <:+ l ∧ r.length < l.length := by
  obtain ⟨t1, r1, h1, h2⟩ := pieceB_steps h
  obtain ⟨k1, k2⟩ := atomB_sfx hg h1 hp
  have k3 : r <:+ r1 := by
    rcases h2 with ⟨h2, _⟩ | ⟨a, b, h2, _⟩
    · exact oftB_sfx h2
    · exact oftB_sfx h2
  exact ⟨k3.trans k1, by have := k3.length_le; omega⟩
theorem piecesB_steps {g : Bs → Bool → Option PR} {f : Nat} {l : Bs} {wd : Bool} {acc : List (List Rx)} {x : List (List Rx) × Bs × Bool} (h : piecesB g f l wd acc = some x) :
    (stopB l = true ∧ x = (acc, l, wd)) ∨ (stopB l = false ∧ ∃ f' t r w2, pieceB g l wd = some (t, r, w2) ∧ piecesB g f' r w2 (acc ++ [t]) = some x) := by
  cases f with
  | zero => cases h
  | succ f =>
    unfold piecesB at h
    cases h1 : stopB l with
    | true =>
      rw [h1] at h
      simp only [if_true, Option.some.injEq] at h
      exact .inl ⟨rfl, h.symm⟩
    | false =>
      rw [h1] at h
      simp only [Bool.false_eq_true, if_false] at h
      cases h2 : pieceB g l wd with
      | none => rw [h2] at h; cases h
      | some q =>
        obtain ⟨t, r, w2⟩ := q
        rw [h2] at h
        exact .inr ⟨rfl, f, t, r, w2, rfl, h⟩
theorem piecesB_sfx {g : Bs → Bool → Option PR} (hg : Sfx g) : ∀ (f : Nat) {l r : Bs} {wd w2 : Bool} {acc ps : List (List Rx)}, piecesB g f l wd acc = some (ps, r, w2) → PlainB l → r <:+ l
  | 0, _, _, _, _, _, _, h, _ => by cases h
  | f + 1, l, r, wd, w2, acc, ps, h, hp => by
    unfold piecesB at h
    split at h
    · simp only [Option.some.injEq, Prod.mk.injEq] at h
      obtain ⟨_, rfl, _⟩ := h
      exact List.suffix_refl _
    · cases h2 : pieceB g l wd with
      | none => rw [h2] at h; cases h
      | some q =>
        obtain ⟨t, r1, w1⟩ := q
        rw [h2] at h
        have k := (pieceB_sfx hg h2 hp).1
        exact (piecesB_sfx hg f h (hp.sfx k)).trans k
theorem altsB_steps {g : Bs → Bool → Option PR} {f : Nat} {l : Bs} {wd : Bool} {acc : List (List Rx)} {x : PR} (h : altsB g f l wd acc = some x) :
    ∃ f' ps r w2, piecesB g (l.length + 1) l wd [] = some (ps, r, w2) ∧ ((isB 124 r = none ∧ x = (putB 3 (acc ++ [putB 2 ps]), r, w2)) ∨ ∃ r2, r = 124 :: r2 ∧ altsB g f' r2 w2 (acc ++ [putB 2 ps]) = some x) := by
  cases f with
  | zero => cases h
  | succ f =>
    unfold altsB at h
    cases h1 : piecesB g (l.length + 1) l wd [] with
    | none => rw [h1] at h; cases h
    | some q =>
      obtain ⟨ps, r, w2⟩ := q
      rw [h1] at h
      simp only at h
      refine ⟨f, ps, r, w2, rfl, ?_⟩
      cases h2 : isB 124 r with
      | none =>
        rw [h2] at h
        exact .inl ⟨rfl, (Option.some.inj h).symm⟩
      | some r2 =>
        rw [h2] at h
        exact .inr ⟨r2, isB_some h2, h⟩
theorem altsB_sfx {g : Bs → Bool → Option PR} (hg : Sfx g) : ∀ (f : Nat) {l r : Bs} {wd w2 : Bool} {acc : List (List Rx)} {t : List Rx}, altsB g f l wd acc = some (t, r, w2) → PlainB l → r <:+ l
  | 0, _, _, _, _, _, _, h, _ => by cases h
  | f + 1, l, r, wd, w2, acc, t, h, hp => by
    unfold altsB at h
    cases h1 : piecesB g (l.length + 1) l wd [] with
    | none => rw [h1] at h; cases h
    | some q =>
      obtain ⟨ps, r1, w1⟩ := q
      have k := piecesB_sfx hg _ h1 hp
      rw [h1] at h
      simp only at h
      cases h2 : isB 124 r1 with
      | none =>
        rw [h2] at h
        simp only [Option.some.injEq, Prod.mk.injEq] at h
        obtain ⟨_, rfl, _⟩ := h
        exact k
      | some r2 =>
        rw [h2] at h
        have k2 : r2 <:+ r1 := isB_sfx h2
        exact (altsB_sfx hg f h (hp.sfx (k2.trans k))).trans (k2.trans k)
theorem rowsB_sfx : ∀ f, Sfx (rowsB f)
  | 0 => fun l wd t r w2 _ h => by cases h
  | f + 1 => fun l wd t r w2 hp h => altsB_sfx (rowsB_sfx f) _ h hp
end Pv

namespace Pv
open Go Go.RowKit

theorem flat_snoc {α : Type} (acc : List (List α)) (t : List α) : (acc ++ [t]).flatten.length = acc.flatten.length + t.length := by rw [List.flatten_append, List.length_append]; simp
theorem len_snoc {α : Type} (acc : List α) (t : α) : (acc ++ [t]).length = acc.length + 1 := by simp
def FewB (g : Bs → Bool → Option PR) : Prop := ∀ l wd t r w2, PlainB l → g l wd = some (t, r, w2) → 1 ≤ t.length ∧ t.length + 3 * r.length ≤ 3 * l.length + 1
theorem atomB_few {g : Bs → Bool → Option PR} (hg : FewB g) {l r : Bs} {wd w2 : Bool} {t : List Rx} (h : atomB g l wd = some (t, r, w2)) (hp : PlainB l) : 1 ≤ t.length ∧ t.length + 3 * r.length + 2 ≤ 3 * l.length := by
  cases atomB_steps h hp with
  | point _ e => subst e; simp; omega
  | group r1 _ _ _ e h1 =>
    subst e
    have := hg _ _ _ _ _ hp.tail h1
    simp at this ⊢
    omega
  | none _ e => subst e; simp; omega
  | self b _ e _ _ _ _ _ => subst e; simp; omega
theorem oftB_less {l r : Bs} {p : Int × Int} (h : oftB l = some (some p, r)) : r.length + 1 ≤ l.length := by
  cases oftB_steps h with
  | star r e => subst e; simp
  | plus r e => subst e; simp
  | perh r e => subst e; simp
  | just r r3 a e k => subst e; have := (countB_sfx k).length_le; simp at this ⊢; omega
  | «from» r r4 a e k => subst e; have := (countB_sfx k).length_le; simp at this ⊢; omega
  | some r r3 r5 a b e k h2 h3 h4 => subst e; have h5 := (countB_sfx k).length_le; have h6 := (countB_sfx h3).length_le; simp at h5 h6 ⊢; omega
theorem pieceB_few {g : Bs → Bool → Option PR} (hg : FewB g) {l r : Bs} {wd w2 : Bool} {t : List Rx} (h : pieceB g l wd = some (t, r, w2)) (hp : PlainB l) : 1 ≤ t.length ∧ t.length + 3 * r.length + 2 ≤ 3 * l.length := by
  obtain ⟨t1, r1, h1, h2⟩ := pieceB_steps h
  have k := atomB_few hg h1 hp
  rcases h2 with ⟨h2, rfl⟩ | ⟨a, b, h2, rfl⟩
  · have := (oftB_sfx h2).length_le
    omega
  · have := oftB_less h2
    simp
    omega
theorem piecesB_few {g : Bs → Bool → Option PR} (hg : FewB g) (hs : Sfx g) : ∀ (f : Nat) {l r : Bs} {wd w2 : Bool} {acc ps : List (List Rx)}, piecesB g f l wd acc = some (ps, r, w2) → PlainB l → (∀ p, p ∈ acc → 1 ≤ p.length) →
    (∀ p, p ∈ ps → 1 ≤ p.length) ∧ ps.flatten.length + 2 * ps.length + 3 * r.length ≤ 3 * l.length + acc.flatten.length + 2 * acc.length
  | 0, _, _, _, _, _, _, h, _, _ => by cases h
  | f + 1, l, r, wd, w2, acc, ps, h, hp, ha => by
    rcases piecesB_steps h with ⟨_, e⟩ | ⟨_, _⟩
    · simp only [Prod.mk.injEq] at e
      obtain ⟨rfl, rfl, rfl⟩ := e
      exact ⟨ha, by omega⟩
    · unfold piecesB at h
      split at h
      · simp only [Option.some.injEq, Prod.mk.injEq] at h
        obtain ⟨rfl, rfl, rfl⟩ := h
        exact ⟨ha, by omega⟩
      · cases h2 : pieceB g l wd with
        | none => rw [h2] at h; cases h
        | some q =>
          obtain ⟨t, r1, w1⟩ := q
          rw [h2] at h
          have k := pieceB_few hg h2 hp
          have k2 := piecesB_few hg hs f h (hp.sfx (pieceB_sfx hs h2 hp).1) (fun p hp => by
            rcases List.mem_append.1 hp with hp | hp
            · exact ha p hp
            · obtain rfl := List.mem_singleton.1 hp; exact k.1)
          refine ⟨k2.1, ?_⟩
          have := k2.2
          rw [flat_snoc, len_snoc] at this
          omega
theorem flat_ge : ∀ {ll : List (List Rx)}, (∀ p, p ∈ ll → 1 ≤ p.length) → ll.length ≤ ll.flatten.length
  | [], _ => by simp
  | p :: ll, h => by
    have h1 := h p (by simp)
    have h2 := flat_ge (ll := ll) fun q hq => h q (by simp [hq])
    rw [List.flatten_cons, List.length_append, List.length_cons]
    omega
theorem putB_len (k : Int) (ll : List (List Rx)) (h : ∀ p, p ∈ ll → 1 ≤ p.length) : 1 ≤ (putB k ll).length ∧ ll.flatten.length ≤ (putB k ll).length ∧ (putB k ll).length ≤ ll.flatten.length + 1 := by
  match ll, h with
  | [], _ => simp [putB]
  | [p], h => have := h p (by simp); simp [putB]; omega
  | p :: q :: ll, h => simp [putB]
theorem altsB_few {g : Bs → Bool → Option PR} (hg : FewB g) (hs : Sfx g) : ∀ (f : Nat) {l r : Bs} {wd w2 : Bool} {acc : List (List Rx)} {t : List Rx}, altsB g f l wd acc = some (t, r, w2) → PlainB l → (∀ p, p ∈ acc → 1 ≤ p.length) →
    1 ≤ t.length ∧ t.length + 3 * r.length ≤ 3 * l.length + acc.flatten.length + 1 + (if acc.length = 0 then 0 else 1)
  | 0, _, _, _, _, _, _, h, _, _ => by cases h
  | f + 1, l, r, wd, w2, acc, t, h, hp, ha => by
    unfold altsB at h
    cases h1 : piecesB g (l.length + 1) l wd [] with
    | none => rw [h1] at h; cases h
    | some q =>
      obtain ⟨ps, r1, w1⟩ := q
      have k := piecesB_few hg hs _ h1 hp (by simp)
      have k1 := putB_len 2 ps k.1
      have k2 := k.2
      simp only [List.flatten_nil, List.length_nil, Nat.mul_zero, Nat.add_zero] at k2
      have ka : ∀ p, p ∈ acc ++ [putB 2 ps] → 1 ≤ p.length := fun p hp => by
        rcases List.mem_append.1 hp with hp | hp
        · exact ha p hp
        · obtain rfl := List.mem_singleton.1 hp; exact k1.1
      rw [h1] at h
      simp only at h
      cases h2 : isB 124 r1 with
      | none =>
        rw [h2] at h
        simp only [Option.some.injEq, Prod.mk.injEq] at h
        obtain ⟨rfl, rfl, rfl⟩ := h
        by_cases h3 : acc.length = 0
        · obtain rfl := List.eq_nil_of_length_eq_zero h3
          show 1 ≤ (putB 3 [putB 2 ps]).length ∧ (putB 3 [putB 2 ps]).length + _ ≤ _
          rw [show putB 3 [putB 2 ps] = putB 2 ps from rfl]
          simp only [List.flatten_nil, List.length_nil, if_true]
          omega
        · have k3 := putB_len 3 (acc ++ [putB 2 ps]) ka
          rw [if_neg h3]
          rw [flat_snoc] at k3
          omega
      | some r2 =>
        rw [h2] at h
        have e := isB_some h2
        subst e
        have k3 := altsB_few hg hs f h (hp.sfx ((List.suffix_cons _ _).trans (piecesB_sfx hs _ h1 hp))) ka
        rw [flat_snoc, len_snoc, if_neg (by omega)] at k3
        simp only [List.length_cons] at k2
        split
        · rename_i h3
          obtain rfl := List.eq_nil_of_length_eq_zero h3
          simp only [List.flatten_nil, List.length_nil] at k3 ⊢
          omega
        · omega
theorem rowsB_few : ∀ f, FewB (rowsB f)
  | 0 => fun l wd t r w2 _ h => by cases h
  | f + 1 => fun l wd t r w2 hp h => by
    have := altsB_few (rowsB_few f) (rowsB_sfx f) _ h hp (by simp)
    simpa using this
end Pv
