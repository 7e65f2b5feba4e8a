/- The document's sets and patterns as data: ranges, nodes; in memory; trees, and what stands behind a node. Nothing of a program stands here. -/
import Derived.Test.YtjnjbcigbnjmkaaMem2
namespace Pv
open Go Go.RowKit

/-- A range, a node. -/
structure Rng where
  lo : Int
  hi : Int
deriving DecidableEq
structure Rx where
  kind : Int
  set : List Rng
  many : Int
  least : Int
  most : Int
deriving DecidableEq
def RRng (f : Nat → Value) (r : Rng) : Prop := RI (f 0) r.lo ∧ RI (f 1) r.hi
abbrev IsSet (w : World) := SlK w 2 RRng
def RU (v : Value) (n : Int) : Prop := v = .int .u8 n ∧ 0 ≤ n ∧ n ≤ 255
structure RRx (w : World) (f : Nat → Value) (x : Rx) : Prop where
  kind : RU (f 0) x.kind
  set : IsSet w (f 1) x.set
  many : RI (f 2) x.many
  least : RI (f 3) x.least
  most : RI (f 4) x.most
theorem RRx.keep {w w' : World} {f : Nat → Value} {x : Rx} (h : RRx w f x) (k : Keep w w') : RRx w' f x := ⟨h.1, SlK.keep h.2 k, h.3, h.4, h.5⟩
/-- Nodes from an address on. -/
abbrev AtRx (w : World) (A : Option Addr) (t : List Rx) : Prop := AtK w 5 A (RRx w) t
theorem AtRx.keep {w w' : World} {A : Option Addr} {t : List Rx} (h : AtRx w A t) (k : Keep w w') : AtRx w' A t := h.keepR k fun _ _ h => h.keep k
abbrev AtSet (w : World) (A : Option Addr) (l : List Rng) : Prop := AtK w 2 A RRng l
/-- A node of them: its cells. -/
theorem AtRx.gt {w : World} {A : Option Addr} {t : List Rx} {n i : Nat} (h : AtRx w A t) (HL : Hid (t.length = n)) (hi : i < n) :
    ∃ b off k B c m l many least most, A = some ⟨b, off, none⟩ ∧ b < w.heap.size ∧ w.cell? ⟨b, off + i * 5, none⟩ = some (.int .u8 k) ∧ w.cell? ⟨b, off + i * 5 + 1, none⟩ = some (.slice B m c) ∧
      w.cell? ⟨b, off + i * 5 + 2, none⟩ = some (.int .i64 many) ∧ w.cell? ⟨b, off + i * 5 + 3, none⟩ = some (.int .i64 least) ∧ w.cell? ⟨b, off + i * 5 + 4, none⟩ = some (.int .i64 most) ∧
      AtSet w B l ∧ Hid (l.length = m) ∧ m ≤ c ∧ (0 ≤ k ∧ k ≤ 255) ∧ (-9223372036854775808 ≤ many ∧ many ≤ 9223372036854775807) ∧ (-9223372036854775808 ≤ least ∧ least ≤ 9223372036854775807) ∧ (-9223372036854775808 ≤ most ∧ most ≤ 9223372036854775807) ∧
      Hid (t[i]? = some ⟨k, l, many, least, most⟩) := by
  obtain ⟨b, off, f, ⟨k, l, many, least, most⟩, e, hb, hc, ⟨⟨h0, h01, h02⟩, ⟨B, c, h1, hs, hm⟩, ⟨h2, h21, h22⟩, ⟨h3, h31, h32⟩, ⟨h4, h41, h42⟩⟩, hx⟩ := AtK.gt h HL hi
  have c0 := hc 0 (by omega); have c1 := hc 1 (by omega); have c2 := hc 2 (by omega); have c3 := hc 3 (by omega); have c4 := hc 4 (by omega)
  rw [h0] at c0; rw [h1] at c1; rw [h2] at c2; rw [h3] at c3; rw [h4] at c4
  exact ⟨b, off, k, B, c, l.length, l, many, least, most, e, hb, c0, c1, c2, c3, c4, hs, rfl, hm, ⟨h01, h02⟩, ⟨h21, h22⟩, ⟨h31, h32⟩, ⟨h41, h42⟩, hx⟩
/-- The five cells of a node. -/
structure C5 (w : World) (b o : Nat) (k : Int) (B : Option Addr) (m c : Nat) (many least most : Int) : Prop where
  lt : b < w.heap.size
  c0 : w.cell? ⟨b, o, none⟩ = some (.int .u8 k)
  c1 : w.cell? ⟨b, o + 1, none⟩ = some (.slice B m c)
  c2 : w.cell? ⟨b, o + 2, none⟩ = some (.int .i64 many)
  c3 : w.cell? ⟨b, o + 3, none⟩ = some (.int .i64 least)
  c4 : w.cell? ⟨b, o + 4, none⟩ = some (.int .i64 most)
theorem C5.next {w w' : World} {b o : Nat} {k : Int} {B : Option Addr} {m c : Nat} {many least most : Int} (h : C5 w b o k B m c many least most) (kp : Keep w w') : C5 w' b o k B m c many least most :=
  ⟨Nat.lt_of_lt_of_le h.lt kp.size, (kp.cell _ _ h.lt).trans h.c0, (kp.cell _ _ h.lt).trans h.c1, (kp.cell _ _ h.lt).trans h.c2, (kp.cell _ _ h.lt).trans h.c3, (kp.cell _ _ h.lt).trans h.c4⟩
/-- A node of nodes: cells, set, bounds. -/
theorem AtRx.g5 {w : World} {A : Option Addr} {t : List Rx} {n i : Nat} (h : AtRx w A t) (HL : Hid (t.length = n)) (hi : i < n) :
    ∃ b off k B c m l many least most, A = some ⟨b, off, none⟩ ∧ C5 w b (off + i * 5) k B m c many least most ∧
      AtSet w B l ∧ Hid (l.length = m) ∧ m ≤ c ∧ (0 ≤ k ∧ k ≤ 255) ∧ (-9223372036854775808 ≤ many ∧ many ≤ 9223372036854775807) ∧ (-9223372036854775808 ≤ least ∧ least ≤ 9223372036854775807) ∧ (-9223372036854775808 ≤ most ∧ most ≤ 9223372036854775807) ∧
      Hid (t[i]? = some ⟨k, l, many, least, most⟩) := by
  obtain ⟨b, off, k, B, c, m, l, many, least, most, e, hb, c0, c1, c2, c3, c4, hs, HM, hm, h1, h2, h3, h4, HX⟩ := h.gt HL hi
  exact ⟨b, off, k, B, c, m, l, many, least, most, e, ⟨hb, c0, c1, c2, c3, c4⟩, hs, HM, hm, h1, h2, h3, h4, HX⟩
theorem AtRx.g52 {w : World} {b off : Nat} {t : List Rx} {n i : Nat} (h : AtRx w (some ⟨b, off, none⟩) t) (HL : Hid (t.length = n)) (hi : i < n) :
    ∃ k B c m l many least most, C5 w b (off + i * 5) k B m c many least most ∧
      AtSet w B l ∧ Hid (l.length = m) ∧ m ≤ c ∧ (0 ≤ k ∧ k ≤ 255) ∧ (-9223372036854775808 ≤ many ∧ many ≤ 9223372036854775807) ∧ (-9223372036854775808 ≤ least ∧ least ≤ 9223372036854775807) ∧ (-9223372036854775808 ≤ most ∧ most ≤ 9223372036854775807) ∧
      Hid (t[i]? = some ⟨k, l, many, least, most⟩) := by
  obtain ⟨b', off', k, B, c, m, l, many, least, most, e, h⟩ := h.g5 HL hi
  simp only [Option.some.injEq, Addr.mk.injEq, and_true] at e
  obtain ⟨rfl, rfl⟩ := e
  exact ⟨k, B, c, m, l, many, least, most, h⟩
/-- A range of a set. -/
theorem AtSet.gt {w : World} {A : Option Addr} {l : List Rng} {n i : Nat} (h : AtSet w A l) (HL : Hid (l.length = n)) (hi : i < n) :
    ∃ b off lo hi', A = some ⟨b, off, none⟩ ∧ b < w.heap.size ∧ w.cell? ⟨b, off + i * 2, none⟩ = some (.int .i64 lo) ∧ w.cell? ⟨b, off + i * 2 + 1, none⟩ = some (.int .i64 hi') ∧
      (-9223372036854775808 ≤ lo ∧ lo ≤ 9223372036854775807) ∧ (-9223372036854775808 ≤ hi' ∧ hi' ≤ 9223372036854775807) ∧ Hid (l[i]? = some ⟨lo, hi'⟩) := by
  obtain ⟨b, off, f, ⟨lo, hi'⟩, e, hb, hc, ⟨⟨h0, h01, h02⟩, ⟨h1, h11, h12⟩⟩, hx⟩ := AtK.gt h HL hi
  have c0 := hc 0 (by omega); have c1 := hc 1 (by omega)
  rw [h0] at c0; rw [h1] at c1
  exact ⟨b, off, lo, hi', e, hb, c0, c1, ⟨h01, h02⟩, ⟨h11, h12⟩, hx⟩

/-- May ranges be a set? -/
structure SetOk (l : List Rng) : Prop where
  few : l.length ≤ 256
  one : ∀ (i : Nat) x, l[i]? = some x → 0 ≤ x.lo ∧ x.lo ≤ x.hi ∧ x.hi ≤ 1114111
  gap : ∀ (i : Nat) x y, l[i]? = some x → l[i + 1]? = some y → x.hi + 2 ≤ y.lo
noncomputable def setB (l : List Rng) : Bool := yes (SetOk l)
theorem setB_yes {l : List Rng} (h : SetOk l) : setB l = true := yes_t h
theorem setB_no {l : List Rng} (h : ¬ SetOk l) : setB l = false := yes_f h
theorem SetOk.of {l : List Rng} (h : setB l = true) : SetOk l := of_yes h
theorem SetOk.not_of {l : List Rng} (h : setB l = false) : ¬ SetOk l := of_no h
theorem SetOk.nil : SetOk [] := ⟨by simp, fun i x h => by simp at h, fun i x y h => by simp at h⟩
/-- The error that Check tells. -/
noncomputable def setE (l : List Rng) : Int := if setB l = true then 0 else 8

theorem setE_yes {l : List Rng} (h : setB l = true) : setE l = 0 := by unfold setE; rw [if_pos h]
theorem setE_no {l : List Rng} (h : setB l = false) : setE l = 8 := by unfold setE; rw [if_neg (by rw [h]; simp)]
/-- May a node be, by itself? -/
def Rx.One (x : Rx) : Prop :=
  (x.kind = 0 ∧ x.set = [] ∧ x.least = 0 ∧ x.most = 0 ∧ x.many = 0) ∨ (x.kind = 1 ∧ SetOk x.set ∧ x.least = 0 ∧ x.most = 0 ∧ x.many = 0) ∨
  ((x.kind = 2 ∨ x.kind = 3) ∧ x.set = [] ∧ x.least = 0 ∧ x.most = 0 ∧ 2 ≤ x.many) ∨
  (x.kind = 4 ∧ x.set = [] ∧ x.many = 1 ∧ 0 ≤ x.least ∧ x.least ≤ 16 ∧ (x.most = -1 ∨ (x.least ≤ x.most ∧ x.most ≤ 16)))
noncomputable def Rx.oneB (x : Rx) : Bool := yes x.One
theorem Rx.oneB_yes {x : Rx} (h : x.One) : x.oneB = true := yes_t h
theorem Rx.oneB_no {x : Rx} (h : ¬ x.One) : x.oneB = false := yes_f h
theorem Rx.One.of {x : Rx} (h : x.oneB = true) : x.One := of_yes h

/-- .. as the code asks it: kind, whether the set may be, the set's length. -/
def oneC (k : Int) (sb : Bool) (n : Nat) (many least most : Int) : Bool :=
  if k == 0 then ((n : Int) == 0 && least == 0 && most == 0) && many == 0
  else if k == 1 then sb && least == 0 && most == 0 && many == 0
  else if k == 2 || k == 3 then ((n : Int) == 0 && least == 0 && most == 0) && decide (2 ≤ many)
  else if k == 4 then (n : Int) == 0 && many == 1 && decide (0 ≤ least) && decide (least ≤ 16) && (most == -1 || decide (least ≤ most) && decide (most ≤ 16))
  else false
theorem oneC_eq (x : Rx) : oneC x.kind (setB x.set) x.set.length x.many x.least x.most = x.oneB := by
  by_cases h : x.One
  · rw [Rx.oneB_yes h]
    rcases h with ⟨h1, h2, h3, h4, h5⟩ | ⟨h1, h2, h3, h4, h5⟩ | ⟨h1, h2, h3, h4, h5⟩ | ⟨h1, h2, h3, h4, h5, h6⟩
    · simp [oneC, h1, h2, h3, h4, h5]
    · simp [oneC, h1, setB_yes h2, h3, h4, h5]
    · rcases h1 with h1 | h1 <;> simp [oneC, h1, h2, h3, h4, h5]
    · have : (x.most == -1 || decide (x.least ≤ x.most) && decide (x.most ≤ 16)) = true := by simp; omega
      simp [oneC, h1, h2, h3, h4, h5]; omega
  · rw [Rx.oneB_no h]
    cases hc : oneC x.kind (setB x.set) x.set.length x.many x.least x.most with
    | false => rfl
    | true =>
      refine absurd ?_ h
      have hn : x.set.length = 0 → x.set = [] := List.eq_nil_of_length_eq_zero
      unfold oneC at hc
      unfold Rx.One
      by_cases k0 : x.kind = 0
      · simp [k0] at hc; exact .inl ⟨k0, hc.1.1.1, hc.1.1.2, hc.1.2, hc.2⟩
      by_cases k1 : x.kind = 1
      · simp [k1] at hc; exact .inr (.inl ⟨k1, SetOk.of hc.1.1.1, hc.1.1.2, hc.1.2, hc.2⟩)
      by_cases k2 : x.kind = 2 ∨ x.kind = 3
      · have k2' : (x.kind == 2 || x.kind == 3) = true := by simpa using k2
        simp [k0, k1, k2'] at hc; exact .inr (.inr (.inl ⟨k2, hc.1.1.1, hc.1.1.2, hc.1.2, hc.2⟩))
      by_cases k4 : x.kind = 4
      · simp [k4] at hc
        exact .inr (.inr (.inr ⟨k4, hc.1.1.1.1, hc.1.1.1.2, hc.1.1.2, hc.1.2, hc.2⟩))
      · have k2' : (x.kind == 2 || x.kind == 3) = false := by simpa using k2
        simp [k0, k1, k2', k4] at hc

/-- One node behind the other. -/
def again (f : Nat → Option Nat) : Nat → Nat → Option Nat
  | 0, a => some a
  | n + 1, a => (f a).bind (again f n)
/-- The place behind the node that begins at one, at most so many deep. -/
noncomputable def behind (t : List Rx) : Nat → Nat → Option Nat
  | 0, i => match t[i]? with | none => none | some x => if x.oneB = true ∧ x.kind ≤ 1 then some (i + 1) else none
  | d + 1, i => match t[i]? with | none => none | some x => if x.oneB = true then again (behind t d) x.many.toNat (i + 1) else none
theorem behind_none {t : List Rx} {i : Nat} (h : t[i]? = none) (d : Nat) : behind t d i = none := by cases d <;> simp [behind, h]
theorem behind_bad {t : List Rx} {i : Nat} {x : Rx} (h : t[i]? = some x) (hx : x.oneB = false) (d : Nat) : behind t d i = none := by cases d <;> simp [behind, h, hx]
theorem behind_deep {t : List Rx} {i : Nat} {x : Rx} (h : t[i]? = some x) (hx : 1 < x.kind) : behind t 0 i = none := by simp [behind, h]; omega
theorem behind_leaf {t : List Rx} {i : Nat} {x : Rx} (h : t[i]? = some x) (hx : x.oneB = true) (hk : x.kind ≤ 1) (d : Nat) : behind t d i = some (i + 1) := by
  have hm : x.many = 0 := by
    rcases Rx.One.of hx with ⟨_, _, _, _, h⟩ | ⟨_, _, _, _, h⟩ | ⟨h, _⟩ | ⟨h, _⟩ <;> omega
  cases d <;> simp [behind, h, hx, hk, hm, again]
theorem behind_in {t : List Rx} {i : Nat} {x : Rx} (h : t[i]? = some x) (hx : x.oneB = true) (d : Nat) : behind t (d + 1) i = again (behind t d) x.many.toNat (i + 1) := by simp [behind, h, hx]

theorem again_snoc (f : Nat → Option Nat) : ∀ (n a : Nat), again f (n + 1) a = (again f n a).bind f
  | 0, a => by simp [again]
  | n + 1, a => by
    show (f a).bind (again f (n + 1)) = ((f a).bind (again f n)).bind f
    cases f a with
    | none => rfl
    | some b => exact again_snoc f n b
theorem again_more {f : Nat → Option Nat} {n a : Nat} (h : again f n a = none) : ∀ m, n ≤ m → again f m a = none
  | 0, hm => by
    obtain rfl : n = 0 := by omega
    exact h
  | m + 1, hm => by
    by_cases hn : n = m + 1
    · subst hn; exact h
    · rw [again_snoc, again_more h m (by omega)]; rfl
theorem behind_all {t : List Rx} {i : Nat} {x : Rx} (h : t[i]? = some x) (hx : x.oneB = true) (d : Nat) (hd : 1 < x.kind → 0 < d) : behind t d i = again (behind t (d - 1)) x.many.toNat (i + 1) := by
  cases d with
  | succ d => exact behind_in h hx d
  | zero =>
    have hk : x.kind ≤ 1 := by rcases Nat.lt_or_ge 0 0 with h | h; omega; exact Int.not_lt.1 fun hh => by have := hd hh; omega
    rw [behind_leaf h hx hk]
    have hm : x.many = 0 := by
      rcases Rx.One.of hx with ⟨_, _, _, _, h⟩ | ⟨_, _, _, _, h⟩ | ⟨h, _⟩ | ⟨h, _⟩ <;> omega
    rw [hm]; rfl
/-- The place, or -1. -/
def bR : Option Nat → Int
  | some e => e
  | none => -1

theorem bR_some (e : Nat) : bR (some e) = (e : Int) := rfl
theorem bR_none : bR none = -1 := rfl

/-- A pattern as a tree. -/
inductive Tr where
  | mk (x : Rx) (kids : List Tr) : Tr
mutual
def Tr.flat : Tr → List Rx
  | .mk x ks => x :: flats ks
def flats : List Tr → List Rx
  | [] => []
  | k :: ks => k.flat ++ flats ks
end
def Tr.size (t : Tr) : Nat := t.flat.length
def sizes (l : List Tr) : Nat := (flats l).length
theorem flats_app (l m : List Tr) : flats (l ++ m) = flats l ++ flats m := by
  induction l with
  | nil => simp [flats]
  | cons a l ih => simp [flats, ih]
theorem Tr.size_pos (t : Tr) : 0 < t.size := by cases t; simp [Tr.size, Tr.flat]
theorem Tr.size_mk (x : Rx) (ks : List Tr) : (Tr.mk x ks).size = sizes ks + 1 := by simp [Tr.size, Tr.flat, sizes]
theorem sizes_cons (k : Tr) (ks : List Tr) : sizes (k :: ks) = k.size + sizes ks := by simp [sizes, flats, Tr.size]
/-- A tree whose nodes may be, at most so deep. -/
def Tr.Ok : Nat → Tr → Prop
  | 0, .mk x ks => x.One ∧ x.many = 0 ∧ ks = []
  | d + 1, .mk x ks => x.One ∧ (ks.length : Int) = x.many ∧ ∀ k, k ∈ ks → Tr.Ok d k
theorem Rx.many0 {x : Rx} (h : x.One) (hk : x.kind ≤ 1) : x.many = 0 := by
  rcases h with h | h | h | h <;> omega
theorem Rx.One.many {x : Rx} (h : x.One) : 0 ≤ x.many := by
  rcases h with h | h | h | h <;> omega
theorem Tr.Ok.up {d : Nat} : ∀ {d' : Nat} {t : Tr}, t.Ok d → d ≤ d' → t.Ok d' := by
  induction d with
  | zero =>
    intro d' t h hd
    obtain ⟨x, ks⟩ := t
    obtain ⟨h1, h2, rfl⟩ := h
    cases d' with
    | zero => exact ⟨h1, h2, rfl⟩
    | succ d' => exact ⟨h1, by simp [h2], by simp⟩
  | succ d ih =>
    intro d' t h hd
    obtain ⟨x, ks⟩ := t
    cases d' with
    | zero => omega
    | succ d' => exact ⟨h.1, h.2.1, fun k hk => ih (h.2.2 k hk) (by omega)⟩
theorem Tr.Ok.one {d : Nat} {x : Rx} {ks : List Tr} (h : (Tr.mk x ks).Ok d) : x.One := by cases d <;> exact h.1
theorem Tr.Ok.len {d : Nat} {x : Rx} {ks : List Tr} (h : (Tr.mk x ks).Ok d) : (ks.length : Int) = x.many := by
  cases d with
  | zero => obtain ⟨_, h2, rfl⟩ := h; simp [h2]
  | succ d => exact h.2.1
theorem Tr.Ok.kid {d : Nat} {x : Rx} {ks : List Tr} (h : (Tr.mk x ks).Ok d) {k : Tr} (hk : k ∈ ks) : k.Ok (d - 1) := by
  cases d with
  | zero => obtain ⟨_, _, rfl⟩ := h; simp at hk
  | succ d => exact h.2.2 k hk

theorem drop_cons {α : Type} {t : List α} {i : Nat} {x : α} (h : t[i]? = some x) : t.drop i = x :: t.drop (i + 1) := by
  have hi := lt_of_get h
  rw [List.drop_eq_getElem_cons hi]
  rw [List.getElem?_eq_getElem hi] at h
  injection h with h
  rw [h]
theorem drop_head {α : Type} {t r : List α} {i : Nat} {x : α} (h : t.drop i = x :: r) : t[i]? = some x ∧ t.drop (i + 1) = r := by
  constructor
  · have := congrArg List.head? h
    simpa [List.head?_drop] using this
  · have := congrArg List.tail h
    simpa using this
theorem drop_app {α : Type} {t a r : List α} {i : Nat} (h : t.drop i = a ++ r) : t.drop (i + a.length) = r := by
  rw [← List.drop_drop, h, List.drop_left]

/-- What stands behind is a tree. -/
theorem behind_tree {t : List Rx} : ∀ {d i e : Nat}, behind t d i = some e → ∃ T : Tr, T.Ok d ∧ t.drop i = T.flat ++ t.drop e ∧ e = i + T.size := by
  intro d
  induction d with
  | zero =>
    intro i e h
    cases hx : t[i]? with
    | none => simp [behind, hx] at h
    | some x =>
      by_cases h1 : x.oneB = true ∧ x.kind ≤ 1
      · rw [behind_leaf hx h1.1 h1.2] at h
        injection h with h
        subst h
        have hm : x.many = 0 := by
          rcases Rx.One.of h1.1 with ⟨_, _, _, _, h⟩ | ⟨_, _, _, _, h⟩ | ⟨h, _⟩ | ⟨h, _⟩ <;> omega
        exact ⟨.mk x [], ⟨Rx.One.of h1.1, hm, rfl⟩, by simp [Tr.flat, flats, drop_cons hx], by simp [Tr.size, Tr.flat, flats]⟩
      · simp [behind, hx, h1] at h
  | succ d ih =>
    have more : ∀ (m i e : Nat), again (behind t d) m i = some e → ∃ ks : List Tr, ks.length = m ∧ (∀ k, k ∈ ks → k.Ok d) ∧ t.drop i = flats ks ++ t.drop e ∧ e = i + sizes ks := by
      intro m
      induction m with
      | zero =>
        intro i e h
        simp only [again, Option.some.injEq] at h
        subst h
        exact ⟨[], rfl, by simp, by simp [flats], by simp [sizes, flats]⟩
      | succ m ihm =>
        intro i e h
        simp only [again] at h
        cases hb : behind t d i with
        | none => rw [hb] at h; simp at h
        | some e1 =>
          rw [hb] at h
          obtain ⟨T, hT, hd, he⟩ := ih hb
          obtain ⟨ks, hl, hks, hd2, he2⟩ := ihm e1 e h
          exact ⟨T :: ks, by simp [hl], fun k hk => by rcases List.mem_cons.1 hk with rfl | hk; exact hT; exact hks k hk, by rw [hd, hd2]; simp [flats], by rw [sizes_cons]; omega⟩
    intro i e h
    cases hx : t[i]? with
    | none => simp [behind, hx] at h
    | some x =>
      cases h1 : x.oneB with
      | false => simp [behind, hx, h1] at h
      | true =>
        rw [behind_in hx h1] at h
        obtain ⟨ks, hl, hks, hd, he⟩ := more _ _ _ h
        exact ⟨.mk x ks, ⟨Rx.One.of h1, by have := (Rx.One.of h1).many; omega, hks⟩, by rw [drop_cons hx, hd]; simp [Tr.flat], by rw [Tr.size_mk]; omega⟩
/-- A tree has its place behind. -/
theorem tree_behind {t : List Rx} : ∀ {d : Nat} {T : Tr} {i : Nat} {r : List Rx}, T.Ok d → t.drop i = T.flat ++ r → behind t d i = some (i + T.size) := by
  intro d
  induction d with
  | zero =>
    intro T i r h hd
    obtain ⟨x, ks⟩ := T
    obtain ⟨h1, h2, rfl⟩ := h
    simp only [Tr.flat, flats, List.cons_append, List.nil_append] at hd
    have hk : x.kind ≤ 1 := by rcases h1 with ⟨h, _⟩ | ⟨h, _⟩ | ⟨_, _, _, _, h⟩ | ⟨_, _, h, _⟩ <;> omega
    rw [behind_leaf (drop_head hd).1 (Rx.oneB_yes h1) hk]
    simp [Tr.size, Tr.flat, flats]
  | succ d ih =>
    have more : ∀ (ks : List Tr) (i : Nat) (r : List Rx), (∀ k, k ∈ ks → k.Ok d) → t.drop i = flats ks ++ r → again (behind t d) ks.length i = some (i + sizes ks) := by
      intro ks
      induction ks with
      | nil => intro i r _ _; simp [again, sizes, flats]
      | cons k ks ihk =>
        intro i r hk hd
        simp only [flats, List.append_assoc] at hd
        have h1 := ih (hk k (by simp)) hd
        have h2 := ihk (i + k.size) r (fun k' h => hk k' (by simp [h])) (drop_app hd)
        simp only [List.length_cons, again, h1, Option.bind_some, h2, sizes_cons]
        congr 1; omega
    intro T i r h hd
    obtain ⟨x, ks⟩ := T
    simp only [Tr.flat, List.cons_append] at hd
    obtain ⟨hg, hd2⟩ := drop_head hd
    rw [behind_in hg (Rx.oneB_yes h.1), show x.many.toNat = ks.length by have := h.2.1; omega, more ks (i + 1) r h.2.2 hd2, Tr.size_mk]
    congr 1; omega
theorem behind_up {t : List Rx} {d d' i e : Nat} (h : behind t d i = some e) (hd : d ≤ d') : behind t d' i = some e := by
  obtain ⟨T, hT, hdr, rfl⟩ := behind_tree h
  exact tree_behind (hT.up hd) hdr
theorem behind_lt {t : List Rx} {d i e : Nat} (h : behind t d i = some e) : i < e ∧ e ≤ t.length := by
  obtain ⟨T, hT, hdr, rfl⟩ := behind_tree h
  have h1 := T.size_pos
  have h2 := congrArg List.length hdr
  have h3 : T.flat.length = T.size := rfl
  simp only [List.length_drop, List.length_append] at h2
  omega
theorem again_le {f : Nat → Option Nat} (hf : ∀ i e, f i = some e → i ≤ e) : ∀ {m i e : Nat}, again f m i = some e → i ≤ e
  | 0, i, e, h => by simp only [again, Option.some.injEq] at h; omega
  | m + 1, i, e, h => by
    simp only [again] at h
    cases hb : f i with
    | none => rw [hb] at h; simp at h
    | some e1 => rw [hb] at h; have := hf _ _ hb; have := again_le hf (m := m) h; omega

theorem again_in {t : List Rx} {d m i e : Nat} (h : again (behind t d) m i = some e) (hi : i ≤ t.length) : e ≤ t.length := by
  cases m with
  | zero => simp only [again, Option.some.injEq] at h; omega
  | succ m =>
    rw [again_snoc] at h
    cases hb : again (behind t d) m i with
    | none => rw [hb] at h; simp at h
    | some e1 => rw [hb] at h; exact (behind_lt h).2
/-- Are nodes a pattern? -/
def Pat (t : List Rx) : Prop := t ≠ [] ∧ t.length ≤ 64 ∧ behind t 16 0 = some t.length
noncomputable def patB (t : List Rx) : Bool := yes (Pat t)
theorem patB_yes {t : List Rx} (h : Pat t) : patB t = true := yes_t h
theorem patB_no {t : List Rx} (h : ¬ Pat t) : patB t = false := yes_f h
theorem Pat.of {t : List Rx} (h : patB t = true) : Pat t := of_yes h
theorem Pat.not_of {t : List Rx} (h : patB t = false) : ¬ Pat t := of_no h
theorem Pat.tree {t : List Rx} (h : Pat t) : ∃ T : Tr, T.Ok 16 ∧ t = T.flat := by
  obtain ⟨T, hT, hd, _⟩ := behind_tree h.2.2
  exact ⟨T, hT, by simpa using hd⟩
end Pv
