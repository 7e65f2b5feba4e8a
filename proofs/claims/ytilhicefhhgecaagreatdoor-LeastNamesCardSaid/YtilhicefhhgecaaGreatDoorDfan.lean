/- Memory as lists: what it is for a slice value to read as a list, and what keeps it. Nothing of a program stands here. -/
import Derived.WalkKit
import Derived.Deep.Draws
import Derived.Lib.Hide
namespace Pv
open Go Go.RowKit


/-- From address A on stand elements of one cell each, that read as xs. -/
def At {α : Type} (w : World) (A : Option Addr) (R : Value → α → Prop) (xs : List α) : Prop :=
  xs.length ≤ 140737488355328 ∧ (0 < xs.length → ∃ b off, A = some ⟨b, off, none⟩ ∧ b < w.heap.size ∧ ∀ i x, xs[i]? = some x → ∃ u, w.cell? ⟨b, off + i, none⟩ = some u ∧ R u x)

/-- .. elements of k cells each. -/
def AtK {α : Type} (w : World) (k : Nat) (A : Option Addr) (R : (Nat → Value) → α → Prop) (xs : List α) : Prop :=
  xs.length ≤ 140737488355328 ∧ (0 < xs.length → ∃ b off, A = some ⟨b, off, none⟩ ∧ b < w.heap.size ∧ ∀ i x, xs[i]? = some x → ∃ f : Nat → Value, (∀ j, j < k → w.cell? ⟨b, off + i * k + j, none⟩ = some (f j)) ∧ R f x)

/-- What was there is there as it was. -/
structure Keep (w w' : World) : Prop where
  size : w.heap.size ≤ w'.heap.size
  cell : ∀ b o, b < w.heap.size → w'.cell? ⟨b, o, none⟩ = w.cell? ⟨b, o, none⟩
theorem Keep.refl (w : World) : Keep w w := ⟨Nat.le_refl _, fun _ _ _ => rfl⟩
theorem Keep.of {w w' : World} (h : Below w.heap.size w w') : Keep w w' := ⟨h.size, fun b o hb => h.cell (p := ⟨b, o, none⟩) hb⟩
theorem Keep.trans {a b c : World} (h : Keep a b) (k : Keep b c) : Keep a c :=
  ⟨Nat.le_trans h.size k.size, fun x o hx => (k.cell x o (Nat.lt_of_lt_of_le hx h.size)).trans (h.cell x o hx)⟩
theorem Keep.trans' {a b c : World} (h : Keep a b) (hs : b.heap.size ≤ c.heap.size) (hc : ∀ x o, x < a.heap.size → c.cell? ⟨x, o, none⟩ = b.cell? ⟨x, o, none⟩) : Keep a c :=
  ⟨Nat.le_trans h.size hs, fun x o hx => (hc x o hx).trans (h.cell x o hx)⟩
theorem Keep.drewN (w : World) (n : Nat) : Keep w (w.drewN n) := ⟨Nat.le_refl _, fun _ _ _ => rfl⟩
theorem Keep.drew (w : World) : Keep w w.drew := ⟨Nat.le_refl _, fun _ _ _ => rfl⟩
theorem Keep.alloc (w : World) (o : Obj) : Keep w (w.alloc o) := ⟨by simp, fun b p hb => World.cell?_alloc_lt _ _ _ hb⟩

section
variable {α : Type} {w w' : World} {A : Option Addr} {R R' : Value → α → Prop} {xs : List α}
theorem At.keepR (h : At w A R xs) (k : Keep w w') (hr : ∀ u x, R u x → R' u x) : At w' A R' xs := ⟨h.1, fun hp => by
  obtain ⟨b, off, e, hb, hc⟩ := h.2 hp
  exact ⟨b, off, e, Nat.lt_of_lt_of_le hb k.size, fun i x hx => by
    obtain ⟨u, hu, hR⟩ := hc i x hx
    exact ⟨u, (k.cell _ _ hb).trans hu, hr u x hR⟩⟩⟩
theorem At.keep (h : At w A R xs) (k : Keep w w') : At w' A R xs := h.keepR k fun _ _ h => h
theorem At.nil : At w A R ([] : List α) := ⟨by simp, fun h => absurd h (by simp)⟩
theorem At.get (h : At w A R xs) {k : Nat} (hk : k < xs.length) :
    ∃ b off u, A = some ⟨b, off, none⟩ ∧ b < w.heap.size ∧ w.cell? ⟨b, off + k, none⟩ = some u ∧ R u xs[k] := by
  obtain ⟨b, off, e, hb, hc⟩ := h.2 (by omega)
  obtain ⟨u, hu, hR⟩ := hc k xs[k] (by simp [hk])
  exact ⟨b, off, u, e, hb, hu, hR⟩
end
section
variable {α : Type} {w w' : World} {A : Option Addr} {k : Nat} {R R' : (Nat → Value) → α → Prop} {xs : List α}
theorem AtK.keepR (h : AtK w k A R xs) (kp : Keep w w') (hr : ∀ u x, R u x → R' u x) : AtK w' k A R' xs := ⟨h.1, fun hp => by
  obtain ⟨b, off, e, hb, hc⟩ := h.2 hp
  exact ⟨b, off, e, Nat.lt_of_lt_of_le hb kp.size, fun i x hx => by
    obtain ⟨f, hf, hR⟩ := hc i x hx
    exact ⟨f, fun j hj => (kp.cell _ _ hb).trans (hf j hj), hr f x hR⟩⟩⟩
theorem AtK.keep (h : AtK w k A R xs) (kp : Keep w w') : AtK w' k A R xs := h.keepR kp fun _ _ h => h
theorem AtK.nil : AtK w k A R ([] : List α) := ⟨by simp, fun h => absurd h (by simp)⟩
theorem AtK.get (h : AtK w k A R xs) {i : Nat} (hi : i < xs.length) :
    ∃ b off f, A = some ⟨b, off, none⟩ ∧ b < w.heap.size ∧ (∀ j, j < k → w.cell? ⟨b, off + i * k + j, none⟩ = some (f j)) ∧ R f xs[i] := by
  obtain ⟨b, off, e, hb, hc⟩ := h.2 (by omega)
  obtain ⟨f, hf, hR⟩ := hc i xs[i] (by simp [hi])
  exact ⟨b, off, f, e, hb, hf, hR⟩
end

theorem take_snoc {α : Type} {l : List α} {k : Nat} {x : α} (h : l[k]? = some x) : l.take (k + 1) = l.take k ++ [x] := by
  have hk : k < l.length := by
    rcases Nat.lt_or_ge k l.length with h' | h'
    · exact h'
    · rw [List.getElem?_eq_none h'] at h; cases h
  rw [List.take_succ_eq_append_getElem hk]
  rw [List.getElem?_eq_getElem hk] at h
  injection h with h
  rw [h]
theorem lt_of_get {α : Type} {l : List α} {k : Nat} {x : α} (h : l[k]? = some x) : k < l.length := by
  rcases Nat.lt_or_ge k l.length with h' | h'
  · exact h'
  · rw [List.getElem?_eq_none h'] at h; cases h
theorem mem_of_get {α : Type} {l : List α} {k : Nat} {x : α} (h : l[k]? = some x) : x ∈ l := List.mem_of_getElem? h
section
variable {α : Type} {w : World} {A : Option Addr} {xs : List α} {n k : Nat}
/-- The element at a place, its value and cell; the fact on the list is hidden from the walk. -/
theorem At.gt {R : Value → α → Prop} (h : At w A R xs) (HL : Hid (xs.length = n)) (hk : k < n) :
    ∃ b off u x, A = some ⟨b, off, none⟩ ∧ b < w.heap.size ∧ w.cell? ⟨b, off + k, none⟩ = some u ∧ R u x ∧ Hid (xs[k]? = some x) := by
  have h1 : k < xs.length := by rw [HL.out]; exact hk
  obtain ⟨b, off, u, e, hb, hc, hR⟩ := h.get h1
  exact ⟨b, off, u, xs[k], e, hb, hc, hR, List.getElem?_eq_getElem h1⟩
/-- .. the address known. -/
theorem At.gt2 {R : Value → α → Prop} {b off : Nat} (h : At w (some ⟨b, off, none⟩) R xs) (HL : Hid (xs.length = n)) (hk : k < n) :
    ∃ u x, b < w.heap.size ∧ w.cell? ⟨b, off + k, none⟩ = some u ∧ R u x ∧ Hid (xs[k]? = some x) := by
  obtain ⟨b', off', u, x, e, hb, hc, hR, hx⟩ := h.gt HL hk
  simp only [Option.some.injEq, Addr.mk.injEq, and_true] at e
  obtain ⟨rfl, rfl⟩ := e
  exact ⟨u, x, hb, hc, hR, hx⟩
theorem AtK.gt {s : Nat} {R : (Nat → Value) → α → Prop} (h : AtK w s A R xs) (HL : Hid (xs.length = n)) (hk : k < n) :
    ∃ b off f x, A = some ⟨b, off, none⟩ ∧ b < w.heap.size ∧ (∀ j, j < s → w.cell? ⟨b, off + k * s + j, none⟩ = some (f j)) ∧ R f x ∧ Hid (xs[k]? = some x) := by
  have h1 : k < xs.length := by rw [HL.out]; exact hk
  obtain ⟨b, off, f, e, hb, hc, hR⟩ := h.get h1
  exact ⟨b, off, f, xs[k], e, hb, hc, hR, List.getElem?_eq_getElem h1⟩
end

/-- An int of 64 bits, a bool, as values. -/
def RI (v : Value) (n : Int) : Prop := v = .int .i64 n ∧ -9223372036854775808 ≤ n ∧ n ≤ 9223372036854775807
def RB (v : Value) (b : Bool) : Prop := v = .bool b
/-- A slice of one-cell elements as a value. -/
def Sl {α : Type} (w : World) (R : Value → α → Prop) (v : Value) (xs : List α) : Prop := ∃ A c, v = .slice A xs.length c ∧ At w A R xs ∧ xs.length ≤ c
def SlK {α : Type} (w : World) (k : Nat) (R : (Nat → Value) → α → Prop) (v : Value) (xs : List α) : Prop := ∃ A c, v = .slice A xs.length c ∧ AtK w k A R xs ∧ xs.length ≤ c
theorem Sl.keepR {α : Type} {w w' : World} {R R' : Value → α → Prop} {v : Value} {xs : List α} (h : Sl w R v xs) (k : Keep w w') (hr : ∀ u x, R u x → R' u x) : Sl w' R' v xs := by
  obtain ⟨A, c, e, h, hc⟩ := h; exact ⟨A, c, e, h.keepR k hr, hc⟩
theorem Sl.keep {α : Type} {w w' : World} {R : Value → α → Prop} {v : Value} {xs : List α} (h : Sl w R v xs) (k : Keep w w') : Sl w' R v xs := h.keepR k fun _ _ h => h
theorem SlK.keepR {α : Type} {w w' : World} {k : Nat} {R R' : (Nat → Value) → α → Prop} {v : Value} {xs : List α} (h : SlK w k R v xs) (kp : Keep w w') (hr : ∀ u x, R u x → R' u x) : SlK w' k R' v xs := by
  obtain ⟨A, c, e, h, hc⟩ := h; exact ⟨A, c, e, h.keepR kp hr, hc⟩
theorem SlK.keep {α : Type} {w w' : World} {k : Nat} {R : (Nat → Value) → α → Prop} {v : Value} {xs : List α} (h : SlK w k R v xs) (kp : Keep w w') : SlK w' k R v xs := h.keepR kp fun _ _ h => h
/-- ints; rows of ints; bools -/
abbrev IsInts (w : World) := Sl w RI
/-- A row of a list of rows. -/
theorem At.gtS {α : Type} {w : World} {A : Option Addr} {R : Value → α → Prop} {ll : List (List α)} {n k : Nat} (h : At w A (Sl w R) ll) (HL : Hid (ll.length = n)) (hk : k < n) :
    ∃ b off A' c' n' l', A = some ⟨b, off, none⟩ ∧ b < w.heap.size ∧ w.cell? ⟨b, off + k, none⟩ = some (.slice A' n' c') ∧ At w A' R l' ∧ Hid (l'.length = n') ∧ n' ≤ c' ∧ n' ≤ 140737488355328 ∧ Hid (ll[k]? = some l') := by
  obtain ⟨b, off, u, x, e, hb, hc, ⟨A', c', rfl, hA, hc'⟩, hx⟩ := h.gt HL hk
  exact ⟨b, off, A', c', x.length, x, e, hb, hc, hA, rfl, hc', hA.1, hx⟩
/-- A statement as a Bool. -/
noncomputable def yes (p : Prop) : Bool := @decide p (Classical.propDecidable p)
theorem yes_t {p : Prop} (h : p) : yes p = true := @decide_eq_true p (Classical.propDecidable p) h
theorem yes_f {p : Prop} (h : ¬ p) : yes p = false := @decide_eq_false p (Classical.propDecidable p) h
theorem of_yes {p : Prop} (h : yes p = true) : p := @of_decide_eq_true p (Classical.propDecidable p) h
/-- A box of three cells behind a call that left it alone. -/
theorem box3 {w w1 : World} {v1 v2 v3 : Value} {T : TypeId} (hb : Below (w.alloc (.cells #[v1, v2, v3] T)).heap.size (w.alloc (.cells #[v1, v2, v3] T)) w1) :
    w1.cell? ⟨w.heap.size, 0, none⟩ = some v1 ∧ w1.cell? ⟨w.heap.size, 1, none⟩ = some v2 ∧ w1.cell? ⟨w.heap.size, 2, none⟩ = some v3 ∧ w.heap.size < w1.heap.size ∧ Below w.heap.size w w1 := by
  refine ⟨?_, ?_, ?_, by have := hb.size; simp at this; omega, ((Below.refl _ _).alloc (Nat.le_refl _) _).trans (hb.mono (by simp))⟩
  all_goals
    rw [hb.cell (by simp)]
    simp
theorem box2 {w w1 : World} {v1 v2 : Value} {T : TypeId} (hb : Below (w.alloc (.cells #[v1, v2] T)).heap.size (w.alloc (.cells #[v1, v2] T)) w1) :
    w1.cell? ⟨w.heap.size, 0, none⟩ = some v1 ∧ w1.cell? ⟨w.heap.size, 1, none⟩ = some v2 ∧ w.heap.size < w1.heap.size ∧ Below w.heap.size w w1 := by
  refine ⟨?_, ?_, by have := hb.size; simp at this; omega, ((Below.refl _ _).alloc (Nat.le_refl _) _).trans (hb.mono (by simp))⟩
  all_goals
    rw [hb.cell (by simp)]
    simp
/-- .. and behind one more. -/
theorem box3_more {w w1 w2 : World} {v1 v2 v3 : Value} (h0 : w1.cell? ⟨w.heap.size, 0, none⟩ = some v1) (h1 : w1.cell? ⟨w.heap.size, 1, none⟩ = some v2) (h2 : w1.cell? ⟨w.heap.size, 2, none⟩ = some v3)
    (h3 : w.heap.size < w1.heap.size) (h4 : Below w.heap.size w w1) (hb : Below w1.heap.size w1 w2) :
    w2.cell? ⟨w.heap.size, 0, none⟩ = some v1 ∧ w2.cell? ⟨w.heap.size, 1, none⟩ = some v2 ∧ w2.cell? ⟨w.heap.size, 2, none⟩ = some v3 ∧ w.heap.size < w2.heap.size ∧ Below w.heap.size w w2 :=
  ⟨(hb.cell h3).trans h0, (hb.cell h3).trans h1, (hb.cell h3).trans h2, Nat.lt_of_lt_of_le h3 hb.size, h4.trans (hb.mono (Nat.le_of_lt h3))⟩

theorem getD_of {α : Type} {l : List α} {k : Nat} {x d : α} (h : l[k]? = some x) : l.getD k d = x := by simp [List.getD, h]
theorem ret_bool {a b : Bool} (h : a = b) : Ending.returned (.bool a) = Ending.returned (.bool b) := by rw [h]
theorem ret_int {k : IntKind} {a b : Int} (h : a = b) : Ending.returned (.int k a) = Ending.returned (.int k b) := by rw [h]
theorem ret_ii {k l : IntKind} {a b c d : Int} (h : a = b) (h' : c = d) : Ending.returned (.tuple #[.int k a, .int l c]) = Ending.returned (.tuple #[.int k b, .int l d]) := by rw [h, h']
/-- Nothing but draws. -/
def Drawn (w w' : World) : Prop := ∃ n, w' = w.drewN n
theorem Drawn.refl (w : World) : Drawn w w := ⟨0, rfl⟩
theorem Drawn.drewN {w w' : World} (h : Drawn w w') (n : Nat) : Drawn w (w'.drewN n) := by obtain ⟨m, rfl⟩ := h; exact ⟨m + n, World.drewN_drewN _ _ _⟩
theorem Drawn.drew {w w' : World} (h : Drawn w w') : Drawn w w'.drew := by obtain ⟨m, rfl⟩ := h; exact ⟨m + 1, rfl⟩
theorem below_drewN {B : Nat} {a w : World} (h : Below B a w) (n : Nat) : Below B a (w.drewN n) := ⟨h.os, h.tape, h.output, h.size, h.block⟩

end Pv

namespace Pv
open Go Go.RowKit

/-- A deterministic automaton's parts. -/
structure Dfa where
  cuts : List Int
  next : List (List Int)
  accept : List Bool
/-- A Dfa's three slices, opened: addresses, lengths. -/
structure DfaAt (w : World) (A1 A2 A3 : Option Addr) (n1 n2 n3 : Nat) (d : Dfa) : Prop where
  c : At w A1 RI d.cuts
  n : At w A2 (IsInts w) d.next
  a : At w A3 RB d.accept
  hc : Hid (d.cuts.length = n1)
  hn : Hid (d.next.length = n2)
  ha : Hid (d.accept.length = n3)
theorem DfaAt.keep {w w' : World} {A1 A2 A3 : Option Addr} {n1 n2 n3 : Nat} {d : Dfa} (h : DfaAt w A1 A2 A3 n1 n2 n3 d) (k : Keep w w') : DfaAt w' A1 A2 A3 n1 n2 n3 d :=
  ⟨h.c.keep k, h.n.keepR k (fun _ _ h => h.keep k), h.a.keep k, h.hc, h.hn, h.ha⟩
/-- May a Dfa be? -/
structure Dfa.Ok (d : Dfa) : Prop where
  c1 : 1 ≤ d.cuts.length
  c2 : d.cuts.length ≤ 256
  c0 : d.cuts[0]? = some 0
  n1 : 1 ≤ d.next.length
  n2 : d.next.length ≤ 64
  a : d.accept.length = d.next.length
  up : ∀ (i : Nat) a b, d.cuts[i]? = some a → d.cuts[i + 1]? = some b → a < b ∧ b ≤ 1114111
  rl : ∀ (i : Nat) r, d.next[i]? = some r → r.length = d.cuts.length
  rx : ∀ (i : Nat) r, d.next[i]? = some r → ∀ (j : Nat) x, r[j]? = some x → 0 ≤ x ∧ x < d.next.length
noncomputable def Dfa.okB (d : Dfa) : Bool := yes d.Ok
theorem Dfa.okB_yes {d : Dfa} (h : d.Ok) : d.okB = true := yes_t h
theorem Dfa.okB_no {d : Dfa} (h : ¬ d.Ok) : d.okB = false := yes_f h
theorem Dfa.ok_of {d : Dfa} (h : d.okB = true) : d.Ok := of_yes h
/-- The last of the first k cuts that is not beyond a number; 0: none. -/
def lastLe (cuts : List Int) (n : Int) : Nat → Nat
  | 0 => 0
  | k + 1 => if cuts.getD k 0 ≤ n then k else lastLe cuts n k
theorem lastLe_lt (cuts : List Int) (n : Int) : ∀ k, 0 < k → lastLe cuts n k < k
  | 0, h => by omega
  | k + 1, _ => by
    unfold lastLe
    split
    · omega
    · rcases Nat.eq_zero_or_pos k with h | h
      · subst h; simp [lastLe]
      · have := lastLe_lt cuts n k h; omega
/-- Where a state goes by a number; by numbers. -/
def Dfa.step (d : Dfa) (s : Nat) (p : Int) : Nat := ((d.next.getD s []).getD (lastLe d.cuts p d.cuts.length) 0).toNat
def Dfa.to (d : Dfa) (s : Nat) (pts : List Int) : Nat := pts.foldl d.step s
theorem Dfa.to_snoc (d : Dfa) (s : Nat) (pts : List Int) (p : Int) : d.to s (pts ++ [p]) = d.step (d.to s pts) p := by simp [Dfa.to]
/-- From a state that there is, by any number to one that there is. -/
theorem Dfa.Ok.row {d : Dfa} (h : d.Ok) {s : Nat} (hs : s < d.next.length) (p : Int) : ∃ r x, d.next[s]? = some r ∧ r.length = d.cuts.length ∧ r[lastLe d.cuts p d.cuts.length]? = some x ∧ x = (d.step s p : Int) ∧ d.step s p < d.next.length := by
  have h1 : d.next[s]? = some d.next[s] := List.getElem?_eq_getElem hs
  have h2 := h.rl s _ h1
  have h3 : lastLe d.cuts p d.cuts.length < (d.next[s]).length := by rw [h2]; exact lastLe_lt _ _ _ h.c1
  have h4 : (d.next[s])[lastLe d.cuts p d.cuts.length]? = some ((d.next[s])[lastLe d.cuts p d.cuts.length]) := List.getElem?_eq_getElem h3
  have h5 := h.rx s _ h1 _ _ h4
  have h6 : d.step s p = ((d.next[s])[lastLe d.cuts p d.cuts.length]).toNat := by unfold Dfa.step; rw [getD_of h1, getD_of h4]
  exact ⟨_, _, h1, h2, h4, by rw [h6]; omega, by rw [h6]; omega⟩
/-- A number that is no code point among some? -/
def beyond (pts : List Int) : Prop := ∃ p ∈ pts, p < 0 ∨ 1114111 < p
/-- The classes, walks and runs that the document tells: the value, the error. -/
noncomputable def Dfa.classE (d : Dfa) (n : Int) : Int × Int :=
  if d.okB = true then if n < 0 ∨ 1114111 < n then (0, 2) else ((lastLe d.cuts n d.cuts.length : Nat), 0) else (0, 8)
open Classical in
noncomputable def Dfa.walkE (d : Dfa) (s : Int) (pts : List Int) : Int × Int :=
  if d.okB = true then if 1024 < pts.length then (0, 4) else if s < 0 ∨ (d.next.length : Int) ≤ s then (0, 2) else if beyond pts then (0, 2) else ((d.to s.toNat pts : Nat), 0) else (0, 8)
theorem lastLe_eq (cuts : List Int) (n : Int) (i : Nat) (h0 : 0 < i) (hi : i ≤ cuts.length) (h1 : ∀ (j : Nat) a, j < i → cuts[j]? = some a → a ≤ n) (h2 : ∀ (j : Nat) a, i ≤ j → cuts[j]? = some a → n < a) :
    ∀ k, i ≤ k → k ≤ cuts.length → lastLe cuts n k = i - 1
  | 0, h, _ => by omega
  | k + 1, h, hk => by
    have hg : cuts[k]? = some cuts[k] := List.getElem?_eq_getElem (by omega)
    unfold lastLe
    rw [getD_of hg]
    by_cases hki : k + 1 = i
    · subst hki
      rw [if_pos (h1 k _ (by omega) hg)]
      rfl
    · have := h2 k _ (by omega) hg
      rw [if_neg (by omega)]
      exact lastLe_eq cuts n i h0 hi h1 h2 k (by omega) (by omega)
theorem Dfa.Ok.strict {d : Dfa} (h : d.Ok) (i : Nat) (a : Int) (ha : d.cuts[i]? = some a) : ∀ (j : Nat) b, i < j → d.cuts[j]? = some b → a < b
  | 0, b, hij, _ => by omega
  | j + 1, b, hij, hb => by
    have hj : d.cuts[j]? = some (d.cuts[j]'(by have := lt_of_get hb; omega)) := List.getElem?_eq_getElem (by have := lt_of_get hb; omega)
    have h1 := (h.up j _ b hj hb).1
    by_cases hji : i = j
    · subst hji
      rw [ha] at hj
      injection hj with hj
      omega
    · have := Dfa.Ok.strict h i a ha j _ (by omega) hj
      omega
/-- What the search tells is the class. -/
theorem Dfa.Ok.found {d : Dfa} (h : d.Ok) {n : Int} (hn : 0 ≤ n) {i : Nat} (hi : i ≤ d.cuts.length) (h1 : ∀ (j : Nat) a, j < i → d.cuts[j]? = some a → a < n) (h2 : ∀ (j : Nat) a, i ≤ j → d.cuts[j]? = some a → n ≤ a) :
    (d.cuts[i]? = some n → lastLe d.cuts n d.cuts.length = i) ∧ (d.cuts[i]? ≠ some n → 0 < i ∧ lastLe d.cuts n d.cuts.length = i - 1) := by
  constructor
  · intro hf
    have := lastLe_eq d.cuts n (i + 1) (by omega) (lt_of_get hf) (fun j a hj ha => by
      by_cases hji : j = i
      · subst hji; rw [hf] at ha; injection ha with ha; omega
      · have := h1 j a (by omega) ha; omega) (fun j a hj ha => h.strict i n hf j a (by omega) ha) d.cuts.length (lt_of_get hf) (Nat.le_refl _)
    simpa using this
  · intro hf
    have hi0 : 0 < i := by
      rcases Nat.eq_zero_or_pos i with h0 | h0
      · subst h0
        have := h2 0 0 (by omega) h.c0
        have hn0 : n = 0 := by omega
        rw [hn0] at hf
        exact absurd h.c0 hf
      · exact h0
    refine ⟨hi0, lastLe_eq d.cuts n i hi0 hi (fun j a hj ha => by have := h1 j a hj ha; omega) (fun j a hj ha => ?_) d.cuts.length hi (Nat.le_refl _)⟩
    have h3 := h2 j a hj ha
    by_cases hji : j = i
    · subst hji
      have : a ≠ n := fun e => hf (by rw [← e]; exact ha)
      omega
    · have hil : d.cuts[i]? = some (d.cuts[i]'(by have := lt_of_get ha; omega)) := List.getElem?_eq_getElem (by have := lt_of_get ha; omega)
      have h4 := h.strict i _ hil j a (by omega) ha
      have h5 := h2 i _ (Nat.le_refl _) hil
      omega

noncomputable def Dfa.checkE (d : Dfa) : Int := if d.okB = true then 0 else 8
theorem Dfa.checkE_no {d : Dfa} (h : d.okB = false) : d.checkE = 8 := by unfold Dfa.checkE; rw [if_neg (by rw [h]; simp)]
theorem Dfa.checkE_yes {d : Dfa} (h : d.okB = true) : d.checkE = 0 := by unfold Dfa.checkE; rw [if_pos h]

end Pv
