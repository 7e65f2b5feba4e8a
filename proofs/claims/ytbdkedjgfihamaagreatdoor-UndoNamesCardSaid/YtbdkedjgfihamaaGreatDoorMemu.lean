/- Memory as lists: what it is for a slice value to read as a list, and what keeps it. Nothing of a program stands here. -/
import Derived.WalkKit
import Derived.Deep.Draws
import Derived.Lib.Hide
namespace Pv
open Go Go.RowKit


/-- From address A on stand elements of one cell each, that read as xs. -/
def At {α : Type} (w : World) (A : Option Addr) (R : Value → α → Prop) (xs : List α) : Prop :=
  xs.length ≤ 140737488355328 ∧ (0 < xs.length → ∃ b off, A = some ⟨b, off, none⟩ ∧ b < w.heap.size ∧ ∀ i x, xs[i]? = some x → ∃ u, w.cell? ⟨b, off + i, none⟩ = some u ∧ R u x)

/-- .. elements of k cells each. -/
def AtK {α : Type} (w : World) (k : Nat) (A : Option Addr) (R : (Nat → Value) → α → Prop) (xs : List α) : Prop :=
  xs.length ≤ 140737488355328 ∧ (0 < xs.length → ∃ b off, A = some ⟨b, off, none⟩ ∧ b < w.heap.size ∧ ∀ i x, xs[i]? = some x → ∃ f : Nat → Value, (∀ j, j < k → w.cell? ⟨b, off + i * k + j, none⟩ = some (f j)) ∧ R f x)

/-- What was there is there as it was. -/
structure Keep (w w' : World) : Prop where
  size : w.heap.size ≤ w'.heap.size
  cell : ∀ b o, b < w.heap.size → w'.cell? ⟨b, o, none⟩ = w.cell? ⟨b, o, none⟩
theorem Keep.of {w w' : World} (h : Below w.heap.size w w') : Keep w w' := ⟨h.size, fun b o hb => h.cell (p := ⟨b, o, none⟩) hb⟩
theorem Keep.trans {a b c : World} (h : Keep a b) (k : Keep b c) : Keep a c :=
  ⟨Nat.le_trans h.size k.size, fun x o hx => (k.cell x o (Nat.lt_of_lt_of_le hx h.size)).trans (h.cell x o hx)⟩
theorem Keep.trans' {a b c : World} (h : Keep a b) (hs : b.heap.size ≤ c.heap.size) (hc : ∀ x o, x < a.heap.size → c.cell? ⟨x, o, none⟩ = b.cell? ⟨x, o, none⟩) : Keep a c :=
  ⟨Nat.le_trans h.size hs, fun x o hx => (hc x o hx).trans (h.cell x o hx)⟩
theorem Keep.drew (w : World) : Keep w w.drew := ⟨Nat.le_refl _, fun _ _ _ => rfl⟩
theorem Keep.alloc (w : World) (o : Obj) : Keep w (w.alloc o) := ⟨by simp, fun b p hb => World.cell?_alloc_lt _ _ _ hb⟩

section
variable {α : Type} {w w' : World} {A : Option Addr} {R R' : Value → α → Prop} {xs : List α}
theorem At.keepR (h : At w A R xs) (k : Keep w w') (hr : ∀ u x, R u x → R' u x) : At w' A R' xs := ⟨h.1, fun hp => by
  obtain ⟨b, off, e, hb, hc⟩ := h.2 hp
  exact ⟨b, off, e, Nat.lt_of_lt_of_le hb k.size, fun i x hx => by
    obtain ⟨u, hu, hR⟩ := hc i x hx
    exact ⟨u, (k.cell _ _ hb).trans hu, hr u x hR⟩⟩⟩
theorem At.keep (h : At w A R xs) (k : Keep w w') : At w' A R xs := h.keepR k fun _ _ h => h
theorem At.nil : At w A R ([] : List α) := ⟨by simp, fun h => absurd h (by simp)⟩
theorem At.get (h : At w A R xs) {k : Nat} (hk : k < xs.length) :
    ∃ b off u, A = some ⟨b, off, none⟩ ∧ b < w.heap.size ∧ w.cell? ⟨b, off + k, none⟩ = some u ∧ R u xs[k] := by
  obtain ⟨b, off, e, hb, hc⟩ := h.2 (by omega)
  obtain ⟨u, hu, hR⟩ := hc k xs[k] (by simp [hk])
  exact ⟨b, off, u, e, hb, hu, hR⟩
end
section
variable {α : Type} {w w' : World} {A : Option Addr} {k : Nat} {R R' : (Nat → Value) → α → Prop} {xs : List α}
theorem AtK.keepR (h : AtK w k A R xs) (kp : Keep w w') (hr : ∀ u x, R u x → R' u x) : AtK w' k A R' xs := ⟨h.1, fun hp => by
  obtain ⟨b, off, e, hb, hc⟩ := h.2 hp
  exact ⟨b, off, e, Nat.lt_of_lt_of_le hb kp.size, fun i x hx => by
    obtain ⟨f, hf, hR⟩ := hc i x hx
    exact ⟨f, fun j hj => (kp.cell _ _ hb).trans (hf j hj), hr f x hR⟩⟩⟩
theorem AtK.keep (h : AtK w k A R xs) (kp : Keep w w') : AtK w' k A R xs := h.keepR kp fun _ _ h => h
theorem AtK.nil : AtK w k A R ([] : List α) := ⟨by simp, fun h => absurd h (by simp)⟩
theorem AtK.get (h : AtK w k A R xs) {i : Nat} (hi : i < xs.length) :
    ∃ b off f, A = some ⟨b, off, none⟩ ∧ b < w.heap.size ∧ (∀ j, j < k → w.cell? ⟨b, off + i * k + j, none⟩ = some (f j)) ∧ R f xs[i] := by
  obtain ⟨b, off, e, hb, hc⟩ := h.2 (by omega)
  obtain ⟨f, hf, hR⟩ := hc i xs[i] (by simp [hi])
  exact ⟨b, off, f, e, hb, hf, hR⟩
end

theorem take_snoc {α : Type} {l : List α} {k : Nat} {x : α} (h : l[k]? = some x) : l.take (k + 1) = l.take k ++ [x] := by
  have hk : k < l.length := by
    rcases Nat.lt_or_ge k l.length with h' | h'
    · exact h'
    · rw [List.getElem?_eq_none h'] at h; cases h
  rw [List.take_succ_eq_append_getElem hk]
  rw [List.getElem?_eq_getElem hk] at h
  injection h with h
  rw [h]
theorem lt_of_get {α : Type} {l : List α} {k : Nat} {x : α} (h : l[k]? = some x) : k < l.length := by
  rcases Nat.lt_or_ge k l.length with h' | h'
  · exact h'
  · rw [List.getElem?_eq_none h'] at h; cases h
theorem mem_of_get {α : Type} {l : List α} {k : Nat} {x : α} (h : l[k]? = some x) : x ∈ l := List.mem_of_getElem? h
section
variable {α : Type} {w : World} {A : Option Addr} {xs : List α} {n k : Nat}
/-- The element at a place, its value and cell; the fact on the list is hidden from the walk. -/
theorem At.gt {R : Value → α → Prop} (h : At w A R xs) (HL : Hid (xs.length = n)) (hk : k < n) :
    ∃ b off u x, A = some ⟨b, off, none⟩ ∧ b < w.heap.size ∧ w.cell? ⟨b, off + k, none⟩ = some u ∧ R u x ∧ Hid (xs[k]? = some x) := by
  have h1 : k < xs.length := by rw [HL.out]; exact hk
  obtain ⟨b, off, u, e, hb, hc, hR⟩ := h.get h1
  exact ⟨b, off, u, xs[k], e, hb, hc, hR, List.getElem?_eq_getElem h1⟩
/-- .. the address known. -/
theorem At.gt2 {R : Value → α → Prop} {b off : Nat} (h : At w (some ⟨b, off, none⟩) R xs) (HL : Hid (xs.length = n)) (hk : k < n) :
    ∃ u x, b < w.heap.size ∧ w.cell? ⟨b, off + k, none⟩ = some u ∧ R u x ∧ Hid (xs[k]? = some x) := by
  obtain ⟨b', off', u, x, e, hb, hc, hR, hx⟩ := h.gt HL hk
  simp only [Option.some.injEq, Addr.mk.injEq, and_true] at e
  obtain ⟨rfl, rfl⟩ := e
  exact ⟨u, x, hb, hc, hR, hx⟩
theorem AtK.gt {s : Nat} {R : (Nat → Value) → α → Prop} (h : AtK w s A R xs) (HL : Hid (xs.length = n)) (hk : k < n) :
    ∃ b off f x, A = some ⟨b, off, none⟩ ∧ b < w.heap.size ∧ (∀ j, j < s → w.cell? ⟨b, off + k * s + j, none⟩ = some (f j)) ∧ R f x ∧ Hid (xs[k]? = some x) := by
  have h1 : k < xs.length := by rw [HL.out]; exact hk
  obtain ⟨b, off, f, e, hb, hc, hR⟩ := h.get h1
  exact ⟨b, off, f, xs[k], e, hb, hc, hR, List.getElem?_eq_getElem h1⟩
end

/-- An int of 64 bits, a bool, as values. -/
def RI (v : Value) (n : Int) : Prop := v = .int .i64 n ∧ -9223372036854775808 ≤ n ∧ n ≤ 9223372036854775807
def RB (v : Value) (b : Bool) : Prop := v = .bool b
/-- A slice of one-cell elements as a value. -/
def Sl {α : Type} (w : World) (R : Value → α → Prop) (v : Value) (xs : List α) : Prop := ∃ A c, v = .slice A xs.length c ∧ At w A R xs ∧ xs.length ≤ c
def SlK {α : Type} (w : World) (k : Nat) (R : (Nat → Value) → α → Prop) (v : Value) (xs : List α) : Prop := ∃ A c, v = .slice A xs.length c ∧ AtK w k A R xs ∧ xs.length ≤ c
theorem Sl.keepR {α : Type} {w w' : World} {R R' : Value → α → Prop} {v : Value} {xs : List α} (h : Sl w R v xs) (k : Keep w w') (hr : ∀ u x, R u x → R' u x) : Sl w' R' v xs := by
  obtain ⟨A, c, e, h, hc⟩ := h; exact ⟨A, c, e, h.keepR k hr, hc⟩
theorem Sl.keep {α : Type} {w w' : World} {R : Value → α → Prop} {v : Value} {xs : List α} (h : Sl w R v xs) (k : Keep w w') : Sl w' R v xs := h.keepR k fun _ _ h => h
theorem SlK.keepR {α : Type} {w w' : World} {k : Nat} {R R' : (Nat → Value) → α → Prop} {v : Value} {xs : List α} (h : SlK w k R v xs) (kp : Keep w w') (hr : ∀ u x, R u x → R' u x) : SlK w' k R' v xs := by
  obtain ⟨A, c, e, h, hc⟩ := h; exact ⟨A, c, e, h.keepR kp hr, hc⟩
theorem SlK.keep {α : Type} {w w' : World} {k : Nat} {R : (Nat → Value) → α → Prop} {v : Value} {xs : List α} (h : SlK w k R v xs) (kp : Keep w w') : SlK w' k R v xs := h.keepR kp fun _ _ h => h
/-- A statement as a Bool. -/
noncomputable def yes (p : Prop) : Bool := @decide p (Classical.propDecidable p)
theorem yes_t {p : Prop} (h : p) : yes p = true := @decide_eq_true p (Classical.propDecidable p) h
theorem yes_f {p : Prop} (h : ¬ p) : yes p = false := @decide_eq_false p (Classical.propDecidable p) h
theorem of_yes {p : Prop} (h : yes p = true) : p := @of_decide_eq_true p (Classical.propDecidable p) h
theorem of_no {p : Prop} (h : yes p = false) : ¬ p := @of_decide_eq_false p (Classical.propDecidable p) h
theorem getD_of {α : Type} {l : List α} {k : Nat} {x d : α} (h : l[k]? = some x) : l.getD k d = x := by simp [List.getD, h]
theorem ret_bool {a b : Bool} (h : a = b) : Ending.returned (.bool a) = Ending.returned (.bool b) := by rw [h]
theorem ret_int {k : IntKind} {a b : Int} (h : a = b) : Ending.returned (.int k a) = Ending.returned (.int k b) := by rw [h]
theorem below_drewN {B : Nat} {a w : World} (h : Below B a w) (n : Nat) : Below B a (w.drewN n) := ⟨h.os, h.tape, h.output, h.size, h.block⟩

end Pv
