/- Walks: tables of places (the document's): of nothing, from each place to itself. -/
import Derived.Test.YtcmmmgblkbbdnaaGreatDoorAky
import Derived.Test.YtcmmmgblkbbdnaaGreatDoorRuy
import Derived.Test.YtcmmmgblkbbdnaaGreatDoorQvy
import Derived.Deep.OwnRows
import Derived.StillTailTactics
import Derived.Test.YtcmmmgblkbbdnaaGreatDoorHsy
namespace Go.Proofs.YtcmmmgblkbbdnaaGreatDoor
open Go.RowKit Pv

abbrev TBool : TypeId := 4
abbrev TBs : TypeId := 60
theorem info_bool : (Tryz.prog.info? 4).map (fun i => (i.zero, i.size, i.bytes)) = some (some (.bool false), 1, 1) := by kernel_rfl
theorem blk_five {w : World} {g : Nat} {t : TypeId} {a b c d e : Value} (h : Blk w g t #[a, b, c, d, e]) : w.cell? ⟨g, 0, none⟩ = some a ∧ w.cell? ⟨g, 1, none⟩ = some b ∧ w.cell? ⟨g, 2, none⟩ = some c ∧ w.cell? ⟨g, 3, none⟩ = some d ∧ w.cell? ⟨g, 4, none⟩ = some e := ⟨h.cell 0, h.cell 1, h.cell 2, h.cell 3, h.cell 4⟩
/-- A table: a block of rows, the rows behind it. -/
structure Tab (w : World) (g n : Nat) (R : Nat → Nat → Prop) : Prop where
  out : w.rowIs g TBs (n + 1) (fun i => .slice (some ⟨g + 1 + i, 0, none⟩) (n + 1) (n + 1))
  row : ∀ i, i ≤ n → w.rowIs (g + 1 + i) TBool (n + 1) (fun j => .bool (yes (R i j)))
section
variable {w w' : World} {g n : Nat} {R R' : Nat → Nat → Prop}
theorem Tab.drew (h : Tab w g n R) : Tab w.drew g n R := ⟨h.out.drew, fun i hi => (h.row i hi).drew⟩
theorem Tab.lt (h : Tab w g n R) : g + 1 + n < w.heap.size := (h.row n (Nat.le_refl _)).lt
theorem Tab.next (h : Tab w g n R) (hb : Below w.heap.size w w') : Tab w' g n R :=
  ⟨h.out.of_block (hb.block _ h.out.lt), fun i hi => (h.row i hi).of_block (hb.block _ (h.row i hi).lt)⟩
theorem Tab.congr (h : Tab w g n R) (e : ∀ i j, i ≤ n → j ≤ n → (R i j ↔ R' i j)) : Tab w g n R' :=
  ⟨h.out, fun i hi => (h.row i hi).congr fun j hj => by rw [show R i j = R' i j from propext (e i j hi (by omega))]⟩
theorem Tab.cell (h : Tab w g n R) {i j : Nat} (hi : i ≤ n) (hj : j ≤ n) : w.cell? ⟨g + 1 + i, j, none⟩ = some (.bool (yes (R i j))) := (h.row i hi).cell (by omega)
theorem Tab.set {i j : Nat} {b : Bool} (h : Tab w g n R) (hi : i ≤ n) (h1 : R' i j ↔ b = true) (h2 : ∀ a c, a ≤ n → c ≤ n → ¬ (a = i ∧ c = j) → (R a c ↔ R' a c)) : Tab (w.setCell ⟨g + 1 + i, j, none⟩ (.bool b)) g n R' := by
  refine ⟨h.out.setOther (by simp only; omega) _, fun a ha => ?_⟩
  by_cases e : a = i
  · subst e
    refine ((h.row a ha).set j (.bool b)).congr fun c hc => ?_
    by_cases e2 : c = j
    · subst e2
      simp only [if_true]
      congr 1
      cases b with
      | true => exact (yes_t (h1.2 rfl)).symm
      | false => exact (yes_f (fun h3 => by have := h1.1 h3; cases this)).symm
    · simp only [if_neg e2]
      rw [show R a c = R' a c from propext (h2 a c ha (by omega) (fun h => e2 h.2))]
  · refine ((h.row a ha).setOther (by simp only; omega) _).congr fun c hc => ?_
    rw [show R a c = R' a c from propext (h2 a c ha (by omega) (fun h => e h.1))]
/-- A table handed back. -/
def TabPost (w : World) (n : Nat) (R : Nat → Nat → Prop) (e : Ending) (w' : World) : Prop :=
  ∃ g, e = .returned (.slice (some ⟨g, 0, none⟩) (n + 1) (n + 1)) ∧ w.heap.size ≤ g ∧ Tab w' g n R ∧ Below w.heap.size w w'
end
/-- A table under way: so many rows. -/
structure TabN (w wr : World) (n i : Nat) : Prop where
  sz : wr.heap.size = w.heap.size + 1 + i
  out : wr.rowIs w.heap.size TBs (n + 1) (fun k => if k < i then .slice (some ⟨w.heap.size + 1 + k, 0, none⟩) (n + 1) (n + 1) else .slice none 0 0)
  row : ∀ k, k < i → wr.rowIs (w.heap.size + 1 + k) TBool (n + 1) (fun _ => .bool false)
  be : Below w.heap.size w wr
theorem TabN.start (w : World) (n : Nat) : TabN w (w.alloc (.cells (madeCells #[.slice none 0 0] (n + 1)) TBs)) n 0 :=
  ⟨by simp, (World.rowIs_made w (.slice none 0 0) (n + 1) TBs).congr fun k _ => by simp, fun k hk => by omega, (Below.refl _ _).alloc (Nat.le_refl _) _⟩
theorem TabN.step {w wr : World} {n i : Nat} (h : TabN w wr n i) : TabN w ((wr.alloc (.cells (madeCells #[.bool false] (n + 1)) TBool)).setCell ⟨w.heap.size, i, none⟩ (.slice (some ⟨wr.heap.size, 0, none⟩) (n + 1) (n + 1))) n (i + 1) := by
  have hs := h.sz
  refine ⟨by simp; omega, ((h.out.alloc _).set i _).congr fun k hk => ?_, fun k hk => ?_, (h.be.alloc (by omega) _).setCell (Nat.le_refl _) _⟩
  · by_cases e : k = i
    · subst e; simp [hs]
    · simp only [if_neg e]
      by_cases e2 : k < i
      · simp [e2, show k < i + 1 by omega]
      · simp [e2, show ¬ k < i + 1 by omega]
  · by_cases e : k < i
    · exact ((h.row k e).alloc _).setOther (by simp only; omega) _
    · obtain rfl : k = i := by omega
      have := (World.rowIs_made wr (.bool false) (n + 1) TBool).setOther (a := ⟨w.heap.size, k, none⟩) (by simp only; omega) (.slice (some ⟨wr.heap.size, 0, none⟩) (n + 1) (n + 1))
      rwa [hs] at this ⊢
theorem TabN.done {w wr : World} {n : Nat} (h : TabN w wr n (n + 1)) : Tab wr w.heap.size n (fun _ _ => False) :=
  ⟨h.out.congr fun k hk => by simp [hk], fun i hi => (h.row i (by omega)).congr fun j _ => by rw [yes_f (by simp)]⟩

end Go.Proofs.YtcmmmgblkbbdnaaGreatDoor

namespace Go.Proofs.YtcmmmgblkbbdnaaGreatDoor
open Go.RowKit Pv

end Go.Proofs.YtcmmmgblkbbdnaaGreatDoor

namespace Go.Proofs.YtcmmmgblkbbdnaaGreatDoor
open Go.RowKit Pv

theorem TabPost.as {w w' : World} {n : Nat} {R R' : Nat → Nat → Prop} {e : Ending} (h : TabPost w n R e w') (hr : ∀ i j, i ≤ n → j ≤ n → (R i j ↔ R' i j)) : TabPost w n R' e w' := by
  obtain ⟨g, h1, h2, h3, h4⟩ := h
  exact ⟨g, h1, h2, h3.congr hr, h4⟩
/-- Up to so many times more. -/
def Up (A : Nat → Nat → Prop) (k i a b : Nat) : Prop := ∃ q, q ≤ i ∧ Pw A (k + q) a b
theorem Up.succ {A : Nat → Nat → Prop} {k i a b : Nat} : Up A k i a b ∨ Pw A (k + i + 1) a b ↔ Up A k (i + 1) a b := by
  constructor
  · rintro (⟨q, h1, h2⟩ | h)
    · exact ⟨q, by omega, h2⟩
    · exact ⟨i + 1, Nat.le_refl _, h⟩
  · rintro ⟨q, h1, h2⟩
    by_cases e : q ≤ i
    · exact .inl ⟨q, e, h2⟩
    · obtain rfl : q = i + 1 := by omega
      exact .inr h2

end Go.Proofs.YtcmmmgblkbbdnaaGreatDoor

namespace Go.Proofs.YtcmmmgblkbbdnaaGreatDoor
open Go.RowKit Pv

theorem Keep.box {w0 W : World} (k : Keep w0 W) (cs : Array Value) (t : TypeId) : Keep w0 (W.alloc (.cells cs t)) := k.trans (Keep.of ((Below.refl _ _).alloc (Nat.le_refl _) _))
end Go.Proofs.YtcmmmgblkbbdnaaGreatDoor
