/- The reader in memory: a string and a mark; what a call of its methods may turn. -/
import Derived.Test.YtilhicefhhgecaaGreatDoorHsq
import Derived.Test.YtilhicefhhgecaaGreatDoorTaq
import Derived.Test.YtilhicefhhgecaaGreatDoorRcq
namespace Pv
open Go Go.RowKit
section
variable {w w' w'' : World} {R : Nat}
theorem Only.then (h : Only R w w') (k : Below w'.heap.size w' w'') : Only R w w'' :=
  ⟨k.os.trans h.os, k.tape.trans h.tape, k.output.trans h.output, Nat.le_trans h.size k.size, fun b hb hne => (k.block b (Nat.lt_of_lt_of_le hb h.size)).trans (h.block b hb hne)⟩
theorem Only.of (k : Below w.heap.size w w') : Only R w w' := (Only.refl R w).then k
theorem Only.step (h : Only R w w') (k : Only R w' w'') : Only R w w'' :=
  ⟨k.os.trans h.os, k.tape.trans h.tape, k.output.trans h.output, Nat.le_trans h.size k.size, fun b hb hne => (k.block b (Nat.lt_of_lt_of_le hb h.size) hne).trans (h.block b hb hne)⟩
theorem Only.own {b s k : Nat} {e t : TypeId} {v : Value} {us : List Value} {cs : Array Value} (h : Only R w w') (hb : Blk w R t cs) (he : e ≠ t) (ho : w.ownsRow b e s v k us) : w'.ownsRow b e s v k us := by
  refine ⟨ho.1, ?_⟩
  rcases ho.2 with h2 | ⟨g, cap, cur, rfl, hg, hh, q⟩
  · exact .inl h2
  · refine .inr ⟨g, cap, cur, rfl, hg, ?_, q⟩
    have hne : g ≠ R := by
      rintro rfl
      unfold Blk at hb
      rw [hh] at hb
      injection hb with hb
      injection hb with _ h1
      exact he h1
    have hlt : g < w.heap.size := by
      rcases Nat.lt_or_ge g w.heap.size with h1 | h1
      · exact h1
      · rw [Array.getElem?_eq_none h1] at hh; cases hh
    exact (h.block g hlt hne).trans hh
theorem Only.ownK {α : Type} {b k : Nat} {e t : TypeId} {P : (Nat → Value) → α → Prop} {v : Value} {xs : List α} {cs : Array Value} (h : Only R w w') (hb : Blk w R t cs) (he : e ≠ t) (ho : OwnK w b e k P v xs) : OwnK w' b e k P v xs := by
  obtain ⟨A, c, us, rfl, h1, h2⟩ := ho
  exact ⟨A, c, us, rfl, h.own hb he h1, h2⟩
end
end Pv
namespace Go.Proofs.YtilhicefhhgecaaGreatDoor
open Go.RowKit Pv
abbrev TRd : TypeId := 75
/-- A reader: what is to be read, and whether a set was too wide. -/
def RdS (w : World) (R : Nat) (l : Bs) (wd : Bool) : Prop := ∃ s : ByteArray, bsl s = l ∧ Blk w R TRd #[.string s, .bool wd]
section
variable {w w' : World} {R b : Nat} {l : Bs} {wd : Bool} {v : Value} {t : List Rx} {s : List Rng}
theorem RdS.lt (h : RdS w R l wd) : R < w.heap.size := by obtain ⟨s, _, hb⟩ := h; exact hb.lt
theorem RdS.below (h : RdS w R l wd) (k : Below w.heap.size w w') : RdS w' R l wd := by obtain ⟨s, h1, hb⟩ := h; exact ⟨s, h1, hb.below k hb.lt⟩
theorem only_set (k : Only R w w') (hr : RdS w R l wd) (h : OwnSet w b v s) : OwnSet w' b v s := by obtain ⟨_, _, hb⟩ := hr; exact k.ownK hb (by decide) h
theorem only_rx (k : Only R w w') (hr : RdS w R l wd) (h : OwnRx w b v t) : OwnRx w' b v t := by
  have h2 := hr
  obtain ⟨_, _, hb⟩ := hr
  exact (k.ownK hb (by decide) h).monoR fun f x _ hx => hx.up fun v l hs => only_set k h2 hs
end
end Go.Proofs.YtilhicefhhgecaaGreatDoor
