/- Walks: is that the automaton of a pattern's text? (laws of the automata's chapter): set, is. PUT1 -/
import Derived.Test.YtilhicefhhgecaaGreatDoorRpm
import Derived.Test.YtilhicefhhgecaaGreatDoorBvm
import Derived.Test.YtilhicefhhgecaaGreatDoorHsm
import Derived.Test.YtilhicefhhgecaaGreatDoorPdm
import Derived.Test.YtilhicefhhgecaaGreatDoorQvm
import Derived.RegionTactic
import Derived.Test.YtilhicefhhgecaaGreatDoorGnm
import Derived.Test.YtilhicefhhgecaaGreatDoorWjm
namespace Pv
open Go Go.RowKit
theorem At.ofBlk {α : Type} {w : World} {g : Nat} {t : TypeId} {cs : Array Value} {R : Value → α → Prop} {xs : List α} (h : Blk w g t cs) (hr : Rel R cs.toList xs) (hl : xs.length ≤ 100000) : At w (some ⟨g, 0, none⟩) R xs := by
  refine ⟨by omega, fun _ => ⟨g, 0, rfl, h.lt, fun i x hx => ?_⟩⟩
  have hi : i < cs.toList.length := by rw [hr.1]; exact lt_of_get hx
  refine ⟨cs.toList[i], ?_, hr.2 i _ x (List.getElem?_eq_getElem hi) hx⟩
  rw [h.cell (0 + i), Nat.zero_add, ← Array.getElem?_toList, List.getElem?_eq_getElem hi]
end Pv
namespace Go.Proofs.YtilhicefhhgecaaGreatDoor
open Go.RowKit Pv

end Go.Proofs.YtilhicefhhgecaaGreatDoor

namespace Pv
open Go Go.RowKit
/-- What is built of a known tree, reckoned. -/
def subB (T : Tr) (D : Dfa) : Bool := decide ((allSets (leadT T [[]] 0).1).length ≤ 256) && decide (plcL (allSets (leadT T [[]] 0).1) = D.cuts) && decide (D.cuts.length ≤ 256) && decide (madeC (leadT T [[]] 0).1 (((leadT T [[]] 0).2 : Nat) : Int) D.cuts = some (some (D.next, D.accept)))
theorem subB_is {T : Tr} {D : Dfa} (h : Known T) (hb : subB T D = true) : Out (leadT T [[]] 0).1 (((leadT T [[]] 0).2 : Nat) : Int) D 0 := by
  unfold subB at hb
  simp only [Bool.and_eq_true, decide_eq_true_eq] at hb
  obtain ⟨⟨⟨h1, h2⟩, h3⟩, h4⟩ := hb
  have hf : FitD (leadT T [[]] 0).1 (((leadT T [[]] 0).2 : Nat) : Int) := ⟨lead_ok h.ok h.few, h1, by rw [h2]; exact h3⟩
  have hm := madeC_is h4
  rw [← h2] at hm
  have := Out.made hf hm
  rwa [h2] at this
/-- All but one block's cells stay. -/
structure KeepBut (g : Nat) (w w' : World) : Prop where
  size : w.heap.size ≤ w'.heap.size
  cell : ∀ b o, b < w.heap.size → b ≠ g → w'.cell? ⟨b, o, none⟩ = w.cell? ⟨b, o, none⟩
theorem KeepBut.refl (g : Nat) (w : World) : KeepBut g w w := ⟨Nat.le_refl _, fun _ _ _ _ => rfl⟩
theorem KeepBut.set {g : Nat} {w w' : World} (h : KeepBut g w w') (i : Nat) (v : Value) : KeepBut g w (w'.setCell ⟨g, i, none⟩ v) :=
  ⟨by simpa using h.size, fun b o hb hne => (World.cell?_of_block (a := ⟨b, o, none⟩) (Below.heap_setCell w' ⟨g, i, none⟩ v b hne)).trans (h.cell b o hb hne)⟩
theorem At.but {α : Type} {w w' : World} {g : Nat} {A : Option Addr} {R R' : Value → α → Prop} {xs : List α} (h : At w A R xs) (k : KeepBut g w w') (hne : ∀ o u x, x ∈ xs → R u x → w.cell? ⟨g, o, none⟩ ≠ some u) (hr : ∀ u x, x ∈ xs → R u x → R' u x) : At w' A R' xs :=
  ⟨h.1, fun hp => by
    obtain ⟨b, off, e, hb, hc⟩ := h.2 hp
    have hbg : b ≠ g := by
      rintro rfl
      obtain ⟨u, hu, hR⟩ := hc 0 xs[0] (List.getElem?_eq_getElem hp)
      exact hne _ u _ (List.getElem_mem hp) hR hu
    exact ⟨b, off, e, Nat.lt_of_lt_of_le hb k.size, fun i x hx => by
      obtain ⟨u, hu, hR⟩ := hc i x hx
      exact ⟨u, (k.cell _ _ hb hbg).trans hu, hr u x (mem_of_get hx) hR⟩⟩⟩
/-- Three nils in a box: nothing of a Dfa lies there. -/
theorem DfaAt.box {w w' : World} {g : Nat} {t : TypeId} {A1 A2 A3 : Option Addr} {n1 n2 n3 : Nat} {d : Dfa} (h : DfaAt w A1 A2 A3 n1 n2 n3 d) (hok : d.Ok) (hb : Blk w g t #[.slice none 0 0, .slice none 0 0, .slice none 0 0]) (k : KeepBut g w w') : DfaAt w' A1 A2 A3 n1 n2 n3 d := by
  have key : ∀ o u, w.cell? ⟨g, o, none⟩ = some u → u = .slice none 0 0 := fun o u hu => by
    rw [hb.cell o] at hu
    rcases o with _ | _ | _ | o
    · simpa using hu.symm
    · simpa using hu.symm
    · simpa using hu.symm
    · simp at hu
  have int : ∀ o u (x : Int), RI u x → w.cell? ⟨g, o, none⟩ ≠ some u := fun o u x hx hu => by
    have := key o u hu
    rw [hx.1] at this
    cases this
  refine ⟨h.c.but k (fun o u x _ hx => int o u x hx) (fun _ _ _ h => h), h.n.but k (fun o u r hr hR hu => ?_) (fun u r _ hR => ?_), h.a.but k (fun o u x _ hx hu => ?_) (fun _ _ _ h => h), h.hc, h.hn, h.ha⟩
  · have := key o u hu
    obtain ⟨A, c, rfl, _, _⟩ := hR
    injection this with _ e _
    obtain ⟨i, hi⟩ := List.getElem?_of_mem hr
    have := hok.rl i r hi
    have := hok.c1
    omega
  · obtain ⟨A, c, e, hA, hc⟩ := hR
    exact ⟨A, c, e, hA.but k (fun o u x _ hx => int o u x hx) (fun _ _ _ h => h), hc⟩
  · have := key o u hu
    cases hx
    cases this
end Pv
namespace Go.Proofs.YtilhicefhhgecaaGreatDoor
open Go.RowKit Pv
/-- An automaton that goes one way handed back, with a mark. -/
def DfaB (w : World) (D : Dfa) (q : Bool) (e : Ending) (w' : World) : Prop := ∃ A1 n1 c1 A2 n2 c2 A3 n3 c3, e = .returned (.tuple #[.agg #[.slice A1 n1 c1, .slice A2 n2 c2, .slice A3 n3 c3], .bool q]) ∧ DfaAt w' A1 A2 A3 n1 n2 n3 D ∧ Below w.heap.size w w'

end Go.Proofs.YtilhicefhhgecaaGreatDoor

namespace Pv
open Go Go.RowKit
theorem blk_at {W : World} {n : Nat} (t : TypeId) (cs : Array Value) (h : W.heap.size = n) : Blk (W.alloc (.cells cs t)) n t cs := by
  subst h; exact Blk.new _ _ _
end Pv
namespace Go.Proofs.YtilhicefhhgecaaGreatDoor
open Go.RowKit Pv
end Go.Proofs.YtilhicefhhgecaaGreatDoor
