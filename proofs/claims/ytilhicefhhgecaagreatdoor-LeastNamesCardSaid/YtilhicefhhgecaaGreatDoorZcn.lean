/- Walks: sets of states, by the document: the list of a table, whether a number is on a list, where a number leads. PUT1 -/
import Derived.Test.YtilhicefhhgecaaGreatDoorZbn
import Derived.Test.YtilhicefhhgecaaGreatDoorHsn
import Derived.Test.YtilhicefhhgecaaGreatDoorTbn
import Derived.Test.YtilhicefhhgecaaGreatDoorQgn
import Derived.Test.YtilhicefhhgecaaGreatDoorQvn
import Derived.Deep.OwnRows
import Derived.StillTailTactics
namespace Go.Proofs.YtilhicefhhgecaaGreatDoor
open Go.RowKit Pv

theorem info_bool9 : (Tryz.prog.info? 4).map (fun i => (i.zero, i.size, i.bytes)) = some (some (.bool false), 1, 1) := by kernel_rfl
theorem info_int9 : (Tryz.prog.info? 3).map (fun i => (i.zero, i.size, i.bytes)) = some (some (.int .i64 0), 1, 8) := by kernel_rfl
section
variable {w w' : World} {g n : Nat} {S S' : Nat → Prop}
end

/-- Where a number leads: of the first states; of the first edges of one besides. -/
theorem stp_nil {a : Au} {p : Int} (t : Nat) : Stp a p (Of ([] : List Int)) t ↔ False := ⟨fun ⟨s, h, _⟩ => by simp [Of] at h, False.elim⟩
def StpE (a : Au) (p : Int) (S : Nat → Prop) (es : List Ed) (t : Nat) : Prop := Stp a p S t ∨ ∃ x, x ∈ es ∧ x.free = false ∧ InSet x.set p ∧ x.to = (t : Int)
theorem stpE_nil {a : Au} {p : Int} {S : Nat → Prop} (t : Nat) : StpE a p S [] t ↔ Stp a p S t := ⟨fun h => by rcases h with h | ⟨x, h, _⟩; exact h; simp at h, .inl⟩
theorem stpE_no {a : Au} {p : Int} {S : Nat → Prop} {es : List Ed} {x : Ed} (h : ¬ (x.free = false ∧ InSet x.set p)) (t : Nat) : StpE a p S (es ++ [x]) t ↔ StpE a p S es t := by
  constructor
  · rintro (h1 | ⟨y, h1, h2, h3, h4⟩)
    · exact .inl h1
    · rcases List.mem_append.1 h1 with h1 | h1
      · exact .inr ⟨y, h1, h2, h3, h4⟩
      · simp at h1; subst h1; exact absurd ⟨h2, h3⟩ h
  · rintro (h1 | ⟨y, h1, h2⟩)
    · exact .inl h1
    · exact .inr ⟨y, by simp [h1], h2⟩
theorem stpE_yes {a : Au} {p : Int} {S : Nat → Prop} {es : List Ed} {x : Ed} {q : Nat} (h : x.free = false) (h2 : InSet x.set p) (hq : x.to = (q : Int)) (t : Nat) : StpE a p S (es ++ [x]) t ↔ (StpE a p S es t ∨ t = q) := by
  constructor
  · rintro (h1 | ⟨y, h1, h2, h3, h4⟩)
    · exact .inl (.inl h1)
    · rcases List.mem_append.1 h1 with h1 | h1
      · exact .inl (.inr ⟨y, h1, h2, h3, h4⟩)
      · simp at h1; subst h1; right; omega
  · rintro ((h1 | ⟨y, h1, h2⟩) | rfl)
    · exact .inl h1
    · exact .inr ⟨y, by simp [h1], h2⟩
    · exact .inr ⟨x, by simp, h, h2, hq⟩
theorem stp_snoc {a : Au} {p : Int} {l : List Int} {s : Nat} {es : List Ed} (he : a[s]? = some es) (t : Nat) : StpE a p (Of l) es t ↔ Stp a p (Of (l ++ [(s : Int)])) t := by
  constructor
  · rintro (⟨q, h1, h2⟩ | ⟨x, h1, h2, h3, h4⟩)
    · exact ⟨q, by simp [Of] at h1 ⊢; exact .inl h1, h2⟩
    · exact ⟨s, by simp [Of], es, x, he, h1, h2, h3, h4⟩
  · rintro ⟨q, h1, h2⟩
    simp only [Of, List.mem_append, List.mem_singleton] at h1
    rcases h1 with h1 | h1
    · exact .inl ⟨q, h1, h2⟩
    · obtain rfl : q = s := by omega
      obtain ⟨es', x, e1, e2, e3, e4, e5⟩ := h2
      obtain rfl := Option.some.inj (e1.symm.trans he)
      exact .inr ⟨x, e2, e3, e4, e5⟩
end Go.Proofs.YtilhicefhhgecaaGreatDoor
