/- Lists that the call itself made: owned slices, what keeps them, and reading them. Nothing of a program stands here. -/
import Derived.Test.YtjnjbcigbnjmkaaTay
namespace Pv
open Go Go.RowKit

/-- v is a slice of the call's own (element type e, one cell each) that reads as xs. -/
def Own {α : Type} (w : World) (base : Nat) (e : TypeId) (R : Value → α → Prop) (v : Value) (xs : List α) : Prop :=
  ∃ A c us, v = .slice A xs.length c ∧ w.ownsRow base e 1 (.slice A xs.length c) xs.length us ∧ Rel R us xs

theorem own_ne {w : World} {b b' : Nat} {e e' : TypeId} {s s' n n' : Nat} {v v' : Value} {us us' : List Value} (h : w.ownsRow b e s v n us) (h' : w.ownsRow b' e' s' v' n' us') (hne : e ≠ e') :
    v.ownBlock = none ∨ v.ownBlock ≠ v'.ownBlock := by
  rcases h.2 with ⟨rfl, _⟩ | ⟨g, cap, cur, rfl, _, hh, _⟩
  · exact .inl rfl
  · rcases h'.2 with ⟨rfl, _⟩ | ⟨g', cap', cur', rfl, _, hh', _⟩
    · exact .inr (by simp [Value.ownBlock])
    · refine .inr fun he => ?_
      have : g = g' := by simpa [Value.ownBlock] using he
      subst this
      rw [hh] at hh'
      injection hh' with hh'
      injection hh' with _ ht
      exact hne ht
theorem ownsRow_setFar {w : World} {b : Nat} {e : TypeId} {s n : Nat} {v : Value} {us : List Value} (h : w.ownsRow b e s v n us) {g : Nat} {t : TypeId} {cs : Array Value} (hb : Blk w g t cs) (hne : e ≠ t) (i : Nat) (u : Value) :
    (w.setCell ⟨g, i, none⟩ u).ownsRow b e s v n us := by
  refine ⟨h.1, ?_⟩
  rcases h.2 with h2 | ⟨g', cap, cur, rfl, hg, hh, r⟩
  · exact .inl h2
  · have hgg : g' ≠ g := fun he => by
      subst he
      unfold Blk at hb
      rw [hh] at hb
      injection hb with hb
      injection hb with _ ht
      exact hne ht
    exact .inr ⟨g', cap, cur, rfl, hg, by rw [Below.heap_setCell _ _ _ _ (by simpa using hgg)]; exact hh, r⟩
theorem ownsRow_drewN {w : World} {b : Nat} {e : TypeId} {s n : Nat} {v : Value} {us : List Value} (h : w.ownsRow b e s v n us) (k : Nat) : (w.drewN k).ownsRow b e s v n us := h

section
variable {α : Type} {w w' : World} {base : Nat} {e : TypeId} {R R' : Value → α → Prop} {v : Value} {xs : List α}
theorem Own.nil : Own w base e R (.slice none 0 0) ([] : List α) := ⟨none, 0, [], rfl, World.ownsRow_nil _ _ _ _, Rel.nil⟩
theorem Own.monoR (h : Own w base e R v xs) (hr : ∀ u x, R u x → R' u x) : Own w base e R' v xs := by
  obtain ⟨A, c, us, rfl, h, k⟩ := h; exact ⟨A, c, us, rfl, h, k.mono hr⟩
theorem Own.andP {p : α → Prop} (h : Own w base e R v xs) (hp : ∀ x, x ∈ xs → p x) : Own w base e (fun u x => R u x ∧ p x) v xs := by
  obtain ⟨A, c, us, rfl, h, k⟩ := h; exact ⟨A, c, us, rfl, h, k.1, fun i u x hu hx => ⟨k.2 i u x hu hx, hp x (List.mem_of_getElem? hx)⟩⟩
theorem Own.alloc (h : Own w base e R v xs) (o : Obj) : Own (w.alloc o) base e R v xs := by
  obtain ⟨A, c, us, rfl, h, k⟩ := h; exact ⟨A, c, us, rfl, h.alloc o, k⟩
theorem Own.drewN (h : Own w base e R v xs) (n : Nat) : Own (w.drewN n) base e R v xs := h
theorem Own.drew (h : Own w base e R v xs) : Own w.drew base e R v xs := h
theorem Own.setFar (h : Own w base e R v xs) {g : Nat} {t : TypeId} {cs : Array Value} (hb : Blk w g t cs) (hne : e ≠ t) (i : Nat) (u : Value) : Own (w.setCell ⟨g, i, none⟩ u) base e R v xs := by
  obtain ⟨A, c, us, rfl, h, k⟩ := h; exact ⟨A, c, us, rfl, ownsRow_setFar h hb hne i u, k⟩
/-- behind an append onto a row of another element type -/
theorem Own.grown (h : Own w base e R v xs) {b' : Nat} {e' : TypeId} {s' n' : Nat} {v' : Value} {us' : List Value} (h' : w.ownsRow b' e' s' v' n' us') (hne : e ≠ e') (hg : w.grownBy w' v'.ownBlock) : Own w' base e R v xs := by
  obtain ⟨A, c, us, rfl, h, k⟩ := h; exact ⟨A, c, us, rfl, h.kept hg (own_ne h h' hne), k⟩
/-- behind an append onto nil -/
theorem Own.grown0 (h : Own w base e R v xs) (hg : w.grownBy w' none) : Own w' base e R v xs := by
  obtain ⟨A, c, us, rfl, h, k⟩ := h
  refine ⟨A, c, us, rfl, h.kept hg ?_, k⟩
  rcases h.2 with ⟨hv, _⟩ | ⟨g, cap, cur, hv, _⟩
  · exact .inl (by rw [hv]; rfl)
  · exact .inr (by rw [hv]; simp [Value.ownBlock])
theorem Own.sl (h : Own w base e R v xs) (hl : xs.length ≤ 140737488355328) : Sl w R v xs := by
  obtain ⟨A, c, us, rfl, h, k⟩ := h
  obtain ⟨_, h2, h3⟩ := At.of_own h k hl
  exact ⟨A, c, rfl, h3, h2⟩
theorem Own.below (h : Own w base e R v xs) (hb : Below w.heap.size w w') : Own w' base e R v xs := by
  obtain ⟨A, c, us, rfl, h, k⟩ := h
  refine ⟨A, c, us, rfl, ⟨h.1, ?_⟩, k⟩
  rcases h.2 with h2 | ⟨g, cap, cur, hv, hg, hh, r⟩
  · exact .inl h2
  · refine .inr ⟨g, cap, cur, hv, hg, ?_, r⟩
    have : g < w.heap.size := by
      rcases Nat.lt_or_ge g w.heap.size with hlt | hge
      · exact hlt
      · rw [Array.getElem?_eq_none hge] at hh; cases hh
    exact (hb.block g this).trans hh
end
theorem Blk.grown0 {w w' : World} {g : Nat} {t : TypeId} {cs : Array Value} (h : Blk w g t cs) (hb : w.grownBy w' none) : Blk w' g t cs := h.grown hb (by simp)
theorem ownsRow_grown0 {w w' : World} {b : Nat} {e : TypeId} {s n : Nat} {v : Value} {us : List Value} (h : w.ownsRow b e s v n us) (hg : w.grownBy w' none) : w'.ownsRow b e s v n us :=
  h.kept hg (by
    rcases h.2 with ⟨hv, _⟩ | ⟨g, cap, cur, hv, _⟩
    · exact .inl (by rw [hv]; rfl)
    · exact .inr (by rw [hv]; simp [Value.ownBlock]))
theorem below_grown0 {B : Nat} {a w w' : World} (h : Below B a w) (hg : w.grownBy w' none) (hB : B ≤ w.heap.size) : Below B a w' := h.grown hg hB (by simp)
theorem grownBy_none {w w' : World} {A : Option Addr} {n c : Nat} (h : w.grownBy w' (Value.slice A n c).ownBlock) (hA : A = none) : w.grownBy w' none := by subst hA; exact h
/-- the own block of an owned row lies from base on -/
theorem own_ge {w : World} {b : Nat} {e : TypeId} {s n : Nat} {v : Value} {us : List Value} (h : w.ownsRow b e s v n us) : ∀ k, v.ownBlock = some k → b ≤ k := fun k hk => (h.lt k hk).1
/-- One element, boxed by buildSlice, as an append's source. -/
theorem Src.one {w : World} {x : Value} {t : TypeId} (h : x.oneCell' = true) : Src (w.alloc (.cells #[x] t)) (some ⟨w.heap.size, 0, none⟩) 1 1 [x] := by
  refine ⟨rfl, by simpa using h, fun _ => ⟨w.heap.size, 0, rfl, by simp, fun j u hu => ?_⟩⟩
  match j with
  | 0 => simp at hu; subst hu; simp
  | j + 1 => simp at hu
theorem RI.one {u : Value} {x : Int} (h : RI u x) : u.oneCell' = true := by obtain ⟨rfl, _⟩ := h; rfl
theorem RB.one {u : Value} {x : Bool} (h : RB u x) : u.oneCell' = true := by cases h; rfl
theorem Sl.one {α : Type} {w : World} {R : Value → α → Prop} {u : Value} {xs : List α} (h : Sl w R u xs) : u.oneCell' = true := by obtain ⟨A, c, rfl, _⟩ := h; rfl
end Pv
