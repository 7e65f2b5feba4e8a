/- Lists of lists of numbers that the call itself makes, beside a row of numbers under way: what keeps them. -/
import Derived.Test.YtjnjbcigbnjmkaaZgy
namespace Go.Proofs.Ytjnjbcigbnjmkaa
open Go.RowKit Pv

abbrev TLI : TypeId := 3
abbrev TLL : TypeId := 22
theorem ownBlk_off {u : Value} {x : Option Nat} {r : Option Nat} (h : u.ownBlock = none ∨ u.ownBlock ≠ x) (e : r = x) : u.ownBlock = none ∨ u.ownBlock ≠ r := by rw [e]; exact h
theorem OwnI.grown {w w' : World} {b : Nat} {u : Value} {l : List Int} {r : Option Nat} (h : OwnI w b u l) (hg : w.grownBy w' r) (hn : u.ownBlock = none ∨ u.ownBlock ≠ r) : OwnI w' b u l := by
  obtain ⟨A, c, rfl, h1⟩ := h
  exact ⟨A, c, rfl, h1.kept hg hn⟩
theorem OwnI.lt {w : World} {b g : Nat} {u : Value} {l : List Int} (h : OwnI w b u l) (hg : u.ownBlock = some g) : b ≤ g ∧ g < w.heap.size := by
  obtain ⟨A, c, rfl, h1⟩ := h
  exact h1.lt g hg
/-- A list of lists of the call's own; none of these lies in block x. -/
def Ls (w : World) (base : Nat) (x : Option Nat) (v : Value) (ll : List (List Int)) : Prop :=
  ∃ A c us, v = .slice A ll.length c ∧ w.ownsRow base TLL 1 (.slice A ll.length c) ll.length us ∧ Rel (fun u l => OwnI w base u l ∧ (u.ownBlock = none ∨ u.ownBlock ≠ x)) us ll
section
variable {w w' : World} {base : Nat} {x : Option Nat} {v : Value} {ll : List (List Int)}
theorem Ls.nil (w : World) (base : Nat) (x : Option Nat) : Ls w base x (.slice none 0 0) [] := ⟨none, 0, [], rfl, World.ownsRow_nil _ _ _ _, Rel.nil⟩
theorem Ls.below (h : Ls w base x v ll) (hb : Below w.heap.size w w') : Ls w' base x v ll := by
  obtain ⟨A, c, us, rfl, h1, h2⟩ := h
  exact ⟨A, c, us, rfl, ownsRow_below h1 hb, h2.mono fun u l h => ⟨OwnI.below h.1 hb, h.2⟩⟩
theorem Ls.alloc (h : Ls w base x v ll) (o : Obj) : Ls (w.alloc o) base x v ll := h.below ((Below.refl _ _).alloc (Nat.le_refl _) o)
theorem Ls.drew (h : Ls w base x v ll) : Ls w.drew base x v ll := h.below (Below.refl _ _).drew
theorem Ls.bare (h : Ls w base x v ll) : Ls w base none v ll := by
  obtain ⟨A, c, us, rfl, h1, h2⟩ := h
  exact ⟨A, c, us, rfl, h1, h2.mono fun u l h => ⟨h.1, by cases hu : u.ownBlock with | none => exact .inl rfl | some g => exact .inr (by simp)⟩⟩
/-- A block beyond all that is there. -/
theorem Ls.fresh {g : Nat} (h : Ls w base x v ll) (hg : w.heap.size ≤ g) : Ls w base (some g) v ll := by
  obtain ⟨A, c, us, rfl, h1, h2⟩ := h
  exact ⟨A, c, us, rfl, h1, h2.mono fun u l h => ⟨h.1, by
    cases hu : u.ownBlock with
    | none => exact .inl rfl
    | some k => have := (h.1.lt hu).2; exact .inr (by simp; omega)⟩⟩
theorem Ls.lower {b : Nat} (h : Ls w base x v ll) (hb : b ≤ base) : Ls w b x v ll := by
  obtain ⟨A, c, us, rfl, ⟨h0, h1⟩, h2⟩ := h
  refine ⟨A, c, us, rfl, ⟨h0, ?_⟩, h2.mono fun u l h => ⟨OwnI.lower h.1 hb, h.2⟩⟩
  rcases h1 with h1 | ⟨g, cap, cur, hv, hg, r⟩
  · exact .inl h1
  · exact .inr ⟨g, cap, cur, hv, Nat.le_trans hb hg, r⟩
/-- Behind an append onto the row in block x. -/
theorem Ls.row {b n : Nat} {rv rv' : Value} {us' : List Value} (h : Ls w base rv.ownBlock v ll) (hr : w.ownsRow b TLI 1 rv n us') (hg : w.grownBy w' rv.ownBlock) (hn : rv'.ownBlock = rv.ownBlock ∨ rv'.ownBlock = some w.heap.size) : Ls w' base rv'.ownBlock v ll := by
  obtain ⟨A, c, us, rfl, h1, h2⟩ := h
  refine ⟨A, c, us, rfl, h1.kept hg (own_ne h1 hr (by decide)), h2.mono fun u l h => ⟨h.1.grown hg h.2, ?_⟩⟩
  rcases hn with e | e
  · rw [e]; exact h.2
  · rw [e]
    cases hu : u.ownBlock with
    | none => exact .inl rfl
    | some k => have := (h.1.lt hu).2; exact .inr (by simp; omega)
/-- Behind an append onto a row of other elements. -/
theorem Ls.other {b s n : Nat} {e : TypeId} {rv : Value} {us' : List Value} (h : Ls w base x v ll) (hr : w.ownsRow b e s rv n us') (h1 : TLL ≠ e) (h2 : TLI ≠ e) (hg : w.grownBy w' rv.ownBlock) : Ls w' base x v ll := by
  obtain ⟨A, c, us, rfl, k1, k2⟩ := h
  refine ⟨A, c, us, rfl, k1.kept hg (own_ne k1 hr h1), k2.mono fun u l h => ⟨?_, h.2⟩⟩
  obtain ⟨B, d, rfl, h3⟩ := h.1
  exact OwnI.grown ⟨B, d, rfl, h3⟩ hg (own_ne h3 hr h2)
theorem Ls.far {g i : Nat} {t : TypeId} {cs : Array Value} {u : Value} (h : Ls w base x v ll) (hb : Blk w g t cs) (h1 : TLL ≠ t) (h2 : TLI ≠ t) : Ls (w.setCell ⟨g, i, none⟩ u) base x v ll := by
  obtain ⟨A, c, us, rfl, k1, k2⟩ := h
  refine ⟨A, c, us, rfl, ownsRow_setFar k1 hb h1 i u, k2.mono fun u l h => ⟨?_, h.2⟩⟩
  obtain ⟨B, d, rfl, h3⟩ := h.1
  exact ⟨B, d, rfl, ownsRow_setFar h3 hb h2 _ _⟩
/-- A number written into the row in block x. -/
theorem Ls.put {g i : Nat} {cs : Array Value} {u : Value} (h : Ls w base (some g) v ll) (hb : Blk w g TLI cs) : Ls (w.setCell ⟨g, i, none⟩ u) base (some g) v ll := by
  obtain ⟨A, c, us, rfl, k1, k2⟩ := h
  refine ⟨A, c, us, rfl, ownsRow_setFar k1 hb (by decide) i u, k2.mono fun q l h => ⟨?_, h.2⟩⟩
  obtain ⟨⟨B, d, rfl, h3⟩, h4⟩ := h
  refine ⟨B, d, rfl, h3.1, ?_⟩
  rcases h3.2 with h5 | ⟨g', cap, cur, hv, hg, hh, r⟩
  · exact .inl h5
  · have hne : g' ≠ g := fun e => by
      rcases h4 with h4 | h4
      · rw [hv] at h4; simp [Value.ownBlock] at h4
      · exact h4 (by rw [hv, e]; rfl)
    exact .inr ⟨g', cap, cur, hv, hg, by rw [Below.heap_setCell _ _ _ _ (by simpa using hne)]; exact hh, r⟩
/-- One list more. -/
theorem Ls.push {w2 : World} {A A' : Option Addr} {c c' k : Nat} {us : List Value} {u : Value} {l : List Int} (h1 : w.ownsRow base TLL 1 (.slice A k c) k us) (h2 : Rel (fun u l => OwnI w base u l ∧ (u.ownBlock = none ∨ u.ownBlock ≠ x)) us ll) (hk : ll.length = k)
    (hu : OwnI w base u l) (hx : u.ownBlock = none ∨ u.ownBlock ≠ x) (own : w2.ownsRow base TLL 1 (.slice A' (k + 1) c') (k + 1) (us ++ [u])) (gr : (w.alloc (.cells #[u] TLL)).grownBy w2 (Value.slice A k c).ownBlock) :
    Ls w2 base x (.slice A' (k + 1) c') (ll ++ [l]) := by
  have hb : Below w.heap.size w (w.alloc (.cells #[u] TLL)) := (Below.refl _ _).alloc (Nat.le_refl _) _
  have one : ∀ u l, OwnI w base u l → OwnI w2 base u l := fun u l h => by
    obtain ⟨B, d, rfl, h3⟩ := h
    exact OwnI.grown (OwnI.below ⟨B, d, rfl, h3⟩ hb) gr (own_ne (ownsRow_below h3 hb) (ownsRow_below h1 hb) (by decide))
  refine ⟨A', c', us ++ [u], by simp [hk], by rw [List.length_append, hk]; exact own, Rel.app (h2.mono fun u l h => ⟨one u l h.1, h.2⟩) (Rel.one ⟨one u l hu, hx⟩)⟩
theorem Ls.lists (h : Ls w base x v ll) (hr : ∀ l, l ∈ ll → (∀ y, y ∈ l → -9223372036854775808 ≤ y ∧ y ≤ 9223372036854775807) ∧ l.length ≤ 140737488355328) (hl : ll.length ≤ 140737488355328) :
    ∃ A c, v = .slice A ll.length c ∧ At w A (IsInts w) ll ∧ ll.length ≤ c := by
  obtain ⟨A, c, us, rfl, h1, h2⟩ := h
  obtain ⟨_, h3, h4⟩ := At.of_own h1 h2 hl
  refine ⟨A, c, rfl, ⟨h4.1, fun hp => ?_⟩, h3⟩
  obtain ⟨b, off, e, hb, hc⟩ := h4.2 hp
  refine ⟨b, off, e, hb, fun i l hi => ?_⟩
  obtain ⟨u, hu, ho, _⟩ := hc i l hi
  obtain ⟨k1, k2⟩ := hr l (mem_of_get hi)
  obtain ⟨B, d, rfl, hB, hd⟩ := ho.at' k1 k2
  exact ⟨_, hu, B, d, rfl, hB, hd⟩
end
end Go.Proofs.Ytjnjbcigbnjmkaa
