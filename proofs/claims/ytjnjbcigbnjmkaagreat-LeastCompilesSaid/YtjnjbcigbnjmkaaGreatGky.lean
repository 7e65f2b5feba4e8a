/- Walks: what both Builds give, one and the same. PUT1 -/
import Derived.Test.YtjnjbcigbnjmkaaGreatFqy
import Derived.Test.YtjnjbcigbnjmkaaGreatDfay
import Derived.Test.YtjnjbcigbnjmkaaGreatFhy
import Derived.Test.YtjnjbcigbnjmkaaGreatFpy
import Derived.Test.YtjnjbcigbnjmkaaGreatGiy
namespace Pv
open Go Go.RowKit
/-- What comes of building: no automaton and a code, or one. -/
inductive Out (a : Au) (acc : Int) : Dfa → Int → Prop where
  | bad {code : Int} (h : EndD a acc code) : Out a acc ⟨[], [], []⟩ code
  | made {rows : List (List Int)} {accs : List Bool} (h : FitD a acc) (g : madeM a acc (plcL (allSets a)) = some (rows, accs)) : Out a acc ⟨plcL (allSets a), rows, accs⟩ 0
theorem Out.one {a : Au} {acc : Int} {D D' : Dfa} {x y : Int} (h : Out a acc D x) (k : Out a acc D' y) : D = D' ∧ x = y := by
  cases h with
  | bad h => cases k with
    | bad k => exact ⟨rfl, h.one k⟩
    | made k g => exact (h.not k g).elim
  | made h g => cases k with
    | bad k => exact (k.not h g).elim
    | made k g' =>
      rw [g] at g'
      injection g' with g'
      injection g' with g1 g2
      subst g1; subst g2
      exact ⟨rfl, rfl⟩
end Pv
namespace Go.Proofs.YtjnjbcigbnjmkaaGreat
open Go.RowKit Pv
theorem At.none {α : Type} (w : World) (R : Value → α → Prop) : At w none R ([] : List α) := ⟨by simp, fun h => absurd h (by simp)⟩
theorem BuiltD.opens {a : Au} {acc : Int} {w w' : World} {e : Ending} (h : BuiltD a acc w e w') :
    ∃ D code A1 n1 c1 A2 n2 c2 A3 n3 c3, e = .returned (.tuple #[.agg #[.slice A1 n1 c1, .slice A2 n2 c2, .slice A3 n3 c3], .int .i64 code]) ∧ DfaAt w' A1 A2 A3 n1 n2 n3 D ∧ Out a acc D code ∧ Below w.heap.size w w' := by
  obtain ⟨hr, hb⟩ := h
  rcases hr with ⟨code, he, rfl⟩ | ⟨rows, accs, v1, v2, v3, hf, hm, rfl, h1, h2, h3⟩
  · exact ⟨_, code, none, 0, 0, none, 0, 0, none, 0, 0, rfl, (show DfaAt w' none none none 0 0 0 ⟨[], [], []⟩ from ⟨At.none _ _, At.none _ _, At.none _ _, Lib.hid rfl, Lib.hid rfl, Lib.hid rfl⟩), .bad he, hb⟩
  · obtain ⟨hin, hl, ha⟩ := madeM_bd hm
    have hp := hf.p
    obtain ⟨A1, c1, rfl, k1, _⟩ := h1.at' (fun x hx => by have := plcL_in (allSets_ok hf.ok) hx; omega) (by omega)
    obtain ⟨A2, c2, rfl, k2, _⟩ := h2.lists (fun l hl => by
      obtain ⟨g1, g2⟩ := hin.each l hl
      exact ⟨fun y hy => by have := g1 y hy; omega, by omega⟩) (by omega)
    obtain ⟨A3, c3, rfl, k3, _⟩ := h3.sl (by omega)
    exact ⟨_, 0, A1, _, c1, A2, _, c2, A3, _, c3, rfl, (show DfaAt w' A1 A2 A3 _ _ _ ⟨plcL (allSets a), rows, accs⟩ from ⟨k1, k2, k3, Lib.hid rfl, Lib.hid rfl, Lib.hid rfl⟩), .made hf hm, hb⟩
end Go.Proofs.YtjnjbcigbnjmkaaGreat

namespace Go.Proofs.YtjnjbcigbnjmkaaGreat
open Go.RowKit Pv

theorem ownsRow_drew {w : World} {b : Nat} {e : TypeId} {s n : Nat} {v : Value} {us : List Value} (h : w.ownsRow b e s v n us) : w.drew.ownsRow b e s v n us := h
/-- The answer's box with cuts, rows, what accepts; beside it a list of numbers that is read only. -/
structure LMk (w wr : World) (D : Nat) (x : Option Nat) (v1 kv v2 v3 : Value) (cuts cls : List Int) (rows : List (List Int)) (accs : List Bool) : Prop where
  d : Blk wr D TDfa #[v1, v2, v3]
  u : OwnI wr D v1 cuts
  ux : v1.ownBlock = none ∨ v1.ownBlock ≠ x
  k : OwnI wr D kv cls
  kx : kv.ownBlock = none ∨ kv.ownBlock ≠ x
  r : Ls wr D x v2 rows
  t : Own wr D 4 RB v3 accs
  b : Below D w wr
section
variable {w wr w' : World} {D : Nat} {x : Option Nat} {v1 kv v2 v3 : Value} {cuts cls : List Int} {rows : List (List Int)} {accs : List Bool}
theorem off_none (v : Value) : v.ownBlock = none ∨ v.ownBlock ≠ none := by cases v.ownBlock <;> simp
theorem off_new {v : Value} {r s : Option Nat} {g : Nat} (h : v.ownBlock = none ∨ v.ownBlock ≠ r) (hl : ∀ k, v.ownBlock = some k → k < g) (hn : s = r ∨ s = some g) : v.ownBlock = none ∨ v.ownBlock ≠ s := by
  rcases hn with e | e
  · rw [e]; exact h
  · rw [e]
    cases hv : v.ownBlock with
    | none => exact .inl rfl
    | some k => have := hl k hv; exact .inr (by simp; omega)
theorem off_symm {u v : Value} (h : u.ownBlock = none ∨ u.ownBlock ≠ v.ownBlock) : v.ownBlock = none ∨ v.ownBlock ≠ u.ownBlock := by
  rcases h with h | h
  · cases hv : v.ownBlock with
    | none => exact .inl rfl
    | some g => exact .inr (by rw [h]; simp)
  · exact .inr (Ne.symm h)
theorem LMk.below (h : LMk w wr D x v1 kv v2 v3 cuts cls rows accs) (hb : Below wr.heap.size wr w') : LMk w w' D x v1 kv v2 v3 cuts cls rows accs :=
  ⟨h.d.below hb h.d.lt, OwnI.below h.u hb, h.ux, OwnI.below h.k hb, h.kx, h.r.below hb, h.t.below hb, h.b.trans (hb.mono (Nat.le_of_lt h.d.lt))⟩
theorem LMk.free (h : LMk w wr D x v1 kv v2 v3 cuts cls rows accs) : LMk w wr D none v1 kv v2 v3 cuts cls rows accs :=
  ⟨h.d, h.u, off_none _, h.k, off_none _, h.r.bare, h.t, h.b⟩
theorem LMk.row {b k : Nat} {rv rv' : Value} {us' : List Value} (h : LMk w wr D rv.ownBlock v1 kv v2 v3 cuts cls rows accs) (hr : wr.ownsRow b TLI 1 rv k us') (hg : wr.grownBy w' rv.ownBlock) (hn : rv'.ownBlock = rv.ownBlock ∨ rv'.ownBlock = some wr.heap.size) (hb : D ≤ b) : LMk w w' D rv'.ownBlock v1 kv v2 v3 cuts cls rows accs :=
  ⟨h.d.grown hg (own_blk_ne hr h.d (by decide)), h.u.grown hg h.ux, off_new h.ux (fun _ e => (h.u.lt e).2) hn, h.k.grown hg h.kx, off_new h.kx (fun _ e => (h.k.lt e).2) hn, h.r.row hr hg hn, Own.grownB h.t hr (by decide) hg, h.b.grown hg (Nat.le_of_lt h.d.lt) (fun g hgg => Nat.le_trans hb (hr.lt g hgg).1)⟩
theorem OwnI.growO {w w' : World} {base b n : Nat} {v rv : Value} {l : List Int} {e : TypeId} {us' : List Value} (h : OwnI w base v l) (hr : w.ownsRow b e 1 rv n us') (hne : TLI ≠ e) (hg : w.grownBy w' rv.ownBlock) : OwnI w' base v l := by
  obtain ⟨B, d, rfl, h3⟩ := h
  exact OwnI.grown ⟨B, d, rfl, h3⟩ hg (own_ne h3 hr hne)
/-- A row more. -/
theorem LMk.done {w2 : World} {A1 A2 : Option Addr} {c1 c2 k : Nat} {us : List Value} {u : Value} {l : List Int} (h : LMk w wr D none v1 kv (.slice A1 k c1) v3 cuts cls rows accs) (h1 : wr.ownsRow D TLL 1 (.slice A1 k c1) k us) (h2 : Rel (fun u l => OwnI wr D u l ∧ (u.ownBlock = none ∨ u.ownBlock ≠ none)) us rows) (hk : rows.length = k)
    (hu : OwnI wr D u l) (own : w2.ownsRow D TLL 1 (.slice A2 (k + 1) c2) (k + 1) (us ++ [u])) (gr : (wr.alloc (.cells #[u] TLL)).grownBy w2 (Value.slice A1 k c1).ownBlock) :
    LMk w (w2.setCell ⟨D, 1, Option.none⟩ (.slice A2 (k + 1) c2)) D none v1 kv (.slice A2 (k + 1) c2) v3 cuts cls (rows ++ [l]) accs := by
  have hb : Below wr.heap.size wr (wr.alloc (.cells #[u] TLL)) := (Below.refl _ _).alloc (Nat.le_refl _) _
  have h' := h.below hb
  have h1' := ownsRow_below h1 hb
  have hd := h'.d.grown gr (own_blk_ne h1' h'.d (by decide))
  exact ⟨hd.set 1 _, OwnI.far (h'.u.growO h1' (by decide) gr) hd (by decide), off_none _, OwnI.far (h'.k.growO h1' (by decide) gr) hd (by decide), off_none _, (Ls.push h1 h2 hk hu (off_none _) own gr).far hd (by decide) (by decide), (Own.grownB h'.t h1' (by decide) gr).setFar hd (by decide) 1 _,
    (h'.b.grown gr (Nat.le_of_lt h'.d.lt) (fun g hgg => (h1'.lt g hgg).1)).setCell (p := ⟨D, 1, Option.none⟩) (Nat.le_refl _) _⟩
/-- One more that accepts or not. -/
theorem LMk.told {w2 : World} {A1 A2 : Option Addr} {c1 c2 k : Nat} {us : List Value} {b : Bool} (h : LMk w wr D none v1 kv v2 (.slice A1 k c1) cuts cls rows accs) (h1 : wr.ownsRow D 4 1 (.slice A1 k c1) k us) (h2 : Rel RB us accs) (hk : accs.length = k)
    (own : w2.ownsRow D 4 1 (.slice A2 (k + 1) c2) (k + 1) (us ++ [.bool b])) (gr : (wr.alloc (.cells #[.bool b] 4)).grownBy w2 (Value.slice A1 k c1).ownBlock) :
    LMk w (w2.setCell ⟨D, 2, Option.none⟩ (.slice A2 (k + 1) c2)) D none v1 kv v2 (.slice A2 (k + 1) c2) cuts cls rows (accs ++ [b]) := by
  have hb : Below wr.heap.size wr (wr.alloc (.cells #[.bool b] 4)) := (Below.refl _ _).alloc (Nat.le_refl _) _
  have h' := h.below hb
  have h1' := ownsRow_below h1 hb
  have hd := h'.d.grown gr (own_blk_ne h1' h'.d (by decide))
  exact ⟨hd.set 2 _, OwnI.far (h'.u.growO h1' (by decide) gr) hd (by decide), off_none _, OwnI.far (h'.k.growO h1' (by decide) gr) hd (by decide), off_none _, (h'.r.other h1' (by decide) (by decide) gr).far hd (by decide) (by decide),
    Own.setFar ⟨A2, c2, us ++ [.bool b], by simp [hk], by rw [List.length_append, hk]; exact own, Rel.app h2 (Rel.one (R := RB) (u := .bool b) (x := b) rfl)⟩ hd (by decide) 2 _,
    (h'.b.grown gr (Nat.le_of_lt h'.d.lt) (fun g hgg => (h1'.lt g hgg).1)).setCell (p := ⟨D, 2, Option.none⟩) (Nat.le_refl _) _⟩
end
theorem Res.lower {w : World} {b b' : Nat} {v1 v2 v3 : Value} {cuts : List Int} {rows : List (List Int)} {accs : List Bool} (h : Res w b v1 v2 v3 cuts rows accs) (hb : b' ≤ b) : Res w b' v1 v2 v3 cuts rows accs := ⟨OwnI.lower h.c hb, h.r.lower hb, Own.lower h.t hb⟩
end Go.Proofs.YtjnjbcigbnjmkaaGreat
