/- Walks: the automaton that goes one way, row by row, by the document. PUT1 -/
import Derived.Test.YtcmmmgblkbbdnaaGreatDoorFgz
import Derived.Test.YtcmmmgblkbbdnaaGreatDoorLsz
import Derived.Test.YtcmmmgblkbbdnaaGreatDoorWkz
import Derived.Test.YtcmmmgblkbbdnaaGreatDoorQvz
namespace Go.Proofs.YtcmmmgblkbbdnaaGreatDoor
open Go.RowKit Pv

abbrev TDfa : TypeId := 62
theorem Ls.one {w : World} {base : Nat} {x : Option Nat} {v : Value} {l : List Int} (h : OwnI w base v l) (hb : base ≤ w.heap.size) (hx : v.ownBlock = none ∨ v.ownBlock ≠ x) : Ls (w.alloc (.cells #[v] TLL)) base x (.slice (some ⟨w.heap.size, 0, none⟩) 1 1) [l] :=
  ⟨_, 1, [v], rfl, own_lit w base v TLL hb, Rel.one ⟨OwnI.below h ((Below.refl _ _).alloc (Nat.le_refl _) _), hx⟩⟩
/-- What is under way: the automaton's box, the answer's variable, the rows and what accepts, the sets met. -/
structure MkIn (w wr : World) (D : Nat) (A : Option Addr) (n c : Nat) (acc : Int) (C : Option Addr) (nc cc : Nat) (x : Option Nat) (av v2 v3 : Value) (all rows : List (List Int)) (accs : List Bool) : Prop where
  a : Blk wr w.heap.size TAuto #[.slice A n c, .int .i64 acc]
  o : Blk wr (w.heap.size + 1) TDfa #[.slice none 0 0, .slice none 0 0, .slice none 0 0]
  d : Blk wr D TDfa #[.slice C nc cc, v2, v3]
  dn : w.heap.size + 1 < D
  r : Ls wr w.heap.size x v2 rows
  t : Own wr w.heap.size 4 RB v3 accs
  ne : v2.ownBlock = none ∨ v2.ownBlock ≠ av.ownBlock
  al : Ls wr w.heap.size x av all
  b : Below w.heap.size w wr
theorem Ls.lt {w : World} {base : Nat} {x : Option Nat} {v : Value} {ll : List (List Int)} (h : Ls w base x v ll) {g : Nat} (hg : v.ownBlock = some g) : base ≤ g ∧ g < w.heap.size := by
  obtain ⟨A, c, us, rfl, h1, _⟩ := h
  exact h1.lt g hg
/-- a list of lists, behind an append onto another such list -/
theorem Ls.beside {w w' : World} {base b n : Nat} {x : Option Nat} {v rv : Value} {ll : List (List Int)} {us' : List Value} (h : Ls w base x v ll) (hr : w.ownsRow b TLL 1 rv n us') (hne : v.ownBlock = none ∨ v.ownBlock ≠ rv.ownBlock) (hg : w.grownBy w' rv.ownBlock) : Ls w' base x v ll := by
  obtain ⟨A, c, us, rfl, h1, h2⟩ := h
  refine ⟨A, c, us, rfl, h1.kept hg hne, h2.mono fun u l h => ⟨?_, h.2⟩⟩
  obtain ⟨B, d, rfl, h3⟩ := h.1
  exact OwnI.grown ⟨B, d, rfl, h3⟩ hg (own_ne h3 hr (by decide))
theorem Own.grownB {w w' : World} {base b n : Nat} {e : TypeId} {v rv : Value} {xs : List Bool} {us' : List Value} (h : Own w base 4 RB v xs) (hr : w.ownsRow b e 1 rv n us') (hne : 4 ≠ e) (hg : w.grownBy w' rv.ownBlock) : Own w' base 4 RB v xs := by
  obtain ⟨A, c, us, rfl, o, r⟩ := h
  exact ⟨A, c, us, rfl, o.kept hg (own_ne o hr hne), r⟩
section
variable {w wr w' : World} {D n c nc cc : Nat} {A C : Option Addr} {acc : Int} {x : Option Nat} {av v2 v3 : Value} {all rows : List (List Int)} {accs : List Bool}
theorem MkIn.next (h : MkIn w wr D A n c acc C nc cc x av v2 v3 all rows accs) (hb : Below wr.heap.size wr w') : MkIn w w' D A n c acc C nc cc x av v2 v3 all rows accs :=
  ⟨h.a.below hb h.a.lt, h.o.below hb h.o.lt, h.d.below hb h.d.lt, h.dn, h.r.below hb, h.t.below hb, h.ne, h.al.below hb, h.b.trans (hb.mono h.b.size)⟩
theorem MkIn.free (h : MkIn w wr D A n c acc C nc cc x av v2 v3 all rows accs) : MkIn w wr D A n c acc C nc cc none av v2 v3 all rows accs :=
  ⟨h.a, h.o, h.d, h.dn, h.r.bare, h.t, h.ne, h.al.bare, h.b⟩
theorem MkIn.row {b k : Nat} {rv rv' : Value} {us' : List Value} (h : MkIn w wr D A n c acc C nc cc rv.ownBlock av v2 v3 all rows accs) (hr : wr.ownsRow b TLI 1 rv k us') (hg : wr.grownBy w' rv.ownBlock) (hn : rv'.ownBlock = rv.ownBlock ∨ rv'.ownBlock = some wr.heap.size) (hb : w.heap.size ≤ b) : MkIn w w' D A n c acc C nc cc rv'.ownBlock av v2 v3 all rows accs :=
  ⟨h.a.grown hg (own_blk_ne hr h.a (by decide)), h.o.grown hg (own_blk_ne hr h.o (by decide)), h.d.grown hg (own_blk_ne hr h.d (by decide)), h.dn, h.r.row hr hg hn, Own.grownB h.t hr (by decide) hg, h.ne, h.al.row hr hg hn, h.b.grown hg h.b.size (fun g hgg => Nat.le_trans hb (hr.lt g hgg).1)⟩
/-- A set more is met. -/
theorem MkIn.met {w2 : World} {A1 A2 : Option Addr} {c1 c2 k : Nat} {us : List Value} {u : Value} {l : List Int} (h : MkIn w wr D A n c acc C nc cc x (.slice A1 k c1) v2 v3 all rows accs) (h1 : wr.ownsRow w.heap.size TLL 1 (.slice A1 k c1) k us) (h2 : Rel (fun u l => OwnI wr w.heap.size u l ∧ (u.ownBlock = none ∨ u.ownBlock ≠ x)) us all) (hk : all.length = k)
    (hu : OwnI wr w.heap.size u l) (hx : u.ownBlock = none ∨ u.ownBlock ≠ x) (own : w2.ownsRow w.heap.size TLL 1 (.slice A2 (k + 1) c2) (k + 1) (us ++ [u])) (gr : (wr.alloc (.cells #[u] TLL)).grownBy w2 (Value.slice A1 k c1).ownBlock)
    (hn : (Value.slice A2 (k + 1) c2).ownBlock = (Value.slice A1 k c1).ownBlock ∨ (Value.slice A2 (k + 1) c2).ownBlock = some (wr.alloc (.cells #[u] TLL)).heap.size) : MkIn w w2 D A n c acc C nc cc x (.slice A2 (k + 1) c2) v2 v3 (all ++ [l]) rows accs := by
  have hb : Below wr.heap.size wr (wr.alloc (.cells #[u] TLL)) := (Below.refl _ _).alloc (Nat.le_refl _) _
  have h' := h.next hb
  have h1' := ownsRow_below h1 hb
  refine ⟨h'.a.grown gr (own_blk_ne h1' h'.a (by decide)), h'.o.grown gr (own_blk_ne h1' h'.o (by decide)), h'.d.grown gr (own_blk_ne h1' h'.d (by decide)), h.dn, h'.r.beside h1' h.ne gr, Own.grownB h'.t h1' (by decide) gr, ?_, Ls.push h1 h2 hk hu hx own gr, h'.b.grown gr h'.b.size (fun g hgg => (h1'.lt g hgg).1)⟩
  rcases hn with e | e
  · rw [e]; exact h.ne
  · rw [e]
    cases hv : v2.ownBlock with
    | none => exact .inl rfl
    | some g => have := (h.r.lt hv).2; exact .inr (by simp; omega)
/-- A row more. -/
theorem MkIn.done {w2 : World} {A1 A2 : Option Addr} {c1 c2 k : Nat} {us : List Value} {u : Value} {l : List Int} (h : MkIn w wr D A n c acc C nc cc none av (.slice A1 k c1) v3 all rows accs) (h1 : wr.ownsRow w.heap.size TLL 1 (.slice A1 k c1) k us) (h2 : Rel (fun u l => OwnI wr w.heap.size u l ∧ (u.ownBlock = none ∨ u.ownBlock ≠ none)) us rows) (hk : rows.length = k)
    (hu : OwnI wr w.heap.size u l) (own : w2.ownsRow w.heap.size TLL 1 (.slice A2 (k + 1) c2) (k + 1) (us ++ [u])) (gr : (wr.alloc (.cells #[u] TLL)).grownBy w2 (Value.slice A1 k c1).ownBlock)
    (hn : (Value.slice A2 (k + 1) c2).ownBlock = (Value.slice A1 k c1).ownBlock ∨ (Value.slice A2 (k + 1) c2).ownBlock = some (wr.alloc (.cells #[u] TLL)).heap.size) : MkIn w (w2.setCell ⟨D, 1, Option.none⟩ (.slice A2 (k + 1) c2)) D A n c acc C nc cc none av (.slice A2 (k + 1) c2) v3 all (rows ++ [l]) accs := by
  have hb : Below wr.heap.size wr (wr.alloc (.cells #[u] TLL)) := (Below.refl _ _).alloc (Nat.le_refl _) _
  have h' := h.next hb
  have h1' := ownsRow_below h1 hb
  have hd := h'.d.grown gr (own_blk_ne h1' h'.d (by decide))
  have hal : (av.ownBlock = none ∨ av.ownBlock ≠ (Value.slice A1 k c1).ownBlock) := by
    rcases h.ne with e | e
    · cases hv : av.ownBlock with
      | none => exact .inl rfl
      | some g => exact .inr (by rw [e]; simp)
    · exact .inr (Ne.symm e)
  refine ⟨(h'.a.grown gr (own_blk_ne h1' h'.a (by decide))).far (p := ⟨D, 1, Option.none⟩) (by have := h.dn; simp; omega) _, (h'.o.grown gr (own_blk_ne h1' h'.o (by decide))).far (p := ⟨D, 1, Option.none⟩) (by have := h.dn; simp; omega) _, hd.set 1 _, h.dn, (Ls.push h1 h2 hk hu (by cases u.ownBlock <;> simp) own gr).far hd (by decide) (by decide), (Own.grownB h'.t h1' (by decide) gr).setFar hd (by decide) 1 _, ?_, (h'.al.beside h1' hal gr).far hd (by decide) (by decide),
    (h'.b.grown gr h'.b.size (fun g hgg => (h1'.lt g hgg).1)).setCell (p := ⟨D, 1, Option.none⟩) (by have := h.dn; simp; omega) _⟩
  rcases hn with e | e
  · rw [e]; exact h.ne
  · rw [e]
    refine .inr fun he => ?_
    have := (h.al.lt he.symm).2
    simp at this
    omega
end
theorem MetS.in {a : Au} {all : List (List Int)} (h : MetS a all) {l : List Int} (hl : l ∈ all) : InAu a.length l := by
  obtain ⟨S, rfl⟩ := h l hl; exact stL_in

end Go.Proofs.YtcmmmgblkbbdnaaGreatDoor

namespace Pv
open Go Go.RowKit
/-- How building ends without an automaton: 8, 4, 90. -/
inductive EndD (a : Au) (acc : Int) : Int → Prop where
  | bad (h : ¬ AuOk a acc) : EndD a acc 8
  | many (h : AuOk a acc) (m : 256 < (allSets a).length ∨ 256 < (plcL (allSets a)).length) : EndD a acc 4
  | states (h : AuOk a acc) (m : (allSets a).length ≤ 256) (k : (plcL (allSets a)).length ≤ 256) (g : madeM a acc (plcL (allSets a)) = none) : EndD a acc 90
structure FitD (a : Au) (acc : Int) : Prop where
  ok : AuOk a acc
  s : (allSets a).length ≤ 256
  p : (plcL (allSets a)).length ≤ 256
theorem EndD.one {a : Au} {acc x y : Int} (h : EndD a acc x) (k : EndD a acc y) : x = y := by
  cases h <;> cases k <;> first | rfl | (exfalso; first | contradiction | omega)
theorem EndD.not {a : Au} {acc x : Int} {r : List (List Int) × List Bool} (h : EndD a acc x) (k : FitD a acc) (g : madeM a acc (plcL (allSets a)) = some r) : False := by
  obtain ⟨k1, k2, k3⟩ := k
  cases h with
  | bad h => exact h k1
  | many _ m => omega
  | states _ _ _ g' => rw [g'] at g; cases g
end Pv
namespace Go.Proofs.YtcmmmgblkbbdnaaGreatDoor
open Go.RowKit Pv

theorem Own.sets {w w0 : World} {base : Nat} {v : Value} {S : List (List Rng)} (h : Own w base 35 (IsSet w0) v S) (hl : S.length ≤ 140737488355328) (k : Keep w0 w) : ∃ A c, v = .slice A S.length c ∧ AtSets w A S := by
  obtain ⟨A, c, us, e, o, r⟩ := h
  have h1 : Own w base 35 (IsSet w) v S := Own.monoR ⟨A, c, us, e, o, r⟩ fun u x hu => SlK.keep hu k
  obtain ⟨A', c', e', h2, _⟩ := h1.sl hl
  exact ⟨A', c', e', h2⟩
theorem Own.lower {α : Type} {w : World} {base b : Nat} {e : TypeId} {R : Value → α → Prop} {v : Value} {xs : List α} (h : Own w base e R v xs) (hb : b ≤ base) : Own w b e R v xs := by
  obtain ⟨A, c, us, rfl, ⟨h0, h⟩, k⟩ := h
  refine ⟨A, c, us, rfl, ⟨h0, ?_⟩, k⟩
  rcases h with h2 | ⟨g, cap, cur, hv, hg, r⟩
  · exact .inl h2
  · exact .inr ⟨g, cap, cur, hv, Nat.le_trans hb hg, r⟩
theorem OwnI.far {w : World} {b g i : Nat} {v u : Value} {l : List Int} {t : TypeId} {cs : Array Value} (h : OwnI w b v l) (hb : Blk w g t cs) (hne : TLI ≠ t) : OwnI (w.setCell ⟨g, i, none⟩ u) b v l := by
  obtain ⟨A, c, rfl, h1⟩ := h
  exact ⟨A, c, rfl, ownsRow_setFar h1 hb hne _ _⟩
/-- Cuts, rows and what accepts, all of the call's own. -/
structure Res (w : World) (b : Nat) (v1 v2 v3 : Value) (cuts : List Int) (rows : List (List Int)) (accs : List Bool) : Prop where
  c : OwnI w b v1 cuts
  r : Ls w b none v2 rows
  t : Own w b 4 RB v3 accs
section
variable {w w' : World} {b g : Nat} {v1 v2 v3 : Value} {cuts : List Int} {rows : List (List Int)} {accs : List Bool} {cs : Array Value}
theorem Res.below (h : Res w b v1 v2 v3 cuts rows accs) (hb : Below w.heap.size w w') : Res w' b v1 v2 v3 cuts rows accs := ⟨OwnI.below h.c hb, h.r.below hb, h.t.below hb⟩
theorem Res.far {i : Nat} {u : Value} (h : Res w b v1 v2 v3 cuts rows accs) (hb : Blk w g TDfa cs) : Res (w.setCell ⟨g, i, none⟩ u) b v1 v2 v3 cuts rows accs := ⟨OwnI.far h.c hb (by decide), h.r.far hb (by decide) (by decide), h.t.setFar hb (by decide) _ _⟩
end
end Go.Proofs.YtcmmmgblkbbdnaaGreatDoor
