/- Walks: the closure by which the program numbers some states. PUT1 -/
import Derived.Test.YtcmmmgblkbbdnaaGreatDoorFmy
import Derived.Test.YtcmmmgblkbbdnaaGreatDoorFny
import Derived.Test.YtcmmmgblkbbdnaaGreatDoorQvy
import Derived.Test.YtcmmmgblkbbdnaaGreatDoorDfay
namespace Go.Proofs.YtcmmmgblkbbdnaaGreatDoor
open Go.RowKit Go.ChangeMaps Pv

abbrev TLLs : TypeId := 59
/-- What the closure may turn: the map, its list's box, that list's own block. -/
structure Frm (mb L : Nat) (r : Option Nat) (w w' : World) : Prop where
  os : w'.os = w.os
  tape : w'.tape = w.tape
  output : w'.output = w.output
  size : w.heap.size ≤ w'.heap.size
  block : ∀ g, g < w.heap.size → g ≠ mb → g ≠ L → some g ≠ r → w'.heap[g]? = w.heap[g]?
theorem Frm.of {mb L : Nat} {r : Option Nat} {w w' : World} (h : Below w.heap.size w w') : Frm mb L r w w' := ⟨h.os, h.tape, h.output, h.size, fun g hg _ _ _ => h.block g hg⟩
theorem Frm.trans {mb L : Nat} {r : Option Nat} {a b c : World} (h : Frm mb L r a b) (k : Frm mb L r b c) : Frm mb L r a c :=
  ⟨k.os.trans h.os, k.tape.trans h.tape, k.output.trans h.output, Nat.le_trans h.size k.size, fun g h1 h2 h3 h4 => (k.block g (Nat.lt_of_lt_of_le h1 h.size) h2 h3 h4).trans (h.block g h1 h2 h3 h4)⟩
theorem Frm.grown {mb L : Nat} {r : Option Nat} {a b c : World} (h : Frm mb L r a b) (k : b.grownBy c r) : Frm mb L r a c := h.trans ⟨k.os, k.tape, k.output, k.size, fun g h1 _ _ h4 => k.block g h1 h4⟩
theorem Frm.set {mb L i : Nat} {r : Option Nat} {a b : World} (h : Frm mb L r a b) (u : Value) : Frm mb L r a (b.setCell ⟨L, i, none⟩ u) :=
  h.trans ⟨rfl, rfl, rfl, by simp [World.setCell], fun g _ _ h3 _ => Below.heap_setCell _ _ _ _ h3⟩
theorem Frm.below {mb L B : Nat} {r : Option Nat} {a b : World} (h : Frm mb L r a b) (h0 : B ≤ a.heap.size) (h1 : B ≤ mb) (h2 : B ≤ L) (h3 : ∀ g, r = some g → B ≤ g) : Below B a b :=
  ⟨h.os, h.tape, h.output, h.size, fun g hg => h.block g (by omega) (by omega) (by omega) (fun e => by have := h3 g e.symm; omega)⟩
section
variable {mb L : Nat} {r : Option Nat} {w w' : World} {n : Nat} {all : List (List Int)}
theorem MapM.ne {g : Nat} {t : TypeId} {cs : Array Value} (h : MapM w mb n all) (hb : Blk w g t cs) : g ≠ mb := by
  obtain ⟨es, ck, h1, _⟩ := h
  rintro rfl
  unfold Blk at hb
  rw [hb] at h1
  cases h1
theorem Frm.blk {g : Nat} {t : TypeId} {cs cl : Array Value} (h : Frm mb L r w w') (hm : MapM w mb n all) (hl : Blk w L TLLs cl) (hb : Blk w g t cs) (ht : t ≠ TLLs) (hr : some g ≠ r) : Blk w' g t cs :=
  (h.block g hb.lt (hm.ne hb) (hb.ne hl ht) hr).trans hb
theorem Frm.own {b s k : Nat} {e : TypeId} {v : Value} {us : List Value} {cl : Array Value} (h : Frm mb L r w w') (hm : MapM w mb n all) (hl : Blk w L TLLs cl) (ho : w.ownsRow b e s v k us) (he : e ≠ TLLs) (hr : v.ownBlock = none ∨ v.ownBlock ≠ r) : w'.ownsRow b e s v k us := by
  refine ⟨ho.1, ?_⟩
  rcases ho.2 with h2 | ⟨g, cap, cur, rfl, hg, hh, q⟩
  · exact .inl h2
  · refine .inr ⟨g, cap, cur, rfl, hg, ?_, q⟩
    exact h.blk hm hl (show Blk w g e cur from hh) he (by
      rcases hr with hr | hr
      · simp [Value.ownBlock] at hr
      · intro e; exact hr (by rw [← e]; rfl))
end

end Go.Proofs.YtcmmmgblkbbdnaaGreatDoor

namespace Pv
open Go Go.RowKit
end Pv
namespace Go.Proofs.YtcmmmgblkbbdnaaGreatDoor
open Go.RowKit Go.ChangeMaps Pv

theorem OwnI.put {w : World} {base g i : Nat} {v u : Value} {l : List Int} {cs : Array Value} (h : OwnI w base v l) (hne : v.ownBlock = none ∨ v.ownBlock ≠ some g) (_ : Blk w g TLI cs) : OwnI (w.setCell ⟨g, i, none⟩ u) base v l := by
  obtain ⟨B, d, rfl, h3⟩ := h
  refine ⟨B, d, rfl, h3.1, ?_⟩
  rcases h3.2 with h5 | ⟨g', cap, cur, hv, hg, hh, r⟩
  · exact .inl h5
  · have hne : g' ≠ g := fun e => by
      rcases hne with h4 | h4
      · rw [hv] at h4; simp [Value.ownBlock] at h4
      · exact h4 (by rw [hv, e]; rfl)
    exact .inr ⟨g', cap, cur, hv, hg, by rw [Below.heap_setCell _ _ _ _ (by simpa using hne)]; exact hh, r⟩

/-- The automaton's box, the answer's, the map and the list with their boxes; cuts, rows, what accepts. d2, d3: what the answer's box holds of these. -/
structure PrIn (w wr : World) (M L mb : Nat) (A : Option Addr) (n c : Nat) (acc : Int) (x : Option Nat) (v1 av d2 d3 v2 v3 : Value) (cuts : List Int) (all rows : List (List Int)) (accs : List Bool) : Prop where
  a : Blk wr w.heap.size TAuto #[.slice A n c, .int .i64 acc]
  d : Blk wr (w.heap.size + 1) TDfa #[v1, d2, d3]
  m : Blk wr M TMet #[.map (some mb)]
  l : Blk wr L TLLs #[av]
  mm : MapM wr mb n all
  u : OwnI wr w.heap.size v1 cuts
  ux : v1.ownBlock = none ∨ v1.ownBlock ≠ x
  r : Ls wr w.heap.size x v2 rows
  t : Own wr w.heap.size 4 RB v3 accs
  al : Ls wr w.heap.size x av all
  ne : v2.ownBlock = none ∨ v2.ownBlock ≠ av.ownBlock
  b : Below w.heap.size w wr
  gm : w.heap.size ≤ mb
  gl : w.heap.size ≤ L
theorem Ls.ge {w : World} {base : Nat} {x : Option Nat} {v : Value} {ll : List (List Int)} (h : Ls w base x v ll) {g : Nat} (hg : v.ownBlock = some g) : base ≤ g ∧ g < w.heap.size := by
  obtain ⟨A, c, us, rfl, h1, _⟩ := h
  exact h1.lt g hg
section
variable {w wr w' : World} {M L mb n c : Nat} {A : Option Addr} {acc : Int} {x : Option Nat} {v1 av d2 d3 v2 v3 : Value} {cuts : List Int} {all rows : List (List Int)} {accs : List Bool}
theorem PrIn.below (h : PrIn w wr M L mb A n c acc x v1 av d2 d3 v2 v3 cuts all rows accs) (hb : Below wr.heap.size wr w') : PrIn w w' M L mb A n c acc x v1 av d2 d3 v2 v3 cuts all rows accs :=
  ⟨h.a.below hb h.a.lt, h.d.below hb h.d.lt, h.m.below hb h.m.lt, h.l.below hb h.l.lt, h.mm.of_block (hb.block _ h.mm.lt), OwnI.below h.u hb, h.ux, h.r.below hb, h.t.below hb, h.al.below hb, h.ne, h.b.trans (hb.mono h.b.size), h.gm, h.gl⟩
theorem PrIn.free (h : PrIn w wr M L mb A n c acc x v1 av d2 d3 v2 v3 cuts all rows accs) : PrIn w wr M L mb A n c acc none v1 av d2 d3 v2 v3 cuts all rows accs :=
  ⟨h.a, h.d, h.m, h.l, h.mm, h.u, by cases v1.ownBlock <;> simp, h.r.bare, h.t, h.al.bare, h.ne, h.b, h.gm, h.gl⟩
/-- A number written into the row under way. -/
theorem PrIn.put {R i : Nat} {cs : Array Value} (h : PrIn w wr M L mb A n c acc (some R) v1 av d2 d3 v2 v3 cuts all rows accs) (hb : Blk wr R TLI cs) (hR : w.heap.size ≤ R) (u : Value) : PrIn w (wr.setCell ⟨R, i, none⟩ u) M L mb A n c acc (some R) v1 av d2 d3 v2 v3 cuts all rows accs :=
  ⟨h.a.far (p := ⟨R, i, none⟩) (h.a.ne hb (by decide)) u, h.d.far (p := ⟨R, i, none⟩) (h.d.ne hb (by decide)) u, h.m.far (p := ⟨R, i, none⟩) (h.m.ne hb (by decide)) u, h.l.far (p := ⟨R, i, none⟩) (h.l.ne hb (by decide)) u,
    h.mm.of_block (Below.heap_setCell _ _ _ _ (fun e => h.mm.ne hb e.symm)), OwnI.put h.u h.ux hb, h.ux, h.r.put hb, h.t.setFar hb (by decide) i u, h.al.put hb, h.ne, h.b.setCell (p := ⟨R, i, none⟩) hR u, h.gm, h.gl⟩
/-- A row more. -/
theorem PrIn.row {A1 A2 : Option Addr} {c1 c2 k : Nat} {us : List Value} {u : Value} {l : List Int} (h : PrIn w wr M L mb A n c acc none v1 av d2 d3 (.slice A1 k c1) v3 cuts all rows accs) (h1 : wr.ownsRow w.heap.size TLL 1 (.slice A1 k c1) k us) (h2 : Rel (fun u l => OwnI wr w.heap.size u l ∧ (u.ownBlock = none ∨ u.ownBlock ≠ none)) us rows) (hk : rows.length = k)
    (hu : OwnI wr w.heap.size u l) (own : w'.ownsRow w.heap.size TLL 1 (.slice A2 (k + 1) c2) (k + 1) (us ++ [u])) (gr : (wr.alloc (.cells #[u] TLL)).grownBy w' (Value.slice A1 k c1).ownBlock)
    (hn : (Value.slice A2 (k + 1) c2).ownBlock = (Value.slice A1 k c1).ownBlock ∨ (Value.slice A2 (k + 1) c2).ownBlock = some (wr.alloc (.cells #[u] TLL)).heap.size) : PrIn w w' M L mb A n c acc none v1 av d2 d3 (.slice A2 (k + 1) c2) v3 cuts all (rows ++ [l]) accs := by
  have hb : Below wr.heap.size wr (wr.alloc (.cells #[u] TLL)) := (Below.refl _ _).alloc (Nat.le_refl _) _
  have h' := h.below hb
  have h1' := ownsRow_below h1 hb
  have hmne : some mb ≠ (Value.slice A1 k c1).ownBlock := fun e => by
    rcases h1'.2 with ⟨h, _⟩ | ⟨g, cap, cur, h, _, hh, _⟩
    · rw [h] at e; cases e
    · rw [h] at e
      injection e with e
      subst e
      exact h'.mm.ne (show Blk _ _ TLL cur from hh) rfl
  have hal : (av.ownBlock = none ∨ av.ownBlock ≠ (Value.slice A1 k c1).ownBlock) := by
    rcases h.ne with e | e
    · cases hv : av.ownBlock with
      | none => exact .inl rfl
      | some g => exact .inr (by rw [e]; simp)
    · exact .inr (Ne.symm e)
  refine ⟨h'.a.grown gr (own_blk_ne h1' h'.a (by decide)), h'.d.grown gr (own_blk_ne h1' h'.d (by decide)), h'.m.grown gr (own_blk_ne h1' h'.m (by decide)), h'.l.grown gr (own_blk_ne h1' h'.l (by decide)), h'.mm.of_block (gr.block mb h'.mm.lt hmne), ?_, h.ux, Ls.push h1 h2 hk hu (by cases u.ownBlock <;> simp) own gr, Own.grownB h'.t h1' (by decide) gr, h'.al.beside h1' hal gr, ?_, h'.b.grown gr h'.b.size (fun g hgg => (h1'.lt g hgg).1), h.gm, h.gl⟩
  · obtain ⟨B, d, e, h3⟩ := h'.u
    exact OwnI.grown ⟨B, d, e, h3⟩ gr (by rw [e]; exact own_ne h3 h1' (by decide))
  · rcases hn with e | e
    · rw [e]; exact h.ne
    · rw [e]
      refine .inr fun he => ?_
      have := (h.al.ge he.symm).2
      simp at this
      omega
/-- A store into the answer's box. -/
theorem PrIn.far {i : Nat} {y2 y3 u : Value} (h : PrIn w wr M L mb A n c acc x v1 av d2 d3 v2 v3 cuts all rows accs) (he : (#[v1, d2, d3] : Array Value).setIfInBounds i u = #[v1, y2, y3]) : PrIn w (wr.setCell ⟨w.heap.size + 1, i, none⟩ u) M L mb A n c acc x v1 av y2 y3 v2 v3 cuts all rows accs :=
  ⟨h.a.far (p := ⟨w.heap.size + 1, i, none⟩) (h.a.ne h.d (by decide)) u, by have := h.d.set i u; rwa [he] at this, h.m.far (p := ⟨w.heap.size + 1, i, none⟩) (h.m.ne h.d (by decide)) u, h.l.far (p := ⟨w.heap.size + 1, i, none⟩) (h.l.ne h.d (by decide)) u,
    h.mm.of_block (Below.heap_setCell _ _ _ _ (fun e => h.mm.ne h.d e.symm)), OwnI.far h.u h.d (by decide), h.ux, h.r.far h.d (by decide) (by decide), h.t.setFar h.d (by decide) i u, h.al.far h.d (by decide) (by decide), h.ne, h.b.setCell (p := ⟨w.heap.size + 1, i, none⟩) (Nat.le_succ _) u, h.gm, h.gl⟩
end
end Go.Proofs.YtcmmmgblkbbdnaaGreatDoor

namespace Go.Proofs.YtcmmmgblkbbdnaaGreatDoor
open Go.RowKit Go.ChangeMaps Pv

theorem Ls.blk {w : World} {base b o k c : Nat} {x : Option Nat} {ll : List (List Int)} (h : Ls w base x (.slice (some ⟨b, o, none⟩) k c) ll) : ∃ cs, Blk w b TLL cs := by
  obtain ⟨A, c', us, e, h1, _⟩ := h
  rcases h1.2 with ⟨h2, _⟩ | ⟨g, cap, cur, h2, _, hh, _⟩
  · rw [← e] at h2; cases h2
  · rw [← e] at h2
    injection h2 with h2
    injection h2 with h2
    injection h2 with h2
    subst h2
    exact ⟨cur, hh⟩
end Go.Proofs.YtcmmmgblkbbdnaaGreatDoor

namespace Pv
open Go Go.RowKit
/-- What comes of building: no automaton and a code, or one. -/
inductive Out (a : Au) (acc : Int) : Dfa → Int → Prop where
  | bad {code : Int} (h : EndD a acc code) : Out a acc ⟨[], [], []⟩ code
  | made {rows : List (List Int)} {accs : List Bool} (h : FitD a acc) (g : madeM a acc (plcL (allSets a)) = some (rows, accs)) : Out a acc ⟨plcL (allSets a), rows, accs⟩ 0
theorem Out.one {a : Au} {acc : Int} {D D' : Dfa} {x y : Int} (h : Out a acc D x) (k : Out a acc D' y) : D = D' ∧ x = y := by
  cases h with
  | bad h => cases k with
    | bad k => exact ⟨rfl, h.one k⟩
    | made k g => exact (h.not k g).elim
  | made h g => cases k with
    | bad k => exact (k.not h g).elim
    | made k g' =>
      rw [g] at g'
      injection g' with g'
      injection g' with g1 g2
      subst g1; subst g2
      exact ⟨rfl, rfl⟩
end Pv
namespace Go.Proofs.YtcmmmgblkbbdnaaGreatDoor
open Go.RowKit Pv
theorem At.none {α : Type} (w : World) (R : Value → α → Prop) : At w none R ([] : List α) := ⟨by simp, fun h => absurd h (by simp)⟩
end Go.Proofs.YtcmmmgblkbbdnaaGreatDoor
