/- Walks: the closure by which the program numbers some states. PUT1 -/
import Derived.Test.YtcmmmgblkbbdnaaGreatDoorFmz
import Derived.Test.YtcmmmgblkbbdnaaGreatDoorFnz
import Derived.Test.YtcmmmgblkbbdnaaGreatDoorQvz
import Derived.Test.YtcmmmgblkbbdnaaGreatDoorDfaz
import Derived.Test.YtcmmmgblkbbdnaaGreatDoorGbz
import Derived.Test.YtcmmmgblkbbdnaaGreatDoorGcz
import Derived.Test.YtcmmmgblkbbdnaaGreatDoorLsz
import Derived.Test.YtcmmmgblkbbdnaaGreatDoorTbz
namespace Go.Proofs.YtcmmmgblkbbdnaaGreatDoor
open Go.RowKit Go.ChangeMaps Pv

abbrev TLLs : TypeId := 59
/-- What the closure may turn: the map, its list's box, that list's own block. -/
structure Frm (mb L : Nat) (r : Option Nat) (w w' : World) : Prop where
  os : w'.os = w.os
  tape : w'.tape = w.tape
  output : w'.output = w.output
  size : w.heap.size ≤ w'.heap.size
  block : ∀ g, g < w.heap.size → g ≠ mb → g ≠ L → some g ≠ r → w'.heap[g]? = w.heap[g]?
theorem Frm.of {mb L : Nat} {r : Option Nat} {w w' : World} (h : Below w.heap.size w w') : Frm mb L r w w' := ⟨h.os, h.tape, h.output, h.size, fun g hg _ _ _ => h.block g hg⟩
theorem Frm.trans {mb L : Nat} {r : Option Nat} {a b c : World} (h : Frm mb L r a b) (k : Frm mb L r b c) : Frm mb L r a c :=
  ⟨k.os.trans h.os, k.tape.trans h.tape, k.output.trans h.output, Nat.le_trans h.size k.size, fun g h1 h2 h3 h4 => (k.block g (Nat.lt_of_lt_of_le h1 h.size) h2 h3 h4).trans (h.block g h1 h2 h3 h4)⟩
theorem Frm.grown {mb L : Nat} {r : Option Nat} {a b c : World} (h : Frm mb L r a b) (k : b.grownBy c r) : Frm mb L r a c := h.trans ⟨k.os, k.tape, k.output, k.size, fun g h1 _ _ h4 => k.block g h1 h4⟩
theorem Frm.set {mb L i : Nat} {r : Option Nat} {a b : World} (h : Frm mb L r a b) (u : Value) : Frm mb L r a (b.setCell ⟨L, i, none⟩ u) :=
  h.trans ⟨rfl, rfl, rfl, by simp [World.setCell], fun g _ _ h3 _ => Below.heap_setCell _ _ _ _ h3⟩
theorem Frm.below {mb L B : Nat} {r : Option Nat} {a b : World} (h : Frm mb L r a b) (h0 : B ≤ a.heap.size) (h1 : B ≤ mb) (h2 : B ≤ L) (h3 : ∀ g, r = some g → B ≤ g) : Below B a b :=
  ⟨h.os, h.tape, h.output, h.size, fun g hg => h.block g (by omega) (by omega) (by omega) (fun e => by have := h3 g e.symm; omega)⟩
section
variable {mb L : Nat} {r : Option Nat} {w w' : World} {n : Nat} {all : List (List Int)}
theorem MapM.ne {g : Nat} {t : TypeId} {cs : Array Value} (h : MapM w mb n all) (hb : Blk w g t cs) : g ≠ mb := by
  obtain ⟨es, ck, h1, _⟩ := h
  rintro rfl
  unfold Blk at hb
  rw [hb] at h1
  cases h1
theorem Frm.blk {g : Nat} {t : TypeId} {cs cl : Array Value} (h : Frm mb L r w w') (hm : MapM w mb n all) (hl : Blk w L TLLs cl) (hb : Blk w g t cs) (ht : t ≠ TLLs) (hr : some g ≠ r) : Blk w' g t cs :=
  (h.block g hb.lt (hm.ne hb) (hb.ne hl ht) hr).trans hb
theorem Frm.own {b s k : Nat} {e : TypeId} {v : Value} {us : List Value} {cl : Array Value} (h : Frm mb L r w w') (hm : MapM w mb n all) (hl : Blk w L TLLs cl) (ho : w.ownsRow b e s v k us) (he : e ≠ TLLs) (hr : v.ownBlock = none ∨ v.ownBlock ≠ r) : w'.ownsRow b e s v k us := by
  refine ⟨ho.1, ?_⟩
  rcases ho.2 with h2 | ⟨g, cap, cur, rfl, hg, hh, q⟩
  · exact .inl h2
  · refine .inr ⟨g, cap, cur, rfl, hg, ?_, q⟩
    exact h.blk hm hl (show Blk w g e cur from hh) he (by
      rcases hr with hr | hr
      · simp [Value.ownBlock] at hr
      · intro e; exact hr (by rw [← e]; rfl))
end

end Go.Proofs.YtcmmmgblkbbdnaaGreatDoor

namespace Pv
open Go Go.RowKit
end Pv
namespace Go.Proofs.YtcmmmgblkbbdnaaGreatDoor
open Go.RowKit Go.ChangeMaps Pv

theorem OwnI.put {w : World} {base g i : Nat} {v u : Value} {l : List Int} {cs : Array Value} (h : OwnI w base v l) (hne : v.ownBlock = none ∨ v.ownBlock ≠ some g) (_ : Blk w g TLI cs) : OwnI (w.setCell ⟨g, i, none⟩ u) base v l := by
  obtain ⟨B, d, rfl, h3⟩ := h
  refine ⟨B, d, rfl, h3.1, ?_⟩
  rcases h3.2 with h5 | ⟨g', cap, cur, hv, hg, hh, r⟩
  · exact .inl h5
  · have hne : g' ≠ g := fun e => by
      rcases hne with h4 | h4
      · rw [hv] at h4; simp [Value.ownBlock] at h4
      · exact h4 (by rw [hv, e]; rfl)
    exact .inr ⟨g', cap, cur, hv, hg, by rw [Below.heap_setCell _ _ _ _ (by simpa using hne)]; exact hh, r⟩

/-- The automaton's box, the answer's, the map and the list with their boxes; cuts, rows, what accepts. d2, d3: what the answer's box holds of these. -/
structure PrIn (w wr : World) (M L mb : Nat) (A : Option Addr) (n c : Nat) (acc : Int) (x : Option Nat) (v1 av d2 d3 v2 v3 : Value) (cuts : List Int) (all rows : List (List Int)) (accs : List Bool) : Prop where
  a : Blk wr w.heap.size TAuto #[.slice A n c, .int .i64 acc]
  d : Blk wr (w.heap.size + 1) TDfa #[v1, d2, d3]
  m : Blk wr M TMet #[.map (some mb)]
  l : Blk wr L TLLs #[av]
  mm : MapM wr mb n all
  u : OwnI wr w.heap.size v1 cuts
  ux : v1.ownBlock = none ∨ v1.ownBlock ≠ x
  r : Ls wr w.heap.size x v2 rows
  t : Own wr w.heap.size 4 RB v3 accs
  al : Ls wr w.heap.size x av all
  ne : v2.ownBlock = none ∨ v2.ownBlock ≠ av.ownBlock
  b : Below w.heap.size w wr
  gm : w.heap.size ≤ mb
  gl : w.heap.size ≤ L
theorem Ls.ge {w : World} {base : Nat} {x : Option Nat} {v : Value} {ll : List (List Int)} (h : Ls w base x v ll) {g : Nat} (hg : v.ownBlock = some g) : base ≤ g ∧ g < w.heap.size := by
  obtain ⟨A, c, us, rfl, h1, _⟩ := h
  exact h1.lt g hg
section
variable {w wr w' : World} {M L mb n c : Nat} {A : Option Addr} {acc : Int} {x : Option Nat} {v1 av d2 d3 v2 v3 : Value} {cuts : List Int} {all rows : List (List Int)} {accs : List Bool}
theorem PrIn.below (h : PrIn w wr M L mb A n c acc x v1 av d2 d3 v2 v3 cuts all rows accs) (hb : Below wr.heap.size wr w') : PrIn w w' M L mb A n c acc x v1 av d2 d3 v2 v3 cuts all rows accs :=
  ⟨h.a.below hb h.a.lt, h.d.below hb h.d.lt, h.m.below hb h.m.lt, h.l.below hb h.l.lt, h.mm.of_block (hb.block _ h.mm.lt), OwnI.below h.u hb, h.ux, h.r.below hb, h.t.below hb, h.al.below hb, h.ne, h.b.trans (hb.mono h.b.size), h.gm, h.gl⟩
theorem PrIn.free (h : PrIn w wr M L mb A n c acc x v1 av d2 d3 v2 v3 cuts all rows accs) : PrIn w wr M L mb A n c acc none v1 av d2 d3 v2 v3 cuts all rows accs :=
  ⟨h.a, h.d, h.m, h.l, h.mm, h.u, by cases v1.ownBlock <;> simp, h.r.bare, h.t, h.al.bare, h.ne, h.b, h.gm, h.gl⟩
/-- A number written into the row under way. -/
theorem PrIn.put {R i : Nat} {cs : Array Value} (h : PrIn w wr M L mb A n c acc (some R) v1 av d2 d3 v2 v3 cuts all rows accs) (hb : Blk wr R TLI cs) (hR : w.heap.size ≤ R) (u : Value) : PrIn w (wr.setCell ⟨R, i, none⟩ u) M L mb A n c acc (some R) v1 av d2 d3 v2 v3 cuts all rows accs :=
  ⟨h.a.far (p := ⟨R, i, none⟩) (h.a.ne hb (by decide)) u, h.d.far (p := ⟨R, i, none⟩) (h.d.ne hb (by decide)) u, h.m.far (p := ⟨R, i, none⟩) (h.m.ne hb (by decide)) u, h.l.far (p := ⟨R, i, none⟩) (h.l.ne hb (by decide)) u,
    h.mm.of_block (Below.heap_setCell _ _ _ _ (fun e => h.mm.ne hb e.symm)), OwnI.put h.u h.ux hb, h.ux, h.r.put hb, h.t.setFar hb (by decide) i u, h.al.put hb, h.ne, h.b.setCell (p := ⟨R, i, none⟩) hR u, h.gm, h.gl⟩
/-- A row more. -/
theorem PrIn.row {A1 A2 : Option Addr} {c1 c2 k : Nat} {us : List Value} {u : Value} {l : List Int} (h : PrIn w wr M L mb A n c acc none v1 av d2 d3 (.slice A1 k c1) v3 cuts all rows accs) (h1 : wr.ownsRow w.heap.size TLL 1 (.slice A1 k c1) k us) (h2 : Rel (fun u l => OwnI wr w.heap.size u l ∧ (u.ownBlock = none ∨ u.ownBlock ≠ none)) us rows) (hk : rows.length = k)
    (hu : OwnI wr w.heap.size u l) (own : w'.ownsRow w.heap.size TLL 1 (.slice A2 (k + 1) c2) (k + 1) (us ++ [u])) (gr : (wr.alloc (.cells #[u] TLL)).grownBy w' (Value.slice A1 k c1).ownBlock)
    (hn : (Value.slice A2 (k + 1) c2).ownBlock = (Value.slice A1 k c1).ownBlock ∨ (Value.slice A2 (k + 1) c2).ownBlock = some (wr.alloc (.cells #[u] TLL)).heap.size) : PrIn w w' M L mb A n c acc none v1 av d2 d3 (.slice A2 (k + 1) c2) v3 cuts all (rows ++ [l]) accs := by
  have hb : Below wr.heap.size wr (wr.alloc (.cells #[u] TLL)) := (Below.refl _ _).alloc (Nat.le_refl _) _
  have h' := h.below hb
  have h1' := ownsRow_below h1 hb
  have hmne : some mb ≠ (Value.slice A1 k c1).ownBlock := fun e => by
    rcases h1'.2 with ⟨h, _⟩ | ⟨g, cap, cur, h, _, hh, _⟩
    · rw [h] at e; cases e
    · rw [h] at e
      injection e with e
      subst e
      exact h'.mm.ne (show Blk _ _ TLL cur from hh) rfl
  have hal : (av.ownBlock = none ∨ av.ownBlock ≠ (Value.slice A1 k c1).ownBlock) := by
    rcases h.ne with e | e
    · cases hv : av.ownBlock with
      | none => exact .inl rfl
      | some g => exact .inr (by rw [e]; simp)
    · exact .inr (Ne.symm e)
  refine ⟨h'.a.grown gr (own_blk_ne h1' h'.a (by decide)), h'.d.grown gr (own_blk_ne h1' h'.d (by decide)), h'.m.grown gr (own_blk_ne h1' h'.m (by decide)), h'.l.grown gr (own_blk_ne h1' h'.l (by decide)), h'.mm.of_block (gr.block mb h'.mm.lt hmne), ?_, h.ux, Ls.push h1 h2 hk hu (by cases u.ownBlock <;> simp) own gr, Own.grownB h'.t h1' (by decide) gr, h'.al.beside h1' hal gr, ?_, h'.b.grown gr h'.b.size (fun g hgg => (h1'.lt g hgg).1), h.gm, h.gl⟩
  · obtain ⟨B, d, e, h3⟩ := h'.u
    exact OwnI.grown ⟨B, d, e, h3⟩ gr (by rw [e]; exact own_ne h3 h1' (by decide))
  · rcases hn with e | e
    · rw [e]; exact h.ne
    · rw [e]
      refine .inr fun he => ?_
      have := (h.al.ge he.symm).2
      simp at this
      omega
/-- A store into the answer's box. -/
theorem PrIn.far {i : Nat} {y2 y3 u : Value} (h : PrIn w wr M L mb A n c acc x v1 av d2 d3 v2 v3 cuts all rows accs) (he : (#[v1, d2, d3] : Array Value).setIfInBounds i u = #[v1, y2, y3]) : PrIn w (wr.setCell ⟨w.heap.size + 1, i, none⟩ u) M L mb A n c acc x v1 av y2 y3 v2 v3 cuts all rows accs :=
  ⟨h.a.far (p := ⟨w.heap.size + 1, i, none⟩) (h.a.ne h.d (by decide)) u, by have := h.d.set i u; rwa [he] at this, h.m.far (p := ⟨w.heap.size + 1, i, none⟩) (h.m.ne h.d (by decide)) u, h.l.far (p := ⟨w.heap.size + 1, i, none⟩) (h.l.ne h.d (by decide)) u,
    h.mm.of_block (Below.heap_setCell _ _ _ _ (fun e => h.mm.ne h.d e.symm)), OwnI.far h.u h.d (by decide), h.ux, h.r.far h.d (by decide) (by decide), h.t.setFar h.d (by decide) i u, h.al.far h.d (by decide) (by decide), h.ne, h.b.setCell (p := ⟨w.heap.size + 1, i, none⟩) (Nat.le_succ _) u, h.gm, h.gl⟩
end
end Go.Proofs.YtcmmmgblkbbdnaaGreatDoor

namespace Go.Proofs.YtcmmmgblkbbdnaaGreatDoor
open Go.RowKit Go.ChangeMaps Pv

theorem Ls.blk {w : World} {base b o k c : Nat} {x : Option Nat} {ll : List (List Int)} (h : Ls w base x (.slice (some ⟨b, o, none⟩) k c) ll) : ∃ cs, Blk w b TLL cs := by
  obtain ⟨A, c', us, e, h1, _⟩ := h
  rcases h1.2 with ⟨h2, _⟩ | ⟨g, cap, cur, h2, _, hh, _⟩
  · rw [← e] at h2; cases h2
  · rw [← e] at h2
    injection h2 with h2
    injection h2 with h2
    injection h2 with h2
    subst h2
    exact ⟨cur, hh⟩
end Go.Proofs.YtcmmmgblkbbdnaaGreatDoor

namespace Pv
open Go Go.RowKit
/-- What comes of building: no automaton and a code, or one. -/
inductive Out (a : Au) (acc : Int) : Dfa → Int → Prop where
  | bad {code : Int} (h : EndD a acc code) : Out a acc ⟨[], [], []⟩ code
  | made {rows : List (List Int)} {accs : List Bool} (h : FitD a acc) (g : madeM a acc (plcL (allSets a)) = some (rows, accs)) : Out a acc ⟨plcL (allSets a), rows, accs⟩ 0
theorem Out.one {a : Au} {acc : Int} {D D' : Dfa} {x y : Int} (h : Out a acc D x) (k : Out a acc D' y) : D = D' ∧ x = y := by
  cases h with
  | bad h => cases k with
    | bad k => exact ⟨rfl, h.one k⟩
    | made k g => exact (h.not k g).elim
  | made h g => cases k with
    | bad k => exact (k.not h g).elim
    | made k g' =>
      rw [g] at g'
      injection g' with g'
      injection g' with g1 g2
      subst g1; subst g2
      exact ⟨rfl, rfl⟩
end Pv
namespace Go.Proofs.YtcmmmgblkbbdnaaGreatDoor
open Go.RowKit Pv
theorem At.none {α : Type} (w : World) (R : Value → α → Prop) : At w none R ([] : List α) := ⟨by simp, fun h => absurd h (by simp)⟩
end Go.Proofs.YtcmmmgblkbbdnaaGreatDoor

namespace Pv
open Go Go.RowKit

def inC (s : List Rng) (p : Int) : Bool := s.any fun r => decide (r.lo ≤ p) && decide (p ≤ r.hi)
def freeC (a : Au) (s : Nat) : List Nat := ((a.getD s []).filter fun x => x.free).map fun x => x.to.toNat
def numC (a : Au) (p : Int) (s : Nat) : List Nat := ((a.getD s []).filter fun x => !x.free && inC x.set p).map fun x => x.to.toNat
/-- All that some states lead to by free edges (those under way, those seen). -/
def cloC (a : Au) : Nat → List Nat → List Nat → List Nat
  | 0, _, seen => seen
  | _ + 1, [], seen => seen
  | f + 1, s :: todo, seen => if seen.contains s then cloC a f todo seen else cloC a f (freeC a s ++ todo) (s :: seen)
def shutC (a : Au) (l r : List Nat) : Bool := l.all (fun s => r.contains s) && r.all fun s => (freeC a s).all fun t => r.contains t
/-- Where edges lead is told by natural numbers. -/
def toOk (a : Au) : Bool := a.all fun es => es.all fun x => decide (0 ≤ x.to)
section
variable {a : Au}
theorem toOk_at (h : toOk a = true) {s : Nat} {es : List Ed} {x : Ed} (hs : a[s]? = some es) (hx : x ∈ es) : 0 ≤ x.to := by
  unfold toOk at h
  have := List.all_eq_true.1 (List.all_eq_true.1 h es (List.mem_of_getElem? hs)) x hx
  simpa using this
theorem freeC_iff (h : toOk a = true) {s t : Nat} : t ∈ freeC a s ↔ FreeTo a s t := by
  unfold freeC FreeTo
  simp only [List.mem_map, List.mem_filter]
  constructor
  · rintro ⟨x, ⟨h1, h2⟩, h3⟩
    cases hs : a[s]? with
    | none => simp [List.getD, hs] at h1
    | some es =>
      rw [getD_of hs] at h1
      have := toOk_at h hs h1
      exact ⟨es, x, rfl, h1, h2, by omega⟩
  · rintro ⟨es, x, h1, h2, h3, h4⟩
    exact ⟨x, ⟨by rw [getD_of h1]; exact h2, h3⟩, by omega⟩
theorem inC_iff (s : List Rng) (p : Int) : inC s p = true ↔ InSet s p := by
  unfold inC InSet
  simp only [List.any_eq_true, Bool.and_eq_true, decide_eq_true_eq]
  constructor
  · rintro ⟨r, h1, h2, h3⟩
    obtain ⟨i, hi⟩ := List.getElem?_of_mem h1
    exact ⟨i, r, hi, h2, h3⟩
  · rintro ⟨i, r, h1, h2, h3⟩
    exact ⟨r, List.mem_of_getElem? h1, h2, h3⟩
theorem numC_iff (h : toOk a = true) {p : Int} {s t : Nat} : t ∈ numC a p s ↔ NumTo a p s t := by
  unfold numC NumTo
  simp only [List.mem_map, List.mem_filter, Bool.and_eq_true, Bool.not_eq_true', inC_iff]
  constructor
  · rintro ⟨x, ⟨h1, h2, h2'⟩, h3⟩
    cases hs : a[s]? with
    | none => simp [List.getD, hs] at h1
    | some es =>
      rw [getD_of hs] at h1
      have := toOk_at h hs h1
      exact ⟨es, x, rfl, h1, h2, h2', by omega⟩
  · rintro ⟨es, x, h1, h2, h3, h3', h4⟩
    exact ⟨x, ⟨by rw [getD_of h1]; exact h2, h3, h3'⟩, by omega⟩
theorem cloC_sub (h : toOk a = true) {S : Nat → Prop} : ∀ (f : Nat) (todo seen : List Nat), (∀ s, s ∈ todo → Clo a S s) → (∀ s, s ∈ seen → Clo a S s) → ∀ s, s ∈ cloC a f todo seen → Clo a S s
  | 0, _, _, _, h2, s, hs => h2 s hs
  | _ + 1, [], _, _, h2, s, hs => h2 s hs
  | f + 1, x :: todo, seen, h1, h2, s, hs => by
    unfold cloC at hs
    split at hs
    · exact cloC_sub h f todo seen (fun y hy => h1 y (by simp [hy])) h2 s hs
    · refine cloC_sub h f _ _ (fun y hy => ?_) (fun y hy => ?_) s hs
      · rcases List.mem_append.1 hy with hy | hy
        · exact .step (h1 x (by simp)) ((freeC_iff h).1 hy)
        · exact h1 y (by simp [hy])
      · rcases List.mem_cons.1 hy with rfl | hy
        · exact h1 _ (by simp)
        · exact h2 y hy
theorem cloC_is (h : toOk a = true) {l r : List Nat} (hr : cloC a 100000 l [] = r) (hs : shutC a l r = true) (s : Nat) : s ∈ r ↔ Clo a (fun s => s ∈ l) s := by
  unfold shutC at hs
  simp only [Bool.and_eq_true, List.all_eq_true, List.contains_iff_mem] at hs
  refine Clo.is (T := fun s => s ∈ r) hs.1 (fun x y hx hxy => hs.2 x hx y ((freeC_iff h).2 hxy)) (fun x hx => ?_) s
  rw [← hr] at hx
  exact cloC_sub h _ _ _ (fun y hy => .base hy) (fun y hy => by simp at hy) x hx
end
/-- Some states as a rising list: those of which it is told. -/
def lstC (n : Nat) (r : List Nat) : List Int := ((List.range n).filter fun i => r.contains i).map fun i : Nat => (i : Int)
theorem lstC_is {n : Nat} {r : List Nat} {S : Nat → Prop} (h : ∀ s, s ∈ r ↔ S s) : lstC n r = stL n S := by
  unfold lstC stL
  congr 1
  refine List.filter_congr fun i _ => ?_
  by_cases hi : S i
  · rw [yes_t hi]; simpa using (h i).2 hi
  · rw [yes_f hi]
    have : i ∉ r := fun e => hi ((h i).1 e)
    simpa using this
/-- Where some states come to by a number, all free edges gone; none: not reckoned through. -/
def shutL (a : Au) (l : List Nat) : Option (List Int) := if shutC a l (cloC a 100000 l []) then some (lstC a.length (cloC a 100000 l [])) else none
theorem shutL_is {a : Au} (h : toOk a = true) {l : List Nat} {r : List Int} {S : Nat → Prop} (hS : ∀ s, s ∈ l ↔ S s) (hr : shutL a l = some r) : stL a.length (Clo a S) = r := by
  unfold shutL at hr
  split at hr
  · rename_i hs
    obtain rfl := Option.some.inj hr
    have e : S = fun s => s ∈ l := funext fun s => propext (hS s).symm
    rw [e]
    exact (lstC_is (cloC_is h rfl hs)).symm
  · cases hr
def stepC (a : Au) (l : List Int) (p : Int) : Option (List Int) := shutL a (l.flatMap fun s => numC a p s.toNat)
theorem stepC_is {a : Au} (h : toOk a = true) {l : List Int} {p : Int} {r : List Int} (hl : ∀ s, s ∈ l → 0 ≤ s) (hr : stepC a l p = some r) : stepS a l p = r := by
  refine shutL_is h (fun t => ?_) hr
  simp only [List.mem_flatMap]
  unfold Stp Of
  constructor
  · rintro ⟨s, h1, h2⟩
    have := hl s h1
    exact ⟨s.toNat, by rw [Int.toNat_of_nonneg this]; exact h1, (numC_iff h).1 h2⟩
  · rintro ⟨s, h1, h2⟩
    exact ⟨(s : Int), h1, by simpa using (numC_iff h).2 h2⟩
theorem lstC_nn {n : Nat} {r : List Nat} : ∀ s, s ∈ lstC n r → 0 ≤ s := fun s hs => by
  obtain ⟨i, _, rfl⟩ := List.mem_map.1 hs
  omega
end Pv

namespace Pv
open Go Go.RowKit
theorem rowM_mono {a : Au} {l : List Int} : ∀ (cs row : List Int) (all : List (List Int)) (row' : List Int) (all' : List (List Int)), rowM a l cs row all = some (row', all') → all.length ≤ all'.length
  | [], row, all, row', all', e => by
    unfold rowM at e
    injection e with e
    injection e with e1 e2
    subst e2
    omega
  | c :: cs, row, all, row', all', e => by
    by_cases h64 : 64 < (addS all (stepS a l c)).length
    · rw [rowM_many h64] at e; cases e
    · rw [rowM_next (by omega)] at e
      have h1 := rowM_mono cs _ _ _ _ e
      have h2 := addS_len all (stepS a l c)
      omega
theorem rowM_in {a : Au} {l : List Int} : ∀ (cs row : List Int) (all : List (List Int)) (row' : List Int) (all' : List (List Int)), rowM a l cs row all = some (row', all') → (∀ y, y ∈ row → 0 ≤ y ∧ y < (all.length : Int)) → ∀ y, y ∈ row' → 0 ≤ y ∧ y < (all'.length : Int)
  | [], row, all, row', all', e, h => by
    unfold rowM at e
    injection e with e
    injection e with e1 e2
    subst e1; subst e2
    exact h
  | c :: cs, row, all, row', all', e, h => by
    by_cases h64 : 64 < (addS all (stepS a l c)).length
    · rw [rowM_many h64] at e; cases e
    · rw [rowM_next (by omega)] at e
      refine rowM_in cs _ _ row' all' e fun y hy => ?_
      have h2 := addS_len all (stepS a l c)
      rcases List.mem_append.1 hy with hy | hy
      · have := h y hy; omega
      · simp at hy
        have := numS_lt all (stepS a l c)
        omega
theorem mkM_in {a : Au} {acc : Int} {cuts : List Int} : ∀ (f : Nat) (all rows : List (List Int)) (accs : List Bool) (rows' : List (List Int)) (accs' : List Bool), mkM a acc cuts f all rows accs = some (rows', accs') → rows.length ≤ all.length → (∀ r, r ∈ rows → ∀ y, y ∈ r → 0 ≤ y ∧ y < (all.length : Int)) → all.length ≤ rows'.length ∧ ∀ r, r ∈ rows' → ∀ y, y ∈ r → 0 ≤ y ∧ y < (rows'.length : Int)
  | 0, _, _, _, _, _, e, _, _ => by unfold mkM at e; cases e
  | f + 1, all, rows, accs, rows', accs', e, hr, h => by
    cases hx : all[rows.length]? with
    | none =>
      unfold mkM at e
      rw [hx] at e
      injection e with e
      injection e with e1 e2
      subst e1; subst e2
      have hge : all.length ≤ rows.length := by simpa using hx
      have he : all.length = rows.length := by omega
      exact ⟨hge, fun r hm y hy => by have := h r hm y hy; omega⟩
    | some l =>
      rw [mkM_row hx] at e
      cases hy : rowM a l cuts [] all with
      | none => rw [hy] at e; cases e
      | some q =>
        obtain ⟨row, all'⟩ := q
        rw [hy] at e
        have hmono := rowM_mono _ _ _ _ _ hy
        have hin := rowM_in _ _ _ _ _ hy (fun y hy => by simp at hy)
        have hlt := lt_of_get hx
        obtain ⟨k1, k2⟩ := mkM_in f all' _ _ rows' accs' e (by simp; omega) fun r hm z hz => by
          rcases List.mem_append.1 hm with hm | hm
          · have := h r hm z hz; omega
          · simp at hm; rw [hm] at hz; exact hin z hz
        exact ⟨by omega, k2⟩
theorem madeM_in {a : Au} {acc : Int} {cuts : List Int} {rows : List (List Int)} {accs : List Bool} (e : madeM a acc cuts = some (rows, accs)) : 1 ≤ rows.length ∧ ∀ r, r ∈ rows → ∀ y, y ∈ r → 0 ≤ y ∧ y < (rows.length : Int) := by
  obtain ⟨h1, h2⟩ := mkM_in 70 _ _ _ _ _ e (by simp) (fun r hr => by simp at hr)
  exact ⟨by simpa using h1, h2⟩
theorem Out.ok {a : Au} {acc : Int} {D : Dfa} (h : Out a acc D 0) : D.Ok := by
  generalize hc : (0 : Int) = code at h
  cases h with
  | bad h => exfalso; cases h <;> omega
  | made h g =>
    obtain ⟨b1, b2, b3⟩ := madeM_bd g
    obtain ⟨m1, m2⟩ := madeM_in g
    have hS := allSets_ok h.ok
    obtain ⟨l, hl⟩ := plcL_head hS
    have hr := plcL_rise (allSets a)
    refine ⟨by simp only [hl]; simp, h.p, by simp only [hl]; simp, m1, b2, b3, fun i x y hx hy => ⟨?_, (plcL_in hS (mem_of_get hy)).2⟩, fun i r hi => (b1.each r (mem_of_get hi)).2, fun i r hi j x hj => m2 r (mem_of_get hi) x (mem_of_get hj)⟩
    have h1 := lt_of_get hx; have h2 := lt_of_get hy
    have e1 := (List.getElem?_eq_some_iff.1 hx).2; have e2 := (List.getElem?_eq_some_iff.1 hy).2
    have := List.pairwise_iff_getElem.1 hr i (i + 1) h1 h2 (by omega)
    simp only at e1 e2
    rw [e1, e2] at this
    exact this
end Pv

namespace Pv
open Go Go.RowKit

theorem lastLe_spec {cuts : List Int} {n : Int} (h0 : cuts.getD 0 0 ≤ n) : ∀ k, 0 < k → cuts.getD (lastLe cuts n k) 0 ≤ n ∧ ∀ j, j < k → cuts.getD j 0 ≤ n → j ≤ lastLe cuts n k
  | 0, h => by omega
  | k + 1, _ => by
    unfold lastLe
    split
    · rename_i h; exact ⟨h, fun j hj _ => by omega⟩
    · rename_i h
      rcases Nat.eq_zero_or_pos k with h1 | h1
      · subst h1; exact absurd h0 h
      · obtain ⟨h2, h3⟩ := lastLe_spec h0 k h1
        refine ⟨h2, fun j hj hn => ?_⟩
        by_cases e : j = k
        · subst e; exact absurd hn h
        · exact h3 j (by omega) hn
/-- The cut that a number lies behind. -/
theorem cut_of {cuts : List Int} (hr : Rise cuts) {l : List Int} (hl : cuts = 0 :: l) {p : Int} (hp : 0 ≤ p) : ∃ q, cuts[lastLe cuts p cuts.length]? = some q ∧ q ≤ p ∧ ∀ x, x ∈ cuts → x ≤ p → x ≤ q := by
  have hpos : 0 < cuts.length := by rw [hl]; simp
  obtain ⟨h1, h2⟩ := lastLe_spec (cuts := cuts) (n := p) (by rw [hl]; simpa using hp) cuts.length hpos
  have hlt := lastLe_lt cuts p cuts.length hpos
  have e : cuts[lastLe cuts p cuts.length]? = some (cuts[lastLe cuts p cuts.length]'hlt) := List.getElem?_eq_getElem hlt
  rw [getD_of e] at h1
  refine ⟨_, e, h1, fun x hx hxp => ?_⟩
  obtain ⟨j, hj, rfl⟩ := List.mem_iff_getElem.1 hx
  have := h2 j hj (by rw [getD_of (List.getElem?_eq_getElem hj)]; exact hxp)
  rcases Nat.lt_or_ge j (lastLe cuts p cuts.length) with h3 | h3
  · exact Int.le_of_lt (List.pairwise_iff_getElem.1 hr j _ hj hlt h3)
  · obtain rfl : j = lastLe cuts p cuts.length := by omega
    exact Int.le_refl _
/-- Numbers between two cuts go alike. -/
theorem inSet_cut {S : List (List Rng)} {p q : Int} (hp : p ≤ 1114111) (hqp : q ≤ p) (hq : ∀ x, x ∈ plcL S → x ≤ p → x ≤ q) {s : List Rng} (hs : s ∈ S) : InSet s p ↔ InSet s q := by
  constructor
  · rintro ⟨i, r, hi, h1, h2⟩
    have hm : r.lo ∈ plcL S := plcL_mem.2 ⟨.inr ⟨s, hs, r, mem_of_get hi, .inl rfl⟩, by omega⟩
    have := hq _ hm h1
    exact ⟨i, r, hi, this, by omega⟩
  · rintro ⟨i, r, hi, h1, h2⟩
    refine ⟨i, r, hi, by omega, ?_⟩
    rcases (show r.hi < p ∨ p ≤ r.hi by omega) with h3 | h3
    · have hm : r.hi + 1 ∈ plcL S := plcL_mem.2 ⟨.inr ⟨s, hs, r, mem_of_get hi, .inr rfl⟩, by omega⟩
      have := hq _ hm (by omega)
      omega
    · exact h3
theorem mem_allSets {a : Au} {s : Nat} {es : List Ed} {x : Ed} (hs : a[s]? = some es) (hx : x ∈ es) (hf : x.free = false) : x.set ∈ allSets a := by
  unfold allSets rowSets
  simp only [List.mem_flatMap, List.mem_map, List.mem_filter]
  exact ⟨es, mem_of_get hs, x, ⟨hx, by simp [hf]⟩, rfl⟩
theorem stepS_cut {a : Au} {l : List Int} {p q : Int} (hp : p ≤ 1114111) (hqp : q ≤ p) (hq : ∀ x, x ∈ plcL (allSets a) → x ≤ p → x ≤ q) : stepS a l p = stepS a l q := by
  unfold stepS
  have e : Stp a p (Of l) = Stp a q (Of l) := by
    funext t
    refine propext ?_
    unfold Stp NumTo
    constructor
    · rintro ⟨s, h1, es, x, h2, h3, h4, h5, h6⟩
      exact ⟨s, h1, es, x, h2, h3, h4, (inSet_cut hp hqp hq (mem_allSets h2 h3 h4)).1 h5, h6⟩
    · rintro ⟨s, h1, es, x, h2, h3, h4, h5, h6⟩
      exact ⟨s, h1, es, x, h2, h3, h4, (inSet_cut hp hqp hq (mem_allSets h2 h3 h4)).2 h5, h6⟩
  rw [e]
theorem pre_get {α : Type} {l m : List α} (h : l <+: m) {i : Nat} {x : α} (hx : l[i]? = some x) : m[i]? = some x := by
  obtain ⟨t, rfl⟩ := h
  rw [List.getElem?_append_left (lt_of_get hx)]; exact hx
theorem addS_pre (all : List (List Int)) (l : List Int) : all <+: addS all l := by
  by_cases h : l ∈ all
  · rw [addS_in h]; exact List.prefix_refl _
  · rw [addS_new h]; exact List.prefix_append _ _
theorem addS_mem (all : List (List Int)) (l : List Int) : l ∈ addS all l := by
  by_cases h : l ∈ all
  · rw [addS_in h]; exact h
  · rw [addS_new h]; simp
theorem numS_pre {all all' : List (List Int)} (h : all <+: all') {l : List Int} (hl : l ∈ addS all l) (h2 : addS all l <+: all') : numS all l = numS all' l := by
  obtain ⟨t, rfl⟩ := h2
  unfold numS
  rw [List.idxOf_append, if_pos hl]
  by_cases hm : l ∈ all
  · rw [addS_in hm]
  · rw [addS_new hm, List.idxOf_append, if_neg hm, List.idxOf_eq_length hm]
    simp
/-- A row that is made, held against all states that there are in the end. -/
theorem rowM_row {a : Au} {l : List Int} : ∀ (cs row : List Int) (all : List (List Int)) (row' : List Int) (all' : List (List Int)), rowM a l cs row all = some (row', all') → all <+: all' ∧ (∀ c, c ∈ cs → stepS a l c ∈ all') ∧ row' = row ++ cs.map fun c => (numS all' (stepS a l c) : Int)
  | [], row, all, row', all', e => by
    unfold rowM at e
    injection e with e
    injection e with e1 e2
    subst e1; subst e2
    exact ⟨List.prefix_refl _, by simp, by simp⟩
  | c :: cs, row, all, row', all', e => by
    by_cases h64 : 64 < (addS all (stepS a l c)).length
    · rw [rowM_many h64] at e; cases e
    · rw [rowM_next (by omega)] at e
      obtain ⟨h1, h2, h3⟩ := rowM_row cs _ _ _ _ e
      have h0 := (addS_pre all (stepS a l c)).trans h1
      refine ⟨h0, fun x hx => ?_, ?_⟩
      · rcases List.mem_cons.1 hx with rfl | hx
        · exact h1.subset (addS_mem _ _)
        · exact h2 x hx
      · rw [h3, List.map_cons, numS_pre h0 (addS_mem _ _) h1]
        simp
theorem numS_grow {all all' : List (List Int)} (h : all <+: all') {l : List Int} (hl : l ∈ all) : numS all l = numS all' l := by
  obtain ⟨t, rfl⟩ := h
  unfold numS
  rw [List.idxOf_append, if_pos hl]
/-- What each row tells. -/
structure RowAt (a : Au) (acc : Int) (cuts : List Int) (all : List (List Int)) (r : List Int) (x : Bool) (l : List Int) : Prop where
  row : r = cuts.map fun c => (numS all (stepS a l c) : Int)
  mem : ∀ c, c ∈ cuts → stepS a l c ∈ all
  acc : x = decide (acc ∈ l)
theorem RowAt.grow {a : Au} {acc : Int} {cuts : List Int} {all all' : List (List Int)} {r : List Int} {x : Bool} {l : List Int} (h : RowAt a acc cuts all r x l) (hp : all <+: all') : RowAt a acc cuts all' r x l :=
  ⟨by rw [h.row]; exact List.map_congr_left fun c hc => by rw [numS_grow hp (h.mem c hc)], fun c hc => hp.subset (h.mem c hc), h.acc⟩
theorem mkM_rows {a : Au} {acc : Int} {cuts : List Int} : ∀ (f : Nat) (all rows : List (List Int)) (accs : List Bool) (rows' : List (List Int)) (accs' : List Bool), mkM a acc cuts f all rows accs = some (rows', accs') →
    rows.length ≤ all.length → accs.length = rows.length → (∀ (i : Nat) r x l, rows[i]? = some r → accs[i]? = some x → all[i]? = some l → RowAt a acc cuts all r x l) →
    ∃ all', all <+: all' ∧ all'.length = rows'.length ∧ accs'.length = rows'.length ∧ ∀ (i : Nat) r x l, rows'[i]? = some r → accs'[i]? = some x → all'[i]? = some l → RowAt a acc cuts all' r x l
  | 0, _, _, _, _, _, e, _, _, _ => by unfold mkM at e; cases e
  | f + 1, all, rows, accs, rows', accs', e, hr, ha, h => by
    cases hx : all[rows.length]? with
    | none =>
      unfold mkM at e
      rw [hx] at e
      injection e with e
      injection e with e1 e2
      subst e1; subst e2
      have hge : all.length ≤ rows.length := by simpa using hx
      exact ⟨all, List.prefix_refl _, by omega, ha, h⟩
    | some l =>
      rw [mkM_row hx] at e
      cases hy : rowM a l cuts [] all with
      | none => rw [hy] at e; cases e
      | some q =>
        obtain ⟨row, all'⟩ := q
        rw [hy] at e
        obtain ⟨h1, h2, h3⟩ := rowM_row _ _ _ _ _ hy
        have hlt := lt_of_get hx
        have hle := h1.length_le
        obtain ⟨all2, g1, g2, g3, g4⟩ := mkM_rows f all' _ _ rows' accs' e (by simp; omega) (by simp [ha]) (fun i r x m hi hj hk => by
          by_cases hil : i < rows.length
          · rw [List.getElem?_append_left hil] at hi
            rw [List.getElem?_append_left (by omega)] at hj
            have hk2 : all[i]? = some m := by
              have e3 : all[i]? = some (all[i]'(by omega)) := List.getElem?_eq_getElem _
              have e4 := pre_get h1 e3
              rw [e4] at hk
              rw [e3]; exact hk
            exact (h i r x m hi hj hk2).grow h1
          · have hlen := lt_of_get hi
            simp at hlen
            obtain rfl : i = rows.length := by omega
            rw [List.getElem?_append_right (by omega)] at hi
            rw [List.getElem?_append_right (by omega), ha] at hj
            simp at hi hj
            have e4 := pre_get h1 hx
            rw [e4] at hk
            obtain rfl := Option.some.inj hk
            subst hi
            exact ⟨by rw [h3]; simp, h2, hj.symm⟩)
        exact ⟨all2, h1.trans g1, g2, g3, g4⟩
/-- THE LANGUAGE of an automaton that was built. -/
theorem Out.to {a : Au} {acc : Int} {D : Dfa} (h : Out a acc D 0) : ∃ all : List (List Int), all.length = D.next.length ∧ (∀ (i : Nat) l, all[i]? = some l → D.accept.getD i false = decide (acc ∈ l)) ∧
    ∀ pts : List Int, (∀ p, p ∈ pts → 0 ≤ p ∧ p ≤ 1114111) → all[D.to 0 pts]? = some (stL a.length (runA a pts)) := by
  have hok := h.ok
  generalize hc : (0 : Int) = code at h
  cases h with
  | bad h => exfalso; cases h <;> omega
  | made h g =>
    rename_i rows accs
    obtain ⟨all, g1, g2, g3, g4⟩ := mkM_rows 70 [firstS a] [] [] rows accs g (by simp) rfl (fun i r x l hi => by simp at hi)
    have hS := allSets_ok h.ok
    obtain ⟨l0, hl0⟩ := plcL_head hS
    have hrise := plcL_rise (allSets a)
    refine ⟨all, g2, fun i l hi => ?_, fun pts => ?_⟩
    · have hlt := lt_of_get hi
      have e1 : rows[i]? = some (rows[i]'(by omega)) := List.getElem?_eq_getElem _
      have e2 : accs[i]? = some (accs[i]'(by omega)) := List.getElem?_eq_getElem _
      rw [getD_of e2]
      exact (g4 i _ _ l e1 e2 hi).acc
    · rw [← List.reverse_reverse pts]
      generalize pts.reverse = qs
      induction qs with
      | nil =>
        intro _
        exact pre_get g1 (by rfl)
      | cons p qs ih =>
        intro hp
        rw [List.reverse_cons] at hp ⊢
        have ih := ih fun x hx => hp x (by simp at hx ⊢; exact .inl hx)
        have hpb := hp p (by simp)
        rw [Dfa.to_snoc, runA_snoc]
        generalize Dfa.to ⟨plcL (allSets a), rows, accs⟩ 0 qs.reverse = s at ih ⊢
        have hs := lt_of_get ih
        have e1 : rows[s]? = some (rows[s]'(by omega)) := List.getElem?_eq_getElem _
        have e2 : accs[s]? = some (accs[s]'(by omega)) := List.getElem?_eq_getElem _
        have hrow := g4 s _ _ _ e1 e2 ih
        obtain ⟨q, k1, k2, k3⟩ := cut_of hrise hl0 hpb.1
        have hstep : Dfa.step ⟨plcL (allSets a), rows, accs⟩ s p = numS all (stepS a (stL a.length (runA a qs.reverse)) q) := by
          unfold Dfa.step
          simp only
          rw [getD_of e1, hrow.row]
          rw [getD_of (x := (numS all (stepS a (stL a.length (runA a qs.reverse)) q) : Int)) (by rw [List.getElem?_map, k1]; rfl)]
          simp
        have hmem := hrow.mem q (mem_of_get k1)
        rw [hstep]
        have hget : all[numS all (stepS a (stL a.length (runA a qs.reverse)) q)]? = some (stepS a (stL a.length (runA a qs.reverse)) q) := by
          unfold numS
          rw [List.getElem?_eq_getElem (List.idxOf_lt_length_of_mem hmem), List.getElem_idxOf]
        rw [hget, ← stepS_cut hpb.2 k2 k3]
        unfold stepS
        rw [of_stL (fun s hs => runA_in h.ok _ s hs)]
theorem Out.lang {a : Au} {acc : Int} {D : Dfa} (h : Out a acc D 0) {pts : List Int} (hp : ∀ p, p ∈ pts → 0 ≤ p ∧ p ≤ 1114111) : D.accept.getD (D.to 0 pts) false = decide (acc ∈ stL a.length (runA a pts)) := by
  obtain ⟨all, _, h2, h3⟩ := h.to
  exact h2 _ _ (h3 pts hp)
end Pv

namespace Pv
open Go Go.RowKit

/-- Numbers of code points. -/
def Pnt (p : Int) : Prop := 0 ≤ p ∧ p ≤ 1114111
def Pnts (l : List Int) : Prop := ∀ p, p ∈ l → Pnt p
theorem Pnts.nil : Pnts [] := fun _ h => by simp at h
theorem Pnts.cons {p : Int} {l : List Int} : Pnts (p :: l) ↔ Pnt p ∧ Pnts l := by
  constructor
  · exact fun h => ⟨h p (by simp), fun q hq => h q (by simp [hq])⟩
  · rintro ⟨h1, h2⟩ q hq
    rcases List.mem_cons.1 hq with rfl | hq
    · exact h1
    · exact h2 q hq
theorem Pnts.app {l m : List Int} : Pnts (l ++ m) ↔ Pnts l ∧ Pnts m := by
  constructor
  · exact fun h => ⟨fun q hq => h q (by simp [hq]), fun q hq => h q (by simp [hq])⟩
  · rintro ⟨h1, h2⟩ q hq
    rcases List.mem_append.1 hq with hq | hq
    · exact h1 q hq
    · exact h2 q hq
/-- The class of a number. -/
def Dfa.cls (d : Dfa) (p : Int) : Nat := lastLe d.cuts p d.cuts.length
theorem Dfa.step_go (d : Dfa) (s : Nat) (p : Int) : d.step s p = d.go s (d.cls p) := rfl
theorem Dfa.to_cons (d : Dfa) (s : Nat) (p : Int) (l : List Int) : d.to s (p :: l) = d.to (d.step s p) l := rfl
theorem Dfa.to_app (d : Dfa) (s : Nat) (l m : List Int) : d.to s (l ++ m) = d.to (d.to s l) m := by simp [Dfa.to]
section
variable {d o : Dfa}
theorem Dfa.Ok.head (h : d.Ok) : ∃ l, d.cuts = 0 :: l := by
  have h0 := h.c0
  cases hc : d.cuts with
  | nil => rw [hc] at h0; simp at h0
  | cons x l => rw [hc] at h0; simp at h0; subst h0; exact ⟨l, rfl⟩
theorem Dfa.Ok.cut_pnt (h : d.Ok) {x : Int} (hx : x ∈ d.cuts) : Pnt x := by
  obtain ⟨i, hi⟩ := List.getElem?_of_mem hx
  cases i with
  | zero => rw [h.c0] at hi; obtain rfl := Option.some.inj hi; exact ⟨by omega, by omega⟩
  | succ i =>
    have hlt := lt_of_get hi
    have e : d.cuts[i]? = some (d.cuts[i]'(by omega)) := List.getElem?_eq_getElem _
    obtain ⟨h1, h2⟩ := h.up i _ _ e hi
    exact ⟨by have := h.strict 0 0 h.c0 (i + 1) x (by omega) hi; omega, h2⟩
theorem Dfa.Ok.cls_lt (h : d.Ok) (p : Int) : d.cls p < d.cuts.length := lastLe_lt _ _ _ h.c1
/-- a number's class: the last cut that is not beyond it -/
theorem Dfa.Ok.cls_cut (h : d.Ok) {p : Int} (hp : 0 ≤ p) : ∃ q, d.cuts[d.cls p]? = some q ∧ q ≤ p ∧ ∀ (j : Nat) x, d.cuts[j]? = some x → x ≤ p → j ≤ d.cls p := by
  obtain ⟨l, hl⟩ := h.head
  have h1 := lastLe_spec (cuts := d.cuts) (n := p) (by rw [hl]; simpa using hp) d.cuts.length h.c1
  have e : d.cuts[d.cls p]? = some (d.cuts[d.cls p]'(h.cls_lt p)) := List.getElem?_eq_getElem _
  refine ⟨_, e, ?_, fun j x hj hx => h1.2 j (lt_of_get hj) (by rw [getD_of hj]; exact hx)⟩
  have := h1.1
  rwa [show lastLe d.cuts p d.cuts.length = d.cls p from rfl, getD_of e] at this
theorem Dfa.Ok.cls_at (h : d.Ok) {c : Nat} {x : Int} (hc : d.cuts[c]? = some x) : d.cls x = c := by
  have hx := h.cut_pnt (mem_of_get hc)
  obtain ⟨q, h1, h2, h3⟩ := h.cls_cut hx.1
  have h4 := h3 c x hc (Int.le_refl _)
  rcases Nat.lt_or_ge c (d.cls x) with h5 | h5
  · have := h.strict c x hc _ q h5 h1; omega
  · omega
theorem Dfa.Ok.step_lt (h : d.Ok) {s : Nat} (hs : s < d.next.length) (p : Int) : d.step s p < d.next.length := by
  obtain ⟨_, _, _, _, _, _, h1⟩ := h.row hs p
  exact h1
/-- Two states, of one or of two, from which words are accepted alike. -/
def Res (d o : Dfa) (s t : Nat) : Prop := ∀ l, Pnts l → d.acc (d.to s l) = o.acc (o.to t l)
theorem Res.refl (s : Nat) : Res d d s s := fun _ _ => rfl
theorem Res.symm {s t : Nat} (h : Res d o s t) : Res o d t s := fun l hl => (h l hl).symm
theorem Res.trans {e : Dfa} {s t u : Nat} (h : Res d o s t) (k : Res o e t u) : Res d e s u := fun l hl => (h l hl).trans (k l hl)
theorem Res.step {s t : Nat} (h : Res d o s t) {p : Int} (hp : Pnt p) : Res d o (d.step s p) (o.step t p) := fun l hl => h (p :: l) (Pnts.cons.2 ⟨hp, hl⟩)
theorem Res.to {s t : Nat} (h : Res d o s t) {l : List Int} (hl : Pnts l) : Res d o (d.to s l) (o.to t l) := fun m hm => by
  have := h (l ++ m) (Pnts.app.2 ⟨hl, hm⟩)
  rwa [Dfa.to_app, Dfa.to_app] at this
theorem Res.acc {s t : Nat} (h : Res d o s t) : d.acc s = o.acc t := h [] Pnts.nil
theorem lks_res (h : d.Ok) {s t : Nat} (hs : s < d.next.length) (ht : t < d.next.length) : Lks d s t ↔ Res d d s t := by
  constructor
  · intro k l
    induction l generalizing s t with
    | nil => exact fun _ => k.acc
    | cons p l ih =>
      intro hl
      rw [Dfa.to_cons, Dfa.to_cons]
      exact ih (h.step_lt hs p) (h.step_lt ht p) (k.go (h.cls_lt p)) (Pnts.cons.1 hl).2
  · intro k n
    induction n generalizing s t with
    | zero => exact k.acc
    | succ n ih =>
      refine ⟨ih hs ht k, fun c hc => ?_⟩
      have e : d.cuts[c]? = some (d.cuts[c]'hc) := List.getElem?_eq_getElem hc
      have hp := h.cut_pnt (mem_of_get e)
      have k2 := k.step hp
      rw [Dfa.step_go, Dfa.step_go, h.cls_at e] at k2
      exact ih (by have := h.step_lt hs (d.cuts[c]'hc); rwa [Dfa.step_go, h.cls_at e] at this) (by have := h.step_lt ht (d.cuts[c]'hc); rwa [Dfa.step_go, h.cls_at e] at this) k2
theorem rep_lt (_h : d.Ok) {s : Nat} (hs : s < d.next.length) : rep d s < d.next.length := Nat.lt_of_le_of_lt (rep_self s) hs
theorem rep_res (h : d.Ok) {s : Nat} (hs : s < d.next.length) : Res d d (rep d s) s := (lks_res h (rep_lt h hs) hs).1 (rep_alike s)
theorem rep_eq_iff (h : d.Ok) {s t : Nat} (hs : s < d.next.length) (ht : t < d.next.length) : rep d s = rep d t ↔ Res d d s t := rep_iff.trans (lks_res h hs ht)
end
end Pv

namespace Pv
open Go Go.RowKit

section
variable {d o : Dfa}
/-- States met of two, side by side. -/
structure Par (d o : Dfa) (met nem : List Nat) : Prop where
  len : met.length = nem.length
  res : ∀ (i : Nat) m n, met[i]? = some m → nem[i]? = some n → Res d o m n
theorem Par.symm {met nem : List Nat} (h : Par d o met nem) : Par o d nem met := ⟨h.len.symm, fun i m n hm hn => (h.res i n m hn hm).symm⟩
theorem Par.mem (hd : d.Ok) (ho : o.Ok) {met nem : List Nat} (h : Par d o met nem) (_h1 : MetOk d met) (h2 : MetOk o nem) {s t : Nat} (hs : s < d.next.length) (ht : t < o.next.length) (hr : Res d o s t) {i : Nat} (hi : met[i]? = some (rep d s)) : nem[i]? = some (rep o t) := by
  have hlt := lt_of_get hi
  have e : nem[i]? = some (nem[i]'(by have := h.len; omega)) := List.getElem?_eq_getElem _
  have hm := mem_of_get e
  have k := h.res i _ _ hi e
  have k2 : Res o o (nem[i]'(by have := h.len; omega)) t := k.symm.trans ((rep_res hd hs).trans hr)
  rw [e, ← h2.self _ hm, (rep_eq_iff ho (h2.lt _ hm) ht).2 k2]
theorem Par.add (hd : d.Ok) (ho : o.Ok) {met nem : List Nat} (h : Par d o met nem) (h1 : MetOk d met) (h2 : MetOk o nem) {s t : Nat} (hs : s < d.next.length) (ht : t < o.next.length) (hr : Res d o s t) : Par d o (addN met (rep d s)) (addN nem (rep o t)) := by
  by_cases hm : rep d s ∈ met
  · obtain ⟨i, hi⟩ := List.getElem?_of_mem hm
    rw [addN_in hm, addN_in (mem_of_get (h.mem hd ho h1 h2 hs ht hr hi))]
    exact h
  · have hn : rep o t ∉ nem := fun hn => by
      obtain ⟨i, hi⟩ := List.getElem?_of_mem hn
      exact hm (mem_of_get (h.symm.mem ho hd h2 h1 ht hs hr.symm hi))
    rw [addN_new hm, addN_new hn]
    refine ⟨by simp [h.len], fun i m n hi hj => ?_⟩
    by_cases hil : i < met.length
    · rw [List.getElem?_append_left hil] at hi
      rw [List.getElem?_append_left (by have := h.len; omega)] at hj
      exact h.res i m n hi hj
    · have := lt_of_get hi
      simp at this
      obtain rfl : i = met.length := by omega
      rw [List.getElem?_append_right (by omega)] at hi
      rw [List.getElem?_append_right (by have := h.len; omega)] at hj
      simp [h.len] at hi hj
      subst hi; subst hj
      exact (rep_res hd hs).trans (hr.trans (rep_res ho ht).symm)
end
end Pv

namespace Pv
open Go Go.RowKit

section
variable {d o : Dfa}
end
end Pv

namespace Pv
open Go Go.RowKit

section
variable {d o : Dfa} {ps : List Int}
def Ov (ps l : List Int) : Prop := ∀ p, p ∈ l → p ∈ ps
/-- Pairs met, those ahead of i gone through. -/
structure BF (d o : Dfa) (ps : List Int) (i : Nat) (l : List Pr) : Prop where
  word : ∀ x, x ∈ l → Ov ps x.w ∧ x.a = d.to 0 x.w ∧ x.b = o.to 0 x.w
  sort : ∀ (j k : Nat) x y, l[j]? = some x → l[k]? = some y → j ≤ k → x.w.length ≤ y.w.length
  near : ∀ x y, l[i]? = some x → y ∈ l → y.w.length ≤ x.w.length + 1
  next : ∀ (j : Nat) x, j < i → l[j]? = some x → ∀ p, p ∈ ps → ∃ y, y ∈ l ∧ y.a = d.step x.a p ∧ y.b = o.step x.b p ∧ y.w.length ≤ x.w.length + 1
  agree : ∀ (j : Nat) x, j < i → l[j]? = some x → d.acc x.a = o.acc x.b
  root : l[0]? = some ⟨0, 0, []⟩
structure BM (d o : Dfa) (ps : List Int) (x : Pr) (l0 : List Pr) (qs : List Int) (l : List Pr) : Prop where
  pre : l0 <+: l
  word : ∀ x, x ∈ l → Ov ps x.w ∧ x.a = d.to 0 x.w ∧ x.b = o.to 0 x.w
  sort : ∀ (j k : Nat) x y, l[j]? = some x → l[k]? = some y → j ≤ k → x.w.length ≤ y.w.length
  bound : ∀ y, y ∈ l → y.w.length ≤ x.w.length + 1
  done : ∀ p, p ∈ qs → ∃ y, y ∈ l ∧ y.a = d.step x.a p ∧ y.b = o.step x.b p
theorem BM.add {x : Pr} {l0 l : List Pr} {qs : List Int} {p : Int} (h : BM d o ps x l0 qs l) (hx : Ov ps x.w ∧ x.a = d.to 0 x.w ∧ x.b = o.to 0 x.w) (hp : p ∈ ps) : BM d o ps x l0 (qs ++ [p]) (addP l (nxtPr d o x p)) := by
  have hpre := addP_pre l (nxtPr d o x p)
  have hdone : ∀ q, q ∈ qs ++ [p] → (∃ y, y ∈ addP l (nxtPr d o x p) ∧ y.a = d.step x.a p ∧ y.b = o.step x.b p) → ∃ y, y ∈ addP l (nxtPr d o x p) ∧ y.a = d.step x.a q ∧ y.b = o.step x.b q := fun q hq hpp => by
    rcases List.mem_append.1 hq with hq | hq
    · obtain ⟨y, h1, h2⟩ := h.done q hq
      exact ⟨y, hpre.subset h1, h2⟩
    · simp at hq; subst hq; exact hpp
  by_cases hk : knownP l (nxtPr d o x p).a (nxtPr d o x p).b
  · rw [addP_in hk] at hdone ⊢
    obtain ⟨y, h1, h2, h3⟩ := hk
    exact ⟨h.pre, h.word, h.sort, h.bound, fun q hq => hdone q hq ⟨y, h1, h2, h3⟩⟩
  · rw [addP_new hk] at hdone ⊢
    have hlen : (nxtPr d o x p).w.length = x.w.length + 1 := by simp [nxtPr]
    refine ⟨h.pre.trans (List.prefix_append _ _), fun y hy => ?_, fun j k y z hj hk' hjk => ?_, fun y hy => ?_, fun q hq => hdone q hq ⟨nxtPr d o x p, by simp, rfl, rfl⟩⟩
    · rcases List.mem_append.1 hy with hy | hy
      · exact h.word y hy
      · simp at hy
        subst hy
        refine ⟨fun q hq => ?_, ?_, ?_⟩
        · rcases List.mem_append.1 (show q ∈ x.w ++ [p] from hq) with hq | hq
          · exact hx.1 q hq
          · simp at hq; subst hq; exact hp
        · show d.step x.a p = d.to 0 (x.w ++ [p])
          rw [Dfa.to_snoc, hx.2.1]
        · show o.step x.b p = o.to 0 (x.w ++ [p])
          rw [Dfa.to_snoc, hx.2.2]
    · by_cases hkl : k < l.length
      · rw [List.getElem?_append_left hkl] at hk'
        rw [List.getElem?_append_left (by omega)] at hj
        exact h.sort j k y z hj hk' hjk
      · have h1 := lt_of_get hk'
        simp at h1
        obtain rfl : k = l.length := by omega
        rw [List.getElem?_append_right (by omega)] at hk'
        simp at hk'
        subst hk'
        rw [hlen]
        by_cases hjl : j < l.length
        · rw [List.getElem?_append_left hjl] at hj
          exact h.bound y (mem_of_get hj)
        · obtain rfl : j = l.length := by omega
          rw [List.getElem?_append_right (by omega)] at hj
          simp at hj
          subst hj
          omega
    · rcases List.mem_append.1 hy with hy | hy
      · exact h.bound y hy
      · simp at hy; subst hy; omega
theorem BM.row {x : Pr} {l0 : List Pr} (hx : Ov ps x.w ∧ x.a = d.to 0 x.w ∧ x.b = o.to 0 x.w) : ∀ (rs qs : List Int) (l : List Pr), BM d o ps x l0 qs l → (∀ p, p ∈ rs → p ∈ ps) → BM d o ps x l0 (qs ++ rs) (rowP d o x l rs)
  | [], qs, l, h, _ => by simpa [rowP] using h
  | p :: rs, qs, l, h, hr => by
    have h1 := BM.row hx rs (qs ++ [p]) _ (h.add hx (hr p (by simp))) fun q hq => hr q (by simp [hq])
    rw [List.append_assoc] at h1
    exact h1
theorem BF.row {i : Nat} {l : List Pr} (h : BF d o ps i l) {x : Pr} (hi : l[i]? = some x) (ha : d.acc x.a = o.acc x.b) : BF d o ps (i + 1) (rowP d o x l ps) := by
  have hx := h.word x (mem_of_get hi)
  have hm := BM.row hx ps [] l ⟨List.prefix_refl _, h.word, h.sort, fun y hy => h.near x y hi hy, fun p hp => by simp at hp⟩ fun p hp => hp
  rw [List.nil_append] at hm
  have hold : ∀ {j : Nat} {y : Pr}, j < i + 1 → (rowP d o x l ps)[j]? = some y → l[j]? = some y := fun {j y} hj hy => by
    have hlt := lt_of_get hi
    have e : l[j]? = some (l[j]'(by omega)) := List.getElem?_eq_getElem _
    rw [pre_get hm.pre e] at hy
    rw [e]; exact hy
  refine ⟨hm.word, hm.sort, fun y z hy hz => ?_, fun j y hj hy p hp => ?_, fun j y hj hy => ?_, pre_get hm.pre h.root⟩
  · have h1 := hm.sort i (i + 1) x y (pre_get hm.pre hi) hy (by omega)
    have h2 := hm.bound z hz
    omega
  · have hy' := hold hj hy
    by_cases e : j = i
    · subst e
      rw [hi] at hy'
      obtain rfl := Option.some.inj hy'
      obtain ⟨z, h1, h2, h3⟩ := hm.done p hp
      exact ⟨z, h1, h2, h3, hm.bound z h1⟩
    · obtain ⟨z, h1, h2⟩ := h.next j y (by omega) hy' p hp
      exact ⟨z, hm.pre.subset h1, h2⟩
  · have hy' := hold hj hy
    by_cases e : j = i
    · subst e
      rw [hi] at hy'
      obtain rfl := Option.some.inj hy'
      exact ha
    · exact h.agree j y (by omega) hy'
/-- Each word that is short enough is met. -/
theorem BF.reach {i : Nat} {l : List Pr} (h : BF d o ps i l) (qs : List Int) : Ov ps qs.reverse → (∀ x, l[i]? = some x → qs.length ≤ x.w.length) → ∃ (j : Nat) (y : Pr), l[j]? = some y ∧ y.a = d.to 0 qs.reverse ∧ y.b = o.to 0 qs.reverse ∧ y.w.length ≤ qs.length := by
  induction qs with
  | nil => intro _ _; exact ⟨0, _, h.root, rfl, rfl, Nat.le_refl _⟩
  | cons p qs ih =>
    intro hp hL
    rw [List.reverse_cons] at hp ⊢
    obtain ⟨j, y, h1, h2, h3, h4⟩ := ih (fun q hq => hp q (by simp at hq ⊢; exact .inl hq)) fun x hx => by have := hL x hx; simp at this; omega
    have hji : j < i := by
      rcases Nat.lt_or_ge j i with h5 | h5
      · exact h5
      · exfalso
        cases e : l[i]? with
        | none => have := lt_of_get h1; have : l.length ≤ i := by simpa using e
                  omega
        | some x =>
          have h6 := h.sort i j x y e h1 h5
          have h7 := hL x e
          simp at h7
          omega
    obtain ⟨z, k1, k2, k3, k4⟩ := h.next j y hji h1 p (hp p (by simp))
    obtain ⟨k, hk⟩ := List.getElem?_of_mem k1
    exact ⟨k, z, hk, by rw [k2, h2, Dfa.to_snoc], by rw [k3, h3, Dfa.to_snoc], by simp; omega⟩
/-- Shorter words agree. -/
theorem BF.short {i : Nat} {l : List Pr} (h : BF d o ps i l) {u : List Int} (hu : Ov ps u) (hL : ∀ x, l[i]? = some x → u.length < x.w.length) : d.acc (d.to 0 u) = o.acc (o.to 0 u) := by
  obtain ⟨j, y, h1, h2, h3, h4⟩ := h.reach u.reverse (by rw [List.reverse_reverse]; exact hu) fun x hx => by have := hL x hx; simp; omega
  rw [List.reverse_reverse] at h2 h3
  have hji : j < i := by
    rcases Nat.lt_or_ge j i with h5 | h5
    · exact h5
    · exfalso
      cases e : l[i]? with
      | none => have := lt_of_get h1; have : l.length ≤ i := by simpa using e
                omega
      | some x =>
        have h6 := h.sort i j x y e h1 h5
        have h7 := hL x e
        simp at h4
        omega
  rw [← h2, ← h3]
  exact h.agree j y hji h1
theorem BF.one (d o : Dfa) (ps : List Int) : BF d o ps 0 [⟨0, 0, []⟩] := by
  refine ⟨fun x hx => ?_, fun j k x y hj hk hjk => ?_, fun x y hx hy => ?_, fun j x hj => by omega, fun j x hj => by omega, rfl⟩
  · simp at hx; subst hx; exact ⟨fun p hp => by simp at hp, rfl, rfl⟩
  · have := lt_of_get hj; have := lt_of_get hk
    simp at *
    obtain rfl : j = 0 := by omega
    obtain rfl : k = 0 := by omega
    simp at hj hk
    subst hj; subst hk
    exact Nat.le_refl _
  · simp at hy; subst hy; simp
end
end Pv

namespace Pv
open Go Go.RowKit

/-- Where a run comes to; none: not reckoned through. -/
def runFC (a : Au) : List Int → List Int → Option (List Int)
  | l, [] => some l
  | l, p :: ps => match stepC a l p with
    | none => none
    | some m => runFC a m ps
def runC (a : Au) (pts : List Int) : Option (List Int) := if toOk a then (match shutL a [0] with
  | none => none
  | some l => runFC a l pts) else none
theorem shutL_nn {a : Au} {l : List Nat} {r : List Int} (h : shutL a l = some r) : ∀ s, s ∈ r → 0 ≤ s := by
  unfold shutL at h
  split at h
  · obtain rfl := Option.some.inj h
    exact lstC_nn
  · cases h
theorem runFC_is {a : Au} {acc : Int} (hok : AuOk a acc) (h : toOk a = true) : ∀ (pts pre l r : List Int), stL a.length (runA a pre) = l → (∀ s, s ∈ l → 0 ≤ s) → runFC a l pts = some r → stL a.length (runA a (pre ++ pts)) = r
  | [], pre, l, r, hl, _, hr => by
    obtain rfl := Option.some.inj hr
    rw [List.append_nil]; exact hl
  | p :: pts, pre, l, r, hl, hn, hr => by
    unfold runFC at hr
    cases hm : stepC a l p with
    | none => rw [hm] at hr; cases hr
    | some m =>
      rw [hm] at hr
      have h1 := stepC_is h hn hm
      have h2 : stL a.length (runA a (pre ++ [p])) = m := by
        rw [runA_snoc, ← h1, ← hl]
        unfold stepS
        rw [of_stL (fun s hs => runA_in hok _ s hs)]
      have h3 := runFC_is hok h pts (pre ++ [p]) m r h2 (shutL_nn hm) hr
      rwa [List.append_assoc] at h3
theorem runC_is {a : Au} {acc : Int} (hok : AuOk a acc) {pts r : List Int} (h : runC a pts = some r) : stL a.length (runA a pts) = r := by
  unfold runC at h
  split at h
  · rename_i ht
    cases hl : shutL a [0] with
    | none => rw [hl] at h; cases h
    | some l =>
      rw [hl] at h
      exact runFC_is hok ht pts [] l r (shutL_is ht (fun s => by simp) hl) (shutL_nn hl) h
  · cases h

end Pv

namespace Pv
open Go Go.RowKit

def setC (l : List Rng) : Bool := decide (l.length ≤ 256) && (l.all fun x => decide (0 ≤ x.lo) && decide (x.lo ≤ x.hi) && decide (x.hi ≤ 1114111)) &&
  ((List.range l.length).all fun i => match l[i]?, l[i + 1]? with | some x, some y => decide (x.hi + 2 ≤ y.lo) | _, _ => true)
theorem setC_is {l : List Rng} (h : setC l = true) : SetOk l := by
  unfold setC at h
  simp only [Bool.and_eq_true, decide_eq_true_eq, List.all_eq_true, List.mem_range] at h
  obtain ⟨⟨h1, h2⟩, h3⟩ := h
  refine ⟨h1, fun i x hx => ?_, fun i x y hx hy => ?_⟩
  · have := h2 x (mem_of_get hx)
    exact ⟨this.1.1, this.1.2, this.2⟩
  · have := h3 i (lt_of_get hx)
    rw [hx, hy] at this
    simpa using this
def oneXC (x : Rx) : Bool :=
  (decide (x.kind = 0) && decide (x.set = []) && decide (x.many = 0) && decide (x.least = 0) && decide (x.most = 0)) ||
  (decide (x.kind = 1) && setC x.set && decide (x.many = 0) && decide (x.least = 0) && decide (x.most = 0)) ||
  ((decide (x.kind = 2) || decide (x.kind = 3)) && decide (x.set = []) && decide (2 ≤ x.many) && decide (x.least = 0) && decide (x.most = 0)) ||
  (decide (x.kind = 4) && decide (x.set = []) && decide (x.many = 1) && decide (0 ≤ x.least) && decide (x.least ≤ 16) && (decide (x.most = -1) || (decide (x.least ≤ x.most) && decide (x.most ≤ 16))))
theorem oneXC_is {x : Rx} (h : oneXC x = true) : x.One := by
  unfold oneXC at h
  simp only [Bool.or_eq_true, Bool.and_eq_true, decide_eq_true_eq] at h
  unfold Rx.One
  rcases h with ((h | h) | h) | h
  · left; simp_all
  · right; left
    obtain ⟨⟨⟨⟨a, b⟩, c⟩, d⟩, e⟩ := h
    have := setC_is b
    simp_all
  · right; right; left; simp_all
  · right; right; right
    obtain ⟨⟨⟨⟨⟨a, b⟩, c⟩, d⟩, e⟩, f⟩ := h
    simp_all
def okTr : Nat → Tr → Bool
  | 0, .mk x ks => oneXC x && decide (x.many = 0) && ks.isEmpty
  | d + 1, .mk x ks => oneXC x && decide ((ks.length : Int) = x.many) && ks.all fun k => okTr d k
theorem okTr_is : ∀ {d : Nat} {T : Tr}, okTr d T = true → T.Ok d
  | 0, .mk x ks, h => by
    unfold okTr at h
    simp only [Bool.and_eq_true, decide_eq_true_eq, List.isEmpty_iff] at h
    exact ⟨oneXC_is h.1.1, h.1.2, h.2⟩
  | d + 1, .mk x ks, h => by
    unfold okTr at h
    simp only [Bool.and_eq_true, decide_eq_true_eq, List.all_eq_true] at h
    exact ⟨oneXC_is h.1.1, h.1.2, fun k hk => okTr_is (h.2 k hk)⟩
/-- A tree that is known. -/
structure Known (T : Tr) : Prop where
  ok : T.Ok 16
  size : T.size ≤ 64
  few : 1 + statesT T ≤ 256
def knownT (T : Tr) : Bool := okTr 16 T && decide (T.flat.length ≤ 64) && decide (1 + statesT T ≤ 256)
theorem knownT_is {T : Tr} (h : knownT T = true) : Known T := by
  unfold knownT at h
  simp only [Bool.and_eq_true, decide_eq_true_eq] at h
  exact ⟨okTr_is h.1.1, h.1.2, h.2⟩
theorem Known.pat {T : Tr} (h : Known T) : Pat T.flat := Pat.of_tree h.ok h.size
theorem Known.in {T : Tr} (h : Known T) {pts m : List Int} {r : Bool × Int} (hl : pts.length ≤ 1024) (hm : runC (leadT T [[]] 0).1 pts = some m) (hr : BIn T.flat pts r) : r = (m.contains ((leadT T [[]] 0).2 : Int), 0) := by
  rcases hr with ⟨hn, _⟩ | ⟨_, h2, _⟩ | ⟨_, _, S, hS, eS, rfl⟩
  · exact absurd h.pat hn
  · omega
  obtain rfl := flat_inj h.ok hS eS
  have hok := lead_ok h.ok h.few
  have e := runC_is hok hm
  have h3 : yes (spT pts T 0 pts.length) = m.contains ((leadT T [[]] 0).2 : Int) := by
    have h4 : spT pts T 0 pts.length ↔ ((leadT T [[]] 0).2 : Int) ∈ m := by
      rw [← lead_lang h.ok pts, ← e]
      exact stL_of (by have := hok.acc1; omega) |>.symm
    by_cases h5 : spT pts T 0 pts.length
    · rw [yes_t h5]; simpa using h4.1 h5
    · rw [yes_f h5]
      have : ((leadT T [[]] 0).2 : Int) ∉ m := fun h6 => h5 (h4.2 h6)
      simpa using this
  rw [h3]
end Pv
