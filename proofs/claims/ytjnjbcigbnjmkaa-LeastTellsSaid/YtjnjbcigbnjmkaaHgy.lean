/- Walks: the law LeastTells: twins in boxes that are drawn to come before or after. PUT1 -/
import Derived.Test.YtjnjbcigbnjmkaaHfy
import Derived.Test.YtjnjbcigbnjmkaaQvy
import Derived.Test.YtjnjbcigbnjmkaaHey
import Derived.Test.YtjnjbcigbnjmkaaHay
import Derived.Test.YtjnjbcigbnjmkaaWfy
import Derived.Test.YtjnjbcigbnjmkaaWgy
namespace Pv
open Go Go.RowKit
/-- What follows a region of many orders, once: G is told by the first order that ends. -/
theorem split_rest {G F : Nat → Nat → Option Addr → Nat → Nat → Option Addr → Nat → Nat → Option Addr → Nat → Nat → Option Addr → Nat → Nat → Option Addr → Nat → Nat → Option Addr → Nat → Nat → World → Prop} {C : Prop}
    (main : (∀ X Y a1 a2 a3 b1 b2 b3 c1 c2 c3 d1 d2 d3 e1 e2 e3 f1 f2 f3 W, F X Y a1 a2 a3 b1 b2 b3 c1 c2 c3 d1 d2 d3 e1 e2 e3 f1 f2 f3 W → G X Y a1 a2 a3 b1 b2 b3 c1 c2 c3 d1 d2 d3 e1 e2 e3 f1 f2 f3 W) → C)
    (rest : ∀ X Y a1 a2 a3 b1 b2 b3 c1 c2 c3 d1 d2 d3 e1 e2 e3 f1 f2 f3 W, F X Y a1 a2 a3 b1 b2 b3 c1 c2 c3 d1 d2 d3 e1 e2 e3 f1 f2 f3 W → G X Y a1 a2 a3 b1 b2 b3 c1 c2 c3 d1 d2 d3 e1 e2 e3 f1 f2 f3 W) : C := main rest
section
variable {P : Program} {md : Region.Mode} {ops : Array Oper} {Q : Exit → Act → World → Prop} {S : World → Prop} {n : Nat}
/-- any of three may come up -/
theorem wpAnyT_three {i j k : Nat} {oi oj ok : Oper} {fuel : Nat} {listed : Array Bool} {a : Act} {w : World} (hi : ops[i]? = some oi) (hj : ops[j]? = some oj) (hk : ops[k]? = some ok) (hr : Region.ready md ops listed = [i, j, k]) (hw : Region.wanted oi (yielded ops a.tmps) = true) (hw' : Region.wanted oj (yielded ops a.tmps) = true) (hw2 : Region.wanted ok (yielded ops a.tmps) = true)
    (h : ∀ K : Act → World → Prop, (∀ a' w', S w' → wpAnyT P md ops Q S n fuel (listed.setIfInBounds i true) a' w' → K a' w') → Oper.wp P oi a w K Q)
    (h' : ∀ K : Act → World → Prop, (∀ a' w', S w' → wpAnyT P md ops Q S n fuel (listed.setIfInBounds j true) a' w' → K a' w') → Oper.wp P oj a w K Q)
    (h2 : ∀ K : Act → World → Prop, (∀ a' w', S w' → wpAnyT P md ops Q S n fuel (listed.setIfInBounds k true) a' w' → K a' w') → Oper.wp P ok a w K Q) : wpAnyT P md ops Q S n (fuel + 1) listed a w :=
  ⟨(fun h0 => by rw [hr] at h0; cases h0), fun q hq => by
    rw [hr] at hq
    simp only [List.mem_cons, List.not_mem_nil, or_false] at hq
    unfold wpOp
    rcases hq with rfl | rfl | rfl
    · simp only [hi, hw, if_true]
      exact .inl (h _ fun _ _ h1 h2 => ⟨fun _ => h1, h2⟩)
    · simp only [hj, hw', if_true]
      exact .inl (h' _ fun _ _ h1 h2 => ⟨fun _ => h1, h2⟩)
    · simp only [hk, hw2, if_true]
      exact .inl (h2 _ fun _ _ h1 h2 => ⟨fun _ => h1, h2⟩)⟩
end
end Pv
namespace Go.Proofs.Ytjnjbcigbnjmkaa
open Go.RowKit Pv

/-- Behind the twins: the arguments' boxes, the twins' boxes, the twins. -/
structure TwF (w : World) (av bv : Array Value) (d o : Dfa) (X Y : Nat) (a1 : Option Addr) (a2 a3 : Nat) (b1 : Option Addr) (b2 b3 : Nat) (c1 : Option Addr) (c2 c3 : Nat) (d1 : Option Addr) (d2 d3 : Nat) (e1 : Option Addr) (e2 e3 : Nat) (f1 : Option Addr) (f2 f3 : Nat) (W : World) : Prop where
  t : Two w W av bv
  x : Blk W X TDfa #[.slice a1 a2 a3, .slice b1 b2 b3, .slice c1 c2 c3]
  y : Blk W Y TDfa #[.slice d1 d2 d3, .slice e1 e2 e3, .slice f1 f2 f3]
  xw : w.heap.size + 1 < X
  yw : w.heap.size + 1 < Y
  xy : X ≠ Y
  a : TwO W w.heap.size (.slice a1 a2 a3) (.slice b1 b2 b3) (.slice c1 c2 c3) d
  b : TwO W w.heap.size (.slice d1 d2 d3) (.slice e1 e2 e3) (.slice f1 f2 f3) o
theorem TwO.lower {w : World} {b b' : Nat} {v1 v2 v3 : Value} {d : Dfa} (h : TwO w b v1 v2 v3 d) (hb : b' ≤ b) : TwO w b' v1 v2 v3 d :=
  ⟨Own.lower h.c hb, (Own.lower h.n hb).monoR fun _ _ h => ⟨Own.lower h.1 hb, h.2⟩, Own.lower h.a hb⟩
theorem Two.farX {w W : World} {a b : Array Value} {g i : Nat} {u : Value} (h : Two w W a b) (h1 : w.heap.size + 1 < g) : Two w (W.setCell ⟨g, i, none⟩ u) a b :=
  ⟨h.a.far (p := ⟨g, i, none⟩) (by simp; omega) u, h.b.far (p := ⟨g, i, none⟩) (by simp; omega) u, h.be.setCell (p := ⟨g, i, none⟩) (by simp; omega) u⟩
section
variable {w W W' : World} {av bv : Array Value} {d o : Dfa} {X Y : Nat} {a1 b1 c1 d1 e1 f1 : Option Addr} {a2 a3 b2 b3 c2 c3 d2 d3 e2 e3 f2 f3 : Nat}
theorem TwF.next (h : TwF w av bv d o X Y a1 a2 a3 b1 b2 b3 c1 c2 c3 d1 d2 d3 e1 e2 e3 f1 f2 f3 W) (hb : Below W.heap.size W W') : TwF w av bv d o X Y a1 a2 a3 b1 b2 b3 c1 c2 c3 d1 d2 d3 e1 e2 e3 f1 f2 f3 W' :=
  ⟨h.t.next hb, h.x.below hb h.x.lt, h.y.below hb h.y.lt, h.xw, h.yw, h.xy, h.a.below hb, h.b.below hb⟩
end
/-- What comes of Least. -/
noncomputable def lsD (d : Dfa) : Dfa := if yes d.Ok = true then leastD d else ⟨[], [], []⟩
noncomputable def lsE (d : Dfa) : Int := if yes d.Ok = true then 0 else 8
theorem LeastR.opens {d : Dfa} {w w' : World} {e : Ending} (h : LeastR d w e w') : ∃ A1 k1 c1 A2 k2 c2 A3 k3 c3, e = .returned (.tuple #[.agg #[.slice A1 k1 c1, .slice A2 k2 c2, .slice A3 k3 c3], .int .i64 (lsE d)]) ∧
    Res w' w.heap.size (.slice A1 k1 c1) (.slice A2 k2 c2) (.slice A3 k3 c3) (lsD d).cuts (lsD d).next (lsD d).accept ∧ Below w.heap.size w w' := by
  obtain ⟨h1, hb⟩ := h
  rcases h1 with ⟨hn, rfl⟩ | ⟨hk, v1, v2, v3, rfl, hr⟩
  · have e1 : lsE d = 8 := by unfold lsE; rw [if_neg (by rw [yes_f hn]; simp)]
    have e2 : lsD d = ⟨[], [], []⟩ := by unfold lsD; rw [if_neg (by rw [yes_f hn]; simp)]
    rw [e1, e2]
    exact ⟨none, 0, 0, none, 0, 0, none, 0, 0, rfl, ⟨OwnI.nil _ _, Ls.nil _ _ _, Own.nil⟩, hb⟩
  · have e1 : lsE d = 0 := by unfold lsE; rw [if_pos (yes_t hk)]
    have e2 : lsD d = leastD d := by unfold lsD; rw [if_pos (yes_t hk)]
    rw [e1, e2]
    obtain ⟨A1, c1, ev1, _⟩ := hr.c
    obtain ⟨A2, c2, _, ev2, _, _⟩ := hr.r
    obtain ⟨A3, c3, _, ev3, _, _⟩ := hr.t
    subst ev1; subst ev2; subst ev3
    exact ⟨A1, _, c1, A2, _, c2, A3, _, c3, rfl, hr, hb⟩
theorem TwO.at' {w : World} {base : Nat} {x1 x4 x7 : Option Addr} {x2 x3 x5 x6 x8 x9 : Nat} {d : Dfa} (h : TwO w base (.slice x1 x2 x3) (.slice x4 x5 x6) (.slice x7 x8 x9) d) (h1 : d.cuts.length ≤ 1000000) (h2 : d.next.length ≤ 1000000) (h3 : d.accept.length ≤ 1000000) : DfaAt w x1 x4 x7 x2 x5 x8 d := by
  obtain ⟨A1, A2, A3, n1, n2, n3, c1, c2, c3, e1, e2, e3, hd⟩ := (h.is h1 h2 h3).opens
  injection e1 with f1 f2 f3; injection e2 with f4 f5 f6; injection e3 with f7 f8 f9
  subst f1; subst f2; subst f3; subst f4; subst f5; subst f6; subst f7; subst f8; subst f9
  exact hd
theorem lsD_cuts {d : Dfa} {x : Int} (h : x ∈ (lsD d).cuts) : d.Ok ∧ x ∈ (leastD d).cuts := by
  unfold lsD at h
  by_cases hk : d.Ok
  · rw [if_pos (yes_t hk)] at h; exact ⟨hk, h⟩
  · rw [if_neg (by rw [yes_f hk]; simp)] at h; simp at h
theorem leastD_bd {d : Dfa} (h : d.Ok) : (∀ x, x ∈ (leastD d).cuts → 0 ≤ x ∧ x ≤ 1114111) ∧ (leastD d).cuts.length ≤ 256 ∧ (leastD d).next.length ≤ 64 ∧ (leastD d).accept.length ≤ 64 ∧ ∀ r, r ∈ (leastD d).next → r.length ≤ 256 ∧ ∀ y, y ∈ r → 0 ≤ y ∧ y ≤ 64 := by
  have hm := (metL_ok h).len
  have hcl : (clsN d (metL d) d.cuts.length).length ≤ d.cuts.length := by
    unfold clsN
    have := List.length_filter_le (fun c => yes (TurnsC d (metL d) c)) (List.range d.cuts.length)
    simpa using this
  refine ⟨fun x hx => ?_, by show (List.map _ _).length ≤ _; rw [List.length_map]; have := h.c2; omega, by show (List.map _ _).length ≤ _; rw [List.length_map]; have := h.n2; omega, by show (List.map _ _).length ≤ _; rw [List.length_map]; have := h.n2; omega, fun r hr => ?_⟩
  · obtain ⟨c, hc, rfl⟩ := List.mem_map.1 hx
    have hc2 := clsN_lt hc
    refine h.bd ?_
    rw [List.getD_eq_getElem?_getD, List.getElem?_eq_getElem hc2]
    exact List.getElem_mem hc2
  · obtain ⟨s, _, rfl⟩ := List.mem_map.1 hr
    refine ⟨by unfold rowN; rw [List.length_map]; have := h.c2; omega, fun y hy => ?_⟩
    obtain ⟨c, _, rfl⟩ := List.mem_map.1 hy
    have := List.idxOf_le_length (a := rep d (d.go s c)) (l := metL d)
    have := h.n2
    omega
theorem lsD_bd (d : Dfa) : (∀ x, x ∈ (lsD d).cuts → 0 ≤ x ∧ x ≤ 1114111) ∧ (lsD d).cuts.length ≤ 256 ∧ (lsD d).next.length ≤ 64 ∧ (lsD d).accept.length ≤ 64 ∧ ∀ r, r ∈ (lsD d).next → r.length ≤ 256 ∧ ∀ y, y ∈ r → 0 ≤ y ∧ y ≤ 64 := by
  unfold lsD
  by_cases hk : d.Ok
  · rw [if_pos (yes_t hk)]; exact leastD_bd hk
  · rw [if_neg (by rw [yes_f hk]; simp)]; simp
/-- A result read. -/
theorem Res.at' {w : World} {b : Nat} {A1 A2 A3 : Option Addr} {k1 c1 k2 c2 k3 c3 : Nat} {d : Dfa} (h : Res w b (.slice A1 k1 c1) (.slice A2 k2 c2) (.slice A3 k3 c3) (lsD d).cuts (lsD d).next (lsD d).accept) : DfaAt w A1 A2 A3 k1 k2 k3 (lsD d) := by
  obtain ⟨b1, b2, b3, b4, b5⟩ := lsD_bd d
  obtain ⟨E1, f1, e1, hc, _⟩ := h.c.at' (fun x hx => by have := b1 x hx; omega) (by omega)
  obtain ⟨E2, f2, e2, hn, _⟩ := h.r.lists (fun l hl => ⟨fun y hy => by have := (b5 l hl).2 y hy; omega, by have := (b5 l hl).1; omega⟩) (by omega)
  obtain ⟨E3, f3, e3, ha, _⟩ := h.t.sl (by omega)
  injection e1 with g1 g2 g3; injection e2 with g4 g5 g6; injection e3 with g7 g8 g9
  subst g1; subst g4; subst g7
  exact ⟨hc, hn, ha, Lib.hid g2.symm, Lib.hid g5.symm, Lib.hid g8.symm⟩
theorem rowP_mem {d o : Dfa} {x : Pr} {ps : List Int} (hx : ∀ y, y ∈ x.w → y ∈ ps) : ∀ (qs : List Int), (∀ q, q ∈ qs → q ∈ ps) → ∀ (l : List Pr), (∀ p, p ∈ l → ∀ y, y ∈ p.w → y ∈ ps) → ∀ p, p ∈ rowP d o x l qs → ∀ y, y ∈ p.w → y ∈ ps
  | [], _, _, h => h
  | q :: qs, hq, l, h => by
    refine rowP_mem hx qs (fun z hz => hq z (by simp [hz])) (addP l (nextP d o x q)) fun p hp y hy => ?_
    unfold addP at hp
    split at hp
    · exact h p hp y hy
    · rcases List.mem_append.1 hp with hp | hp
      · exact h p hp y hy
      · simp at hp
        subst hp
        rcases List.mem_append.1 (show y ∈ x.w ++ [q] from hy) with hy | hy
        · exact hx y hy
        · simp at hy; rw [hy]; exact hq q (by simp)
theorem wordF_ok {d o : Dfa} {ps : List Int} (hd : d.Ok) (ho : o.Ok) : ∀ (f i : Nat) (l : List Pr), PrOk d o l → WOk l → (∀ p, p ∈ l → ∀ y, y ∈ p.w → y ∈ ps) → ∀ w, wordF d o ps f i l = some w → w.length ≤ d.next.length * o.next.length ∧ ∀ x, x ∈ w → x ∈ ps
  | 0, _, _, _, _, _, w, h => by cases h
  | f + 1, i, l, h1, h2, h3, w, h => by
    cases e : l[i]? with
    | none => rw [wordF_end (by simpa using e)] at h; cases h
    | some x =>
      have hm := mem_of_get e
      by_cases ha : d.acc x.a = o.acc x.b
      · rw [wordF_row e ha] at h
        exact wordF_ok hd ho f (i + 1) _ (PrOk.row hd ho (h1.lt x hm).1 (h1.lt x hm).2 ps h1) (WOk.row ps (h2 x hm) h2) (rowP_mem (h3 x hm) ps (fun _ h => h) l h3) w h
      · rw [wordF_word e ha] at h
        obtain rfl := Option.some.inj h
        exact ⟨Nat.le_trans (h2 x hm) h1.len, h3 x hm⟩
theorem apW_bd (d o : Dfa) : ((apW d o).getD []).length ≤ 4096 ∧ ∀ x, x ∈ (apW d o).getD [] → 0 ≤ x ∧ x ≤ 1114111 := by
  unfold apW
  by_cases hk : d.Ok ∧ o.Ok
  · rw [if_pos (yes_t hk)]
    cases e : wordD d o with
    | none => simp
    | some w =>
      obtain ⟨h1, h2⟩ := wordF_ok hk.1 hk.2 _ _ _ (PrOk.one hk.1 hk.2) (by intro x hx; simp at hx; subst hx; simp) (by intro p hp y hy; simp at hp; subst hp; simp at hy) w e
      have h3 : d.next.length * o.next.length ≤ 4096 := Nat.mul_le_mul hk.1.n2 hk.2.n2
      exact ⟨by simp; omega, fun x hx => mergeL_bd hk.1 hk.2 (h2 x (by simpa using hx))⟩
  · rw [if_neg (by rw [yes_f hk]; simp)]; simp
/-- Numbers from base on are written over; all else is as it was. -/
structure MutI (base : Nat) (w w' : World) : Prop where
  os : w'.os = w.os
  tape : w'.tape = w.tape
  output : w'.output = w.output
  size : w.heap.size ≤ w'.heap.size
  block : ∀ b, b < base ∨ ¬ (∃ cs, Blk w b TLI cs) → b < w.heap.size → w'.heap[b]? = w.heap[b]?
  typed : ∀ b cs, Blk w b TLI cs → ∃ cs', Blk w' b TLI cs' ∧ cs'.size = cs.size
section
variable {base : Nat} {w w' w'' : World}
theorem MutI.refl (base : Nat) (w : World) : MutI base w w := ⟨rfl, rfl, rfl, Nat.le_refl _, fun _ _ _ => rfl, fun b cs h => ⟨cs, h, rfl⟩⟩
theorem MutI.set {g i : Nat} {u : Value} (h : MutI base w w') (ht : ∃ cs, Blk w g TLI cs) (hg : base ≤ g) : MutI base w (w'.setCell ⟨g, i, none⟩ u) :=
  ⟨h.os, h.tape, h.output, by simpa using h.size, fun b hb hl => (Below.heap_setCell w' ⟨g, i, none⟩ u b (fun e => by
      simp only at e
      subst e
      rcases hb with hb | hb
      · omega
      · exact hb ht)).trans (h.block b hb hl),
    fun b cs hb => by
      obtain ⟨cs', h1, h2⟩ := h.typed b cs hb
      by_cases hbg : b = g
      · subst hbg
        exact ⟨_, h1.set i u, by simpa using h2⟩
      · exact ⟨cs', h1.far (p := ⟨g, i, none⟩) hbg u, h2⟩⟩
theorem MutI.blk {g : Nat} {t : TypeId} {cs : Array Value} (h : MutI base w w') (hb : Blk w g t cs) (ht : t ≠ TLI) : Blk w' g t cs :=
  (h.block g (.inr fun ⟨cs', hcs'⟩ => by
    unfold Blk at hb hcs'
    rw [hb] at hcs'
    injection hcs' with hcs'
    injection hcs' with _ h1
    exact ht h1) hb.lt).trans hb
theorem MutI.below (h : MutI base w w') (hb : base ≤ w.heap.size) : Below base w w' := ⟨h.os, h.tape, h.output, h.size, fun b hbb => h.block b (.inl hbb) (by omega)⟩
theorem MutI.cell {g i : Nat} {cs : Array Value} (h : MutI base w w') (hb : Blk w g TLI cs) (hi : i < cs.size) : ∃ v, w'.cell? ⟨g, i, none⟩ = some v ∧ w'.frozen? ⟨g, i, none⟩ = false := by
  obtain ⟨cs', h1, h2⟩ := h.typed g cs hb
  exact ⟨cs'[i]'(by omega), by rw [h1.cell i]; exact Array.getElem?_eq_getElem _, h1.frozen i⟩
theorem own_blkX {base n c k : Nat} {A : Option Addr} {t : TypeId} {us : List Value} (h : w.ownsRow base t k (.slice A n c) n us) (hn : 0 < n) : ∃ (g : Nat) (cur : Array Value), A = some ⟨g, 0, none⟩ ∧ base ≤ g ∧ Blk w g t cur ∧ n * k ≤ cur.size ∧ ∀ (i : Nat) u, us[i]? = some u → cur[i]? = some u := by
  rcases h.2 with ⟨hv, h0⟩ | ⟨g, cap, cur, hv, hg, hh, hnc, hcm, hcs, htk⟩
  · omega
  · injection hv with e1 e2 e3
    subst e1
    refine ⟨g, cur, rfl, hg, hh, by rw [hcs]; exact Nat.mul_le_mul_right k hnc, fun i u hu => ?_⟩
    rw [← htk, List.getElem?_take] at hu
    split at hu
    · simpa using hu
    · cases hu
/-- Where each number of a list of the call's own lies. -/
def WayI (w : World) (base : Nat) (T : Option Addr) (m : Nat) : Prop := ∀ j, j < m → ∃ b cs, T = some ⟨b, 0, none⟩ ∧ base ≤ b ∧ Blk w b TLI cs ∧ j < cs.size
theorem OwnI.way {T : Option Addr} {m c : Nat} {l : List Int} (h : OwnI w base (.slice T m c) l) : WayI w base T m := by
  obtain ⟨A, c', e, ow⟩ := h
  injection e with e1 e2 e3
  subst e1; subst e2
  intro j hj
  obtain ⟨g, cur, eA, hg, hb, hs, _⟩ := own_blkX ow (by omega)
  exact ⟨g, cur, eA, hg, hb, by omega⟩
theorem Ls.way {x : Option Nat} {A : Option Addr} {n c : Nat} {ll : List (List Int)} (h : Ls w base x (.slice A n c) ll) (hl : ∀ l, l ∈ ll → l.length ≤ 256) {i : Nat} (hi : i < n) : ∃ g cur T m tc, A = some ⟨g, 0, none⟩ ∧ Blk w g TLL cur ∧ cur[i]? = some (.slice T m tc) ∧ m ≤ 256 ∧ WayI w base T m := by
  obtain ⟨A', c', us, e, ow, hr⟩ := h
  injection e with e1 e2 e3
  subst e1; subst e2
  obtain ⟨g, cur, eA, hg, hb, hs, hcur⟩ := own_blkX ow (by omega)
  have hu : us[i]? = some (us[i]'(by rw [hr.1]; exact hi)) := List.getElem?_eq_getElem _
  generalize us[i]'(by rw [hr.1]; exact hi) = u at hu
  have ho := hr.2 i u _ hu (List.getElem?_eq_getElem hi)
  obtain ⟨T, tc, rfl, h1⟩ := ho.1
  exact ⟨g, cur, T, _, tc, eA, hb, hcur i _ hu, hl _ (List.getElem_mem hi), OwnI.way ⟨T, tc, rfl, h1⟩⟩
end
theorem ref11_SameInts (A B : Option Addr) (c d n m : Nat) (l r : List Int) (w : World) (ha : At w A RI l) (hb : At w B RI r) (HL : Hid (l.length = n)) (HM : Hid (r.length = m)) :
    Calls Try.prog 49 #[.slice A n c, .slice B m d] w fun e w' => e = .returned (.bool (decide (l = r))) ∧ ∃ n, w' = w.drewN n := by
  have HS := Lib.hid (ref06_SameInts A B c d n m l r w ha hb HL HM)
  obtain ⟨bb, hbb⟩ : ∃ bb, decide (l = r) = bb := ⟨_, rfl⟩
  rw [hbb] at HS ⊢
  clear ha hb hbb
  go_enter Try.func49, Try.ntmps49
  go_wp2_with fail
  refine HS.out.mono ?_
  rintro e w' ⟨rfl, k, rfl⟩
  go_wp2
  go_ret
  exact ⟨rfl, k, rfl⟩

set_option maxHeartbeats 8000000 in
set_option maxRecDepth 100000 in
theorem law_LeastTells (A1 A2 A3 B1 B2 B3 : Option Addr) (c1 c2 c3 n1 n n3 d1 d2 d3 m1 m m3 : Nat) (d o : Dfa) (w : World) (H : DfaAt w A1 A2 A3 n1 n n3 d) (K : DfaAt w B1 B2 B3 m1 m m3 o) :
    Calls Try.prog 8 #[.agg #[.slice A1 n1 c1, .slice A2 n c2, .slice A3 n3 c3], .agg #[.slice B1 m1 d1, .slice B2 m d2, .slice B3 m3 d3]] w fun e w' => e = .returned (.bool true) ∧ Below w.heap.size w w' := by
  have HD := Lib.hid H; have HO := Lib.hid K
  have KK := blk2 w #[.slice A1 n1 c1, .slice A2 n c2, .slice A3 n3 c3] #[.slice B1 m1 d1, .slice B2 m d2, .slice B3 m3 d3] TDfa TDfa
  have HT0 := Lib.hid (show Two w _ _ _ from ⟨KK.1, KK.2, ((Below.refl w.heap.size w).alloc (Nat.le_refl _) (.cells #[.slice A1 n1 c1, .slice A2 n c2, .slice A3 n3 c3] TDfa)).alloc (by simp) (.cells #[.slice B1 m1 d1, .slice B2 m d2, .slice B3 m3 d3] TDfa)⟩)
  have HG1 := Lib.hid (show Calls Try.prog 9 _ _ (GreatPost d 12 12 _) from ref10_Great A1 A2 A3 c1 c2 c3 n1 n n3 d 12 12 _ (H.keep (Keep.of HT0.out.be)) (by omega) (by omega))
  have HG2 := Lib.hid (fun W (hb : Below w.heap.size w W) => show Calls Try.prog 9 _ W (GreatPost o 12 12 W) from ref10_Great B1 B2 B3 d1 d2 d3 m1 m m3 o 12 12 W (K.keep (Keep.of hb)) (by omega) (by omega))
  clear H K KK
  go_enter Try.func8, Try.ntmps8
  go_wp2_with fail
  refine HG1.out.mono ?_
  rintro e w1 ⟨g1, rfl, hg1, hb1⟩
  have HT1 := Lib.hid (HT0.out.next hb1)
  have HQ1 := Lib.hid hg1
  clear hb1 hg1
  cases g1
  case true =>
    go_wp2
    go_ret
    exact ⟨rfl, HT1.out.be⟩
  obtain ⟨p0, p1, p2, _, _, _⟩ := Blk.three HT1.out.b
  have hN := HT1.out.b.lt
  go_wp2_with fail
  refine (HG2.out _ HT1.out.be).mono ?_
  rintro e w2 ⟨g2, rfl, hg2, hb2⟩
  have HT2 := Lib.hid (HT1.out.next hb2)
  have HQ2 := Lib.hid hg2
  clear hb2 hg2 p0 p1 p2 hN HT1 HT0
  cases g2
  case true =>
    go_wp2
    go_ret
    exact ⟨rfl, HT2.out.be⟩
  have hTa : Hid (n1 ≤ 1000000 ∧ n ≤ 1000000 ∧ n3 ≤ 1000000 ∧ ∀ (i : Nat) r, d.next[i]? = some r → r.length ≤ 1000000) := Lib.hid (by
    obtain ⟨q1, q2, q3, q4⟩ := HQ1.out (by trivial)
    exact ⟨by rw [← HD.out.hc.out]; omega, by rw [← HD.out.hn.out]; omega, by rw [← HD.out.ha.out]; omega, fun i r hr => by have := q4 i r hr; omega⟩)
  have hTb : Hid (m1 ≤ 1000000 ∧ m ≤ 1000000 ∧ m3 ≤ 1000000 ∧ ∀ (i : Nat) r, o.next[i]? = some r → r.length ≤ 1000000) := Lib.hid (by
    obtain ⟨q1, q2, q3, q4⟩ := HQ2.out (by trivial)
    exact ⟨by rw [← HO.out.hc.out]; omega, by rw [← HO.out.hn.out]; omega, by rw [← HO.out.ha.out]; omega, fun i r hr => by have := q4 i r hr; omega⟩)
  clear HQ1 HQ2 HG1 HG2
  have HTWa := Lib.hid (fun W (hb : Below w.heap.size w W) => ref10_TwinO A1 A2 A3 c1 c2 c3 n1 n n3 d W (HD.out.keep (Keep.of hb)) hTa.out)
  have HTWb := Lib.hid (fun W (hb : Below w.heap.size w W) => ref10_TwinO B1 B2 B3 d1 d2 d3 m1 m m3 o W (HO.out.keep (Keep.of hb)) hTb.out)
  obtain ⟨p0, p1, p2, _, _, _⟩ := Blk.three HT2.out.a
  obtain ⟨r0, r1, r2, _, _, _⟩ := Blk.three HT2.out.b
  have hNa := HT2.out.a.lt; have hNb := HT2.out.b.lt
  have SK : Hid (∀ W, Two w W #[.slice A1 n1 c1, .slice A2 n c2, .slice A3 n3 c3] #[.slice B1 m1 d1, .slice B2 m d2, .slice B3 m3 d3] → (W.cell? ⟨w.heap.size, 0, none⟩ = some (.slice A1 n1 c1) ∧ W.cell? ⟨w.heap.size, 1, none⟩ = some (.slice A2 n c2) ∧ W.cell? ⟨w.heap.size, 2, none⟩ = some (.slice A3 n3 c3)) ∧ (W.cell? ⟨w.heap.size + 1, 0, none⟩ = some (.slice B1 m1 d1) ∧ W.cell? ⟨w.heap.size + 1, 1, none⟩ = some (.slice B2 m d2) ∧ W.cell? ⟨w.heap.size + 1, 2, none⟩ = some (.slice B3 m3 d3))) := Lib.hid (fun W h => ⟨⟨h.a.cell 0, h.a.cell 1, h.a.cell 2⟩, h.b.cell 0, h.b.cell 1, h.b.cell 2⟩)
  go_wp2
  clear p0 p1 p2 r0 r1 r2 hNa hNb
  apply split_rest (F := TwF w #[.slice A1 n1 c1, .slice A2 n c2, .slice A3 n3 c3] #[.slice B1 m1 d1, .slice B2 m d2, .slice B3 m3 d3] d o)
  case main =>
    intro rest
    refine wp_region_T 7 (fun W => (W.cell? ⟨w.heap.size, 0, none⟩ = some (.slice A1 n1 c1) ∧ W.cell? ⟨w.heap.size, 1, none⟩ = some (.slice A2 n c2) ∧ W.cell? ⟨w.heap.size, 2, none⟩ = some (.slice A3 n3 c3)) ∧ (W.cell? ⟨w.heap.size + 1, 0, none⟩ = some (.slice B1 m1 d1) ∧ W.cell? ⟨w.heap.size + 1, 1, none⟩ = some (.slice B2 m d2) ∧ W.cell? ⟨w.heap.size + 1, 2, none⟩ = some (.slice B3 m3 d3))) (by kernel_rfl) ?_
    have HT := Lib.hid (HT2.out.next (Below.refl _ _).drew)
    have HS := Lib.hid (SK.out _ HT.out)
    generalize w2.drew = W at HT HS ⊢
    refine wpAnyT_take (i := 0) (v := ?_) rfl (by kernel_rfl) (by kernel_rfl) (by kernel_rfl) (by kernel_rfl) (by kernel_rfl) (fun _ _ _ h => h) (.inl ⟨rfl, ?_⟩) HS.out ?_
    rotate_left
    · intro W__ hW__
      obtain ⟨⟨h1, h2, h3⟩, h4, h5, h6⟩ := hW__
      go_simp
      (try with_reducible rfl)
    try simp only [Act.put]
    refine wpAnyT_take (i := 2) (v := ?_) rfl (by kernel_rfl) (by kernel_rfl) (by kernel_rfl) (by kernel_rfl) (by kernel_rfl) (fun _ _ _ h => h) (.inl ⟨rfl, ?_⟩) HS.out ?_
    rotate_left
    · intro W__ hW__
      obtain ⟨⟨h1, h2, h3⟩, h4, h5, h6⟩ := hW__
      go_simp
      (try with_reducible rfl)
    try simp only [Act.put]
    clear HS
    refine wpAnyT_three (i := 1) (j := 4) (k := 5) rfl rfl rfl (by kernel_rfl) rfl rfl rfl (fun K__ hK__ => ?_) (fun K__ hK__ => ?_) (fun K__ hK__ => ?_)
    · unfold Oper.wp
      go_simp
      refine (HTWa.out W HT.out.be).mono ?_
      rintro e W1 ⟨v1, v2, v3, rfl, hown, hbx⟩
      obtain ⟨x1, x3, _, ev1, _, _⟩ := hown.c
      obtain ⟨x4, x6, _, ev2, _, _⟩ := hown.n
      obtain ⟨x7, x9, _, ev3, _, _⟩ := hown.a
      obtain ⟨x2, hk1⟩ : ∃ k, d.cuts.length = k := ⟨_, rfl⟩
      obtain ⟨x5, hk2⟩ : ∃ k, d.next.length = k := ⟨_, rfl⟩
      obtain ⟨x8, hk3⟩ : ∃ k, d.accept.length = k := ⟨_, rfl⟩
      rw [hk1] at ev1; rw [hk2] at ev2; rw [hk3] at ev3
      subst ev1; subst ev2; subst ev3
      have TA := Lib.hid (hown.lower HT.out.be.size)
      clear hk1 hk2 hk3 hown
      replace HT := Lib.hid (HT.out.next hbx)
      refine hK__ _ _ (SK.out _ HT.out) ?_
      clear hK__ hbx
      try simp only [Act.put]
      refine wpAnyT_three (i := 3) (j := 4) (k := 5) rfl rfl rfl (by kernel_rfl) rfl rfl rfl (fun K__ hK__ => ?_) (fun K__ hK__ => ?_) (fun K__ hK__ => ?_)
      · unfold Oper.wp
        go_simp
        refine (HTWb.out W1 HT.out.be).mono ?_
        rintro e W2 ⟨v1, v2, v3, rfl, hown, hbx⟩
        obtain ⟨y1, y3, _, ev1, _, _⟩ := hown.c
        obtain ⟨y4, y6, _, ev2, _, _⟩ := hown.n
        obtain ⟨y7, y9, _, ev3, _, _⟩ := hown.a
        obtain ⟨y2, hk1⟩ : ∃ k, o.cuts.length = k := ⟨_, rfl⟩
        obtain ⟨y5, hk2⟩ : ∃ k, o.next.length = k := ⟨_, rfl⟩
        obtain ⟨y8, hk3⟩ : ∃ k, o.accept.length = k := ⟨_, rfl⟩
        rw [hk1] at ev1; rw [hk2] at ev2; rw [hk3] at ev3
        subst ev1; subst ev2; subst ev3
        have TB := Lib.hid (hown.lower HT.out.be.size)
        clear hk1 hk2 hk3 hown
        replace HT := Lib.hid (HT.out.next hbx)
        replace TA := Lib.hid (TA.out.below hbx)
        refine hK__ _ _ (SK.out _ HT.out) ?_
        clear hK__ hbx
        try simp only [Act.put]
        refine wpAnyT_two (i := 4) (j := 5) rfl rfl (by kernel_rfl) rfl rfl (fun K__ hK__ => ?_) (fun K__ hK__ => ?_)
        · unfold Oper.wp
          go_simp
          have ba := (Below.refl W2.heap.size W2).alloc (Nat.le_refl _) (.cells #[.slice none 0 0, .slice none 0 0, .slice none 0 0] TDfa)
          have hX := Lib.hid HT.out.b.lt
          replace HT := Lib.hid (HT.out.next ba)
          replace TA := Lib.hid (TA.out.below ba)
          replace TB := Lib.hid (TB.out.below ba)
          have BX := Lib.hid (Blk.new W2 TDfa #[.slice none 0 0, .slice none 0 0, .slice none 0 0])
          refine hK__ _ _ (SK.out _ HT.out) ?_
          clear hK__ ba
          try simp only [Act.put]
          generalize W2.alloc (.cells #[.slice none 0 0, .slice none 0 0, .slice none 0 0] TDfa) = W3 at HT BX TA TB ⊢
          generalize W2.heap.size = X at BX hX ⊢
          refine wpAnyT_one (i := 5) rfl (by kernel_rfl) rfl fun K__ hK__ => ?_
          unfold Oper.wp
          go_simp
          have ba := (Below.refl W3.heap.size W3).alloc (Nat.le_refl _) (.cells #[.slice none 0 0, .slice none 0 0, .slice none 0 0] TDfa)
          have hY := Lib.hid HT.out.b.lt
          have hxy : Hid (X ≠ W3.heap.size) := Lib.hid (by have := BX.out.lt; omega)
          replace HT := Lib.hid (HT.out.next ba)
          replace BX := Lib.hid (BX.out.below ba BX.out.lt)
          replace TA := Lib.hid (TA.out.below ba)
          replace TB := Lib.hid (TB.out.below ba)
          have BY := Lib.hid (Blk.new W3 TDfa #[.slice none 0 0, .slice none 0 0, .slice none 0 0])
          refine hK__ _ _ (SK.out _ HT.out) ?_
          clear hK__ ba
          try simp only [Act.put]
          generalize W3.alloc (.cells #[.slice none 0 0, .slice none 0 0, .slice none 0 0] TDfa) = W4 at HT BY BX TA TB ⊢
          generalize W3.heap.size = Y at BY hY hxy ⊢
          obtain ⟨t0, t1, t2, f0, f1, f2⟩ := Blk.three BX.out
          refine wpAnyT_one (i := 6) rfl (by kernel_rfl) rfl fun K__ hK__ => ?_
          unfold Oper.wp
          go_simp
          have hT1 := ((HT.out.farX (i := 0) (u := .slice x1 x2 x3) hX.out).farX (i := 1) (u := .slice x4 x5 x6) hX.out).farX (i := 2) (u := .slice x7 x8 x9) hX.out
          have bX1 := Blk.set3 (u0 := .slice x1 x2 x3) (u1 := .slice x4 x5 x6) (u2 := .slice x7 x8 x9) BX.out
          have bY1 := ((BY.out.far (p := ⟨X, 0, none⟩) (Ne.symm hxy.out) (.slice x1 x2 x3)).far (p := ⟨X, 1, none⟩) (Ne.symm hxy.out) (.slice x4 x5 x6)).far (p := ⟨X, 2, none⟩) (Ne.symm hxy.out) (.slice x7 x8 x9)
          have tA1 := ((TA.out.far (i := 0) (u := .slice x1 x2 x3) BX.out).far (i := 1) (u := .slice x4 x5 x6) (BX.out.set 0 _)).far (i := 2) (u := .slice x7 x8 x9) ((BX.out.set 0 _).set 1 _)
          have tB1 := ((TB.out.far (i := 0) (u := .slice x1 x2 x3) BX.out).far (i := 1) (u := .slice x4 x5 x6) (BX.out.set 0 _)).far (i := 2) (u := .slice x7 x8 x9) ((BX.out.set 0 _).set 1 _)
          refine hK__ _ _ (SK.out _ hT1) ?_
          clear hK__ t0 t1 t2 f0 f1 f2
          try simp only [Act.put]
          generalize (((W4.setCell ⟨X, 0, none⟩ (.slice x1 x2 x3)).setCell ⟨X, 1, none⟩ (.slice x4 x5 x6)).setCell ⟨X, 2, none⟩ (.slice x7 x8 x9)) = V9 at hT1 bX1 bY1 tA1 tB1 ⊢
          obtain ⟨t0, t1, t2, f0, f1, f2⟩ := Blk.three bY1
          refine wpAnyT_end (i := 7) rfl (by kernel_rfl) rfl (by kernel_rfl) fun K__ hK__ => ?_
          unfold Oper.wp
          go_simp
          refine hK__ _ _ ?_
          clear hK__
          refine wpAnyT_done (by kernel_rfl) ?_ _
          have hF := show TwF w #[.slice A1 n1 c1, .slice A2 n c2, .slice A3 n3 c3] #[.slice B1 m1 d1, .slice B2 m d2, .slice B3 m3 d3] d o X Y x1 x2 x3 x4 x5 x6 x7 x8 x9 y1 y2 y3 y4 y5 y6 y7 y8 y9 (((V9.setCell ⟨Y, 0, none⟩ (.slice y1 y2 y3)).setCell ⟨Y, 1, none⟩ (.slice y4 y5 y6)).setCell ⟨Y, 2, none⟩ (.slice y7 y8 y9)) from
            ⟨((hT1.farX hY.out).farX hY.out).farX hY.out, ((bX1.far (p := ⟨Y, 0, none⟩) hxy.out _).far (p := ⟨Y, 1, none⟩) hxy.out _).far (p := ⟨Y, 2, none⟩) hxy.out _, Blk.set3 bY1, hX.out, hY.out, hxy.out,
              ((tA1.far bY1).far (bY1.set 0 _)).far ((bY1.set 0 _).set 1 _), ((tB1.far bY1).far (bY1.set 0 _)).far ((bY1.set 0 _).set 1 _)⟩
          clear t0 t1 t2 f0 f1 f2 hT1 bX1 bY1 tA1 tB1
          generalize ((V9.setCell ⟨Y, 0, none⟩ (.slice y1 y2 y3)).setCell ⟨Y, 1, none⟩ (.slice y4 y5 y6)).setCell ⟨Y, 2, none⟩ (.slice y7 y8 y9) = W9 at hF ⊢
          exact rest X Y x1 x2 x3 x4 x5 x6 x7 x8 x9 y1 y2 y3 y4 y5 y6 y7 y8 y9 W9 hF
        · unfold Oper.wp
          go_simp
          have ba := (Below.refl W2.heap.size W2).alloc (Nat.le_refl _) (.cells #[.slice none 0 0, .slice none 0 0, .slice none 0 0] TDfa)
          have hY := Lib.hid HT.out.b.lt
          replace HT := Lib.hid (HT.out.next ba)
          replace TA := Lib.hid (TA.out.below ba)
          replace TB := Lib.hid (TB.out.below ba)
          have BY := Lib.hid (Blk.new W2 TDfa #[.slice none 0 0, .slice none 0 0, .slice none 0 0])
          refine hK__ _ _ (SK.out _ HT.out) ?_
          clear hK__ ba
          try simp only [Act.put]
          generalize W2.alloc (.cells #[.slice none 0 0, .slice none 0 0, .slice none 0 0] TDfa) = W5 at HT BY TA TB ⊢
          generalize W2.heap.size = Y at BY hY ⊢
          refine wpAnyT_one (i := 4) rfl (by kernel_rfl) rfl fun K__ hK__ => ?_
          unfold Oper.wp
          go_simp
          have ba := (Below.refl W5.heap.size W5).alloc (Nat.le_refl _) (.cells #[.slice none 0 0, .slice none 0 0, .slice none 0 0] TDfa)
          have hX := Lib.hid HT.out.b.lt
          have hxy : Hid (W5.heap.size ≠ Y) := Lib.hid (by have := BY.out.lt; omega)
          replace HT := Lib.hid (HT.out.next ba)
          replace BY := Lib.hid (BY.out.below ba BY.out.lt)
          replace TA := Lib.hid (TA.out.below ba)
          replace TB := Lib.hid (TB.out.below ba)
          have BX := Lib.hid (Blk.new W5 TDfa #[.slice none 0 0, .slice none 0 0, .slice none 0 0])
          refine hK__ _ _ (SK.out _ HT.out) ?_
          clear hK__ ba
          try simp only [Act.put]
          generalize W5.alloc (.cells #[.slice none 0 0, .slice none 0 0, .slice none 0 0] TDfa) = W6 at HT BX BY TA TB ⊢
          generalize W5.heap.size = X at BX hX hxy ⊢
          obtain ⟨t0, t1, t2, f0, f1, f2⟩ := Blk.three BX.out
          refine wpAnyT_one (i := 6) rfl (by kernel_rfl) rfl fun K__ hK__ => ?_
          unfold Oper.wp
          go_simp
          have hT1 := ((HT.out.farX (i := 0) (u := .slice x1 x2 x3) hX.out).farX (i := 1) (u := .slice x4 x5 x6) hX.out).farX (i := 2) (u := .slice x7 x8 x9) hX.out
          have bX1 := Blk.set3 (u0 := .slice x1 x2 x3) (u1 := .slice x4 x5 x6) (u2 := .slice x7 x8 x9) BX.out
          have bY1 := ((BY.out.far (p := ⟨X, 0, none⟩) (Ne.symm hxy.out) (.slice x1 x2 x3)).far (p := ⟨X, 1, none⟩) (Ne.symm hxy.out) (.slice x4 x5 x6)).far (p := ⟨X, 2, none⟩) (Ne.symm hxy.out) (.slice x7 x8 x9)
          have tA1 := ((TA.out.far (i := 0) (u := .slice x1 x2 x3) BX.out).far (i := 1) (u := .slice x4 x5 x6) (BX.out.set 0 _)).far (i := 2) (u := .slice x7 x8 x9) ((BX.out.set 0 _).set 1 _)
          have tB1 := ((TB.out.far (i := 0) (u := .slice x1 x2 x3) BX.out).far (i := 1) (u := .slice x4 x5 x6) (BX.out.set 0 _)).far (i := 2) (u := .slice x7 x8 x9) ((BX.out.set 0 _).set 1 _)
          refine hK__ _ _ (SK.out _ hT1) ?_
          clear hK__ t0 t1 t2 f0 f1 f2
          try simp only [Act.put]
          generalize (((W6.setCell ⟨X, 0, none⟩ (.slice x1 x2 x3)).setCell ⟨X, 1, none⟩ (.slice x4 x5 x6)).setCell ⟨X, 2, none⟩ (.slice x7 x8 x9)) = V9 at hT1 bX1 bY1 tA1 tB1 ⊢
          obtain ⟨t0, t1, t2, f0, f1, f2⟩ := Blk.three bY1
          refine wpAnyT_end (i := 7) rfl (by kernel_rfl) rfl (by kernel_rfl) fun K__ hK__ => ?_
          unfold Oper.wp
          go_simp
          refine hK__ _ _ ?_
          clear hK__
          refine wpAnyT_done (by kernel_rfl) ?_ _
          have hF := show TwF w #[.slice A1 n1 c1, .slice A2 n c2, .slice A3 n3 c3] #[.slice B1 m1 d1, .slice B2 m d2, .slice B3 m3 d3] d o X Y x1 x2 x3 x4 x5 x6 x7 x8 x9 y1 y2 y3 y4 y5 y6 y7 y8 y9 (((V9.setCell ⟨Y, 0, none⟩ (.slice y1 y2 y3)).setCell ⟨Y, 1, none⟩ (.slice y4 y5 y6)).setCell ⟨Y, 2, none⟩ (.slice y7 y8 y9)) from
            ⟨((hT1.farX hY.out).farX hY.out).farX hY.out, ((bX1.far (p := ⟨Y, 0, none⟩) hxy.out _).far (p := ⟨Y, 1, none⟩) hxy.out _).far (p := ⟨Y, 2, none⟩) hxy.out _, Blk.set3 bY1, hX.out, hY.out, hxy.out,
              ((tA1.far bY1).far (bY1.set 0 _)).far ((bY1.set 0 _).set 1 _), ((tB1.far bY1).far (bY1.set 0 _)).far ((bY1.set 0 _).set 1 _)⟩
          clear t0 t1 t2 f0 f1 f2 hT1 bX1 bY1 tA1 tB1
          generalize ((V9.setCell ⟨Y, 0, none⟩ (.slice y1 y2 y3)).setCell ⟨Y, 1, none⟩ (.slice y4 y5 y6)).setCell ⟨Y, 2, none⟩ (.slice y7 y8 y9) = W9 at hF ⊢
          exact rest X Y x1 x2 x3 x4 x5 x6 x7 x8 x9 y1 y2 y3 y4 y5 y6 y7 y8 y9 W9 hF
      · unfold Oper.wp
        go_simp
        have ba := (Below.refl W1.heap.size W1).alloc (Nat.le_refl _) (.cells #[.slice none 0 0, .slice none 0 0, .slice none 0 0] TDfa)
        have hX := Lib.hid HT.out.b.lt
        replace HT := Lib.hid (HT.out.next ba)
        replace TA := Lib.hid (TA.out.below ba)
        have BX := Lib.hid (Blk.new W1 TDfa #[.slice none 0 0, .slice none 0 0, .slice none 0 0])
        refine hK__ _ _ (SK.out _ HT.out) ?_
        clear hK__ ba
        try simp only [Act.put]
        generalize W1.alloc (.cells #[.slice none 0 0, .slice none 0 0, .slice none 0 0] TDfa) = W7 at HT BX TA ⊢
        generalize W1.heap.size = X at BX hX ⊢
        refine wpAnyT_two (i := 3) (j := 5) rfl rfl (by kernel_rfl) rfl rfl (fun K__ hK__ => ?_) (fun K__ hK__ => ?_)
        · unfold Oper.wp
          go_simp
          refine (HTWb.out W7 HT.out.be).mono ?_
          rintro e W8 ⟨v1, v2, v3, rfl, hown, hbx⟩
          obtain ⟨y1, y3, _, ev1, _, _⟩ := hown.c
          obtain ⟨y4, y6, _, ev2, _, _⟩ := hown.n
          obtain ⟨y7, y9, _, ev3, _, _⟩ := hown.a
          obtain ⟨y2, hk1⟩ : ∃ k, o.cuts.length = k := ⟨_, rfl⟩
          obtain ⟨y5, hk2⟩ : ∃ k, o.next.length = k := ⟨_, rfl⟩
          obtain ⟨y8, hk3⟩ : ∃ k, o.accept.length = k := ⟨_, rfl⟩
          rw [hk1] at ev1; rw [hk2] at ev2; rw [hk3] at ev3
          subst ev1; subst ev2; subst ev3
          have TB := Lib.hid (hown.lower HT.out.be.size)
          clear hk1 hk2 hk3 hown
          replace HT := Lib.hid (HT.out.next hbx)
          replace BX := Lib.hid (BX.out.below hbx BX.out.lt)
          replace TA := Lib.hid (TA.out.below hbx)
          refine hK__ _ _ (SK.out _ HT.out) ?_
          clear hK__ hbx
          try simp only [Act.put]
          refine wpAnyT_one (i := 5) rfl (by kernel_rfl) rfl fun K__ hK__ => ?_
          unfold Oper.wp
          go_simp
          have ba := (Below.refl W8.heap.size W8).alloc (Nat.le_refl _) (.cells #[.slice none 0 0, .slice none 0 0, .slice none 0 0] TDfa)
          have hY := Lib.hid HT.out.b.lt
          have hxy : Hid (X ≠ W8.heap.size) := Lib.hid (by have := BX.out.lt; omega)
          replace HT := Lib.hid (HT.out.next ba)
          replace BX := Lib.hid (BX.out.below ba BX.out.lt)
          replace TA := Lib.hid (TA.out.below ba)
          replace TB := Lib.hid (TB.out.below ba)
          have BY := Lib.hid (Blk.new W8 TDfa #[.slice none 0 0, .slice none 0 0, .slice none 0 0])
          refine hK__ _ _ (SK.out _ HT.out) ?_
          clear hK__ ba
          try simp only [Act.put]
          generalize W8.alloc (.cells #[.slice none 0 0, .slice none 0 0, .slice none 0 0] TDfa) = W9 at HT BY BX TA TB ⊢
          generalize W8.heap.size = Y at BY hY hxy ⊢
          obtain ⟨t0, t1, t2, f0, f1, f2⟩ := Blk.three BX.out
          refine wpAnyT_one (i := 6) rfl (by kernel_rfl) rfl fun K__ hK__ => ?_
          unfold Oper.wp
          go_simp
          have hT1 := ((HT.out.farX (i := 0) (u := .slice x1 x2 x3) hX.out).farX (i := 1) (u := .slice x4 x5 x6) hX.out).farX (i := 2) (u := .slice x7 x8 x9) hX.out
          have bX1 := Blk.set3 (u0 := .slice x1 x2 x3) (u1 := .slice x4 x5 x6) (u2 := .slice x7 x8 x9) BX.out
          have bY1 := ((BY.out.far (p := ⟨X, 0, none⟩) (Ne.symm hxy.out) (.slice x1 x2 x3)).far (p := ⟨X, 1, none⟩) (Ne.symm hxy.out) (.slice x4 x5 x6)).far (p := ⟨X, 2, none⟩) (Ne.symm hxy.out) (.slice x7 x8 x9)
          have tA1 := ((TA.out.far (i := 0) (u := .slice x1 x2 x3) BX.out).far (i := 1) (u := .slice x4 x5 x6) (BX.out.set 0 _)).far (i := 2) (u := .slice x7 x8 x9) ((BX.out.set 0 _).set 1 _)
          have tB1 := ((TB.out.far (i := 0) (u := .slice x1 x2 x3) BX.out).far (i := 1) (u := .slice x4 x5 x6) (BX.out.set 0 _)).far (i := 2) (u := .slice x7 x8 x9) ((BX.out.set 0 _).set 1 _)
          refine hK__ _ _ (SK.out _ hT1) ?_
          clear hK__ t0 t1 t2 f0 f1 f2
          try simp only [Act.put]
          generalize (((W9.setCell ⟨X, 0, none⟩ (.slice x1 x2 x3)).setCell ⟨X, 1, none⟩ (.slice x4 x5 x6)).setCell ⟨X, 2, none⟩ (.slice x7 x8 x9)) = V9 at hT1 bX1 bY1 tA1 tB1 ⊢
          obtain ⟨t0, t1, t2, f0, f1, f2⟩ := Blk.three bY1
          refine wpAnyT_end (i := 7) rfl (by kernel_rfl) rfl (by kernel_rfl) fun K__ hK__ => ?_
          unfold Oper.wp
          go_simp
          refine hK__ _ _ ?_
          clear hK__
          refine wpAnyT_done (by kernel_rfl) ?_ _
          have hF := show TwF w #[.slice A1 n1 c1, .slice A2 n c2, .slice A3 n3 c3] #[.slice B1 m1 d1, .slice B2 m d2, .slice B3 m3 d3] d o X Y x1 x2 x3 x4 x5 x6 x7 x8 x9 y1 y2 y3 y4 y5 y6 y7 y8 y9 (((V9.setCell ⟨Y, 0, none⟩ (.slice y1 y2 y3)).setCell ⟨Y, 1, none⟩ (.slice y4 y5 y6)).setCell ⟨Y, 2, none⟩ (.slice y7 y8 y9)) from
            ⟨((hT1.farX hY.out).farX hY.out).farX hY.out, ((bX1.far (p := ⟨Y, 0, none⟩) hxy.out _).far (p := ⟨Y, 1, none⟩) hxy.out _).far (p := ⟨Y, 2, none⟩) hxy.out _, Blk.set3 bY1, hX.out, hY.out, hxy.out,
              ((tA1.far bY1).far (bY1.set 0 _)).far ((bY1.set 0 _).set 1 _), ((tB1.far bY1).far (bY1.set 0 _)).far ((bY1.set 0 _).set 1 _)⟩
          clear t0 t1 t2 f0 f1 f2 hT1 bX1 bY1 tA1 tB1
          generalize ((V9.setCell ⟨Y, 0, none⟩ (.slice y1 y2 y3)).setCell ⟨Y, 1, none⟩ (.slice y4 y5 y6)).setCell ⟨Y, 2, none⟩ (.slice y7 y8 y9) = W9 at hF ⊢
          exact rest X Y x1 x2 x3 x4 x5 x6 x7 x8 x9 y1 y2 y3 y4 y5 y6 y7 y8 y9 W9 hF
        · unfold Oper.wp
          go_simp
          have ba := (Below.refl W7.heap.size W7).alloc (Nat.le_refl _) (.cells #[.slice none 0 0, .slice none 0 0, .slice none 0 0] TDfa)
          have hY := Lib.hid HT.out.b.lt
          have hxy : Hid (X ≠ W7.heap.size) := Lib.hid (by have := BX.out.lt; omega)
          replace HT := Lib.hid (HT.out.next ba)
          replace BX := Lib.hid (BX.out.below ba BX.out.lt)
          replace TA := Lib.hid (TA.out.below ba)
          have BY := Lib.hid (Blk.new W7 TDfa #[.slice none 0 0, .slice none 0 0, .slice none 0 0])
          refine hK__ _ _ (SK.out _ HT.out) ?_
          clear hK__ ba
          try simp only [Act.put]
          generalize W7.alloc (.cells #[.slice none 0 0, .slice none 0 0, .slice none 0 0] TDfa) = W10 at HT BY BX TA ⊢
          generalize W7.heap.size = Y at BY hY hxy ⊢
          refine wpAnyT_one (i := 3) rfl (by kernel_rfl) rfl fun K__ hK__ => ?_
          unfold Oper.wp
          go_simp
          refine (HTWb.out W10 HT.out.be).mono ?_
          rintro e W11 ⟨v1, v2, v3, rfl, hown, hbx⟩
          obtain ⟨y1, y3, _, ev1, _, _⟩ := hown.c
          obtain ⟨y4, y6, _, ev2, _, _⟩ := hown.n
          obtain ⟨y7, y9, _, ev3, _, _⟩ := hown.a
          obtain ⟨y2, hk1⟩ : ∃ k, o.cuts.length = k := ⟨_, rfl⟩
          obtain ⟨y5, hk2⟩ : ∃ k, o.next.length = k := ⟨_, rfl⟩
          obtain ⟨y8, hk3⟩ : ∃ k, o.accept.length = k := ⟨_, rfl⟩
          rw [hk1] at ev1; rw [hk2] at ev2; rw [hk3] at ev3
          subst ev1; subst ev2; subst ev3
          have TB := Lib.hid (hown.lower HT.out.be.size)
          clear hk1 hk2 hk3 hown
          replace HT := Lib.hid (HT.out.next hbx)
          replace BX := Lib.hid (BX.out.below hbx BX.out.lt)
          replace BY := Lib.hid (BY.out.below hbx BY.out.lt)
          replace TA := Lib.hid (TA.out.below hbx)
          refine hK__ _ _ (SK.out _ HT.out) ?_
          clear hK__ hbx
          try simp only [Act.put]
          obtain ⟨t0, t1, t2, f0, f1, f2⟩ := Blk.three BX.out
          refine wpAnyT_one (i := 6) rfl (by kernel_rfl) rfl fun K__ hK__ => ?_
          unfold Oper.wp
          go_simp
          have hT1 := ((HT.out.farX (i := 0) (u := .slice x1 x2 x3) hX.out).farX (i := 1) (u := .slice x4 x5 x6) hX.out).farX (i := 2) (u := .slice x7 x8 x9) hX.out
          have bX1 := Blk.set3 (u0 := .slice x1 x2 x3) (u1 := .slice x4 x5 x6) (u2 := .slice x7 x8 x9) BX.out
          have bY1 := ((BY.out.far (p := ⟨X, 0, none⟩) (Ne.symm hxy.out) (.slice x1 x2 x3)).far (p := ⟨X, 1, none⟩) (Ne.symm hxy.out) (.slice x4 x5 x6)).far (p := ⟨X, 2, none⟩) (Ne.symm hxy.out) (.slice x7 x8 x9)
          have tA1 := ((TA.out.far (i := 0) (u := .slice x1 x2 x3) BX.out).far (i := 1) (u := .slice x4 x5 x6) (BX.out.set 0 _)).far (i := 2) (u := .slice x7 x8 x9) ((BX.out.set 0 _).set 1 _)
          have tB1 := ((TB.out.far (i := 0) (u := .slice x1 x2 x3) BX.out).far (i := 1) (u := .slice x4 x5 x6) (BX.out.set 0 _)).far (i := 2) (u := .slice x7 x8 x9) ((BX.out.set 0 _).set 1 _)
          refine hK__ _ _ (SK.out _ hT1) ?_
          clear hK__ t0 t1 t2 f0 f1 f2
          try simp only [Act.put]
          generalize (((W11.setCell ⟨X, 0, none⟩ (.slice x1 x2 x3)).setCell ⟨X, 1, none⟩ (.slice x4 x5 x6)).setCell ⟨X, 2, none⟩ (.slice x7 x8 x9)) = V9 at hT1 bX1 bY1 tA1 tB1 ⊢
          obtain ⟨t0, t1, t2, f0, f1, f2⟩ := Blk.three bY1
          refine wpAnyT_end (i := 7) rfl (by kernel_rfl) rfl (by kernel_rfl) fun K__ hK__ => ?_
          unfold Oper.wp
          go_simp
          refine hK__ _ _ ?_
          clear hK__
          refine wpAnyT_done (by kernel_rfl) ?_ _
          have hF := show TwF w #[.slice A1 n1 c1, .slice A2 n c2, .slice A3 n3 c3] #[.slice B1 m1 d1, .slice B2 m d2, .slice B3 m3 d3] d o X Y x1 x2 x3 x4 x5 x6 x7 x8 x9 y1 y2 y3 y4 y5 y6 y7 y8 y9 (((V9.setCell ⟨Y, 0, none⟩ (.slice y1 y2 y3)).setCell ⟨Y, 1, none⟩ (.slice y4 y5 y6)).setCell ⟨Y, 2, none⟩ (.slice y7 y8 y9)) from
            ⟨((hT1.farX hY.out).farX hY.out).farX hY.out, ((bX1.far (p := ⟨Y, 0, none⟩) hxy.out _).far (p := ⟨Y, 1, none⟩) hxy.out _).far (p := ⟨Y, 2, none⟩) hxy.out _, Blk.set3 bY1, hX.out, hY.out, hxy.out,
              ((tA1.far bY1).far (bY1.set 0 _)).far ((bY1.set 0 _).set 1 _), ((tB1.far bY1).far (bY1.set 0 _)).far ((bY1.set 0 _).set 1 _)⟩
          clear t0 t1 t2 f0 f1 f2 hT1 bX1 bY1 tA1 tB1
          generalize ((V9.setCell ⟨Y, 0, none⟩ (.slice y1 y2 y3)).setCell ⟨Y, 1, none⟩ (.slice y4 y5 y6)).setCell ⟨Y, 2, none⟩ (.slice y7 y8 y9) = W9 at hF ⊢
          exact rest X Y x1 x2 x3 x4 x5 x6 x7 x8 x9 y1 y2 y3 y4 y5 y6 y7 y8 y9 W9 hF
      · unfold Oper.wp
        go_simp
        have ba := (Below.refl W1.heap.size W1).alloc (Nat.le_refl _) (.cells #[.slice none 0 0, .slice none 0 0, .slice none 0 0] TDfa)
        have hY := Lib.hid HT.out.b.lt
        replace HT := Lib.hid (HT.out.next ba)
        replace TA := Lib.hid (TA.out.below ba)
        have BY := Lib.hid (Blk.new W1 TDfa #[.slice none 0 0, .slice none 0 0, .slice none 0 0])
        refine hK__ _ _ (SK.out _ HT.out) ?_
        clear hK__ ba
        try simp only [Act.put]
        generalize W1.alloc (.cells #[.slice none 0 0, .slice none 0 0, .slice none 0 0] TDfa) = W12 at HT BY TA ⊢
        generalize W1.heap.size = Y at BY hY ⊢
        refine wpAnyT_two (i := 3) (j := 4) rfl rfl (by kernel_rfl) rfl rfl (fun K__ hK__ => ?_) (fun K__ hK__ => ?_)
        · unfold Oper.wp
          go_simp
          refine (HTWb.out W12 HT.out.be).mono ?_
          rintro e W13 ⟨v1, v2, v3, rfl, hown, hbx⟩
          obtain ⟨y1, y3, _, ev1, _, _⟩ := hown.c
          obtain ⟨y4, y6, _, ev2, _, _⟩ := hown.n
          obtain ⟨y7, y9, _, ev3, _, _⟩ := hown.a
          obtain ⟨y2, hk1⟩ : ∃ k, o.cuts.length = k := ⟨_, rfl⟩
          obtain ⟨y5, hk2⟩ : ∃ k, o.next.length = k := ⟨_, rfl⟩
          obtain ⟨y8, hk3⟩ : ∃ k, o.accept.length = k := ⟨_, rfl⟩
          rw [hk1] at ev1; rw [hk2] at ev2; rw [hk3] at ev3
          subst ev1; subst ev2; subst ev3
          have TB := Lib.hid (hown.lower HT.out.be.size)
          clear hk1 hk2 hk3 hown
          replace HT := Lib.hid (HT.out.next hbx)
          replace BY := Lib.hid (BY.out.below hbx BY.out.lt)
          replace TA := Lib.hid (TA.out.below hbx)
          refine hK__ _ _ (SK.out _ HT.out) ?_
          clear hK__ hbx
          try simp only [Act.put]
          refine wpAnyT_one (i := 4) rfl (by kernel_rfl) rfl fun K__ hK__ => ?_
          unfold Oper.wp
          go_simp
          have ba := (Below.refl W13.heap.size W13).alloc (Nat.le_refl _) (.cells #[.slice none 0 0, .slice none 0 0, .slice none 0 0] TDfa)
          have hX := Lib.hid HT.out.b.lt
          have hxy : Hid (W13.heap.size ≠ Y) := Lib.hid (by have := BY.out.lt; omega)
          replace HT := Lib.hid (HT.out.next ba)
          replace BY := Lib.hid (BY.out.below ba BY.out.lt)
          replace TA := Lib.hid (TA.out.below ba)
          replace TB := Lib.hid (TB.out.below ba)
          have BX := Lib.hid (Blk.new W13 TDfa #[.slice none 0 0, .slice none 0 0, .slice none 0 0])
          refine hK__ _ _ (SK.out _ HT.out) ?_
          clear hK__ ba
          try simp only [Act.put]
          generalize W13.alloc (.cells #[.slice none 0 0, .slice none 0 0, .slice none 0 0] TDfa) = W14 at HT BX BY TA TB ⊢
          generalize W13.heap.size = X at BX hX hxy ⊢
          obtain ⟨t0, t1, t2, f0, f1, f2⟩ := Blk.three BX.out
          refine wpAnyT_one (i := 6) rfl (by kernel_rfl) rfl fun K__ hK__ => ?_
          unfold Oper.wp
          go_simp
          have hT1 := ((HT.out.farX (i := 0) (u := .slice x1 x2 x3) hX.out).farX (i := 1) (u := .slice x4 x5 x6) hX.out).farX (i := 2) (u := .slice x7 x8 x9) hX.out
          have bX1 := Blk.set3 (u0 := .slice x1 x2 x3) (u1 := .slice x4 x5 x6) (u2 := .slice x7 x8 x9) BX.out
          have bY1 := ((BY.out.far (p := ⟨X, 0, none⟩) (Ne.symm hxy.out) (.slice x1 x2 x3)).far (p := ⟨X, 1, none⟩) (Ne.symm hxy.out) (.slice x4 x5 x6)).far (p := ⟨X, 2, none⟩) (Ne.symm hxy.out) (.slice x7 x8 x9)
          have tA1 := ((TA.out.far (i := 0) (u := .slice x1 x2 x3) BX.out).far (i := 1) (u := .slice x4 x5 x6) (BX.out.set 0 _)).far (i := 2) (u := .slice x7 x8 x9) ((BX.out.set 0 _).set 1 _)
          have tB1 := ((TB.out.far (i := 0) (u := .slice x1 x2 x3) BX.out).far (i := 1) (u := .slice x4 x5 x6) (BX.out.set 0 _)).far (i := 2) (u := .slice x7 x8 x9) ((BX.out.set 0 _).set 1 _)
          refine hK__ _ _ (SK.out _ hT1) ?_
          clear hK__ t0 t1 t2 f0 f1 f2
          try simp only [Act.put]
          generalize (((W14.setCell ⟨X, 0, none⟩ (.slice x1 x2 x3)).setCell ⟨X, 1, none⟩ (.slice x4 x5 x6)).setCell ⟨X, 2, none⟩ (.slice x7 x8 x9)) = V9 at hT1 bX1 bY1 tA1 tB1 ⊢
          obtain ⟨t0, t1, t2, f0, f1, f2⟩ := Blk.three bY1
          refine wpAnyT_end (i := 7) rfl (by kernel_rfl) rfl (by kernel_rfl) fun K__ hK__ => ?_
          unfold Oper.wp
          go_simp
          refine hK__ _ _ ?_
          clear hK__
          refine wpAnyT_done (by kernel_rfl) ?_ _
          have hF := show TwF w #[.slice A1 n1 c1, .slice A2 n c2, .slice A3 n3 c3] #[.slice B1 m1 d1, .slice B2 m d2, .slice B3 m3 d3] d o X Y x1 x2 x3 x4 x5 x6 x7 x8 x9 y1 y2 y3 y4 y5 y6 y7 y8 y9 (((V9.setCell ⟨Y, 0, none⟩ (.slice y1 y2 y3)).setCell ⟨Y, 1, none⟩ (.slice y4 y5 y6)).setCell ⟨Y, 2, none⟩ (.slice y7 y8 y9)) from
            ⟨((hT1.farX hY.out).farX hY.out).farX hY.out, ((bX1.far (p := ⟨Y, 0, none⟩) hxy.out _).far (p := ⟨Y, 1, none⟩) hxy.out _).far (p := ⟨Y, 2, none⟩) hxy.out _, Blk.set3 bY1, hX.out, hY.out, hxy.out,
              ((tA1.far bY1).far (bY1.set 0 _)).far ((bY1.set 0 _).set 1 _), ((tB1.far bY1).far (bY1.set 0 _)).far ((bY1.set 0 _).set 1 _)⟩
          clear t0 t1 t2 f0 f1 f2 hT1 bX1 bY1 tA1 tB1
          generalize ((V9.setCell ⟨Y, 0, none⟩ (.slice y1 y2 y3)).setCell ⟨Y, 1, none⟩ (.slice y4 y5 y6)).setCell ⟨Y, 2, none⟩ (.slice y7 y8 y9) = W9 at hF ⊢
          exact rest X Y x1 x2 x3 x4 x5 x6 x7 x8 x9 y1 y2 y3 y4 y5 y6 y7 y8 y9 W9 hF
        · unfold Oper.wp
          go_simp
          have ba := (Below.refl W12.heap.size W12).alloc (Nat.le_refl _) (.cells #[.slice none 0 0, .slice none 0 0, .slice none 0 0] TDfa)
          have hX := Lib.hid HT.out.b.lt
          have hxy : Hid (W12.heap.size ≠ Y) := Lib.hid (by have := BY.out.lt; omega)
          replace HT := Lib.hid (HT.out.next ba)
          replace BY := Lib.hid (BY.out.below ba BY.out.lt)
          replace TA := Lib.hid (TA.out.below ba)
          have BX := Lib.hid (Blk.new W12 TDfa #[.slice none 0 0, .slice none 0 0, .slice none 0 0])
          refine hK__ _ _ (SK.out _ HT.out) ?_
          clear hK__ ba
          try simp only [Act.put]
          generalize W12.alloc (.cells #[.slice none 0 0, .slice none 0 0, .slice none 0 0] TDfa) = W15 at HT BX BY TA ⊢
          generalize W12.heap.size = X at BX hX hxy ⊢
          refine wpAnyT_one (i := 3) rfl (by kernel_rfl) rfl fun K__ hK__ => ?_
          unfold Oper.wp
          go_simp
          refine (HTWb.out W15 HT.out.be).mono ?_
          rintro e W16 ⟨v1, v2, v3, rfl, hown, hbx⟩
          obtain ⟨y1, y3, _, ev1, _, _⟩ := hown.c
          obtain ⟨y4, y6, _, ev2, _, _⟩ := hown.n
          obtain ⟨y7, y9, _, ev3, _, _⟩ := hown.a
          obtain ⟨y2, hk1⟩ : ∃ k, o.cuts.length = k := ⟨_, rfl⟩
          obtain ⟨y5, hk2⟩ : ∃ k, o.next.length = k := ⟨_, rfl⟩
          obtain ⟨y8, hk3⟩ : ∃ k, o.accept.length = k := ⟨_, rfl⟩
          rw [hk1] at ev1; rw [hk2] at ev2; rw [hk3] at ev3
          subst ev1; subst ev2; subst ev3
          have TB := Lib.hid (hown.lower HT.out.be.size)
          clear hk1 hk2 hk3 hown
          replace HT := Lib.hid (HT.out.next hbx)
          replace BX := Lib.hid (BX.out.below hbx BX.out.lt)
          replace BY := Lib.hid (BY.out.below hbx BY.out.lt)
          replace TA := Lib.hid (TA.out.below hbx)
          refine hK__ _ _ (SK.out _ HT.out) ?_
          clear hK__ hbx
          try simp only [Act.put]
          obtain ⟨t0, t1, t2, f0, f1, f2⟩ := Blk.three BX.out
          refine wpAnyT_one (i := 6) rfl (by kernel_rfl) rfl fun K__ hK__ => ?_
          unfold Oper.wp
          go_simp
          have hT1 := ((HT.out.farX (i := 0) (u := .slice x1 x2 x3) hX.out).farX (i := 1) (u := .slice x4 x5 x6) hX.out).farX (i := 2) (u := .slice x7 x8 x9) hX.out
          have bX1 := Blk.set3 (u0 := .slice x1 x2 x3) (u1 := .slice x4 x5 x6) (u2 := .slice x7 x8 x9) BX.out
          have bY1 := ((BY.out.far (p := ⟨X, 0, none⟩) (Ne.symm hxy.out) (.slice x1 x2 x3)).far (p := ⟨X, 1, none⟩) (Ne.symm hxy.out) (.slice x4 x5 x6)).far (p := ⟨X, 2, none⟩) (Ne.symm hxy.out) (.slice x7 x8 x9)
          have tA1 := ((TA.out.far (i := 0) (u := .slice x1 x2 x3) BX.out).far (i := 1) (u := .slice x4 x5 x6) (BX.out.set 0 _)).far (i := 2) (u := .slice x7 x8 x9) ((BX.out.set 0 _).set 1 _)
          have tB1 := ((TB.out.far (i := 0) (u := .slice x1 x2 x3) BX.out).far (i := 1) (u := .slice x4 x5 x6) (BX.out.set 0 _)).far (i := 2) (u := .slice x7 x8 x9) ((BX.out.set 0 _).set 1 _)
          refine hK__ _ _ (SK.out _ hT1) ?_
          clear hK__ t0 t1 t2 f0 f1 f2
          try simp only [Act.put]
          generalize (((W16.setCell ⟨X, 0, none⟩ (.slice x1 x2 x3)).setCell ⟨X, 1, none⟩ (.slice x4 x5 x6)).setCell ⟨X, 2, none⟩ (.slice x7 x8 x9)) = V9 at hT1 bX1 bY1 tA1 tB1 ⊢
          obtain ⟨t0, t1, t2, f0, f1, f2⟩ := Blk.three bY1
          refine wpAnyT_end (i := 7) rfl (by kernel_rfl) rfl (by kernel_rfl) fun K__ hK__ => ?_
          unfold Oper.wp
          go_simp
          refine hK__ _ _ ?_
          clear hK__
          refine wpAnyT_done (by kernel_rfl) ?_ _
          have hF := show TwF w #[.slice A1 n1 c1, .slice A2 n c2, .slice A3 n3 c3] #[.slice B1 m1 d1, .slice B2 m d2, .slice B3 m3 d3] d o X Y x1 x2 x3 x4 x5 x6 x7 x8 x9 y1 y2 y3 y4 y5 y6 y7 y8 y9 (((V9.setCell ⟨Y, 0, none⟩ (.slice y1 y2 y3)).setCell ⟨Y, 1, none⟩ (.slice y4 y5 y6)).setCell ⟨Y, 2, none⟩ (.slice y7 y8 y9)) from
            ⟨((hT1.farX hY.out).farX hY.out).farX hY.out, ((bX1.far (p := ⟨Y, 0, none⟩) hxy.out _).far (p := ⟨Y, 1, none⟩) hxy.out _).far (p := ⟨Y, 2, none⟩) hxy.out _, Blk.set3 bY1, hX.out, hY.out, hxy.out,
              ((tA1.far bY1).far (bY1.set 0 _)).far ((bY1.set 0 _).set 1 _), ((tB1.far bY1).far (bY1.set 0 _)).far ((bY1.set 0 _).set 1 _)⟩
          clear t0 t1 t2 f0 f1 f2 hT1 bX1 bY1 tA1 tB1
          generalize ((V9.setCell ⟨Y, 0, none⟩ (.slice y1 y2 y3)).setCell ⟨Y, 1, none⟩ (.slice y4 y5 y6)).setCell ⟨Y, 2, none⟩ (.slice y7 y8 y9) = W9 at hF ⊢
          exact rest X Y x1 x2 x3 x4 x5 x6 x7 x8 x9 y1 y2 y3 y4 y5 y6 y7 y8 y9 W9 hF
    · unfold Oper.wp
      go_simp
      have ba := (Below.refl W.heap.size W).alloc (Nat.le_refl _) (.cells #[.slice none 0 0, .slice none 0 0, .slice none 0 0] TDfa)
      have hX := Lib.hid HT.out.b.lt
      replace HT := Lib.hid (HT.out.next ba)
      have BX := Lib.hid (Blk.new W TDfa #[.slice none 0 0, .slice none 0 0, .slice none 0 0])
      refine hK__ _ _ (SK.out _ HT.out) ?_
      clear hK__ ba
      try simp only [Act.put]
      generalize W.alloc (.cells #[.slice none 0 0, .slice none 0 0, .slice none 0 0] TDfa) = W17 at HT BX ⊢
      generalize W.heap.size = X at BX hX ⊢
      refine wpAnyT_two (i := 1) (j := 5) rfl rfl (by kernel_rfl) rfl rfl (fun K__ hK__ => ?_) (fun K__ hK__ => ?_)
      · unfold Oper.wp
        go_simp
        refine (HTWa.out W17 HT.out.be).mono ?_
        rintro e W18 ⟨v1, v2, v3, rfl, hown, hbx⟩
        obtain ⟨x1, x3, _, ev1, _, _⟩ := hown.c
        obtain ⟨x4, x6, _, ev2, _, _⟩ := hown.n
        obtain ⟨x7, x9, _, ev3, _, _⟩ := hown.a
        obtain ⟨x2, hk1⟩ : ∃ k, d.cuts.length = k := ⟨_, rfl⟩
        obtain ⟨x5, hk2⟩ : ∃ k, d.next.length = k := ⟨_, rfl⟩
        obtain ⟨x8, hk3⟩ : ∃ k, d.accept.length = k := ⟨_, rfl⟩
        rw [hk1] at ev1; rw [hk2] at ev2; rw [hk3] at ev3
        subst ev1; subst ev2; subst ev3
        have TA := Lib.hid (hown.lower HT.out.be.size)
        clear hk1 hk2 hk3 hown
        replace HT := Lib.hid (HT.out.next hbx)
        replace BX := Lib.hid (BX.out.below hbx BX.out.lt)
        refine hK__ _ _ (SK.out _ HT.out) ?_
        clear hK__ hbx
        try simp only [Act.put]
        refine wpAnyT_two (i := 3) (j := 5) rfl rfl (by kernel_rfl) rfl rfl (fun K__ hK__ => ?_) (fun K__ hK__ => ?_)
        · unfold Oper.wp
          go_simp
          refine (HTWb.out W18 HT.out.be).mono ?_
          rintro e W19 ⟨v1, v2, v3, rfl, hown, hbx⟩
          obtain ⟨y1, y3, _, ev1, _, _⟩ := hown.c
          obtain ⟨y4, y6, _, ev2, _, _⟩ := hown.n
          obtain ⟨y7, y9, _, ev3, _, _⟩ := hown.a
          obtain ⟨y2, hk1⟩ : ∃ k, o.cuts.length = k := ⟨_, rfl⟩
          obtain ⟨y5, hk2⟩ : ∃ k, o.next.length = k := ⟨_, rfl⟩
          obtain ⟨y8, hk3⟩ : ∃ k, o.accept.length = k := ⟨_, rfl⟩
          rw [hk1] at ev1; rw [hk2] at ev2; rw [hk3] at ev3
          subst ev1; subst ev2; subst ev3
          have TB := Lib.hid (hown.lower HT.out.be.size)
          clear hk1 hk2 hk3 hown
          replace HT := Lib.hid (HT.out.next hbx)
          replace BX := Lib.hid (BX.out.below hbx BX.out.lt)
          replace TA := Lib.hid (TA.out.below hbx)
          refine hK__ _ _ (SK.out _ HT.out) ?_
          clear hK__ hbx
          try simp only [Act.put]
          refine wpAnyT_one (i := 5) rfl (by kernel_rfl) rfl fun K__ hK__ => ?_
          unfold Oper.wp
          go_simp
          have ba := (Below.refl W19.heap.size W19).alloc (Nat.le_refl _) (.cells #[.slice none 0 0, .slice none 0 0, .slice none 0 0] TDfa)
          have hY := Lib.hid HT.out.b.lt
          have hxy : Hid (X ≠ W19.heap.size) := Lib.hid (by have := BX.out.lt; omega)
          replace HT := Lib.hid (HT.out.next ba)
          replace BX := Lib.hid (BX.out.below ba BX.out.lt)
          replace TA := Lib.hid (TA.out.below ba)
          replace TB := Lib.hid (TB.out.below ba)
          have BY := Lib.hid (Blk.new W19 TDfa #[.slice none 0 0, .slice none 0 0, .slice none 0 0])
          refine hK__ _ _ (SK.out _ HT.out) ?_
          clear hK__ ba
          try simp only [Act.put]
          generalize W19.alloc (.cells #[.slice none 0 0, .slice none 0 0, .slice none 0 0] TDfa) = W20 at HT BY BX TA TB ⊢
          generalize W19.heap.size = Y at BY hY hxy ⊢
          obtain ⟨t0, t1, t2, f0, f1, f2⟩ := Blk.three BX.out
          refine wpAnyT_one (i := 6) rfl (by kernel_rfl) rfl fun K__ hK__ => ?_
          unfold Oper.wp
          go_simp
          have hT1 := ((HT.out.farX (i := 0) (u := .slice x1 x2 x3) hX.out).farX (i := 1) (u := .slice x4 x5 x6) hX.out).farX (i := 2) (u := .slice x7 x8 x9) hX.out
          have bX1 := Blk.set3 (u0 := .slice x1 x2 x3) (u1 := .slice x4 x5 x6) (u2 := .slice x7 x8 x9) BX.out
          have bY1 := ((BY.out.far (p := ⟨X, 0, none⟩) (Ne.symm hxy.out) (.slice x1 x2 x3)).far (p := ⟨X, 1, none⟩) (Ne.symm hxy.out) (.slice x4 x5 x6)).far (p := ⟨X, 2, none⟩) (Ne.symm hxy.out) (.slice x7 x8 x9)
          have tA1 := ((TA.out.far (i := 0) (u := .slice x1 x2 x3) BX.out).far (i := 1) (u := .slice x4 x5 x6) (BX.out.set 0 _)).far (i := 2) (u := .slice x7 x8 x9) ((BX.out.set 0 _).set 1 _)
          have tB1 := ((TB.out.far (i := 0) (u := .slice x1 x2 x3) BX.out).far (i := 1) (u := .slice x4 x5 x6) (BX.out.set 0 _)).far (i := 2) (u := .slice x7 x8 x9) ((BX.out.set 0 _).set 1 _)
          refine hK__ _ _ (SK.out _ hT1) ?_
          clear hK__ t0 t1 t2 f0 f1 f2
          try simp only [Act.put]
          generalize (((W20.setCell ⟨X, 0, none⟩ (.slice x1 x2 x3)).setCell ⟨X, 1, none⟩ (.slice x4 x5 x6)).setCell ⟨X, 2, none⟩ (.slice x7 x8 x9)) = V9 at hT1 bX1 bY1 tA1 tB1 ⊢
          obtain ⟨t0, t1, t2, f0, f1, f2⟩ := Blk.three bY1
          refine wpAnyT_end (i := 7) rfl (by kernel_rfl) rfl (by kernel_rfl) fun K__ hK__ => ?_
          unfold Oper.wp
          go_simp
          refine hK__ _ _ ?_
          clear hK__
          refine wpAnyT_done (by kernel_rfl) ?_ _
          have hF := show TwF w #[.slice A1 n1 c1, .slice A2 n c2, .slice A3 n3 c3] #[.slice B1 m1 d1, .slice B2 m d2, .slice B3 m3 d3] d o X Y x1 x2 x3 x4 x5 x6 x7 x8 x9 y1 y2 y3 y4 y5 y6 y7 y8 y9 (((V9.setCell ⟨Y, 0, none⟩ (.slice y1 y2 y3)).setCell ⟨Y, 1, none⟩ (.slice y4 y5 y6)).setCell ⟨Y, 2, none⟩ (.slice y7 y8 y9)) from
            ⟨((hT1.farX hY.out).farX hY.out).farX hY.out, ((bX1.far (p := ⟨Y, 0, none⟩) hxy.out _).far (p := ⟨Y, 1, none⟩) hxy.out _).far (p := ⟨Y, 2, none⟩) hxy.out _, Blk.set3 bY1, hX.out, hY.out, hxy.out,
              ((tA1.far bY1).far (bY1.set 0 _)).far ((bY1.set 0 _).set 1 _), ((tB1.far bY1).far (bY1.set 0 _)).far ((bY1.set 0 _).set 1 _)⟩
          clear t0 t1 t2 f0 f1 f2 hT1 bX1 bY1 tA1 tB1
          generalize ((V9.setCell ⟨Y, 0, none⟩ (.slice y1 y2 y3)).setCell ⟨Y, 1, none⟩ (.slice y4 y5 y6)).setCell ⟨Y, 2, none⟩ (.slice y7 y8 y9) = W9 at hF ⊢
          exact rest X Y x1 x2 x3 x4 x5 x6 x7 x8 x9 y1 y2 y3 y4 y5 y6 y7 y8 y9 W9 hF
        · unfold Oper.wp
          go_simp
          have ba := (Below.refl W18.heap.size W18).alloc (Nat.le_refl _) (.cells #[.slice none 0 0, .slice none 0 0, .slice none 0 0] TDfa)
          have hY := Lib.hid HT.out.b.lt
          have hxy : Hid (X ≠ W18.heap.size) := Lib.hid (by have := BX.out.lt; omega)
          replace HT := Lib.hid (HT.out.next ba)
          replace BX := Lib.hid (BX.out.below ba BX.out.lt)
          replace TA := Lib.hid (TA.out.below ba)
          have BY := Lib.hid (Blk.new W18 TDfa #[.slice none 0 0, .slice none 0 0, .slice none 0 0])
          refine hK__ _ _ (SK.out _ HT.out) ?_
          clear hK__ ba
          try simp only [Act.put]
          generalize W18.alloc (.cells #[.slice none 0 0, .slice none 0 0, .slice none 0 0] TDfa) = W21 at HT BY BX TA ⊢
          generalize W18.heap.size = Y at BY hY hxy ⊢
          refine wpAnyT_one (i := 3) rfl (by kernel_rfl) rfl fun K__ hK__ => ?_
          unfold Oper.wp
          go_simp
          refine (HTWb.out W21 HT.out.be).mono ?_
          rintro e W22 ⟨v1, v2, v3, rfl, hown, hbx⟩
          obtain ⟨y1, y3, _, ev1, _, _⟩ := hown.c
          obtain ⟨y4, y6, _, ev2, _, _⟩ := hown.n
          obtain ⟨y7, y9, _, ev3, _, _⟩ := hown.a
          obtain ⟨y2, hk1⟩ : ∃ k, o.cuts.length = k := ⟨_, rfl⟩
          obtain ⟨y5, hk2⟩ : ∃ k, o.next.length = k := ⟨_, rfl⟩
          obtain ⟨y8, hk3⟩ : ∃ k, o.accept.length = k := ⟨_, rfl⟩
          rw [hk1] at ev1; rw [hk2] at ev2; rw [hk3] at ev3
          subst ev1; subst ev2; subst ev3
          have TB := Lib.hid (hown.lower HT.out.be.size)
          clear hk1 hk2 hk3 hown
          replace HT := Lib.hid (HT.out.next hbx)
          replace BX := Lib.hid (BX.out.below hbx BX.out.lt)
          replace BY := Lib.hid (BY.out.below hbx BY.out.lt)
          replace TA := Lib.hid (TA.out.below hbx)
          refine hK__ _ _ (SK.out _ HT.out) ?_
          clear hK__ hbx
          try simp only [Act.put]
          obtain ⟨t0, t1, t2, f0, f1, f2⟩ := Blk.three BX.out
          refine wpAnyT_one (i := 6) rfl (by kernel_rfl) rfl fun K__ hK__ => ?_
          unfold Oper.wp
          go_simp
          have hT1 := ((HT.out.farX (i := 0) (u := .slice x1 x2 x3) hX.out).farX (i := 1) (u := .slice x4 x5 x6) hX.out).farX (i := 2) (u := .slice x7 x8 x9) hX.out
          have bX1 := Blk.set3 (u0 := .slice x1 x2 x3) (u1 := .slice x4 x5 x6) (u2 := .slice x7 x8 x9) BX.out
          have bY1 := ((BY.out.far (p := ⟨X, 0, none⟩) (Ne.symm hxy.out) (.slice x1 x2 x3)).far (p := ⟨X, 1, none⟩) (Ne.symm hxy.out) (.slice x4 x5 x6)).far (p := ⟨X, 2, none⟩) (Ne.symm hxy.out) (.slice x7 x8 x9)
          have tA1 := ((TA.out.far (i := 0) (u := .slice x1 x2 x3) BX.out).far (i := 1) (u := .slice x4 x5 x6) (BX.out.set 0 _)).far (i := 2) (u := .slice x7 x8 x9) ((BX.out.set 0 _).set 1 _)
          have tB1 := ((TB.out.far (i := 0) (u := .slice x1 x2 x3) BX.out).far (i := 1) (u := .slice x4 x5 x6) (BX.out.set 0 _)).far (i := 2) (u := .slice x7 x8 x9) ((BX.out.set 0 _).set 1 _)
          refine hK__ _ _ (SK.out _ hT1) ?_
          clear hK__ t0 t1 t2 f0 f1 f2
          try simp only [Act.put]
          generalize (((W22.setCell ⟨X, 0, none⟩ (.slice x1 x2 x3)).setCell ⟨X, 1, none⟩ (.slice x4 x5 x6)).setCell ⟨X, 2, none⟩ (.slice x7 x8 x9)) = V9 at hT1 bX1 bY1 tA1 tB1 ⊢
          obtain ⟨t0, t1, t2, f0, f1, f2⟩ := Blk.three bY1
          refine wpAnyT_end (i := 7) rfl (by kernel_rfl) rfl (by kernel_rfl) fun K__ hK__ => ?_
          unfold Oper.wp
          go_simp
          refine hK__ _ _ ?_
          clear hK__
          refine wpAnyT_done (by kernel_rfl) ?_ _
          have hF := show TwF w #[.slice A1 n1 c1, .slice A2 n c2, .slice A3 n3 c3] #[.slice B1 m1 d1, .slice B2 m d2, .slice B3 m3 d3] d o X Y x1 x2 x3 x4 x5 x6 x7 x8 x9 y1 y2 y3 y4 y5 y6 y7 y8 y9 (((V9.setCell ⟨Y, 0, none⟩ (.slice y1 y2 y3)).setCell ⟨Y, 1, none⟩ (.slice y4 y5 y6)).setCell ⟨Y, 2, none⟩ (.slice y7 y8 y9)) from
            ⟨((hT1.farX hY.out).farX hY.out).farX hY.out, ((bX1.far (p := ⟨Y, 0, none⟩) hxy.out _).far (p := ⟨Y, 1, none⟩) hxy.out _).far (p := ⟨Y, 2, none⟩) hxy.out _, Blk.set3 bY1, hX.out, hY.out, hxy.out,
              ((tA1.far bY1).far (bY1.set 0 _)).far ((bY1.set 0 _).set 1 _), ((tB1.far bY1).far (bY1.set 0 _)).far ((bY1.set 0 _).set 1 _)⟩
          clear t0 t1 t2 f0 f1 f2 hT1 bX1 bY1 tA1 tB1
          generalize ((V9.setCell ⟨Y, 0, none⟩ (.slice y1 y2 y3)).setCell ⟨Y, 1, none⟩ (.slice y4 y5 y6)).setCell ⟨Y, 2, none⟩ (.slice y7 y8 y9) = W9 at hF ⊢
          exact rest X Y x1 x2 x3 x4 x5 x6 x7 x8 x9 y1 y2 y3 y4 y5 y6 y7 y8 y9 W9 hF
      · unfold Oper.wp
        go_simp
        have ba := (Below.refl W17.heap.size W17).alloc (Nat.le_refl _) (.cells #[.slice none 0 0, .slice none 0 0, .slice none 0 0] TDfa)
        have hY := Lib.hid HT.out.b.lt
        have hxy : Hid (X ≠ W17.heap.size) := Lib.hid (by have := BX.out.lt; omega)
        replace HT := Lib.hid (HT.out.next ba)
        replace BX := Lib.hid (BX.out.below ba BX.out.lt)
        have BY := Lib.hid (Blk.new W17 TDfa #[.slice none 0 0, .slice none 0 0, .slice none 0 0])
        refine hK__ _ _ (SK.out _ HT.out) ?_
        clear hK__ ba
        try simp only [Act.put]
        generalize W17.alloc (.cells #[.slice none 0 0, .slice none 0 0, .slice none 0 0] TDfa) = W23 at HT BY BX ⊢
        generalize W17.heap.size = Y at BY hY hxy ⊢
        refine wpAnyT_one (i := 1) rfl (by kernel_rfl) rfl fun K__ hK__ => ?_
        unfold Oper.wp
        go_simp
        refine (HTWa.out W23 HT.out.be).mono ?_
        rintro e W24 ⟨v1, v2, v3, rfl, hown, hbx⟩
        obtain ⟨x1, x3, _, ev1, _, _⟩ := hown.c
        obtain ⟨x4, x6, _, ev2, _, _⟩ := hown.n
        obtain ⟨x7, x9, _, ev3, _, _⟩ := hown.a
        obtain ⟨x2, hk1⟩ : ∃ k, d.cuts.length = k := ⟨_, rfl⟩
        obtain ⟨x5, hk2⟩ : ∃ k, d.next.length = k := ⟨_, rfl⟩
        obtain ⟨x8, hk3⟩ : ∃ k, d.accept.length = k := ⟨_, rfl⟩
        rw [hk1] at ev1; rw [hk2] at ev2; rw [hk3] at ev3
        subst ev1; subst ev2; subst ev3
        have TA := Lib.hid (hown.lower HT.out.be.size)
        clear hk1 hk2 hk3 hown
        replace HT := Lib.hid (HT.out.next hbx)
        replace BX := Lib.hid (BX.out.below hbx BX.out.lt)
        replace BY := Lib.hid (BY.out.below hbx BY.out.lt)
        refine hK__ _ _ (SK.out _ HT.out) ?_
        clear hK__ hbx
        try simp only [Act.put]
        refine wpAnyT_one (i := 3) rfl (by kernel_rfl) rfl fun K__ hK__ => ?_
        unfold Oper.wp
        go_simp
        refine (HTWb.out W24 HT.out.be).mono ?_
        rintro e W25 ⟨v1, v2, v3, rfl, hown, hbx⟩
        obtain ⟨y1, y3, _, ev1, _, _⟩ := hown.c
        obtain ⟨y4, y6, _, ev2, _, _⟩ := hown.n
        obtain ⟨y7, y9, _, ev3, _, _⟩ := hown.a
        obtain ⟨y2, hk1⟩ : ∃ k, o.cuts.length = k := ⟨_, rfl⟩
        obtain ⟨y5, hk2⟩ : ∃ k, o.next.length = k := ⟨_, rfl⟩
        obtain ⟨y8, hk3⟩ : ∃ k, o.accept.length = k := ⟨_, rfl⟩
        rw [hk1] at ev1; rw [hk2] at ev2; rw [hk3] at ev3
        subst ev1; subst ev2; subst ev3
        have TB := Lib.hid (hown.lower HT.out.be.size)
        clear hk1 hk2 hk3 hown
        replace HT := Lib.hid (HT.out.next hbx)
        replace BX := Lib.hid (BX.out.below hbx BX.out.lt)
        replace BY := Lib.hid (BY.out.below hbx BY.out.lt)
        replace TA := Lib.hid (TA.out.below hbx)
        refine hK__ _ _ (SK.out _ HT.out) ?_
        clear hK__ hbx
        try simp only [Act.put]
        obtain ⟨t0, t1, t2, f0, f1, f2⟩ := Blk.three BX.out
        refine wpAnyT_one (i := 6) rfl (by kernel_rfl) rfl fun K__ hK__ => ?_
        unfold Oper.wp
        go_simp
        have hT1 := ((HT.out.farX (i := 0) (u := .slice x1 x2 x3) hX.out).farX (i := 1) (u := .slice x4 x5 x6) hX.out).farX (i := 2) (u := .slice x7 x8 x9) hX.out
        have bX1 := Blk.set3 (u0 := .slice x1 x2 x3) (u1 := .slice x4 x5 x6) (u2 := .slice x7 x8 x9) BX.out
        have bY1 := ((BY.out.far (p := ⟨X, 0, none⟩) (Ne.symm hxy.out) (.slice x1 x2 x3)).far (p := ⟨X, 1, none⟩) (Ne.symm hxy.out) (.slice x4 x5 x6)).far (p := ⟨X, 2, none⟩) (Ne.symm hxy.out) (.slice x7 x8 x9)
        have tA1 := ((TA.out.far (i := 0) (u := .slice x1 x2 x3) BX.out).far (i := 1) (u := .slice x4 x5 x6) (BX.out.set 0 _)).far (i := 2) (u := .slice x7 x8 x9) ((BX.out.set 0 _).set 1 _)
        have tB1 := ((TB.out.far (i := 0) (u := .slice x1 x2 x3) BX.out).far (i := 1) (u := .slice x4 x5 x6) (BX.out.set 0 _)).far (i := 2) (u := .slice x7 x8 x9) ((BX.out.set 0 _).set 1 _)
        refine hK__ _ _ (SK.out _ hT1) ?_
        clear hK__ t0 t1 t2 f0 f1 f2
        try simp only [Act.put]
        generalize (((W25.setCell ⟨X, 0, none⟩ (.slice x1 x2 x3)).setCell ⟨X, 1, none⟩ (.slice x4 x5 x6)).setCell ⟨X, 2, none⟩ (.slice x7 x8 x9)) = V9 at hT1 bX1 bY1 tA1 tB1 ⊢
        obtain ⟨t0, t1, t2, f0, f1, f2⟩ := Blk.three bY1
        refine wpAnyT_end (i := 7) rfl (by kernel_rfl) rfl (by kernel_rfl) fun K__ hK__ => ?_
        unfold Oper.wp
        go_simp
        refine hK__ _ _ ?_
        clear hK__
        refine wpAnyT_done (by kernel_rfl) ?_ _
        have hF := show TwF w #[.slice A1 n1 c1, .slice A2 n c2, .slice A3 n3 c3] #[.slice B1 m1 d1, .slice B2 m d2, .slice B3 m3 d3] d o X Y x1 x2 x3 x4 x5 x6 x7 x8 x9 y1 y2 y3 y4 y5 y6 y7 y8 y9 (((V9.setCell ⟨Y, 0, none⟩ (.slice y1 y2 y3)).setCell ⟨Y, 1, none⟩ (.slice y4 y5 y6)).setCell ⟨Y, 2, none⟩ (.slice y7 y8 y9)) from
          ⟨((hT1.farX hY.out).farX hY.out).farX hY.out, ((bX1.far (p := ⟨Y, 0, none⟩) hxy.out _).far (p := ⟨Y, 1, none⟩) hxy.out _).far (p := ⟨Y, 2, none⟩) hxy.out _, Blk.set3 bY1, hX.out, hY.out, hxy.out,
            ((tA1.far bY1).far (bY1.set 0 _)).far ((bY1.set 0 _).set 1 _), ((tB1.far bY1).far (bY1.set 0 _)).far ((bY1.set 0 _).set 1 _)⟩
        clear t0 t1 t2 f0 f1 f2 hT1 bX1 bY1 tA1 tB1
        generalize ((V9.setCell ⟨Y, 0, none⟩ (.slice y1 y2 y3)).setCell ⟨Y, 1, none⟩ (.slice y4 y5 y6)).setCell ⟨Y, 2, none⟩ (.slice y7 y8 y9) = W9 at hF ⊢
        exact rest X Y x1 x2 x3 x4 x5 x6 x7 x8 x9 y1 y2 y3 y4 y5 y6 y7 y8 y9 W9 hF
    · unfold Oper.wp
      go_simp
      have ba := (Below.refl W.heap.size W).alloc (Nat.le_refl _) (.cells #[.slice none 0 0, .slice none 0 0, .slice none 0 0] TDfa)
      have hY := Lib.hid HT.out.b.lt
      replace HT := Lib.hid (HT.out.next ba)
      have BY := Lib.hid (Blk.new W TDfa #[.slice none 0 0, .slice none 0 0, .slice none 0 0])
      refine hK__ _ _ (SK.out _ HT.out) ?_
      clear hK__ ba
      try simp only [Act.put]
      generalize W.alloc (.cells #[.slice none 0 0, .slice none 0 0, .slice none 0 0] TDfa) = W26 at HT BY ⊢
      generalize W.heap.size = Y at BY hY ⊢
      refine wpAnyT_two (i := 1) (j := 4) rfl rfl (by kernel_rfl) rfl rfl (fun K__ hK__ => ?_) (fun K__ hK__ => ?_)
      · unfold Oper.wp
        go_simp
        refine (HTWa.out W26 HT.out.be).mono ?_
        rintro e W27 ⟨v1, v2, v3, rfl, hown, hbx⟩
        obtain ⟨x1, x3, _, ev1, _, _⟩ := hown.c
        obtain ⟨x4, x6, _, ev2, _, _⟩ := hown.n
        obtain ⟨x7, x9, _, ev3, _, _⟩ := hown.a
        obtain ⟨x2, hk1⟩ : ∃ k, d.cuts.length = k := ⟨_, rfl⟩
        obtain ⟨x5, hk2⟩ : ∃ k, d.next.length = k := ⟨_, rfl⟩
        obtain ⟨x8, hk3⟩ : ∃ k, d.accept.length = k := ⟨_, rfl⟩
        rw [hk1] at ev1; rw [hk2] at ev2; rw [hk3] at ev3
        subst ev1; subst ev2; subst ev3
        have TA := Lib.hid (hown.lower HT.out.be.size)
        clear hk1 hk2 hk3 hown
        replace HT := Lib.hid (HT.out.next hbx)
        replace BY := Lib.hid (BY.out.below hbx BY.out.lt)
        refine hK__ _ _ (SK.out _ HT.out) ?_
        clear hK__ hbx
        try simp only [Act.put]
        refine wpAnyT_two (i := 3) (j := 4) rfl rfl (by kernel_rfl) rfl rfl (fun K__ hK__ => ?_) (fun K__ hK__ => ?_)
        · unfold Oper.wp
          go_simp
          refine (HTWb.out W27 HT.out.be).mono ?_
          rintro e W28 ⟨v1, v2, v3, rfl, hown, hbx⟩
          obtain ⟨y1, y3, _, ev1, _, _⟩ := hown.c
          obtain ⟨y4, y6, _, ev2, _, _⟩ := hown.n
          obtain ⟨y7, y9, _, ev3, _, _⟩ := hown.a
          obtain ⟨y2, hk1⟩ : ∃ k, o.cuts.length = k := ⟨_, rfl⟩
          obtain ⟨y5, hk2⟩ : ∃ k, o.next.length = k := ⟨_, rfl⟩
          obtain ⟨y8, hk3⟩ : ∃ k, o.accept.length = k := ⟨_, rfl⟩
          rw [hk1] at ev1; rw [hk2] at ev2; rw [hk3] at ev3
          subst ev1; subst ev2; subst ev3
          have TB := Lib.hid (hown.lower HT.out.be.size)
          clear hk1 hk2 hk3 hown
          replace HT := Lib.hid (HT.out.next hbx)
          replace BY := Lib.hid (BY.out.below hbx BY.out.lt)
          replace TA := Lib.hid (TA.out.below hbx)
          refine hK__ _ _ (SK.out _ HT.out) ?_
          clear hK__ hbx
          try simp only [Act.put]
          refine wpAnyT_one (i := 4) rfl (by kernel_rfl) rfl fun K__ hK__ => ?_
          unfold Oper.wp
          go_simp
          have ba := (Below.refl W28.heap.size W28).alloc (Nat.le_refl _) (.cells #[.slice none 0 0, .slice none 0 0, .slice none 0 0] TDfa)
          have hX := Lib.hid HT.out.b.lt
          have hxy : Hid (W28.heap.size ≠ Y) := Lib.hid (by have := BY.out.lt; omega)
          replace HT := Lib.hid (HT.out.next ba)
          replace BY := Lib.hid (BY.out.below ba BY.out.lt)
          replace TA := Lib.hid (TA.out.below ba)
          replace TB := Lib.hid (TB.out.below ba)
          have BX := Lib.hid (Blk.new W28 TDfa #[.slice none 0 0, .slice none 0 0, .slice none 0 0])
          refine hK__ _ _ (SK.out _ HT.out) ?_
          clear hK__ ba
          try simp only [Act.put]
          generalize W28.alloc (.cells #[.slice none 0 0, .slice none 0 0, .slice none 0 0] TDfa) = W29 at HT BX BY TA TB ⊢
          generalize W28.heap.size = X at BX hX hxy ⊢
          obtain ⟨t0, t1, t2, f0, f1, f2⟩ := Blk.three BX.out
          refine wpAnyT_one (i := 6) rfl (by kernel_rfl) rfl fun K__ hK__ => ?_
          unfold Oper.wp
          go_simp
          have hT1 := ((HT.out.farX (i := 0) (u := .slice x1 x2 x3) hX.out).farX (i := 1) (u := .slice x4 x5 x6) hX.out).farX (i := 2) (u := .slice x7 x8 x9) hX.out
          have bX1 := Blk.set3 (u0 := .slice x1 x2 x3) (u1 := .slice x4 x5 x6) (u2 := .slice x7 x8 x9) BX.out
          have bY1 := ((BY.out.far (p := ⟨X, 0, none⟩) (Ne.symm hxy.out) (.slice x1 x2 x3)).far (p := ⟨X, 1, none⟩) (Ne.symm hxy.out) (.slice x4 x5 x6)).far (p := ⟨X, 2, none⟩) (Ne.symm hxy.out) (.slice x7 x8 x9)
          have tA1 := ((TA.out.far (i := 0) (u := .slice x1 x2 x3) BX.out).far (i := 1) (u := .slice x4 x5 x6) (BX.out.set 0 _)).far (i := 2) (u := .slice x7 x8 x9) ((BX.out.set 0 _).set 1 _)
          have tB1 := ((TB.out.far (i := 0) (u := .slice x1 x2 x3) BX.out).far (i := 1) (u := .slice x4 x5 x6) (BX.out.set 0 _)).far (i := 2) (u := .slice x7 x8 x9) ((BX.out.set 0 _).set 1 _)
          refine hK__ _ _ (SK.out _ hT1) ?_
          clear hK__ t0 t1 t2 f0 f1 f2
          try simp only [Act.put]
          generalize (((W29.setCell ⟨X, 0, none⟩ (.slice x1 x2 x3)).setCell ⟨X, 1, none⟩ (.slice x4 x5 x6)).setCell ⟨X, 2, none⟩ (.slice x7 x8 x9)) = V9 at hT1 bX1 bY1 tA1 tB1 ⊢
          obtain ⟨t0, t1, t2, f0, f1, f2⟩ := Blk.three bY1
          refine wpAnyT_end (i := 7) rfl (by kernel_rfl) rfl (by kernel_rfl) fun K__ hK__ => ?_
          unfold Oper.wp
          go_simp
          refine hK__ _ _ ?_
          clear hK__
          refine wpAnyT_done (by kernel_rfl) ?_ _
          have hF := show TwF w #[.slice A1 n1 c1, .slice A2 n c2, .slice A3 n3 c3] #[.slice B1 m1 d1, .slice B2 m d2, .slice B3 m3 d3] d o X Y x1 x2 x3 x4 x5 x6 x7 x8 x9 y1 y2 y3 y4 y5 y6 y7 y8 y9 (((V9.setCell ⟨Y, 0, none⟩ (.slice y1 y2 y3)).setCell ⟨Y, 1, none⟩ (.slice y4 y5 y6)).setCell ⟨Y, 2, none⟩ (.slice y7 y8 y9)) from
            ⟨((hT1.farX hY.out).farX hY.out).farX hY.out, ((bX1.far (p := ⟨Y, 0, none⟩) hxy.out _).far (p := ⟨Y, 1, none⟩) hxy.out _).far (p := ⟨Y, 2, none⟩) hxy.out _, Blk.set3 bY1, hX.out, hY.out, hxy.out,
              ((tA1.far bY1).far (bY1.set 0 _)).far ((bY1.set 0 _).set 1 _), ((tB1.far bY1).far (bY1.set 0 _)).far ((bY1.set 0 _).set 1 _)⟩
          clear t0 t1 t2 f0 f1 f2 hT1 bX1 bY1 tA1 tB1
          generalize ((V9.setCell ⟨Y, 0, none⟩ (.slice y1 y2 y3)).setCell ⟨Y, 1, none⟩ (.slice y4 y5 y6)).setCell ⟨Y, 2, none⟩ (.slice y7 y8 y9) = W9 at hF ⊢
          exact rest X Y x1 x2 x3 x4 x5 x6 x7 x8 x9 y1 y2 y3 y4 y5 y6 y7 y8 y9 W9 hF
        · unfold Oper.wp
          go_simp
          have ba := (Below.refl W27.heap.size W27).alloc (Nat.le_refl _) (.cells #[.slice none 0 0, .slice none 0 0, .slice none 0 0] TDfa)
          have hX := Lib.hid HT.out.b.lt
          have hxy : Hid (W27.heap.size ≠ Y) := Lib.hid (by have := BY.out.lt; omega)
          replace HT := Lib.hid (HT.out.next ba)
          replace BY := Lib.hid (BY.out.below ba BY.out.lt)
          replace TA := Lib.hid (TA.out.below ba)
          have BX := Lib.hid (Blk.new W27 TDfa #[.slice none 0 0, .slice none 0 0, .slice none 0 0])
          refine hK__ _ _ (SK.out _ HT.out) ?_
          clear hK__ ba
          try simp only [Act.put]
          generalize W27.alloc (.cells #[.slice none 0 0, .slice none 0 0, .slice none 0 0] TDfa) = W30 at HT BX BY TA ⊢
          generalize W27.heap.size = X at BX hX hxy ⊢
          refine wpAnyT_one (i := 3) rfl (by kernel_rfl) rfl fun K__ hK__ => ?_
          unfold Oper.wp
          go_simp
          refine (HTWb.out W30 HT.out.be).mono ?_
          rintro e W31 ⟨v1, v2, v3, rfl, hown, hbx⟩
          obtain ⟨y1, y3, _, ev1, _, _⟩ := hown.c
          obtain ⟨y4, y6, _, ev2, _, _⟩ := hown.n
          obtain ⟨y7, y9, _, ev3, _, _⟩ := hown.a
          obtain ⟨y2, hk1⟩ : ∃ k, o.cuts.length = k := ⟨_, rfl⟩
          obtain ⟨y5, hk2⟩ : ∃ k, o.next.length = k := ⟨_, rfl⟩
          obtain ⟨y8, hk3⟩ : ∃ k, o.accept.length = k := ⟨_, rfl⟩
          rw [hk1] at ev1; rw [hk2] at ev2; rw [hk3] at ev3
          subst ev1; subst ev2; subst ev3
          have TB := Lib.hid (hown.lower HT.out.be.size)
          clear hk1 hk2 hk3 hown
          replace HT := Lib.hid (HT.out.next hbx)
          replace BX := Lib.hid (BX.out.below hbx BX.out.lt)
          replace BY := Lib.hid (BY.out.below hbx BY.out.lt)
          replace TA := Lib.hid (TA.out.below hbx)
          refine hK__ _ _ (SK.out _ HT.out) ?_
          clear hK__ hbx
          try simp only [Act.put]
          obtain ⟨t0, t1, t2, f0, f1, f2⟩ := Blk.three BX.out
          refine wpAnyT_one (i := 6) rfl (by kernel_rfl) rfl fun K__ hK__ => ?_
          unfold Oper.wp
          go_simp
          have hT1 := ((HT.out.farX (i := 0) (u := .slice x1 x2 x3) hX.out).farX (i := 1) (u := .slice x4 x5 x6) hX.out).farX (i := 2) (u := .slice x7 x8 x9) hX.out
          have bX1 := Blk.set3 (u0 := .slice x1 x2 x3) (u1 := .slice x4 x5 x6) (u2 := .slice x7 x8 x9) BX.out
          have bY1 := ((BY.out.far (p := ⟨X, 0, none⟩) (Ne.symm hxy.out) (.slice x1 x2 x3)).far (p := ⟨X, 1, none⟩) (Ne.symm hxy.out) (.slice x4 x5 x6)).far (p := ⟨X, 2, none⟩) (Ne.symm hxy.out) (.slice x7 x8 x9)
          have tA1 := ((TA.out.far (i := 0) (u := .slice x1 x2 x3) BX.out).far (i := 1) (u := .slice x4 x5 x6) (BX.out.set 0 _)).far (i := 2) (u := .slice x7 x8 x9) ((BX.out.set 0 _).set 1 _)
          have tB1 := ((TB.out.far (i := 0) (u := .slice x1 x2 x3) BX.out).far (i := 1) (u := .slice x4 x5 x6) (BX.out.set 0 _)).far (i := 2) (u := .slice x7 x8 x9) ((BX.out.set 0 _).set 1 _)
          refine hK__ _ _ (SK.out _ hT1) ?_
          clear hK__ t0 t1 t2 f0 f1 f2
          try simp only [Act.put]
          generalize (((W31.setCell ⟨X, 0, none⟩ (.slice x1 x2 x3)).setCell ⟨X, 1, none⟩ (.slice x4 x5 x6)).setCell ⟨X, 2, none⟩ (.slice x7 x8 x9)) = V9 at hT1 bX1 bY1 tA1 tB1 ⊢
          obtain ⟨t0, t1, t2, f0, f1, f2⟩ := Blk.three bY1
          refine wpAnyT_end (i := 7) rfl (by kernel_rfl) rfl (by kernel_rfl) fun K__ hK__ => ?_
          unfold Oper.wp
          go_simp
          refine hK__ _ _ ?_
          clear hK__
          refine wpAnyT_done (by kernel_rfl) ?_ _
          have hF := show TwF w #[.slice A1 n1 c1, .slice A2 n c2, .slice A3 n3 c3] #[.slice B1 m1 d1, .slice B2 m d2, .slice B3 m3 d3] d o X Y x1 x2 x3 x4 x5 x6 x7 x8 x9 y1 y2 y3 y4 y5 y6 y7 y8 y9 (((V9.setCell ⟨Y, 0, none⟩ (.slice y1 y2 y3)).setCell ⟨Y, 1, none⟩ (.slice y4 y5 y6)).setCell ⟨Y, 2, none⟩ (.slice y7 y8 y9)) from
            ⟨((hT1.farX hY.out).farX hY.out).farX hY.out, ((bX1.far (p := ⟨Y, 0, none⟩) hxy.out _).far (p := ⟨Y, 1, none⟩) hxy.out _).far (p := ⟨Y, 2, none⟩) hxy.out _, Blk.set3 bY1, hX.out, hY.out, hxy.out,
              ((tA1.far bY1).far (bY1.set 0 _)).far ((bY1.set 0 _).set 1 _), ((tB1.far bY1).far (bY1.set 0 _)).far ((bY1.set 0 _).set 1 _)⟩
          clear t0 t1 t2 f0 f1 f2 hT1 bX1 bY1 tA1 tB1
          generalize ((V9.setCell ⟨Y, 0, none⟩ (.slice y1 y2 y3)).setCell ⟨Y, 1, none⟩ (.slice y4 y5 y6)).setCell ⟨Y, 2, none⟩ (.slice y7 y8 y9) = W9 at hF ⊢
          exact rest X Y x1 x2 x3 x4 x5 x6 x7 x8 x9 y1 y2 y3 y4 y5 y6 y7 y8 y9 W9 hF
      · unfold Oper.wp
        go_simp
        have ba := (Below.refl W26.heap.size W26).alloc (Nat.le_refl _) (.cells #[.slice none 0 0, .slice none 0 0, .slice none 0 0] TDfa)
        have hX := Lib.hid HT.out.b.lt
        have hxy : Hid (W26.heap.size ≠ Y) := Lib.hid (by have := BY.out.lt; omega)
        replace HT := Lib.hid (HT.out.next ba)
        replace BY := Lib.hid (BY.out.below ba BY.out.lt)
        have BX := Lib.hid (Blk.new W26 TDfa #[.slice none 0 0, .slice none 0 0, .slice none 0 0])
        refine hK__ _ _ (SK.out _ HT.out) ?_
        clear hK__ ba
        try simp only [Act.put]
        generalize W26.alloc (.cells #[.slice none 0 0, .slice none 0 0, .slice none 0 0] TDfa) = W32 at HT BX BY ⊢
        generalize W26.heap.size = X at BX hX hxy ⊢
        refine wpAnyT_one (i := 1) rfl (by kernel_rfl) rfl fun K__ hK__ => ?_
        unfold Oper.wp
        go_simp
        refine (HTWa.out W32 HT.out.be).mono ?_
        rintro e W33 ⟨v1, v2, v3, rfl, hown, hbx⟩
        obtain ⟨x1, x3, _, ev1, _, _⟩ := hown.c
        obtain ⟨x4, x6, _, ev2, _, _⟩ := hown.n
        obtain ⟨x7, x9, _, ev3, _, _⟩ := hown.a
        obtain ⟨x2, hk1⟩ : ∃ k, d.cuts.length = k := ⟨_, rfl⟩
        obtain ⟨x5, hk2⟩ : ∃ k, d.next.length = k := ⟨_, rfl⟩
        obtain ⟨x8, hk3⟩ : ∃ k, d.accept.length = k := ⟨_, rfl⟩
        rw [hk1] at ev1; rw [hk2] at ev2; rw [hk3] at ev3
        subst ev1; subst ev2; subst ev3
        have TA := Lib.hid (hown.lower HT.out.be.size)
        clear hk1 hk2 hk3 hown
        replace HT := Lib.hid (HT.out.next hbx)
        replace BX := Lib.hid (BX.out.below hbx BX.out.lt)
        replace BY := Lib.hid (BY.out.below hbx BY.out.lt)
        refine hK__ _ _ (SK.out _ HT.out) ?_
        clear hK__ hbx
        try simp only [Act.put]
        refine wpAnyT_one (i := 3) rfl (by kernel_rfl) rfl fun K__ hK__ => ?_
        unfold Oper.wp
        go_simp
        refine (HTWb.out W33 HT.out.be).mono ?_
        rintro e W34 ⟨v1, v2, v3, rfl, hown, hbx⟩
        obtain ⟨y1, y3, _, ev1, _, _⟩ := hown.c
        obtain ⟨y4, y6, _, ev2, _, _⟩ := hown.n
        obtain ⟨y7, y9, _, ev3, _, _⟩ := hown.a
        obtain ⟨y2, hk1⟩ : ∃ k, o.cuts.length = k := ⟨_, rfl⟩
        obtain ⟨y5, hk2⟩ : ∃ k, o.next.length = k := ⟨_, rfl⟩
        obtain ⟨y8, hk3⟩ : ∃ k, o.accept.length = k := ⟨_, rfl⟩
        rw [hk1] at ev1; rw [hk2] at ev2; rw [hk3] at ev3
        subst ev1; subst ev2; subst ev3
        have TB := Lib.hid (hown.lower HT.out.be.size)
        clear hk1 hk2 hk3 hown
        replace HT := Lib.hid (HT.out.next hbx)
        replace BX := Lib.hid (BX.out.below hbx BX.out.lt)
        replace BY := Lib.hid (BY.out.below hbx BY.out.lt)
        replace TA := Lib.hid (TA.out.below hbx)
        refine hK__ _ _ (SK.out _ HT.out) ?_
        clear hK__ hbx
        try simp only [Act.put]
        obtain ⟨t0, t1, t2, f0, f1, f2⟩ := Blk.three BX.out
        refine wpAnyT_one (i := 6) rfl (by kernel_rfl) rfl fun K__ hK__ => ?_
        unfold Oper.wp
        go_simp
        have hT1 := ((HT.out.farX (i := 0) (u := .slice x1 x2 x3) hX.out).farX (i := 1) (u := .slice x4 x5 x6) hX.out).farX (i := 2) (u := .slice x7 x8 x9) hX.out
        have bX1 := Blk.set3 (u0 := .slice x1 x2 x3) (u1 := .slice x4 x5 x6) (u2 := .slice x7 x8 x9) BX.out
        have bY1 := ((BY.out.far (p := ⟨X, 0, none⟩) (Ne.symm hxy.out) (.slice x1 x2 x3)).far (p := ⟨X, 1, none⟩) (Ne.symm hxy.out) (.slice x4 x5 x6)).far (p := ⟨X, 2, none⟩) (Ne.symm hxy.out) (.slice x7 x8 x9)
        have tA1 := ((TA.out.far (i := 0) (u := .slice x1 x2 x3) BX.out).far (i := 1) (u := .slice x4 x5 x6) (BX.out.set 0 _)).far (i := 2) (u := .slice x7 x8 x9) ((BX.out.set 0 _).set 1 _)
        have tB1 := ((TB.out.far (i := 0) (u := .slice x1 x2 x3) BX.out).far (i := 1) (u := .slice x4 x5 x6) (BX.out.set 0 _)).far (i := 2) (u := .slice x7 x8 x9) ((BX.out.set 0 _).set 1 _)
        refine hK__ _ _ (SK.out _ hT1) ?_
        clear hK__ t0 t1 t2 f0 f1 f2
        try simp only [Act.put]
        generalize (((W34.setCell ⟨X, 0, none⟩ (.slice x1 x2 x3)).setCell ⟨X, 1, none⟩ (.slice x4 x5 x6)).setCell ⟨X, 2, none⟩ (.slice x7 x8 x9)) = V9 at hT1 bX1 bY1 tA1 tB1 ⊢
        obtain ⟨t0, t1, t2, f0, f1, f2⟩ := Blk.three bY1
        refine wpAnyT_end (i := 7) rfl (by kernel_rfl) rfl (by kernel_rfl) fun K__ hK__ => ?_
        unfold Oper.wp
        go_simp
        refine hK__ _ _ ?_
        clear hK__
        refine wpAnyT_done (by kernel_rfl) ?_ _
        have hF := show TwF w #[.slice A1 n1 c1, .slice A2 n c2, .slice A3 n3 c3] #[.slice B1 m1 d1, .slice B2 m d2, .slice B3 m3 d3] d o X Y x1 x2 x3 x4 x5 x6 x7 x8 x9 y1 y2 y3 y4 y5 y6 y7 y8 y9 (((V9.setCell ⟨Y, 0, none⟩ (.slice y1 y2 y3)).setCell ⟨Y, 1, none⟩ (.slice y4 y5 y6)).setCell ⟨Y, 2, none⟩ (.slice y7 y8 y9)) from
          ⟨((hT1.farX hY.out).farX hY.out).farX hY.out, ((bX1.far (p := ⟨Y, 0, none⟩) hxy.out _).far (p := ⟨Y, 1, none⟩) hxy.out _).far (p := ⟨Y, 2, none⟩) hxy.out _, Blk.set3 bY1, hX.out, hY.out, hxy.out,
            ((tA1.far bY1).far (bY1.set 0 _)).far ((bY1.set 0 _).set 1 _), ((tB1.far bY1).far (bY1.set 0 _)).far ((bY1.set 0 _).set 1 _)⟩
        clear t0 t1 t2 f0 f1 f2 hT1 bX1 bY1 tA1 tB1
        generalize ((V9.setCell ⟨Y, 0, none⟩ (.slice y1 y2 y3)).setCell ⟨Y, 1, none⟩ (.slice y4 y5 y6)).setCell ⟨Y, 2, none⟩ (.slice y7 y8 y9) = W9 at hF ⊢
        exact rest X Y x1 x2 x3 x4 x5 x6 x7 x8 x9 y1 y2 y3 y4 y5 y6 y7 y8 y9 W9 hF
  case rest =>
    intro X Y x1 x2 x3 x4 x5 x6 x7 x8 x9 y1 y2 y3 y4 y5 y6 y7 y8 y9 W9 hF
    have HF := Lib.hid hF
    clear hF
    have HDA := Lib.hid (HF.out.a.at' (by rw [HD.out.hc.out]; exact hTa.out.1) (by rw [HD.out.hn.out]; exact hTa.out.2.1) (by rw [HD.out.ha.out]; exact hTa.out.2.2.1))
    have HOB := Lib.hid (HF.out.b.at' (by rw [HO.out.hc.out]; exact hTb.out.1) (by rw [HO.out.hn.out]; exact hTb.out.2.1) (by rw [HO.out.ha.out]; exact hTb.out.2.2.1))
    obtain ⟨bx0, bx1, bx2, _, _, _⟩ := Blk.three HF.out.x
    have hlX := HF.out.x.lt
    have HL1 := Lib.hid (least_Least x1 x4 x7 x3 x6 x9 x2 x5 x8 d W9 HDA.out)
    go_wp2_with fail
    refine HL1.out.mono ?_
    intro e w3 hr
    obtain ⟨E1, k1, g1, E2, k2, g2, E3, k3, g3, rfl, hres, hb3⟩ := hr.opens
    obtain ⟨code, hcode⟩ : ∃ code, lsE d = code := ⟨_, rfl⟩
    have HCODE := Lib.hid hcode
    rw [hcode]
    have ba := (Below.refl w3.heap.size w3).alloc (Nat.le_refl _) (.cells #[.slice E1 k1 g1, .slice E2 k2 g2, .slice E3 k3 g3] TDfa)
    have hb4 := hb3.trans (ba.mono hb3.size)
    have HF4 := Lib.hid (HF.out.next hb4)
    have HR4 := Lib.hid (hres.below ba)
    have BE4 := Lib.hid (Blk.new w3 TDfa #[.slice E1 k1 g1, .slice E2 k2 g2, .slice E3 k3 g3])
    have HB4 := Lib.hid hb4
    have HL2 := Lib.hid (ref11_Least A1 A2 A3 c1 c2 c3 n1 n n3 d _ (HD.out.keep (Keep.of HF4.out.t.be)))
    have HF3 := Lib.hid (HF.out.next hb3)
    obtain ⟨p0, p1, p2, _, _, _⟩ := Blk.three HF3.out.t.a
    have hN := HF3.out.t.a.lt
    clear hr hres hb3 ba hb4 hcode bx0 bx1 bx2 hlX HL1
    go_wp2_with fail
    refine HL2.out.mono ?_
    intro e w5 hr
    obtain ⟨F1, l1, h1, F2, l2, h2, F3, l3, h3, rfl, hres, hb5⟩ := hr.opens
    rw [HCODE.out]
    have ba := (Below.refl w5.heap.size w5).alloc (Nat.le_refl _) (.cells #[.slice F1 l1 h1, .slice F2 l2 h2, .slice F3 l3 h3] TDfa)
    have hb6 := hb5.trans (ba.mono hb5.size)
    have HF5 := Lib.hid (HF4.out.next hb5)
    have HF6 := Lib.hid (HF4.out.next hb6)
    have HR6 := Lib.hid (HR4.out.below hb6)
    have HS6 := Lib.hid (hres.below ba)
    have BE6 := Lib.hid (BE4.out.below hb6 BE4.out.lt)
    have BF6 := Lib.hid (Blk.new w5 TDfa #[.slice F1 l1 h1, .slice F2 l2 h2, .slice F3 l3 h3])
    have HB6 := Lib.hid (HB4.out.trans (hb6.mono HB4.out.size))
    have HAP := Lib.hid (least_Apart x1 x4 x7 y1 y4 y7 x3 x6 x9 x2 x5 x8 y3 y6 y9 y2 y5 y8 d o _ (HDA.out.keep (Keep.of HB6.out)) (HOB.out.keep (Keep.of HB6.out)))
    obtain ⟨q0, q1, q2, _, _, _⟩ := Blk.three HF5.out.x
    obtain ⟨r0, r1, r2, _, _, _⟩ := Blk.three HF5.out.y
    have hlX := HF5.out.x.lt; have hlY := HF5.out.y.lt
    generalize w3.heap.size = XE at *
    clear hr hres hb5 ba hb6 p0 p1 p2 hN HL2 HF4 HR4 BE4 HB4
    go_wp2_with fail
    refine HAP.out.mono ?_
    rintro e w7 ⟨v, rfl, hv, hb7⟩
    generalize w5.heap.size = XF at *
    have HV7 := Lib.hid hv
    obtain ⟨V1, vc, ev, _⟩ := hv
    obtain ⟨q, hq⟩ : ∃ q, ((apW d o).getD []).length = q := ⟨_, rfl⟩
    have HQ := Lib.hid hq
    rw [hq] at ev
    subst ev
    obtain ⟨is, his⟩ : ∃ is, (apW d o).isSome = is := ⟨_, rfl⟩
    obtain ⟨ae, hae⟩ : ∃ ae, apE d o = ae := ⟨_, rfl⟩
    have HIS := Lib.hid his; have HAE := Lib.hid hae
    rw [his, hae]
    have HF7 := Lib.hid (HF6.out.next hb7)
    have HR7 := Lib.hid (HR6.out.below hb7); have HS7 := Lib.hid (HS6.out.below hb7)
    have BE7 := Lib.hid (BE6.out.below hb7 BE6.out.lt); have BF7 := Lib.hid (BF6.out.below hb7 BF6.out.lt)
    have HB7 := Lib.hid (HB6.out.trans (hb7.mono HB6.out.size))
    have HRA := Lib.hid (ref11_Apart A1 A2 A3 B1 B2 B3 c1 c2 c3 n1 n n3 d1 d2 d3 m1 m m3 d o w7 (HD.out.keep (Keep.of HF7.out.t.be)) (HO.out.keep (Keep.of HF7.out.t.be)))
    clear hb7 hq his hae q0 q1 q2 r0 r1 r2 hlX hlY HF3 HF5 HF6 HR6 HS6 BE6 BF6 HB6 HAP
    obtain ⟨p0, p1, p2, _, _, _⟩ := Blk.three HF7.out.t.a
    obtain ⟨q0, q1, q2, _, _, _⟩ := Blk.three HF7.out.t.b
    have hNa := HF7.out.t.a.lt; have hNb := HF7.out.t.b.lt
    go_wp2_with fail
    refine HRA.out.mono ?_
    rintro e w8 ⟨u, rfl, hu, hb8⟩
    have HU8 := Lib.hid hu
    obtain ⟨U1, uc, eu, _⟩ := hu
    rw [HQ.out] at eu
    subst eu
    rw [HIS.out, HAE.out]
    have HF8 := Lib.hid (HF7.out.next hb8)
    have HR8 := Lib.hid (HR7.out.below hb8); have HS8 := Lib.hid (HS7.out.below hb8)
    have BE8 := Lib.hid (BE7.out.below hb8 BE7.out.lt); have BF8 := Lib.hid (BF7.out.below hb8 BF7.out.lt)
    have HV8 := Lib.hid (OwnI.below HV7.out hb8)
    have HB8 := Lib.hid (HB7.out.trans (hb8.mono HB7.out.size))
    have hsm := ref10_Same E1 E2 E3 F1 F2 F3 g1 g2 g3 k1 k2 k3 h1 h2 h3 l1 l2 l3 (lsD d) (lsD d) w8 (Res.at' HR8.out) (Res.at' HS8.out)
    rw [yes_t (p := lsD d = lsD d) rfl] at hsm
    have HSM := Lib.hid hsm
    clear hb8 p0 p1 p2 q0 q1 q2 hNa hNb HF7 HR7 HS7 BE7 BF7 HV7 HB7 HRA hsm
    obtain ⟨p0, p1, p2, _, _, _⟩ := Blk.three BE8.out
    obtain ⟨q0, q1, q2, _, _, _⟩ := Blk.three BF8.out
    have hNa := BE8.out.lt; have hNb := BF8.out.lt
    go_wp2_with fail
    refine HSM.out.mono ?_
    rintro e w10 ⟨rfl, hb10⟩
    have HF10 := Lib.hid (HF8.out.next hb10)
    have HR10 := Lib.hid (HR8.out.below hb10)
    have BE10 := Lib.hid (BE8.out.below hb10 BE8.out.lt)
    have HB10 := Lib.hid (HB8.out.trans (hb10.mono HB8.out.size))
    obtain ⟨hwl, hwb⟩ := apW_bd d o
    have HV10 := OwnI.below HV8.out hb10
    have HU10 := OwnI.below HU8.out hb10
    have hatV := OwnI.atL HV10 (fun x hx => by have := hwb x hx; omega) HQ (by have := HQ.out; omega)
    have hatU := OwnI.atL HU10 (fun x hx => by have := hwb x hx; omega) HQ (by have := HQ.out; omega)
    have hsi := ref11_SameInts V1 U1 vc uc q q _ _ w10 hatV hatU HQ HQ
    rw [decide_eq_true (p := (apW d o).getD [] = (apW d o).getD []) rfl] at hsi
    have HSI := Lib.hid hsi
    clear hb10 hwl hwb HV10 HU10 hatV hatU hsi p0 p1 p2 q0 q1 q2 hNa hNb HSM HF8 HR8 HS8 BE8 BF8 HV8 HU8 HB8
    go_wp2_with fail
    refine HSI.out.mono ?_
    rintro e w12 ⟨rfl, nd, hw12⟩
    have hb12 : Below w10.heap.size w10 w12 := by rw [hw12]; exact below_drewN (Below.refl _ _) nd
    have HF12 := Lib.hid (HF10.out.next hb12)
    have HR12 := Lib.hid (HR10.out.below hb12)
    have BE12 := Lib.hid (BE10.out.below hb12 BE10.out.lt)
    have HB12 := Lib.hid (HB10.out.trans (hb12.mono HB10.out.size))
    clear hw12 hb12 HF10 HR10 BE10 HB10 HSI
    have hbs := HB12.out.size
    obtain ⟨z1, z2, z3, z4, z5⟩ := lsD_bd d
    have hk1 : k1 ≤ 256 := by
      obtain ⟨A', c', e', _⟩ := HR12.out.c
      injection e' with _ e2 _
      omega
    have hk2 : k2 ≤ 64 := by
      obtain ⟨A', c', us', e', _⟩ := HR12.out.r
      injection e' with _ e2 _
      omega
    have HWR := Lib.hid (fun (i : Nat) (hi : i < k2) => Ls.way HR12.out.r (fun l hl => (z5 l hl).1) hi)
    have HWC := Lib.hid (OwnI.way HR12.out.c)
    clear z1 z2 z3 z4 z5
    go_wp2
    go_loopw [18] (fun iv wr => ∃ i : Nat, iv = .int .i64 i ∧ i ≤ k2 ∧ MutI W9.heap.size w12 wr) (fun iv _ => k2 - (intOf iv).toNat)
    case atStart => exact ⟨0, rfl, by omega, MutI.refl _ _⟩
    case round =>
      obtain ⟨i, rfl, hi, hmu⟩ := hrel
      have MU := Lib.hid hmu
      clear hmu
      have p0 := (MU.out.blk BE12.out (by decide)).cell 0
      have p1 := (MU.out.blk BE12.out (by decide)).cell 1
      by_cases hlt : i < k2
      · obtain ⟨g, cur, S, m, cs, rfl, hbk, hcur, hm, hrow⟩ := HWR.out i hlt
        have HBK := Lib.hid hbk; have HCU := Lib.hid hcur; have HRO := Lib.hid hrow
        clear hbk hcur hrow
        go_wp2
        go_loopw [19] (fun kv wr => ∃ k : Nat, kv = .int .i64 k ∧ k ≤ m ∧ MutI W9.heap.size w12 wr) (fun kv _ => m - (intOf kv).toNat)
        case atStart => exact ⟨0, rfl, by omega, MU.out⟩
        case round =>
          clear p0 p1
          obtain ⟨k, rfl, hk, hmu⟩ := hrel
          have MV := Lib.hid hmu
          clear hmu
          have p1 := (MV.out.blk BE12.out (by decide)).cell 1
          have p2 := ((MV.out.blk HBK.out (by decide)).cell i).trans HCU.out
          by_cases hkt : k < m
          · obtain ⟨b, cs3, rfl, hbb, hb3, ho⟩ := HRO.out k hkt
            obtain ⟨v, hv, hfz⟩ := MV.out.cell hb3 ho
            have MY := Lib.hid (MV.out.set (i := k) (u := .int .i64 (-7)) ⟨cs3, hb3⟩ hbb)
            clear hb3
            go_wp2
            go_roundw
            case rel => exact ⟨k + 1, by go_num, by omega, MY.out⟩
            case measure => simp [intOf]; omega
          · go_wp2
            go_roundw
            case rel => exact ⟨i + 1, by go_num, by omega, MV.out⟩
            case measure => simp [intOf]; omega
      · go_wp2
        go_loopw [20] (fun jv wr => ∃ j : Nat, jv = .int .i64 j ∧ j ≤ k1 ∧ MutI W9.heap.size w12 wr) (fun jv _ => k1 - (intOf jv).toNat)
        case atStart => exact ⟨0, rfl, by omega, MU.out⟩
        case round =>
          clear p0 p1
          obtain ⟨j, rfl, hj, hmu⟩ := hrel
          have MX := Lib.hid hmu
          clear hmu
          have p0 := (MX.out.blk BE12.out (by decide)).cell 0
          by_cases hjt : j < k1
          · obtain ⟨b, cs3, rfl, hbb, hb3, ho⟩ := HWC.out j hjt
            obtain ⟨v, hv, hfz⟩ := MX.out.cell hb3 ho
            have MY := Lib.hid (MX.out.set (i := j) (u := .int .i64 (-7)) ⟨cs3, hb3⟩ hbb)
            clear hb3
            go_wp2
            go_roundw
            case rel => exact ⟨j + 1, by go_num, by omega, MY.out⟩
            case measure => simp [intOf]; omega
          · have HBZ := Lib.hid (HB12.out.trans (MX.out.below hbs))
            have HFZ := Lib.hid (HF.out.next HBZ.out)
            have hs1 := ref10_Same x1 x4 x7 A1 A2 A3 x3 x6 x9 x2 x5 x8 c1 c2 c3 n1 n n3 d d _ (HDA.out.keep (Keep.of HBZ.out)) (HD.out.keep (Keep.of HFZ.out.t.be))
            rw [yes_t (p := d = d) rfl] at hs1
            have HS1 := Lib.hid hs1
            obtain ⟨q0, q1, q2, _, _, _⟩ := Blk.three HFZ.out.x
            obtain ⟨r0, r1, r2, _, _, _⟩ := Blk.three HFZ.out.t.a
            have hlX := HFZ.out.x.lt; have hlA := HFZ.out.t.a.lt
            clear hs1
            go_wp2_with fail
            refine HS1.out.mono ?_
            rintro e w13 ⟨rfl, hb13⟩
            have HF13 := Lib.hid (HFZ.out.next hb13)
            have HB13 := Lib.hid (HBZ.out.trans (hb13.mono HBZ.out.size))
            have hs2 := ref10_Same y1 y4 y7 B1 B2 B3 y3 y6 y9 y2 y5 y8 d1 d2 d3 m1 m m3 o o _ (HOB.out.keep (Keep.of HB13.out)) (HO.out.keep (Keep.of HF13.out.t.be))
            rw [yes_t (p := o = o) rfl] at hs2
            have HS2 := Lib.hid hs2
            clear q0 q1 q2 r0 r1 r2 hlX hlA hb13 hs2 HS1
            obtain ⟨q0, q1, q2, _, _, _⟩ := Blk.three HF13.out.y
            obtain ⟨r0, r1, r2, _, _, _⟩ := Blk.three HF13.out.t.b
            have hlX := HF13.out.y.lt; have hlA := HF13.out.t.b.lt
            go_wp2_with fail
            refine HS2.out.mono ?_
            rintro e w14 ⟨rfl, hb14⟩
            have HF14 := Lib.hid (HF13.out.next hb14)
            go_wp2
            go_ret
            exact ⟨rfl, HF14.out.t.be⟩
end Go.Proofs.Ytjnjbcigbnjmkaa
