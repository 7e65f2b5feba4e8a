/- Rows that grow side by side: what keeps them. PUT1 -/
import Derived.Test.YtjnjbcigbnjmkaaGreatGky
namespace Go.Proofs.YtjnjbcigbnjmkaaGreat
open Go.RowKit Pv

/-- A block of lists of the call's own, no two in one block, none in block x. -/
def Cols (w : World) (base g m : Nat) (x : Option Nat) (f : Nat → List Int) : Prop :=
  ∃ vs : List Value, vs.length = m ∧ Blk w g TLL vs.toArray ∧ base ≤ g ∧ (∀ (i : Nat) (u : Value), vs[i]? = some u → OwnI w base u (f i) ∧ (u.ownBlock = none ∨ u.ownBlock ≠ x)) ∧ ∀ (i j : Nat) (u v : Value), i ≠ j → vs[i]? = some u → vs[j]? = some v → u.ownBlock = none ∨ u.ownBlock ≠ v.ownBlock
/-- What turns only blocks of one type, and makes memory. -/
structure Oth (T : TypeId) (w w' : World) : Prop where
  os : w'.os = w.os
  tape : w'.tape = w.tape
  output : w'.output = w.output
  size : w.heap.size ≤ w'.heap.size
  blk : ∀ g t cs, t ≠ T → Blk w g t cs → Blk w' g t cs
theorem Oth.of {T : TypeId} {w w' : World} (h : Below w.heap.size w w') : Oth T w w' := ⟨h.os, h.tape, h.output, h.size, fun _ _ _ _ hb => hb.below h hb.lt⟩
theorem Oth.refl (T : TypeId) (w : World) : Oth T w w := .of (Below.refl _ _)
theorem Oth.trans {T : TypeId} {a b c : World} (h : Oth T a b) (k : Oth T b c) : Oth T a c :=
  ⟨k.os.trans h.os, k.tape.trans h.tape, k.output.trans h.output, Nat.le_trans h.size k.size, fun g t cs ht hb => k.blk g t cs ht (h.blk g t cs ht hb)⟩
theorem Oth.own {T : TypeId} {w w' : World} {b s k : Nat} {e : TypeId} {v : Value} {us : List Value} (h : Oth T w w') (he : e ≠ T) (ho : w.ownsRow b e s v k us) : w'.ownsRow b e s v k us := by
  refine ⟨ho.1, ?_⟩
  rcases ho.2 with h2 | ⟨g, cap, cur, rfl, hg, hh, q⟩
  · exact .inl h2
  · exact .inr ⟨g, cap, cur, rfl, hg, h.blk g e cur he hh, q⟩
theorem Oth.ownI {T : TypeId} {w w' : World} {b : Nat} {v : Value} {l : List Int} (h : Oth T w w') (he : TLI ≠ T) (ho : OwnI w b v l) : OwnI w' b v l := by
  obtain ⟨A, c, rfl, h1⟩ := ho
  exact ⟨A, c, rfl, h.own he h1⟩
theorem Oth.ownB {T : TypeId} {w w' : World} {b : Nat} {v : Value} {l : List Bool} (h : Oth T w w') (he : 4 ≠ T) (ho : Own w b 4 RB v l) : Own w' b 4 RB v l := by
  obtain ⟨A, c, us, rfl, h1, h2⟩ := ho
  exact ⟨A, c, us, rfl, h.own he h1, h2⟩
section
variable {w w' : World} {base g m : Nat} {x : Option Nat} {f : Nat → List Int}
theorem Cols.lt (h : Cols w base g m x f) : g < w.heap.size := by obtain ⟨vs, _, h2, _⟩ := h; exact h2.lt
theorem Cols.blk (h : Cols w base g m x f) : ∃ cs, Blk w g TLL cs := by obtain ⟨vs, _, h2, _⟩ := h; exact ⟨_, h2⟩
theorem Cols.made (h : Blk w g TLL (madeCells #[.slice none 0 0] m)) (hb : base ≤ g) : Cols w base g m x fun _ => [] := by
  refine ⟨List.replicate m (.slice none 0 0), by simp, ?_, hb, fun i u hu => ?_, fun i j u v _ hu _ => ?_⟩
  · have e : madeCells #[.slice none 0 0] m = (List.replicate m (Value.slice none 0 0)).toArray := by
      refine Array.ext (by simp [size_madeCells]) fun i h1 h2 => ?_
      simp [madeCells, Nat.mod_one]
    rw [← e]; exact h
  · rw [List.getElem?_replicate] at hu
    split at hu
    · obtain rfl := Option.some.inj hu; exact ⟨OwnI.nil _ _, .inl rfl⟩
    · cases hu
  · rw [List.getElem?_replicate] at hu
    split at hu
    · obtain rfl := Option.some.inj hu; exact .inl rfl
    · cases hu
theorem Cols.below (h : Cols w base g m x f) (hb : Below w.heap.size w w') : Cols w' base g m x f := by
  obtain ⟨vs, h1, h2, h3, h4, h5⟩ := h
  exact ⟨vs, h1, h2.below hb h2.lt, h3, fun i u hu => ⟨OwnI.below (h4 i u hu).1 hb, (h4 i u hu).2⟩, h5⟩
theorem Cols.oth {T : TypeId} (h : Cols w base g m x f) (hb : Oth T w w') (h1 : TLL ≠ T) (h2 : TLI ≠ T) : Cols w' base g m x f := by
  obtain ⟨vs, k1, k2, k3, k4, k5⟩ := h
  exact ⟨vs, k1, hb.blk _ _ _ h1 k2, k3, fun i u hu => ⟨hb.ownI h2 (k4 i u hu).1, (k4 i u hu).2⟩, k5⟩
theorem Cols.get (h : Cols w base g m x f) {i k : Nat} (hi : i < m) (hk : (f i).length = k) : ∃ A c, w.cell? ⟨g, i, none⟩ = some (.slice A k c) ∧ w.frozen? ⟨g, i, none⟩ = false ∧ w.ownsRow base TLI 1 (.slice A k c) k ((f i).map (Value.int .i64)) ∧ ((Value.slice A k c).ownBlock = none ∨ (Value.slice A k c).ownBlock ≠ x) := by
  obtain ⟨vs, h1, h2, h3, h4, h5⟩ := h
  obtain ⟨u, hu⟩ : ∃ u, vs[i]? = some u := ⟨_, List.getElem?_eq_getElem (by omega)⟩
  obtain ⟨⟨A, c, rfl, h6⟩, h7⟩ := h4 i u hu
  rw [hk] at h6 h7 hu
  exact ⟨A, c, (h2.cell i).trans (by simp [hu]), h2.frozen i, h6, h7⟩
theorem Cols.row {b n : Nat} {rv rv' : Value} {us' : List Value} (h : Cols w base g m rv.ownBlock f) (hr : w.ownsRow b TLI 1 rv n us') (hg : w.grownBy w' rv.ownBlock) (hn : rv'.ownBlock = rv.ownBlock ∨ rv'.ownBlock = some w.heap.size) : Cols w' base g m rv'.ownBlock f := by
  obtain ⟨vs, h1, h2, h3, h4, h5⟩ := h
  exact ⟨vs, h1, h2.grown hg (own_blk_ne hr h2 (by decide)), h3, fun i u hu => ⟨(h4 i u hu).1.grown hg (h4 i u hu).2, off_new (h4 i u hu).2 (fun _ e => ((h4 i u hu).1.lt e).2) hn⟩, h5⟩
theorem Cols.other {b s n : Nat} {e : TypeId} {rv : Value} {us' : List Value} (h : Cols w base g m x f) (hr : w.ownsRow b e s rv n us') (h1 : TLL ≠ e) (h2 : TLI ≠ e) (hg : w.grownBy w' rv.ownBlock) : Cols w' base g m x f := by
  obtain ⟨vs, k1, k2, k3, k4, k5⟩ := h
  refine ⟨vs, k1, k2.grown hg (own_blk_ne hr k2 (fun e => h1 e.symm)), k3, fun i u hu => ⟨?_, (k4 i u hu).2⟩, k5⟩
  obtain ⟨B, d, rfl, h3⟩ := (k4 i u hu).1
  exact OwnI.grown ⟨B, d, rfl, h3⟩ hg (own_ne h3 hr h2)
theorem Cols.far {g' i : Nat} {t : TypeId} {cs : Array Value} {u : Value} (h : Cols w base g m x f) (hb : Blk w g' t cs) (h1 : TLL ≠ t) (h2 : TLI ≠ t) : Cols (w.setCell ⟨g', i, none⟩ u) base g m x f := by
  obtain ⟨vs, k1, k2, k3, k4, k5⟩ := h
  exact ⟨vs, k1, k2.far (p := ⟨g', i, none⟩) (k2.ne hb h1) u, k3, fun i u hu => ⟨OwnI.far (k4 i u hu).1 hb h2, (k4 i u hu).2⟩, k5⟩
theorem Cols.free (h : Cols w base g m x f) : Cols w base g m none f := by
  obtain ⟨vs, k1, k2, k3, k4, k5⟩ := h
  exact ⟨vs, k1, k2, k3, fun i u hu => ⟨(k4 i u hu).1, off_none _⟩, k5⟩
theorem Cols.congr {f' : Nat → List Int} (h : Cols w base g m x f) (e : ∀ i, i < m → f' i = f i) : Cols w base g m x f' := by
  obtain ⟨vs, k1, k2, k3, k4, k5⟩ := h
  exact ⟨vs, k1, k2, k3, fun i u hu => by rw [e i (by have := lt_of_get hu; omega)]; exact k4 i u hu, k5⟩
/-- A number more in row i. -/
theorem Cols.push {w2 : World} {A1 A2 : Option Addr} {c1 c2 k i : Nat} {y : Int} (h : Cols w base g m x f) (hi : i < m) (hk : (f i).length = k) (hc : w.cell? ⟨g, i, none⟩ = some (.slice A1 k c1)) (h1 : w.ownsRow base TLI 1 (.slice A1 k c1) k ((f i).map (Value.int .i64)))
    (own : w2.ownsRow base TLI 1 (.slice A2 (k + 1) c2) (k + 1) ((f i).map (Value.int .i64) ++ [.int .i64 y])) (gr : (w.alloc (.cells #[.int .i64 y] TLI)).grownBy w2 (Value.slice A1 k c1).ownBlock)
    (hn : (Value.slice A2 (k + 1) c2).ownBlock = (Value.slice A1 k c1).ownBlock ∨ (Value.slice A2 (k + 1) c2).ownBlock = some (w.alloc (.cells #[.int .i64 y] TLI)).heap.size) (hx : ∀ b, x = some b → b < w.heap.size) :
    Cols (w2.setCell ⟨g, i, none⟩ (.slice A2 (k + 1) c2)) base g m x fun j => if j = i then f i ++ [y] else f j := by
  obtain ⟨vs, k1, k2, k3, k4, k5⟩ := h
  have hb : Below w.heap.size w (w.alloc (.cells #[.int .i64 y] TLI)) := (Below.refl _ _).alloc (Nat.le_refl _) _
  have hu : vs[i]? = some (.slice A1 k c1) := by
    have h2 := k2.cell i
    rw [h2] at hc
    simpa using hc
  have h1' := ownsRow_below h1 hb
  have hd := (k2.below hb k2.lt).grown gr (own_blk_ne h1' (k2.below hb k2.lt) (by decide))
  have hN : ∀ v : Value, (v.ownBlock = none ∨ v.ownBlock ≠ (Value.slice A1 k c1).ownBlock) → (∀ b, v.ownBlock = some b → b < w.heap.size) → v.ownBlock = none ∨ v.ownBlock ≠ (Value.slice A2 (k + 1) c2).ownBlock := fun v h2 h3 => off_new h2 (fun b hb => by have := h3 b hb; simp; omega) hn
  have hl : (if i = i then f i ++ [y] else f i).length = k + 1 := by rw [if_pos rfl]; simp [hk]
  refine ⟨vs.set i (.slice A2 (k + 1) c2), by simp [k1], ?_, k3, fun j u hj => ?_, fun j j' u v hne hj hj' => ?_⟩
  · have := hd.set i (.slice A2 (k + 1) c2)
    rw [List.setIfInBounds_toArray] at this
    exact this
  · by_cases e : j = i
    · subst e
      rw [List.getElem?_set_self (by omega)] at hj
      obtain rfl := Option.some.inj hj
      refine ⟨⟨A2, c2, by rw [hl], ?_⟩, ?_⟩
      · show (w2.setCell ⟨g, j, none⟩ _).ownsRow base TLI 1 (.slice A2 _ c2) _ (List.map (Value.int .i64) (if j = j then f j ++ [y] else f j))
        rw [hl, if_pos rfl, List.map_append]
        exact ownsRow_setFar own hd (by decide) _ _
      · rcases hn with e | e
        · rw [e]; exact (k4 j _ hu).2
        · rw [e]; right; intro e2
          have := hx _ e2.symm
          simp at this
          omega
    · rw [List.getElem?_set_ne (Ne.symm e)] at hj
      have h4 := k4 j u hj
      show OwnI _ base u (if j = i then f i ++ [y] else f j) ∧ _
      rw [if_neg e]
      exact ⟨OwnI.far (OwnI.grown (OwnI.below h4.1 hb) gr (k5 j i u _ e hj hu)) hd (by decide), h4.2⟩
  · by_cases e : j = i
    · subst e
      rw [List.getElem?_set_self (by omega)] at hj
      obtain rfl := Option.some.inj hj
      rw [List.getElem?_set_ne hne] at hj'
      exact off_symm (hN v (k5 j' j v _ (Ne.symm hne) hj' hu) (fun b hb => ((k4 j' v hj').1.lt hb).2))
    · rw [List.getElem?_set_ne (Ne.symm e)] at hj
      by_cases e' : j' = i
      · subst e'
        rw [List.getElem?_set_self (by omega)] at hj'
        obtain rfl := Option.some.inj hj'
        exact hN u (k5 j j' u _ hne hj hu) (fun b hb => ((k4 j u hj).1.lt hb).2)
      · rw [List.getElem?_set_ne (Ne.symm e')] at hj'
        exact k5 j j' u v hne hj hj'
/-- All rows, as a list of lists. -/
theorem Cols.ls (h : Cols w base g m x f) (hm : m ≤ maxLen) {rows : List (List Int)} (hr : rows.length = m) (he : ∀ i r, rows[i]? = some r → r = f i) : Ls w base none (.slice (some ⟨g, 0, none⟩) m m) rows := by
  obtain ⟨vs, k1, k2, k3, k4, k5⟩ := h
  have h1 := own_blkF k2 k3 (m := m) (by simp [k1]) hm
  refine ⟨some ⟨g, 0, none⟩, m, vs, by rw [hr], by rw [hr]; simpa using h1, by rw [k1, hr], fun i u r hu hr => ?_⟩
  rw [he i r hr]
  exact ⟨(k4 i u hu).1, off_none _⟩
end
end Go.Proofs.YtjnjbcigbnjmkaaGreat
