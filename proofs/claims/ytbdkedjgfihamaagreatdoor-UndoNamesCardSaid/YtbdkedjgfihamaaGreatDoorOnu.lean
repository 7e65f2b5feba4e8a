/- Lists of elements of several cells that the call itself made. Nothing of a program stands here. -/
import Derived.Test.YtbdkedjgfihamaaGreatDoorMem3u
namespace Pv
open Go Go.RowKit

/-- Values, k to an element, that read as a list. -/
def RelK {α : Type} (k : Nat) (R : (Nat → Value) → α → Prop) (us : List Value) (xs : List α) : Prop :=
  us.length = xs.length * k ∧ ∀ (i : Nat) x, xs[i]? = some x → ∃ f : Nat → Value, (∀ j, j < k → us[i * k + j]? = some (f j)) ∧ R f x
theorem RelK.nil {α : Type} {k : Nat} {R : (Nat → Value) → α → Prop} : RelK k R [] ([] : List α) := ⟨by simp, fun i x h => by simp at h⟩
theorem idx_lt {i n k j : Nat} (hi : i < n) (hj : j < k) : i * k + j < n * k := by
  have h1 : (i + 1) * k ≤ n * k := Nat.mul_le_mul_right k hi
  rw [Nat.add_mul, Nat.one_mul] at h1
  omega
theorem RelK.app {α : Type} {k : Nat} {R : (Nat → Value) → α → Prop} {us vs : List Value} {xs ys : List α} (h : RelK k R us xs) (h' : RelK k R vs ys) : RelK k R (us ++ vs) (xs ++ ys) := by
  refine ⟨by rw [List.length_append, List.length_append, h.1, h'.1, Nat.add_mul], fun i x hx => ?_⟩
  by_cases hi : i < xs.length
  · rw [List.getElem?_append_left hi] at hx
    obtain ⟨f, hf, hr⟩ := h.2 i x hx
    exact ⟨f, fun j hj => by rw [List.getElem?_append_left (by rw [h.1]; exact idx_lt hi hj)]; exact hf j hj, hr⟩
  · rw [List.getElem?_append_right (by omega)] at hx
    obtain ⟨f, hf, hr⟩ := h'.2 _ x hx
    refine ⟨f, fun j hj => ?_, hr⟩
    have e : i * k = xs.length * k + (i - xs.length) * k := by rw [← Nat.add_mul]; congr 1; omega
    rw [List.getElem?_append_right (by rw [h.1, e]; omega), h.1, e, show xs.length * k + (i - xs.length) * k + j - xs.length * k = (i - xs.length) * k + j by omega]
    exact hf j hj
theorem RelK.one {α : Type} {k : Nat} {R : (Nat → Value) → α → Prop} {vs : List Value} {x : α} {f : Nat → Value} (hl : vs.length = k) (hf : ∀ j, j < k → vs[j]? = some (f j)) (hr : R f x) : RelK k R vs [x] := by
  refine ⟨by simp [hl], fun i y hy => ?_⟩
  match i with
  | 0 => simp at hy; subst hy; exact ⟨f, fun j hj => by rw [Nat.zero_mul, Nat.zero_add]; exact hf j hj, hr⟩
  | i + 1 => simp at hy
theorem RelK.mono {α : Type} {k : Nat} {R R' : (Nat → Value) → α → Prop} {us : List Value} {xs : List α} (h : RelK k R us xs) (hr : ∀ f x, x ∈ xs → R f x → R' f x) : RelK k R' us xs :=
  ⟨h.1, fun i x hx => by obtain ⟨f, hf, h1⟩ := h.2 i x hx; exact ⟨f, hf, hr f x (mem_of_get hx) h1⟩⟩

/-- v is a slice of the call's own (element type e, k cells each) that reads as xs. -/
def OwnK {α : Type} (w : World) (base : Nat) (e : TypeId) (k : Nat) (R : (Nat → Value) → α → Prop) (v : Value) (xs : List α) : Prop :=
  ∃ A c us, v = .slice A xs.length c ∧ w.ownsRow base e k (.slice A xs.length c) xs.length us ∧ RelK k R us xs

theorem AtK.of_own {α : Type} {w : World} {base e n c k : Nat} {A : Option Addr} {us : List Value} {R : (Nat → Value) → α → Prop} {xs : List α} 
    (h : w.ownsRow base e k (.slice A n c) n us) (hr : RelK k R us xs) (hn : n = xs.length) (hl : xs.length ≤ 140737488355328) : n ≤ c ∧ AtK w k A R xs := by
  subst hn
  rcases h.2 with ⟨hv, h0⟩ | ⟨g, cap, cur, hv, hg, hh, hnc, hcm, hcs, htk⟩
  · injection hv with e1 e2 e3
    subst e3
    exact ⟨by omega, hl, fun hp => absurd hp (by omega)⟩
  · injection hv with e1 e2 e3
    subst e1; subst e3
    refine ⟨hnc, hl, fun hp => ⟨g, 0, rfl, ?_, fun i x hx => ?_⟩⟩
    · rcases Nat.lt_or_ge g w.heap.size with hlt | hge
      · exact hlt
      · rw [Array.getElem?_eq_none hge] at hh; cases hh
    · obtain ⟨f, hf, hR⟩ := hr.2 i x hx
      refine ⟨f, fun j hj => ?_, hR⟩
      have hcur : cur[i * k + j]? = some (f j) := by
        have h1 := hf j hj
        rw [← htk, List.getElem?_take] at h1
        split at h1
        · simpa using h1
        · cases h1
      simp [World.cell?, hh, hcur]

section
variable {α : Type} {w w' : World} {base : Nat} {e : TypeId} {k : Nat} {R R' : (Nat → Value) → α → Prop} {v : Value} {xs : List α}
theorem OwnK.nil : OwnK w base e k R (.slice none 0 0) ([] : List α) := ⟨none, 0, [], rfl, World.ownsRow_nil _ _ _ _, RelK.nil⟩
theorem OwnK.monoR (h : OwnK w base e k R v xs) (hr : ∀ f x, x ∈ xs → R f x → R' f x) : OwnK w base e k R' v xs := by
  obtain ⟨A, c, us, rfl, h, k⟩ := h; exact ⟨A, c, us, rfl, h, k.mono hr⟩
theorem OwnK.alloc (h : OwnK w base e k R v xs) (o : Obj) : OwnK (w.alloc o) base e k R v xs := by
  obtain ⟨A, c, us, rfl, h, k⟩ := h; exact ⟨A, c, us, rfl, h.alloc o, k⟩
theorem OwnK.setFar (h : OwnK w base e k R v xs) {g : Nat} {t : TypeId} {cs : Array Value} (hb : Blk w g t cs) (hne : e ≠ t) (i : Nat) (u : Value) : OwnK (w.setCell ⟨g, i, none⟩ u) base e k R v xs := by
  obtain ⟨A, c, us, rfl, h, k⟩ := h; exact ⟨A, c, us, rfl, ownsRow_setFar h hb hne i u, k⟩
theorem OwnK.grown (h : OwnK w base e k R v xs) {b' : Nat} {e' : TypeId} {s' n' : Nat} {v' : Value} {us' : List Value} (h' : w.ownsRow b' e' s' v' n' us') (hne : e ≠ e') (hg : w.grownBy w' v'.ownBlock) : OwnK w' base e k R v xs := by
  obtain ⟨A, c, us, rfl, h, k⟩ := h; exact ⟨A, c, us, rfl, h.kept hg (own_ne h h' hne), k⟩
theorem OwnK.sl (h : OwnK w base e k R v xs) (hl : xs.length ≤ 140737488355328) : SlK w k R v xs := by
  obtain ⟨A, c, us, rfl, h, k⟩ := h
  obtain ⟨h2, h3⟩ := AtK.of_own h k rfl hl
  exact ⟨A, c, rfl, h3, h2⟩
theorem ownsRow_below {b e s n : Nat} {v : Value} {us : List Value} (h : w.ownsRow b e s v n us) (hb : Below w.heap.size w w') : w'.ownsRow b e s v n us := by
  refine ⟨h.1, ?_⟩
  rcases h.2 with h2 | ⟨g, cap, cur, hv, hg, hh, r⟩
  · exact .inl h2
  · refine .inr ⟨g, cap, cur, hv, hg, ?_, r⟩
    have : g < w.heap.size := by
      rcases Nat.lt_or_ge g w.heap.size with hlt | hge
      · exact hlt
      · rw [Array.getElem?_eq_none hge] at hh; cases hh
    exact (hb.block g this).trans hh
theorem OwnK.below (h : OwnK w base e k R v xs) (hb : Below w.heap.size w w') : OwnK w' base e k R v xs := by
  obtain ⟨A, c, us, rfl, h, k⟩ := h; exact ⟨A, c, us, rfl, ownsRow_below h hb, k⟩
theorem OwnK.lower {b' : Nat} (h : OwnK w base e k R v xs) (hb : b' ≤ base) : OwnK w b' e k R v xs := by
  obtain ⟨A, c, us, rfl, ⟨h0, h⟩, k⟩ := h
  refine ⟨A, c, us, rfl, ⟨h0, ?_⟩, k⟩
  rcases h with h2 | ⟨g, cap, cur, hv, hg, r⟩
  · exact .inl h2
  · exact .inr ⟨g, cap, cur, hv, Nat.le_trans hb hg, r⟩
theorem OwnK.one (h : OwnK w base e k R v xs) : v.oneCell' = true := by obtain ⟨A, c, us, rfl, _⟩ := h; rfl
end

/-- A list in memory as a source of an append. -/
theorem AtK.src {α : Type} {w : World} {A : Option Addr} {k : Nat} {R : (Nat → Value) → α → Prop} {xs : List α} (h : AtK w k A R xs) (h1 : ∀ f x, R f x → ∀ j, j < k → (f j).oneCell' = true) :
    ∃ us, RelK k R us xs ∧ Pv.Src w A k xs.length us := by
  rcases Nat.eq_zero_or_pos xs.length with h0 | h0
  · have : xs = [] := List.eq_nil_of_length_eq_zero h0
    subst this
    exact ⟨[], RelK.nil, by simp, by simp, fun hm => absurd hm (by simp)⟩
  · obtain ⟨b, off, e, hb, hc⟩ := h.2 h0
    obtain ⟨fs, hl, hfs⟩ := list_of_ex (fun i (f : Nat → Value) x => (∀ j, j < k → w.cell? ⟨b, off + i * k + j, none⟩ = some (f j)) ∧ R f x) xs hc
    have hget : ∀ i, i < xs.length → ∃ f x, fs[i]? = some f ∧ xs[i]? = some x ∧ (∀ j, j < k → w.cell? ⟨b, off + i * k + j, none⟩ = some (f j)) ∧ R f x := fun i hi => by
      have e1 : fs[i]? = some (fs[i]'(by omega)) := List.getElem?_eq_getElem (by omega)
      have e2 : xs[i]? = some (xs[i]'(by omega)) := List.getElem?_eq_getElem (by omega)
      obtain ⟨h2, h3⟩ := hfs i _ _ e1 e2
      exact ⟨_, _, e1, e2, h2, h3⟩
    refine ⟨fs.flatMap (fun f => (List.range k).map f), ?_, ?_, ?_, ?_⟩
    · have key : ∀ (fs : List (Nat → Value)) (xs : List α), fs.length = xs.length → (∀ i, i < xs.length → ∃ f x, fs[i]? = some f ∧ xs[i]? = some x ∧ R f x) → RelK k R (fs.flatMap (fun f => (List.range k).map f)) xs := by
        intro fs
        induction fs with
        | nil => intro xs hl _; obtain rfl : xs = [] := List.eq_nil_of_length_eq_zero (by simpa using hl.symm); exact RelK.nil
        | cons f fs ih =>
          intro xs hl hx
          match xs, hl, hx with
          | x :: xs, hl, hx =>
            obtain ⟨f', x', h1, h2, h3⟩ := hx 0 (by simp)
            simp at h1 h2; subst h1; subst h2
            have t1 : RelK k R ((List.range k).map f) [x] := RelK.one (f := f) (by simp) (fun j hj => by simp [hj]) h3
            exact t1.app (ih xs (by simpa using hl) fun i hi => by
              have := hx (i + 1) (by simpa using hi)
              simpa using this)
      exact key fs xs hl fun i hi => by obtain ⟨f, x, a, b, _, d⟩ := hget i hi; exact ⟨f, x, a, b, d⟩
    · have : ∀ fs : List (Nat → Value), (fs.flatMap (fun f => (List.range k).map f)).length = fs.length * k := by
        intro fs; induction fs with
        | nil => simp
        | cons f fs ih => simp only [List.flatMap_cons, List.length_append, List.length_map, List.length_range, ih, List.length_cons, Nat.add_mul]; omega
      rw [this, hl]
    · intro u hu
      obtain ⟨f, hf, hu⟩ := List.mem_flatMap.1 hu
      obtain ⟨i, hi⟩ := List.getElem?_of_mem hf
      obtain ⟨j, hj, rfl⟩ := List.mem_map.1 hu
      obtain ⟨f', x, a, b, _, d⟩ := hget i (by have := lt_of_get hi; omega)
      rw [hi] at a; injection a with a; subst a
      exact h1 f x d j (by simpa using hj)
    · intro _
      refine ⟨b, off, e, hb, fun q u hu => ?_⟩
      have key : ∀ (fs : List (Nat → Value)) (q : Nat) (u : Value), (fs.flatMap (fun f => (List.range k).map f))[q]? = some u → ∃ i j f, q = i * k + j ∧ j < k ∧ fs[i]? = some f ∧ f j = u := by
        intro fs
        induction fs with
        | nil => intro q u h; simp at h
        | cons f fs ih =>
          intro q u h
          simp only [List.flatMap_cons] at h
          by_cases hq : q < k
          · rw [List.getElem?_append_left (by simpa using hq)] at h
            exact ⟨0, q, f, by omega, hq, rfl, by simpa [hq] using h⟩
          · rw [List.getElem?_append_right (by simp; omega)] at h
            simp only [List.length_map, List.length_range] at h
            obtain ⟨i, j, f', e, hj, hf, hu⟩ := ih _ _ h
            exact ⟨i + 1, j, f', by rw [Nat.add_mul]; omega, hj, by simpa using hf, hu⟩
      obtain ⟨i, j, f, rfl, hj, hf, rfl⟩ := key fs q u hu
      obtain ⟨f', x, a, _, c, _⟩ := hget i (by have := lt_of_get hf; omega)
      rw [hf] at a; injection a with a; subst a
      rw [← Nat.add_assoc]; exact c j hj
end Pv

namespace Pv
open Go Go.RowKit
/-- A string's bytes. -/
abbrev bsl (r : ByteArray) : List UInt8 := r.data.toList
theorem bsl_len (r : ByteArray) : (bsl r).length = r.size := by rw [bsl, Array.length_toList]; rfl
end Pv

namespace Pv
open Go Go.RowKit
/-- All blocks but one are as they were. -/
structure Only (b : Nat) (w w' : World) : Prop where
  os : w'.os = w.os
  tape : w'.tape = w.tape
  output : w'.output = w.output
  size : w.heap.size ≤ w'.heap.size
  block : ∀ k, k < w.heap.size → k ≠ b → w'.heap[k]? = w.heap[k]?
section
variable {w w' : World} {b : Nat}
theorem Only.refl (b : Nat) (w : World) : Only b w w := ⟨rfl, rfl, rfl, Nat.le_refl _, fun _ _ _ => rfl⟩
theorem Only.set (h : Only b w w') (i : Nat) (v : Value) : Only b w (w'.setCell ⟨b, i, none⟩ v) :=
  ⟨h.os, h.tape, h.output, by simpa using h.size, fun k hk hb => (Below.heap_setCell w' ⟨b, i, none⟩ v k hb).trans (h.block k hk hb)⟩
theorem Only.below {B : Nat} (h : Only b w w') (hB : B ≤ b) (hs : B ≤ w.heap.size) : Below B w w' := ⟨h.os, h.tape, h.output, h.size, fun k hk => h.block k (by omega) (by omega)⟩
theorem Only.blk {g : Nat} {t : TypeId} {cs : Array Value} (h : Only b w w') (hb : Blk w g t cs) (hne : g ≠ b) : Blk w' g t cs := (h.block g hb.lt hne).trans hb
end
end Pv
