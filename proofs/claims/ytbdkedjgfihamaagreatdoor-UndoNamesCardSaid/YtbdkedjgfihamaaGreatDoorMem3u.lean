/- Lists of cells that the call itself makes: append onto them, and reading them back. Nothing of a program stands here. -/
import Derived.Maps.AppendAt
import Derived.Deep.AppendLies
import Derived.RegionTactic
import Derived.OwnWalk
import Derived.Test.YtbdkedjgfihamaaGreatDoorMemu
namespace Pv
open Go Go.RowKit

/-- Two lists, element by element. -/
def Rel {α : Type} (R : Value → α → Prop) (us : List Value) (xs : List α) : Prop := us.length = xs.length ∧ ∀ (i : Nat) u x, us[i]? = some u → xs[i]? = some x → R u x
theorem Rel.nil {α : Type} {R : Value → α → Prop} : Rel R [] ([] : List α) := ⟨rfl, fun i u x h => by simp at h⟩
theorem Rel.app {α : Type} {R : Value → α → Prop} {us vs : List Value} {xs ys : List α} (h : Rel R us xs) (k : Rel R vs ys) : Rel R (us ++ vs) (xs ++ ys) := ⟨by simp [h.1, k.1], fun i u x hu hx => by
  by_cases hi : i < us.length
  · rw [List.getElem?_append_left hi] at hu
    rw [List.getElem?_append_left (by rw [← h.1]; exact hi)] at hx
    exact h.2 i u x hu hx
  · rw [List.getElem?_append_right (by omega)] at hu
    rw [List.getElem?_append_right (by rw [← h.1]; omega), ← h.1] at hx
    exact k.2 _ u x hu hx⟩
theorem Rel.one {α : Type} {R : Value → α → Prop} {u : Value} {x : α} (h : R u x) : Rel R [u] [x] := ⟨rfl, fun i v y hv hy => by
  match i with
  | 0 => simp at hv hy; subst hv; subst hy; exact h
  | i + 1 => simp at hv⟩
theorem Rel.mono {α : Type} {R R' : Value → α → Prop} {us : List Value} {xs : List α} (h : Rel R us xs) (hr : ∀ u x, R u x → R' u x) : Rel R' us xs :=
  ⟨h.1, fun i u x hu hx => hr u x (h.2 i u x hu hx)⟩
/-- A source of an append: m elements of size cells, these values, from A on. -/
def Src (w : World) (A : Option Addr) (size m : Nat) (us : List Value) : Prop :=
  us.length = m * size ∧ (∀ u ∈ us, u.oneCell' = true) ∧ (0 < m → ∃ b off, A = some ⟨b, off, none⟩ ∧ b < w.heap.size ∧ ∀ j u, us[j]? = some u → w.cell? ⟨b, off + j, none⟩ = some u)
theorem Src.keep {w w' : World} {A : Option Addr} {size m : Nat} {us : List Value} (h : Pv.Src w A size m us) (k : Keep w w') : Pv.Src w' A size m us := ⟨h.1, h.2.1, fun hm => by
  obtain ⟨b, off, e, hb, hc⟩ := h.2.2 hm
  exact ⟨b, off, e, Nat.lt_of_lt_of_le hb k.size, fun j u hu => (k.cell _ _ hb).trans (hc j u hu)⟩⟩

theorem list_of_ex {α β : Type} (p : Nat → α → β → Prop) (xs : List β) (h : ∀ i x, xs[i]? = some x → ∃ u, p i u x) :
    ∃ us : List α, us.length = xs.length ∧ ∀ i u x, us[i]? = some u → xs[i]? = some x → p i u x := by
  induction xs generalizing p with
  | nil => exact ⟨[], rfl, fun i u x hu => by simp at hu⟩
  | cons y ys ih =>
    obtain ⟨u0, h0⟩ := h 0 y rfl
    obtain ⟨us, hl, hus⟩ := ih (fun i u x => p (i + 1) u x) (fun i x hx => h (i + 1) x (by simpa using hx))
    refine ⟨u0 :: us, by simp [hl], fun i u x hu hx => ?_⟩
    match i with
    | 0 => simp at hu hx; subst hu; subst hx; exact h0
    | i + 1 => exact hus i u x (by simpa using hu) (by simpa using hx)

section
variable {P : Program} (w : World)
theorem run_append_src (base : Nat) (t ty e : TypeId) (i : TypeInfo) (z : Value) (size bytes : Nat) (ht : P.underlying t = some (.slice e)) (hi : P.info? e = some i) (hz : i.zero = some z)
    (hsize : i.size = size) (hby : i.bytes = bytes) (hzs : z.cells.size = size) (hsz : 0 < size)
    (A0 : Option Addr) (c0 : Nat) (n : Nat) (xs : List Value) (hown : w.ownsRow base e size (.slice A0 n c0) n xs)
    (A : Option Addr) (m c : Nat) (us : List Value) (hr : Pv.Src w A size m us)
    (h63 : n + m ≤ maxLen) (hbytes : (n + m) * bytes ≤ 140737488355328) (hbase : base ≤ w.heap.size) :
    ∃ A' c' w', (Builtin.append_ #[t, t] ty #[.slice A0 n c0, .slice A m c]).run P w = .ok (.slice A' (n + m) c') w' ∧ w'.ownsRow base e size (.slice A' (n + m) c') (n + m) (xs ++ us) ∧
      w.grownBy w' (Value.slice A0 n c0).ownBlock ∧ ((Value.slice A' (n + m) c').ownBlock = (Value.slice A0 n c0).ownBlock ∨ (Value.slice A' (n + m) c').ownBlock = some w.heap.size) := by
  obtain ⟨h0, h1, h2⟩ := hr
  have shape : ∀ (v' : Value) (w' : World), w'.ownsRow base e size v' (n + m) (xs ++ us) → ∃ A' c', v' = Value.slice A' (n + m) c' := by
    intro v' w' ho
    rcases ho.2 with ⟨rfl, h⟩ | ⟨g, cap, cur, rfl, _⟩
    · exact ⟨none, 0, by rw [h]⟩
    · exact ⟨_, _, rfl⟩
  rcases Nat.eq_zero_or_pos m with hm | hm
  · subst hm
    have hu : us = [] := List.eq_nil_of_length_eq_zero (by simpa using h0)
    subst hu
    rcases A with _ | ad
    · refine ⟨A0, c0, w, ?_, by simpa using hown, World.grownBy.refl w _, .inl rfl⟩
      rcases hown.2 with ⟨hv, hn⟩ | ⟨g, cap, cur, hv, _, _, hnc, _⟩
      · injection hv with e1 e2 e3
        subst e1; subst e2; subst e3
        simp [Builtin.append_, run_underlying ht, Go.sizeOf, typeInfo, hi, Builtin.lenOf, Builtin.firstCells]
      · injection hv with e1 e2 e3
        subst e1; subst e3
        simp [Builtin.append_, run_underlying ht, Go.sizeOf, typeInfo, hi, Builtin.lenOf, Builtin.firstCells, hnc, storeCells]
    · obtain ⟨v', w', hrun, g1, g2, _, g4⟩ := run_append_own_at (P := P) w base t ty e i z size bytes ht hi hz hsize hby hzs hsz _ n xs hown ad 0 c [] (by simp) (by simp) (by simp) h63 hbytes hbase
      obtain ⟨A', c', rfl⟩ := shape v' w' g1
      exact ⟨A', c', w', hrun, g1, g2, g4⟩
  · obtain ⟨b, off, rfl, hb, hc⟩ := h2 hm
    obtain ⟨v', w', hrun, g1, g2, _, g4⟩ := run_append_own_at (P := P) w base t ty e i z size bytes ht hi hz hsize hby hzs hsz _ n xs hown ⟨b, off, none⟩ m c us h0 (fun j u hu => by
      have : (⟨b, off, none⟩ : Addr).add j = ⟨b, off + j, none⟩ := by unfold Addr.add; by_cases hj : j = 0 <;> simp [hj]
      rw [this]; exact hc j u hu) h1 h63 hbytes hbase
    obtain ⟨A', c', rfl⟩ := shape v' w' g1
    exact ⟨A', c', w', hrun, g1, g2, g4⟩

theorem wp_append_src {o : Oper} {a : Act} {K : Act → World → Prop} {Q : Exit → Act → World → Prop} (s x : Operand) (t : TypeId)
    (ho : o.op = .call { callee := .builtin .append, args := #[s, x], argTypes := #[t, t] })
    (base : Nat) (e : TypeId) (i : TypeInfo) (z : Value) (size bytes : Nat) (ht : P.underlying t = some (.slice e)) (hi : P.info? e = some i) (hz : i.zero = some z)
    (hsize : i.size = size) (hby : i.bytes = bytes) (hzs : z.cells.size = size) (hsz : 0 < size)
    (A0 : Option Addr) (c0 n : Nat) (xs : List Value) (hs : a.eval s = .slice A0 n c0) (hown : w.ownsRow base e size (.slice A0 n c0) n xs)
    (A : Option Addr) (m c : Nat) (us : List Value) (hx : a.eval x = .slice A m c) (hr : Pv.Src w A size m us)
    (h63 : n + m ≤ maxLen) (hbytes : (n + m) * bytes ≤ 140737488355328) (hbase : base ≤ w.heap.size)
    (h : ∀ A' c' w', w'.ownsRow base e size (.slice A' (n + m) c') (n + m) (xs ++ us) → w.grownBy w' (Value.slice A0 n c0).ownBlock →
      ((Value.slice A' (n + m) c').ownBlock = (Value.slice A0 n c0).ownBlock ∨ (Value.slice A' (n + m) c').ownBlock = some w.heap.size) → K (a.put o.dst (.slice A' (n + m) c')) w') : o.wp P a w K Q := by
  obtain ⟨A', c', w', hrun, h2, h3, h4⟩ := run_append_src (P := P) w base t o.type e i z size bytes ht hi hz hsize hby hzs hsz A0 c0 n xs hown A m c us hr h63 hbytes hbase
  unfold Oper.wp execOp
  simp only [ho, resolve, invoke, builtin, Sem.run_bind, Sem.run_pure, Result.andThen_ok, List.map_toArray, List.map_cons, List.map_nil, hs, hx, hrun]
  exact h A' c' w' h2 h3 h4

/-- append onto a row of the call's own, whatever the source (nil, empty or not): the result has a slice's shape. -/
theorem wpList_append_src {ops : Array Oper} {rest : List Oper} {o : Oper} {a : Act} {Q : Exit → Act → World → Prop} (hgd : o.guard = none) (s x : Operand) (t : TypeId)
    (ho : o.op = .call { callee := .builtin .append, args := #[s, x], argTypes := #[t, t] })
    (base : Nat) (e : TypeId) (i : TypeInfo) (z : Value) (size bytes : Nat) (ht : P.underlying t = some (.slice e)) (hi : P.info? e = some i) (hz : i.zero = some z)
    (hsize : i.size = size) (hby : i.bytes = bytes) (hzs : z.cells.size = size) (hsz : 0 < size)
    (A0 : Option Addr) (c0 n : Nat) (xs : List Value) (hs : a.eval s = .slice A0 n c0) (hown : w.ownsRow base e size (.slice A0 n c0) n xs)
    (A : Option Addr) (m c : Nat) (us : List Value) (hx : a.eval x = .slice A m c) (hr : Pv.Src w A size m us)
    (h63 : n + m ≤ maxLen) (hbytes : (n + m) * bytes ≤ 140737488355328) (hbase : base ≤ w.heap.size)
    (h : ∀ A' c' w', w'.ownsRow base e size (.slice A' (n + m) c') (n + m) (xs ++ us) → w.grownBy w' (Value.slice A0 n c0).ownBlock →
      ((Value.slice A' (n + m) c').ownBlock = (Value.slice A0 n c0).ownBlock ∨ (Value.slice A' (n + m) c').ownBlock = some w.heap.size) → wpList P ops Q rest (a.put o.dst (.slice A' (n + m) c')) w') : wpList P ops Q (o :: rest) a w :=
  wpList_plain hgd fun _ hK => wp_append_src w s x t ho base e i z size bytes ht hi hz hsize hby hzs hsz A0 c0 n xs hs hown A m c us hx hr h63 hbytes hbase fun A' c' w' h2 h3 h4 => hK _ _ (h A' c' w' h2 h3 h4)
end

section
variable {P : Program} (w : World)
end

/-- What the call owns reads as a list. -/
theorem At.of_own {α : Type} {w : World} {base e n c : Nat} {A : Option Addr} {us : List Value} {R : Value → α → Prop} {xs : List α}
    (h : w.ownsRow base e 1 (.slice A n c) n us) (hr : Rel R us xs) (hl : xs.length ≤ 140737488355328) : n = xs.length ∧ n ≤ c ∧ At w A R xs := by
  have hn : n = xs.length := by have := h.1; have := hr.1; omega
  subst hn
  rcases h.2 with ⟨hv, h0⟩ | ⟨g, cap, cur, hv, hg, hh, hnc, hcm, hcs, htk⟩
  · injection hv with e1 e2 e3
    subst e3
    exact ⟨rfl, by omega, hl, fun hp => absurd hp (by omega)⟩
  · injection hv with e1 e2 e3
    subst e1; subst e3
    refine ⟨rfl, hnc, hl, fun hp => ⟨g, 0, rfl, ?_, fun i x hx => ?_⟩⟩
    · rcases Nat.lt_or_ge g w.heap.size with hlt | hge
      · exact hlt
      · rw [Array.getElem?_eq_none hge] at hh; cases hh
    · have hi : i < us.length := by
        have : i < xs.length := by
          rcases Nat.lt_or_ge i xs.length with h | h
          · exact h
          · rw [List.getElem?_eq_none h] at hx; cases hx
        rw [hr.1]; exact this
      refine ⟨us[i], ?_, hr.2 i _ x (List.getElem?_eq_getElem hi) hx⟩
      have hcur : cur[i]? = some us[i] := by
        have := congrArg (fun l : List Value => l[i]?) htk
        simp only [List.getElem?_take, List.getElem?_eq_getElem hi] at this
        split at this
        · simpa using this
        · cases this
      simp [World.cell?, hh, hcur]

/-- A block that is known whole. -/
def Blk (w : World) (g : Nat) (t : TypeId) (cs : Array Value) : Prop := w.heap[g]? = some (.cells cs t (0, 0))
section
variable {w w' : World} {g : Nat} {t : TypeId} {cs : Array Value}
theorem Blk.lt (h : Blk w g t cs) : g < w.heap.size := by
  rcases Nat.lt_or_ge g w.heap.size with hlt | hge
  · exact hlt
  · unfold Blk at h; rw [Array.getElem?_eq_none hge] at h; cases h
theorem Blk.cell (h : Blk w g t cs) (i : Nat) : w.cell? ⟨g, i, none⟩ = cs[i]? := by
  unfold Blk at h; simp [World.cell?, h]
theorem Blk.frozen (h : Blk w g t cs) (i : Nat) : w.frozen? ⟨g, i, none⟩ = false := by
  unfold Blk at h
  simp [World.frozen?, h]
theorem Blk.new (w : World) (t : TypeId) (cs : Array Value) : Blk (w.alloc (.cells cs t)) w.heap.size t cs := by
  show (w.heap.push _)[w.heap.size]? = _
  simp
theorem Blk.alloc (h : Blk w g t cs) (o : Obj) : Blk (w.alloc o) g t cs := (Below.heap_alloc w o g h.lt).trans h
theorem Blk.set (h : Blk w g t cs) (i : Nat) (u : Value) : Blk (w.setCell ⟨g, i, none⟩ u) g t (cs.setIfInBounds i u) := by
  unfold Blk at h ⊢
  simp [World.setCell, Array.getElem?_modify, h]
theorem Blk.far (h : Blk w g t cs) {p : Addr} (hp : g ≠ p.block) (u : Value) : Blk (w.setCell p u) g t cs := (Below.heap_setCell w p u g hp).trans h
theorem Blk.below {B : Nat} (h : Blk w g t cs) (hb : Below B w w') (hg : g < B) : Blk w' g t cs := (hb.block g hg).trans h
theorem Blk.grown {row : Option Nat} (h : Blk w g t cs) (hb : w.grownBy w' row) (hg : some g ≠ row) : Blk w' g t cs := (hb.block g h.lt hg).trans h
theorem Blk.ne {g' : Nat} {t' : TypeId} {cs' : Array Value} (h : Blk w g t cs) (h' : Blk w g' t' cs') (hne : t ≠ t') : g ≠ g' := by
  rintro rfl
  unfold Blk at h h'
  rw [h] at h'
  injection h' with h'
  injection h' with _ ht
  exact hne ht
theorem blk3 (w : World) (c1 c2 c3 : Array Value) (t1 t2 t3 : TypeId) : Blk (((w.alloc (.cells c1 t1)).alloc (.cells c2 t2)).alloc (.cells c3 t3)) w.heap.size t1 c1 ∧ Blk (((w.alloc (.cells c1 t1)).alloc (.cells c2 t2)).alloc (.cells c3 t3)) (w.heap.size + 1) t2 c2 ∧ Blk (((w.alloc (.cells c1 t1)).alloc (.cells c2 t2)).alloc (.cells c3 t3)) (w.heap.size + 1 + 1) t3 c3 := by
  refine ⟨((Blk.new w t1 c1).alloc _).alloc _, ?_, ?_⟩
  · have h := (Blk.new (w.alloc (.cells c1 t1)) t2 c2).alloc (.cells c3 t3)
    have e : (w.alloc (.cells c1 t1)).heap.size = w.heap.size + 1 := by simp
    rwa [e] at h
  · have h := Blk.new ((w.alloc (.cells c1 t1)).alloc (.cells c2 t2)) t3 c3
    have e : ((w.alloc (.cells c1 t1)).alloc (.cells c2 t2)).heap.size = w.heap.size + 1 + 1 := by simp
    rwa [e] at h
theorem own_blk_ne {base : Nat} {e : TypeId} {size n : Nat} {v : Value} {xs : List Value} (h : w.ownsRow base e size v n xs) (hg : Blk w g t cs) (hne : e ≠ t) : some g ≠ v.ownBlock := by
  rcases h.2 with ⟨rfl, _⟩ | ⟨g', cap, cur, rfl, _, hh, _⟩
  · simp [Value.ownBlock]
  · intro he
    have : g = g' := by simpa [Value.ownBlock] using he
    subst this
    exact Blk.ne (t := e) hh hg hne rfl
end
end Pv

namespace Pv
open Go Go.RowKit

/-- v is a slice of the call's own (element type e, one cell each) that reads as xs. -/
def Own {α : Type} (w : World) (base : Nat) (e : TypeId) (R : Value → α → Prop) (v : Value) (xs : List α) : Prop :=
  ∃ A c us, v = .slice A xs.length c ∧ w.ownsRow base e 1 (.slice A xs.length c) xs.length us ∧ Rel R us xs

theorem own_ne {w : World} {b b' : Nat} {e e' : TypeId} {s s' n n' : Nat} {v v' : Value} {us us' : List Value} (h : w.ownsRow b e s v n us) (h' : w.ownsRow b' e' s' v' n' us') (hne : e ≠ e') :
    v.ownBlock = none ∨ v.ownBlock ≠ v'.ownBlock := by
  rcases h.2 with ⟨rfl, _⟩ | ⟨g, cap, cur, rfl, _, hh, _⟩
  · exact .inl rfl
  · rcases h'.2 with ⟨rfl, _⟩ | ⟨g', cap', cur', rfl, _, hh', _⟩
    · exact .inr (by simp [Value.ownBlock])
    · refine .inr fun he => ?_
      have : g = g' := by simpa [Value.ownBlock] using he
      subst this
      rw [hh] at hh'
      injection hh' with hh'
      injection hh' with _ ht
      exact hne ht
theorem ownsRow_setFar {w : World} {b : Nat} {e : TypeId} {s n : Nat} {v : Value} {us : List Value} (h : w.ownsRow b e s v n us) {g : Nat} {t : TypeId} {cs : Array Value} (hb : Blk w g t cs) (hne : e ≠ t) (i : Nat) (u : Value) :
    (w.setCell ⟨g, i, none⟩ u).ownsRow b e s v n us := by
  refine ⟨h.1, ?_⟩
  rcases h.2 with h2 | ⟨g', cap, cur, rfl, hg, hh, r⟩
  · exact .inl h2
  · have hgg : g' ≠ g := fun he => by
      subst he
      unfold Blk at hb
      rw [hh] at hb
      injection hb with hb
      injection hb with _ ht
      exact hne ht
    exact .inr ⟨g', cap, cur, rfl, hg, by rw [Below.heap_setCell _ _ _ _ (by simpa using hgg)]; exact hh, r⟩
section
variable {α : Type} {w w' : World} {base : Nat} {e : TypeId} {R R' : Value → α → Prop} {v : Value} {xs : List α}
theorem Own.nil : Own w base e R (.slice none 0 0) ([] : List α) := ⟨none, 0, [], rfl, World.ownsRow_nil _ _ _ _, Rel.nil⟩
theorem Own.monoR (h : Own w base e R v xs) (hr : ∀ u x, R u x → R' u x) : Own w base e R' v xs := by
  obtain ⟨A, c, us, rfl, h, k⟩ := h; exact ⟨A, c, us, rfl, h, k.mono hr⟩
theorem Own.alloc (h : Own w base e R v xs) (o : Obj) : Own (w.alloc o) base e R v xs := by
  obtain ⟨A, c, us, rfl, h, k⟩ := h; exact ⟨A, c, us, rfl, h.alloc o, k⟩
theorem Own.setFar (h : Own w base e R v xs) {g : Nat} {t : TypeId} {cs : Array Value} (hb : Blk w g t cs) (hne : e ≠ t) (i : Nat) (u : Value) : Own (w.setCell ⟨g, i, none⟩ u) base e R v xs := by
  obtain ⟨A, c, us, rfl, h, k⟩ := h; exact ⟨A, c, us, rfl, ownsRow_setFar h hb hne i u, k⟩
/-- behind an append onto a row of another element type -/
theorem Own.grown (h : Own w base e R v xs) {b' : Nat} {e' : TypeId} {s' n' : Nat} {v' : Value} {us' : List Value} (h' : w.ownsRow b' e' s' v' n' us') (hne : e ≠ e') (hg : w.grownBy w' v'.ownBlock) : Own w' base e R v xs := by
  obtain ⟨A, c, us, rfl, h, k⟩ := h; exact ⟨A, c, us, rfl, h.kept hg (own_ne h h' hne), k⟩
theorem Own.sl (h : Own w base e R v xs) (hl : xs.length ≤ 140737488355328) : Sl w R v xs := by
  obtain ⟨A, c, us, rfl, h, k⟩ := h
  obtain ⟨_, h2, h3⟩ := At.of_own h k hl
  exact ⟨A, c, rfl, h3, h2⟩
theorem Own.below (h : Own w base e R v xs) (hb : Below w.heap.size w w') : Own w' base e R v xs := by
  obtain ⟨A, c, us, rfl, h, k⟩ := h
  refine ⟨A, c, us, rfl, ⟨h.1, ?_⟩, k⟩
  rcases h.2 with h2 | ⟨g, cap, cur, hv, hg, hh, r⟩
  · exact .inl h2
  · refine .inr ⟨g, cap, cur, hv, hg, ?_, r⟩
    have : g < w.heap.size := by
      rcases Nat.lt_or_ge g w.heap.size with hlt | hge
      · exact hlt
      · rw [Array.getElem?_eq_none hge] at hh; cases hh
    exact (hb.block g this).trans hh
end
theorem below_grown0 {B : Nat} {a w w' : World} (h : Below B a w) (hg : w.grownBy w' none) (hB : B ≤ w.heap.size) : Below B a w' := h.grown hg hB (by simp)
/-- One element, boxed by buildSlice, as an append's source. -/
theorem Src.one {w : World} {x : Value} {t : TypeId} (h : x.oneCell' = true) : Pv.Src (w.alloc (.cells #[x] t)) (some ⟨w.heap.size, 0, none⟩) 1 1 [x] := by
  refine ⟨rfl, by simpa using h, fun _ => ⟨w.heap.size, 0, rfl, by simp, fun j u hu => ?_⟩⟩
  match j with
  | 0 => simp at hu; subst hu; simp
  | j + 1 => simp at hu
end Pv
