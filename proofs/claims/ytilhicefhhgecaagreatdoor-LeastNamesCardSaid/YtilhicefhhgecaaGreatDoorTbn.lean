/- Lists of cells that the call itself makes: append onto them, and reading them back. Nothing of a program stands here. -/
import Derived.Maps.AppendAt
import Derived.Deep.AppendLies
import Derived.RegionTactic
import Derived.OwnWalk
import Derived.Test.YtilhicefhhgecaaGreatDoorDfan
namespace Pv
open Go Go.RowKit

/-- Two lists, element by element. -/
def Rel {α : Type} (R : Value → α → Prop) (us : List Value) (xs : List α) : Prop := us.length = xs.length ∧ ∀ (i : Nat) u x, us[i]? = some u → xs[i]? = some x → R u x
theorem Rel.nil {α : Type} {R : Value → α → Prop} : Rel R [] ([] : List α) := ⟨rfl, fun i u x h => by simp at h⟩
theorem Rel.app {α : Type} {R : Value → α → Prop} {us vs : List Value} {xs ys : List α} (h : Rel R us xs) (k : Rel R vs ys) : Rel R (us ++ vs) (xs ++ ys) := ⟨by simp [h.1, k.1], fun i u x hu hx => by
  by_cases hi : i < us.length
  · rw [List.getElem?_append_left hi] at hu
    rw [List.getElem?_append_left (by rw [← h.1]; exact hi)] at hx
    exact h.2 i u x hu hx
  · rw [List.getElem?_append_right (by omega)] at hu
    rw [List.getElem?_append_right (by rw [← h.1]; omega), ← h.1] at hx
    exact k.2 _ u x hu hx⟩
theorem Rel.one {α : Type} {R : Value → α → Prop} {u : Value} {x : α} (h : R u x) : Rel R [u] [x] := ⟨rfl, fun i v y hv hy => by
  match i with
  | 0 => simp at hv hy; subst hv; subst hy; exact h
  | i + 1 => simp at hv⟩
theorem Rel.mono {α : Type} {R R' : Value → α → Prop} {us : List Value} {xs : List α} (h : Rel R us xs) (hr : ∀ u x, R u x → R' u x) : Rel R' us xs :=
  ⟨h.1, fun i u x hu hx => hr u x (h.2 i u x hu hx)⟩
/-- A source of an append: m elements of size cells, these values, from A on. -/
def Src (w : World) (A : Option Addr) (size m : Nat) (us : List Value) : Prop :=
  us.length = m * size ∧ (∀ u ∈ us, u.oneCell' = true) ∧ (0 < m → ∃ b off, A = some ⟨b, off, none⟩ ∧ b < w.heap.size ∧ ∀ j u, us[j]? = some u → w.cell? ⟨b, off + j, none⟩ = some u)
theorem Src.keep {w w' : World} {A : Option Addr} {size m : Nat} {us : List Value} (h : Pv.Src w A size m us) (k : Keep w w') : Pv.Src w' A size m us := ⟨h.1, h.2.1, fun hm => by
  obtain ⟨b, off, e, hb, hc⟩ := h.2.2 hm
  exact ⟨b, off, e, Nat.lt_of_lt_of_le hb k.size, fun j u hu => (k.cell _ _ hb).trans (hc j u hu)⟩⟩

theorem list_of_ex {α β : Type} (p : Nat → α → β → Prop) (xs : List β) (h : ∀ i x, xs[i]? = some x → ∃ u, p i u x) :
    ∃ us : List α, us.length = xs.length ∧ ∀ i u x, us[i]? = some u → xs[i]? = some x → p i u x := by
  induction xs generalizing p with
  | nil => exact ⟨[], rfl, fun i u x hu => by simp at hu⟩
  | cons y ys ih =>
    obtain ⟨u0, h0⟩ := h 0 y rfl
    obtain ⟨us, hl, hus⟩ := ih (fun i u x => p (i + 1) u x) (fun i x hx => h (i + 1) x (by simpa using hx))
    refine ⟨u0 :: us, by simp [hl], fun i u x hu hx => ?_⟩
    match i with
    | 0 => simp at hu hx; subst hu; subst hx; exact h0
    | i + 1 => exact hus i u x (by simpa using hu) (by simpa using hx)

theorem At.src {α : Type} {w : World} {A : Option Addr} {R : Value → α → Prop} {xs : List α} (h : At w A R xs) (h1 : ∀ u x, R u x → u.oneCell' = true) :
    ∃ us, Rel R us xs ∧ Pv.Src w A 1 xs.length us := by
  rcases Nat.eq_zero_or_pos xs.length with h0 | h0
  · have : xs = [] := List.eq_nil_of_length_eq_zero h0
    subst this
    exact ⟨[], Rel.nil, by simp, by simp, fun hm => absurd hm (by simp)⟩
  · obtain ⟨b, off, e, hb, hc⟩ := h.2 h0
    obtain ⟨us, hl, hus⟩ := list_of_ex (fun i u x => w.cell? ⟨b, off + i, none⟩ = some u ∧ R u x) xs hc
    have hget : ∀ j u, us[j]? = some u → ∃ x, xs[j]? = some x := fun j u hu => by
      have : j < us.length := by
        rcases Nat.lt_or_ge j us.length with h | h
        · exact h
        · rw [List.getElem?_eq_none h] at hu; cases hu
      exact ⟨xs[j]'(by omega), List.getElem?_eq_getElem (by omega)⟩
    refine ⟨us, ⟨hl, fun i u x hu hx => (hus i u x hu hx).2⟩, by simp [hl], fun u hu => ?_, fun _ => ⟨b, off, e, hb, fun j u hu => ?_⟩⟩
    · obtain ⟨j, hj⟩ := List.getElem?_of_mem hu
      obtain ⟨x, hx⟩ := hget j u hj
      exact h1 u x (hus j u x hj hx).2
    · obtain ⟨x, hx⟩ := hget j u hu
      exact (hus j u x hu hx).1

section
variable {P : Program} (w : World)
theorem run_append_src (base : Nat) (t ty e : TypeId) (i : TypeInfo) (z : Value) (size bytes : Nat) (ht : P.underlying t = some (.slice e)) (hi : P.info? e = some i) (hz : i.zero = some z)
    (hsize : i.size = size) (hby : i.bytes = bytes) (hzs : z.cells.size = size) (hsz : 0 < size)
    (A0 : Option Addr) (c0 : Nat) (n : Nat) (xs : List Value) (hown : w.ownsRow base e size (.slice A0 n c0) n xs)
    (A : Option Addr) (m c : Nat) (us : List Value) (hr : Pv.Src w A size m us)
    (h63 : n + m ≤ maxLen) (hbytes : (n + m) * bytes ≤ 140737488355328) (hbase : base ≤ w.heap.size) :
    ∃ A' c' w', (Builtin.append_ #[t, t] ty #[.slice A0 n c0, .slice A m c]).run P w = .ok (.slice A' (n + m) c') w' ∧ w'.ownsRow base e size (.slice A' (n + m) c') (n + m) (xs ++ us) ∧
      w.grownBy w' (Value.slice A0 n c0).ownBlock ∧ ((Value.slice A' (n + m) c').ownBlock = (Value.slice A0 n c0).ownBlock ∨ (Value.slice A' (n + m) c').ownBlock = some w.heap.size) := by
  obtain ⟨h0, h1, h2⟩ := hr
  have shape : ∀ (v' : Value) (w' : World), w'.ownsRow base e size v' (n + m) (xs ++ us) → ∃ A' c', v' = Value.slice A' (n + m) c' := by
    intro v' w' ho
    rcases ho.2 with ⟨rfl, h⟩ | ⟨g, cap, cur, rfl, _⟩
    · exact ⟨none, 0, by rw [h]⟩
    · exact ⟨_, _, rfl⟩
  rcases Nat.eq_zero_or_pos m with hm | hm
  · subst hm
    have hu : us = [] := List.eq_nil_of_length_eq_zero (by simpa using h0)
    subst hu
    rcases A with _ | ad
    · refine ⟨A0, c0, w, ?_, by simpa using hown, World.grownBy.refl w _, .inl rfl⟩
      rcases hown.2 with ⟨hv, hn⟩ | ⟨g, cap, cur, hv, _, _, hnc, _⟩
      · injection hv with e1 e2 e3
        subst e1; subst e2; subst e3
        simp [Builtin.append_, run_underlying ht, Go.sizeOf, typeInfo, hi, Builtin.lenOf, Builtin.firstCells]
      · injection hv with e1 e2 e3
        subst e1; subst e3
        simp [Builtin.append_, run_underlying ht, Go.sizeOf, typeInfo, hi, Builtin.lenOf, Builtin.firstCells, hnc, storeCells]
    · obtain ⟨v', w', hrun, g1, g2, _, g4⟩ := run_append_own_at (P := P) w base t ty e i z size bytes ht hi hz hsize hby hzs hsz _ n xs hown ad 0 c [] (by simp) (by simp) (by simp) h63 hbytes hbase
      obtain ⟨A', c', rfl⟩ := shape v' w' g1
      exact ⟨A', c', w', hrun, g1, g2, g4⟩
  · obtain ⟨b, off, rfl, hb, hc⟩ := h2 hm
    obtain ⟨v', w', hrun, g1, g2, _, g4⟩ := run_append_own_at (P := P) w base t ty e i z size bytes ht hi hz hsize hby hzs hsz _ n xs hown ⟨b, off, none⟩ m c us h0 (fun j u hu => by
      have : (⟨b, off, none⟩ : Addr).add j = ⟨b, off + j, none⟩ := by unfold Addr.add; by_cases hj : j = 0 <;> simp [hj]
      rw [this]; exact hc j u hu) h1 h63 hbytes hbase
    obtain ⟨A', c', rfl⟩ := shape v' w' g1
    exact ⟨A', c', w', hrun, g1, g2, g4⟩

theorem wp_append_src {o : Oper} {a : Act} {K : Act → World → Prop} {Q : Exit → Act → World → Prop} (s x : Operand) (t : TypeId)
    (ho : o.op = .call { callee := .builtin .append, args := #[s, x], argTypes := #[t, t] })
    (base : Nat) (e : TypeId) (i : TypeInfo) (z : Value) (size bytes : Nat) (ht : P.underlying t = some (.slice e)) (hi : P.info? e = some i) (hz : i.zero = some z)
    (hsize : i.size = size) (hby : i.bytes = bytes) (hzs : z.cells.size = size) (hsz : 0 < size)
    (A0 : Option Addr) (c0 n : Nat) (xs : List Value) (hs : a.eval s = .slice A0 n c0) (hown : w.ownsRow base e size (.slice A0 n c0) n xs)
    (A : Option Addr) (m c : Nat) (us : List Value) (hx : a.eval x = .slice A m c) (hr : Pv.Src w A size m us)
    (h63 : n + m ≤ maxLen) (hbytes : (n + m) * bytes ≤ 140737488355328) (hbase : base ≤ w.heap.size)
    (h : ∀ A' c' w', w'.ownsRow base e size (.slice A' (n + m) c') (n + m) (xs ++ us) → w.grownBy w' (Value.slice A0 n c0).ownBlock →
      ((Value.slice A' (n + m) c').ownBlock = (Value.slice A0 n c0).ownBlock ∨ (Value.slice A' (n + m) c').ownBlock = some w.heap.size) → K (a.put o.dst (.slice A' (n + m) c')) w') : o.wp P a w K Q := by
  obtain ⟨A', c', w', hrun, h2, h3, h4⟩ := run_append_src (P := P) w base t o.type e i z size bytes ht hi hz hsize hby hzs hsz A0 c0 n xs hown A m c us hr h63 hbytes hbase
  unfold Oper.wp execOp
  simp only [ho, resolve, invoke, builtin, Sem.run_bind, Sem.run_pure, Result.andThen_ok, List.map_toArray, List.map_cons, List.map_nil, hs, hx, hrun]
  exact h A' c' w' h2 h3 h4

/-- append onto a row of the call's own, whatever the source (nil, empty or not): the result has a slice's shape. -/
theorem wpList_append_src {ops : Array Oper} {rest : List Oper} {o : Oper} {a : Act} {Q : Exit → Act → World → Prop} (hgd : o.guard = none) (s x : Operand) (t : TypeId)
    (ho : o.op = .call { callee := .builtin .append, args := #[s, x], argTypes := #[t, t] })
    (base : Nat) (e : TypeId) (i : TypeInfo) (z : Value) (size bytes : Nat) (ht : P.underlying t = some (.slice e)) (hi : P.info? e = some i) (hz : i.zero = some z)
    (hsize : i.size = size) (hby : i.bytes = bytes) (hzs : z.cells.size = size) (hsz : 0 < size)
    (A0 : Option Addr) (c0 n : Nat) (xs : List Value) (hs : a.eval s = .slice A0 n c0) (hown : w.ownsRow base e size (.slice A0 n c0) n xs)
    (A : Option Addr) (m c : Nat) (us : List Value) (hx : a.eval x = .slice A m c) (hr : Pv.Src w A size m us)
    (h63 : n + m ≤ maxLen) (hbytes : (n + m) * bytes ≤ 140737488355328) (hbase : base ≤ w.heap.size)
    (h : ∀ A' c' w', w'.ownsRow base e size (.slice A' (n + m) c') (n + m) (xs ++ us) → w.grownBy w' (Value.slice A0 n c0).ownBlock →
      ((Value.slice A' (n + m) c').ownBlock = (Value.slice A0 n c0).ownBlock ∨ (Value.slice A' (n + m) c').ownBlock = some w.heap.size) → wpList P ops Q rest (a.put o.dst (.slice A' (n + m) c')) w') : wpList P ops Q (o :: rest) a w :=
  wpList_plain hgd fun _ hK => wp_append_src w s x t ho base e i z size bytes ht hi hz hsize hby hzs hsz A0 c0 n xs hs hown A m c us hx hr h63 hbytes hbase fun A' c' w' h2 h3 h4 => hK _ _ (h A' c' w' h2 h3 h4)
end

section
variable {P : Program} (w : World)
end

/-- What the call owns reads as a list. -/
theorem At.of_own {α : Type} {w : World} {base e n c : Nat} {A : Option Addr} {us : List Value} {R : Value → α → Prop} {xs : List α}
    (h : w.ownsRow base e 1 (.slice A n c) n us) (hr : Rel R us xs) (hl : xs.length ≤ 140737488355328) : n = xs.length ∧ n ≤ c ∧ At w A R xs := by
  have hn : n = xs.length := by have := h.1; have := hr.1; omega
  subst hn
  rcases h.2 with ⟨hv, h0⟩ | ⟨g, cap, cur, hv, hg, hh, hnc, hcm, hcs, htk⟩
  · injection hv with e1 e2 e3
    subst e3
    exact ⟨rfl, by omega, hl, fun hp => absurd hp (by omega)⟩
  · injection hv with e1 e2 e3
    subst e1; subst e3
    refine ⟨rfl, hnc, hl, fun hp => ⟨g, 0, rfl, ?_, fun i x hx => ?_⟩⟩
    · rcases Nat.lt_or_ge g w.heap.size with hlt | hge
      · exact hlt
      · rw [Array.getElem?_eq_none hge] at hh; cases hh
    · have hi : i < us.length := by
        have : i < xs.length := by
          rcases Nat.lt_or_ge i xs.length with h | h
          · exact h
          · rw [List.getElem?_eq_none h] at hx; cases hx
        rw [hr.1]; exact this
      refine ⟨us[i], ?_, hr.2 i _ x (List.getElem?_eq_getElem hi) hx⟩
      have hcur : cur[i]? = some us[i] := by
        have := congrArg (fun l : List Value => l[i]?) htk
        simp only [List.getElem?_take, List.getElem?_eq_getElem hi] at this
        split at this
        · simpa using this
        · cases this
      simp [World.cell?, hh, hcur]

/-- A block that is known whole. -/
def Blk (w : World) (g : Nat) (t : TypeId) (cs : Array Value) : Prop := w.heap[g]? = some (.cells cs t (0, 0))
section
variable {w w' : World} {g : Nat} {t : TypeId} {cs : Array Value}
theorem Blk.lt (h : Blk w g t cs) : g < w.heap.size := by
  rcases Nat.lt_or_ge g w.heap.size with hlt | hge
  · exact hlt
  · unfold Blk at h; rw [Array.getElem?_eq_none hge] at h; cases h
theorem Blk.cell (h : Blk w g t cs) (i : Nat) : w.cell? ⟨g, i, none⟩ = cs[i]? := by
  unfold Blk at h; simp [World.cell?, h]
theorem Blk.frozen (h : Blk w g t cs) (i : Nat) : w.frozen? ⟨g, i, none⟩ = false := by
  unfold Blk at h
  simp [World.frozen?, h]
theorem Blk.new (w : World) (t : TypeId) (cs : Array Value) : Blk (w.alloc (.cells cs t)) w.heap.size t cs := by
  show (w.heap.push _)[w.heap.size]? = _
  simp
theorem Blk.drewN (h : Blk w g t cs) (n : Nat) : Blk (w.drewN n) g t cs := h
theorem Blk.alloc (h : Blk w g t cs) (o : Obj) : Blk (w.alloc o) g t cs := (Below.heap_alloc w o g h.lt).trans h
theorem Blk.set (h : Blk w g t cs) (i : Nat) (u : Value) : Blk (w.setCell ⟨g, i, none⟩ u) g t (cs.setIfInBounds i u) := by
  unfold Blk at h ⊢
  simp [World.setCell, Array.getElem?_modify, h]
theorem Blk.far (h : Blk w g t cs) {p : Addr} (hp : g ≠ p.block) (u : Value) : Blk (w.setCell p u) g t cs := (Below.heap_setCell w p u g hp).trans h
theorem Blk.below {B : Nat} (h : Blk w g t cs) (hb : Below B w w') (hg : g < B) : Blk w' g t cs := (hb.block g hg).trans h
theorem Blk.grown {row : Option Nat} (h : Blk w g t cs) (hb : w.grownBy w' row) (hg : some g ≠ row) : Blk w' g t cs := (hb.block g h.lt hg).trans h
theorem Blk.ne {g' : Nat} {t' : TypeId} {cs' : Array Value} (h : Blk w g t cs) (h' : Blk w g' t' cs') (hne : t ≠ t') : g ≠ g' := by
  rintro rfl
  unfold Blk at h h'
  rw [h] at h'
  injection h' with h'
  injection h' with _ ht
  exact hne ht
theorem Blk.three {a b c : Value} (h : Blk w g t #[a, b, c]) : w.cell? ⟨g, 0, none⟩ = some a ∧ w.cell? ⟨g, 1, none⟩ = some b ∧ w.cell? ⟨g, 2, none⟩ = some c ∧ w.frozen? ⟨g, 0, none⟩ = false ∧ w.frozen? ⟨g, 1, none⟩ = false ∧ w.frozen? ⟨g, 2, none⟩ = false :=
  ⟨h.cell 0, h.cell 1, h.cell 2, h.frozen 0, h.frozen 1, h.frozen 2⟩
theorem own_blk_ne {base : Nat} {e : TypeId} {size n : Nat} {v : Value} {xs : List Value} (h : w.ownsRow base e size v n xs) (hg : Blk w g t cs) (hne : e ≠ t) : some g ≠ v.ownBlock := by
  rcases h.2 with ⟨rfl, _⟩ | ⟨g', cap, cur, rfl, _, hh, _⟩
  · simp [Value.ownBlock]
  · intro he
    have : g = g' := by simpa [Value.ownBlock] using he
    subst this
    exact Blk.ne (t := e) hh hg hne rfl
end
end Pv

namespace Pv
open Go Go.RowKit

/-- v is a slice of the call's own (element type e, one cell each) that reads as xs. -/
def Own {α : Type} (w : World) (base : Nat) (e : TypeId) (R : Value → α → Prop) (v : Value) (xs : List α) : Prop :=
  ∃ A c us, v = .slice A xs.length c ∧ w.ownsRow base e 1 (.slice A xs.length c) xs.length us ∧ Rel R us xs

theorem own_ne {w : World} {b b' : Nat} {e e' : TypeId} {s s' n n' : Nat} {v v' : Value} {us us' : List Value} (h : w.ownsRow b e s v n us) (h' : w.ownsRow b' e' s' v' n' us') (hne : e ≠ e') :
    v.ownBlock = none ∨ v.ownBlock ≠ v'.ownBlock := by
  rcases h.2 with ⟨rfl, _⟩ | ⟨g, cap, cur, rfl, _, hh, _⟩
  · exact .inl rfl
  · rcases h'.2 with ⟨rfl, _⟩ | ⟨g', cap', cur', rfl, _, hh', _⟩
    · exact .inr (by simp [Value.ownBlock])
    · refine .inr fun he => ?_
      have : g = g' := by simpa [Value.ownBlock] using he
      subst this
      rw [hh] at hh'
      injection hh' with hh'
      injection hh' with _ ht
      exact hne ht
theorem ownsRow_setFar {w : World} {b : Nat} {e : TypeId} {s n : Nat} {v : Value} {us : List Value} (h : w.ownsRow b e s v n us) {g : Nat} {t : TypeId} {cs : Array Value} (hb : Blk w g t cs) (hne : e ≠ t) (i : Nat) (u : Value) :
    (w.setCell ⟨g, i, none⟩ u).ownsRow b e s v n us := by
  refine ⟨h.1, ?_⟩
  rcases h.2 with h2 | ⟨g', cap, cur, rfl, hg, hh, r⟩
  · exact .inl h2
  · have hgg : g' ≠ g := fun he => by
      subst he
      unfold Blk at hb
      rw [hh] at hb
      injection hb with hb
      injection hb with _ ht
      exact hne ht
    exact .inr ⟨g', cap, cur, rfl, hg, by rw [Below.heap_setCell _ _ _ _ (by simpa using hgg)]; exact hh, r⟩
section
variable {α : Type} {w w' : World} {base : Nat} {e : TypeId} {R R' : Value → α → Prop} {v : Value} {xs : List α}
theorem Own.nil : Own w base e R (.slice none 0 0) ([] : List α) := ⟨none, 0, [], rfl, World.ownsRow_nil _ _ _ _, Rel.nil⟩
theorem Own.setFar (h : Own w base e R v xs) {g : Nat} {t : TypeId} {cs : Array Value} (hb : Blk w g t cs) (hne : e ≠ t) (i : Nat) (u : Value) : Own (w.setCell ⟨g, i, none⟩ u) base e R v xs := by
  obtain ⟨A, c, us, rfl, h, k⟩ := h; exact ⟨A, c, us, rfl, ownsRow_setFar h hb hne i u, k⟩
theorem Own.sl (h : Own w base e R v xs) (hl : xs.length ≤ 140737488355328) : Sl w R v xs := by
  obtain ⟨A, c, us, rfl, h, k⟩ := h
  obtain ⟨_, h2, h3⟩ := At.of_own h k hl
  exact ⟨A, c, rfl, h3, h2⟩
theorem Own.below (h : Own w base e R v xs) (hb : Below w.heap.size w w') : Own w' base e R v xs := by
  obtain ⟨A, c, us, rfl, h, k⟩ := h
  refine ⟨A, c, us, rfl, ⟨h.1, ?_⟩, k⟩
  rcases h.2 with h2 | ⟨g, cap, cur, hv, hg, hh, r⟩
  · exact .inl h2
  · refine .inr ⟨g, cap, cur, hv, hg, ?_, r⟩
    have : g < w.heap.size := by
      rcases Nat.lt_or_ge g w.heap.size with hlt | hge
      · exact hlt
      · rw [Array.getElem?_eq_none hge] at hh; cases hh
    exact (hb.block g this).trans hh
end
/-- the own block of an owned row lies from base on -/
theorem own_ge {w : World} {b : Nat} {e : TypeId} {s n : Nat} {v : Value} {us : List Value} (h : w.ownsRow b e s v n us) : ∀ k, v.ownBlock = some k → b ≤ k := fun k hk => (h.lt k hk).1
/-- One element, boxed by buildSlice, as an append's source. -/
theorem Src.one {w : World} {x : Value} {t : TypeId} (h : x.oneCell' = true) : Pv.Src (w.alloc (.cells #[x] t)) (some ⟨w.heap.size, 0, none⟩) 1 1 [x] := by
  refine ⟨rfl, by simpa using h, fun _ => ⟨w.heap.size, 0, rfl, by simp, fun j u hu => ?_⟩⟩
  match j with
  | 0 => simp at hu; subst hu; simp
  | j + 1 => simp at hu
theorem RI.one {u : Value} {x : Int} (h : RI u x) : u.oneCell' = true := by obtain ⟨rfl, _⟩ := h; rfl
end Pv

namespace Pv
open Go Go.RowKit

/-- Values, k to an element, that read as a list. -/
def RelK {α : Type} (k : Nat) (R : (Nat → Value) → α → Prop) (us : List Value) (xs : List α) : Prop :=
  us.length = xs.length * k ∧ ∀ (i : Nat) x, xs[i]? = some x → ∃ f : Nat → Value, (∀ j, j < k → us[i * k + j]? = some (f j)) ∧ R f x
theorem RelK.nil {α : Type} {k : Nat} {R : (Nat → Value) → α → Prop} : RelK k R [] ([] : List α) := ⟨by simp, fun i x h => by simp at h⟩
theorem idx_lt {i n k j : Nat} (hi : i < n) (hj : j < k) : i * k + j < n * k := by
  have h1 : (i + 1) * k ≤ n * k := Nat.mul_le_mul_right k hi
  rw [Nat.add_mul, Nat.one_mul] at h1
  omega
theorem RelK.app {α : Type} {k : Nat} {R : (Nat → Value) → α → Prop} {us vs : List Value} {xs ys : List α} (h : RelK k R us xs) (h' : RelK k R vs ys) : RelK k R (us ++ vs) (xs ++ ys) := by
  refine ⟨by rw [List.length_append, List.length_append, h.1, h'.1, Nat.add_mul], fun i x hx => ?_⟩
  by_cases hi : i < xs.length
  · rw [List.getElem?_append_left hi] at hx
    obtain ⟨f, hf, hr⟩ := h.2 i x hx
    exact ⟨f, fun j hj => by rw [List.getElem?_append_left (by rw [h.1]; exact idx_lt hi hj)]; exact hf j hj, hr⟩
  · rw [List.getElem?_append_right (by omega)] at hx
    obtain ⟨f, hf, hr⟩ := h'.2 _ x hx
    refine ⟨f, fun j hj => ?_, hr⟩
    have e : i * k = xs.length * k + (i - xs.length) * k := by rw [← Nat.add_mul]; congr 1; omega
    rw [List.getElem?_append_right (by rw [h.1, e]; omega), h.1, e, show xs.length * k + (i - xs.length) * k + j - xs.length * k = (i - xs.length) * k + j by omega]
    exact hf j hj
theorem RelK.one {α : Type} {k : Nat} {R : (Nat → Value) → α → Prop} {vs : List Value} {x : α} {f : Nat → Value} (hl : vs.length = k) (hf : ∀ j, j < k → vs[j]? = some (f j)) (hr : R f x) : RelK k R vs [x] := by
  refine ⟨by simp [hl], fun i y hy => ?_⟩
  match i with
  | 0 => simp at hy; subst hy; exact ⟨f, fun j hj => by rw [Nat.zero_mul, Nat.zero_add]; exact hf j hj, hr⟩
  | i + 1 => simp at hy
theorem RelK.mono {α : Type} {k : Nat} {R R' : (Nat → Value) → α → Prop} {us : List Value} {xs : List α} (h : RelK k R us xs) (hr : ∀ f x, x ∈ xs → R f x → R' f x) : RelK k R' us xs :=
  ⟨h.1, fun i x hx => by obtain ⟨f, hf, h1⟩ := h.2 i x hx; exact ⟨f, hf, hr f x (mem_of_get hx) h1⟩⟩

/-- v is a slice of the call's own (element type e, k cells each) that reads as xs. -/
def OwnK {α : Type} (w : World) (base : Nat) (e : TypeId) (k : Nat) (R : (Nat → Value) → α → Prop) (v : Value) (xs : List α) : Prop :=
  ∃ A c us, v = .slice A xs.length c ∧ w.ownsRow base e k (.slice A xs.length c) xs.length us ∧ RelK k R us xs

theorem AtK.of_own {α : Type} {w : World} {base e n c k : Nat} {A : Option Addr} {us : List Value} {R : (Nat → Value) → α → Prop} {xs : List α} 
    (h : w.ownsRow base e k (.slice A n c) n us) (hr : RelK k R us xs) (hn : n = xs.length) (hl : xs.length ≤ 140737488355328) : n ≤ c ∧ AtK w k A R xs := by
  subst hn
  rcases h.2 with ⟨hv, h0⟩ | ⟨g, cap, cur, hv, hg, hh, hnc, hcm, hcs, htk⟩
  · injection hv with e1 e2 e3
    subst e3
    exact ⟨by omega, hl, fun hp => absurd hp (by omega)⟩
  · injection hv with e1 e2 e3
    subst e1; subst e3
    refine ⟨hnc, hl, fun hp => ⟨g, 0, rfl, ?_, fun i x hx => ?_⟩⟩
    · rcases Nat.lt_or_ge g w.heap.size with hlt | hge
      · exact hlt
      · rw [Array.getElem?_eq_none hge] at hh; cases hh
    · obtain ⟨f, hf, hR⟩ := hr.2 i x hx
      refine ⟨f, fun j hj => ?_, hR⟩
      have hcur : cur[i * k + j]? = some (f j) := by
        have h1 := hf j hj
        rw [← htk, List.getElem?_take] at h1
        split at h1
        · simpa using h1
        · cases h1
      simp [World.cell?, hh, hcur]

section
variable {α : Type} {w w' : World} {base : Nat} {e : TypeId} {k : Nat} {R R' : (Nat → Value) → α → Prop} {v : Value} {xs : List α}
theorem OwnK.nil : OwnK w base e k R (.slice none 0 0) ([] : List α) := ⟨none, 0, [], rfl, World.ownsRow_nil _ _ _ _, RelK.nil⟩
theorem OwnK.monoR (h : OwnK w base e k R v xs) (hr : ∀ f x, x ∈ xs → R f x → R' f x) : OwnK w base e k R' v xs := by
  obtain ⟨A, c, us, rfl, h, k⟩ := h; exact ⟨A, c, us, rfl, h, k.mono hr⟩
theorem OwnK.alloc (h : OwnK w base e k R v xs) (o : Obj) : OwnK (w.alloc o) base e k R v xs := by
  obtain ⟨A, c, us, rfl, h, k⟩ := h; exact ⟨A, c, us, rfl, h.alloc o, k⟩
theorem OwnK.setFar (h : OwnK w base e k R v xs) {g : Nat} {t : TypeId} {cs : Array Value} (hb : Blk w g t cs) (hne : e ≠ t) (i : Nat) (u : Value) : OwnK (w.setCell ⟨g, i, none⟩ u) base e k R v xs := by
  obtain ⟨A, c, us, rfl, h, k⟩ := h; exact ⟨A, c, us, rfl, ownsRow_setFar h hb hne i u, k⟩
theorem OwnK.grown (h : OwnK w base e k R v xs) {b' : Nat} {e' : TypeId} {s' n' : Nat} {v' : Value} {us' : List Value} (h' : w.ownsRow b' e' s' v' n' us') (hne : e ≠ e') (hg : w.grownBy w' v'.ownBlock) : OwnK w' base e k R v xs := by
  obtain ⟨A, c, us, rfl, h, k⟩ := h; exact ⟨A, c, us, rfl, h.kept hg (own_ne h h' hne), k⟩
theorem OwnK.sl (h : OwnK w base e k R v xs) (hl : xs.length ≤ 140737488355328) : SlK w k R v xs := by
  obtain ⟨A, c, us, rfl, h, k⟩ := h
  obtain ⟨h2, h3⟩ := AtK.of_own h k rfl hl
  exact ⟨A, c, rfl, h3, h2⟩
theorem ownsRow_below {b e s n : Nat} {v : Value} {us : List Value} (h : w.ownsRow b e s v n us) (hb : Below w.heap.size w w') : w'.ownsRow b e s v n us := by
  refine ⟨h.1, ?_⟩
  rcases h.2 with h2 | ⟨g, cap, cur, hv, hg, hh, r⟩
  · exact .inl h2
  · refine .inr ⟨g, cap, cur, hv, hg, ?_, r⟩
    have : g < w.heap.size := by
      rcases Nat.lt_or_ge g w.heap.size with hlt | hge
      · exact hlt
      · rw [Array.getElem?_eq_none hge] at hh; cases hh
    exact (hb.block g this).trans hh
theorem OwnK.below (h : OwnK w base e k R v xs) (hb : Below w.heap.size w w') : OwnK w' base e k R v xs := by
  obtain ⟨A, c, us, rfl, h, k⟩ := h; exact ⟨A, c, us, rfl, ownsRow_below h hb, k⟩
theorem OwnK.lower {b' : Nat} (h : OwnK w base e k R v xs) (hb : b' ≤ base) : OwnK w b' e k R v xs := by
  obtain ⟨A, c, us, rfl, ⟨h0, h⟩, k⟩ := h
  refine ⟨A, c, us, rfl, ⟨h0, ?_⟩, k⟩
  rcases h with h2 | ⟨g, cap, cur, hv, hg, r⟩
  · exact .inl h2
  · exact .inr ⟨g, cap, cur, hv, Nat.le_trans hb hg, r⟩
theorem OwnK.one (h : OwnK w base e k R v xs) : v.oneCell' = true := by obtain ⟨A, c, us, rfl, _⟩ := h; rfl
end

/-- A list in memory as a source of an append. -/
theorem AtK.src {α : Type} {w : World} {A : Option Addr} {k : Nat} {R : (Nat → Value) → α → Prop} {xs : List α} (h : AtK w k A R xs) (h1 : ∀ f x, R f x → ∀ j, j < k → (f j).oneCell' = true) :
    ∃ us, RelK k R us xs ∧ Pv.Src w A k xs.length us := by
  rcases Nat.eq_zero_or_pos xs.length with h0 | h0
  · have : xs = [] := List.eq_nil_of_length_eq_zero h0
    subst this
    exact ⟨[], RelK.nil, by simp, by simp, fun hm => absurd hm (by simp)⟩
  · obtain ⟨b, off, e, hb, hc⟩ := h.2 h0
    obtain ⟨fs, hl, hfs⟩ := list_of_ex (fun i (f : Nat → Value) x => (∀ j, j < k → w.cell? ⟨b, off + i * k + j, none⟩ = some (f j)) ∧ R f x) xs hc
    have hget : ∀ i, i < xs.length → ∃ f x, fs[i]? = some f ∧ xs[i]? = some x ∧ (∀ j, j < k → w.cell? ⟨b, off + i * k + j, none⟩ = some (f j)) ∧ R f x := fun i hi => by
      have e1 : fs[i]? = some (fs[i]'(by omega)) := List.getElem?_eq_getElem (by omega)
      have e2 : xs[i]? = some (xs[i]'(by omega)) := List.getElem?_eq_getElem (by omega)
      obtain ⟨h2, h3⟩ := hfs i _ _ e1 e2
      exact ⟨_, _, e1, e2, h2, h3⟩
    refine ⟨fs.flatMap (fun f => (List.range k).map f), ?_, ?_, ?_, ?_⟩
    · have key : ∀ (fs : List (Nat → Value)) (xs : List α), fs.length = xs.length → (∀ i, i < xs.length → ∃ f x, fs[i]? = some f ∧ xs[i]? = some x ∧ R f x) → RelK k R (fs.flatMap (fun f => (List.range k).map f)) xs := by
        intro fs
        induction fs with
        | nil => intro xs hl _; obtain rfl : xs = [] := List.eq_nil_of_length_eq_zero (by simpa using hl.symm); exact RelK.nil
        | cons f fs ih =>
          intro xs hl hx
          match xs, hl, hx with
          | x :: xs, hl, hx =>
            obtain ⟨f', x', h1, h2, h3⟩ := hx 0 (by simp)
            simp at h1 h2; subst h1; subst h2
            have t1 : RelK k R ((List.range k).map f) [x] := RelK.one (f := f) (by simp) (fun j hj => by simp [hj]) h3
            exact t1.app (ih xs (by simpa using hl) fun i hi => by
              have := hx (i + 1) (by simpa using hi)
              simpa using this)
      exact key fs xs hl fun i hi => by obtain ⟨f, x, a, b, _, d⟩ := hget i hi; exact ⟨f, x, a, b, d⟩
    · have : ∀ fs : List (Nat → Value), (fs.flatMap (fun f => (List.range k).map f)).length = fs.length * k := by
        intro fs; induction fs with
        | nil => simp
        | cons f fs ih => simp only [List.flatMap_cons, List.length_append, List.length_map, List.length_range, ih, List.length_cons, Nat.add_mul]; omega
      rw [this, hl]
    · intro u hu
      obtain ⟨f, hf, hu⟩ := List.mem_flatMap.1 hu
      obtain ⟨i, hi⟩ := List.getElem?_of_mem hf
      obtain ⟨j, hj, rfl⟩ := List.mem_map.1 hu
      obtain ⟨f', x, a, b, _, d⟩ := hget i (by have := lt_of_get hi; omega)
      rw [hi] at a; injection a with a; subst a
      exact h1 f x d j (by simpa using hj)
    · intro _
      refine ⟨b, off, e, hb, fun q u hu => ?_⟩
      have key : ∀ (fs : List (Nat → Value)) (q : Nat) (u : Value), (fs.flatMap (fun f => (List.range k).map f))[q]? = some u → ∃ i j f, q = i * k + j ∧ j < k ∧ fs[i]? = some f ∧ f j = u := by
        intro fs
        induction fs with
        | nil => intro q u h; simp at h
        | cons f fs ih =>
          intro q u h
          simp only [List.flatMap_cons] at h
          by_cases hq : q < k
          · rw [List.getElem?_append_left (by simpa using hq)] at h
            exact ⟨0, q, f, by omega, hq, rfl, by simpa [hq] using h⟩
          · rw [List.getElem?_append_right (by simp; omega)] at h
            simp only [List.length_map, List.length_range] at h
            obtain ⟨i, j, f', e, hj, hf, hu⟩ := ih _ _ h
            exact ⟨i + 1, j, f', by rw [Nat.add_mul]; omega, hj, by simpa using hf, hu⟩
      obtain ⟨i, j, f, rfl, hj, hf, rfl⟩ := key fs q u hu
      obtain ⟨f', x, a, _, c, _⟩ := hget i (by have := lt_of_get hf; omega)
      rw [hf] at a; injection a with a; subst a
      rw [← Nat.add_assoc]; exact c j hj
end Pv

namespace Pv
open Go Go.RowKit

/-- A range, a node. -/
structure Rng where
  lo : Int
  hi : Int
deriving DecidableEq
structure Rx where
  kind : Int
  set : List Rng
  many : Int
  least : Int
  most : Int
deriving DecidableEq
def RRng (f : Nat → Value) (r : Rng) : Prop := RI (f 0) r.lo ∧ RI (f 1) r.hi
abbrev IsSet (w : World) := SlK w 2 RRng
def RU (v : Value) (n : Int) : Prop := v = .int .u8 n ∧ 0 ≤ n ∧ n ≤ 255
structure RRx (w : World) (f : Nat → Value) (x : Rx) : Prop where
  kind : RU (f 0) x.kind
  set : IsSet w (f 1) x.set
  many : RI (f 2) x.many
  least : RI (f 3) x.least
  most : RI (f 4) x.most
theorem RRx.keep {w w' : World} {f : Nat → Value} {x : Rx} (h : RRx w f x) (k : Keep w w') : RRx w' f x := ⟨h.1, SlK.keep h.2 k, h.3, h.4, h.5⟩
/-- Nodes from an address on. -/
abbrev AtRx (w : World) (A : Option Addr) (t : List Rx) : Prop := AtK w 5 A (RRx w) t
theorem AtRx.keep {w w' : World} {A : Option Addr} {t : List Rx} (h : AtRx w A t) (k : Keep w w') : AtRx w' A t := h.keepR k fun _ _ h => h.keep k
abbrev AtSet (w : World) (A : Option Addr) (l : List Rng) : Prop := AtK w 2 A RRng l
/-- A node of them: its cells. -/
theorem AtRx.gt {w : World} {A : Option Addr} {t : List Rx} {n i : Nat} (h : AtRx w A t) (HL : Hid (t.length = n)) (hi : i < n) :
    ∃ b off k B c m l many least most, A = some ⟨b, off, none⟩ ∧ b < w.heap.size ∧ w.cell? ⟨b, off + i * 5, none⟩ = some (.int .u8 k) ∧ w.cell? ⟨b, off + i * 5 + 1, none⟩ = some (.slice B m c) ∧
      w.cell? ⟨b, off + i * 5 + 2, none⟩ = some (.int .i64 many) ∧ w.cell? ⟨b, off + i * 5 + 3, none⟩ = some (.int .i64 least) ∧ w.cell? ⟨b, off + i * 5 + 4, none⟩ = some (.int .i64 most) ∧
      AtSet w B l ∧ Hid (l.length = m) ∧ m ≤ c ∧ (0 ≤ k ∧ k ≤ 255) ∧ (-9223372036854775808 ≤ many ∧ many ≤ 9223372036854775807) ∧ (-9223372036854775808 ≤ least ∧ least ≤ 9223372036854775807) ∧ (-9223372036854775808 ≤ most ∧ most ≤ 9223372036854775807) ∧
      Hid (t[i]? = some ⟨k, l, many, least, most⟩) := by
  obtain ⟨b, off, f, ⟨k, l, many, least, most⟩, e, hb, hc, ⟨⟨h0, h01, h02⟩, ⟨B, c, h1, hs, hm⟩, ⟨h2, h21, h22⟩, ⟨h3, h31, h32⟩, ⟨h4, h41, h42⟩⟩, hx⟩ := AtK.gt h HL hi
  have c0 := hc 0 (by omega); have c1 := hc 1 (by omega); have c2 := hc 2 (by omega); have c3 := hc 3 (by omega); have c4 := hc 4 (by omega)
  rw [h0] at c0; rw [h1] at c1; rw [h2] at c2; rw [h3] at c3; rw [h4] at c4
  exact ⟨b, off, k, B, c, l.length, l, many, least, most, e, hb, c0, c1, c2, c3, c4, hs, rfl, hm, ⟨h01, h02⟩, ⟨h21, h22⟩, ⟨h31, h32⟩, ⟨h41, h42⟩, hx⟩
/-- The five cells of a node. -/
structure C5 (w : World) (b o : Nat) (k : Int) (B : Option Addr) (m c : Nat) (many least most : Int) : Prop where
  lt : b < w.heap.size
  c0 : w.cell? ⟨b, o, none⟩ = some (.int .u8 k)
  c1 : w.cell? ⟨b, o + 1, none⟩ = some (.slice B m c)
  c2 : w.cell? ⟨b, o + 2, none⟩ = some (.int .i64 many)
  c3 : w.cell? ⟨b, o + 3, none⟩ = some (.int .i64 least)
  c4 : w.cell? ⟨b, o + 4, none⟩ = some (.int .i64 most)
theorem C5.next {w w' : World} {b o : Nat} {k : Int} {B : Option Addr} {m c : Nat} {many least most : Int} (h : C5 w b o k B m c many least most) (kp : Keep w w') : C5 w' b o k B m c many least most :=
  ⟨Nat.lt_of_lt_of_le h.lt kp.size, (kp.cell _ _ h.lt).trans h.c0, (kp.cell _ _ h.lt).trans h.c1, (kp.cell _ _ h.lt).trans h.c2, (kp.cell _ _ h.lt).trans h.c3, (kp.cell _ _ h.lt).trans h.c4⟩
/-- A node of nodes: cells, set, bounds. -/
theorem AtRx.g5 {w : World} {A : Option Addr} {t : List Rx} {n i : Nat} (h : AtRx w A t) (HL : Hid (t.length = n)) (hi : i < n) :
    ∃ b off k B c m l many least most, A = some ⟨b, off, none⟩ ∧ C5 w b (off + i * 5) k B m c many least most ∧
      AtSet w B l ∧ Hid (l.length = m) ∧ m ≤ c ∧ (0 ≤ k ∧ k ≤ 255) ∧ (-9223372036854775808 ≤ many ∧ many ≤ 9223372036854775807) ∧ (-9223372036854775808 ≤ least ∧ least ≤ 9223372036854775807) ∧ (-9223372036854775808 ≤ most ∧ most ≤ 9223372036854775807) ∧
      Hid (t[i]? = some ⟨k, l, many, least, most⟩) := by
  obtain ⟨b, off, k, B, c, m, l, many, least, most, e, hb, c0, c1, c2, c3, c4, hs, HM, hm, h1, h2, h3, h4, HX⟩ := h.gt HL hi
  exact ⟨b, off, k, B, c, m, l, many, least, most, e, ⟨hb, c0, c1, c2, c3, c4⟩, hs, HM, hm, h1, h2, h3, h4, HX⟩
/-- A range of a set. -/
theorem AtSet.gt {w : World} {A : Option Addr} {l : List Rng} {n i : Nat} (h : AtSet w A l) (HL : Hid (l.length = n)) (hi : i < n) :
    ∃ b off lo hi', A = some ⟨b, off, none⟩ ∧ b < w.heap.size ∧ w.cell? ⟨b, off + i * 2, none⟩ = some (.int .i64 lo) ∧ w.cell? ⟨b, off + i * 2 + 1, none⟩ = some (.int .i64 hi') ∧
      (-9223372036854775808 ≤ lo ∧ lo ≤ 9223372036854775807) ∧ (-9223372036854775808 ≤ hi' ∧ hi' ≤ 9223372036854775807) ∧ Hid (l[i]? = some ⟨lo, hi'⟩) := by
  obtain ⟨b, off, f, ⟨lo, hi'⟩, e, hb, hc, ⟨⟨h0, h01, h02⟩, ⟨h1, h11, h12⟩⟩, hx⟩ := AtK.gt h HL hi
  have c0 := hc 0 (by omega); have c1 := hc 1 (by omega)
  rw [h0] at c0; rw [h1] at c1
  exact ⟨b, off, lo, hi', e, hb, c0, c1, ⟨h01, h02⟩, ⟨h11, h12⟩, hx⟩

/-- May ranges be a set? -/
structure SetOk (l : List Rng) : Prop where
  few : l.length ≤ 256
  one : ∀ (i : Nat) x, l[i]? = some x → 0 ≤ x.lo ∧ x.lo ≤ x.hi ∧ x.hi ≤ 1114111
  gap : ∀ (i : Nat) x y, l[i]? = some x → l[i + 1]? = some y → x.hi + 2 ≤ y.lo
noncomputable def setB (l : List Rng) : Bool := yes (SetOk l)
theorem setB_yes {l : List Rng} (h : SetOk l) : setB l = true := yes_t h
theorem setB_no {l : List Rng} (h : ¬ SetOk l) : setB l = false := yes_f h
theorem SetOk.of {l : List Rng} (h : setB l = true) : SetOk l := of_yes h
theorem SetOk.nil : SetOk [] := ⟨by simp, fun i x h => by simp at h, fun i x y h => by simp at h⟩
/-- The error that Check tells. -/
noncomputable def setE (l : List Rng) : Int := if setB l = true then 0 else 8

theorem setE_yes {l : List Rng} (h : setB l = true) : setE l = 0 := by unfold setE; rw [if_pos h]
theorem setE_no {l : List Rng} (h : setB l = false) : setE l = 8 := by unfold setE; rw [if_neg (by rw [h]; simp)]
/-- May a node be, by itself? -/
def Rx.One (x : Rx) : Prop :=
  (x.kind = 0 ∧ x.set = [] ∧ x.least = 0 ∧ x.most = 0 ∧ x.many = 0) ∨ (x.kind = 1 ∧ SetOk x.set ∧ x.least = 0 ∧ x.most = 0 ∧ x.many = 0) ∨
  ((x.kind = 2 ∨ x.kind = 3) ∧ x.set = [] ∧ x.least = 0 ∧ x.most = 0 ∧ 2 ≤ x.many) ∨
  (x.kind = 4 ∧ x.set = [] ∧ x.many = 1 ∧ 0 ≤ x.least ∧ x.least ≤ 16 ∧ (x.most = -1 ∨ (x.least ≤ x.most ∧ x.most ≤ 16)))
noncomputable def Rx.oneB (x : Rx) : Bool := yes x.One
theorem Rx.oneB_yes {x : Rx} (h : x.One) : x.oneB = true := yes_t h
theorem Rx.oneB_no {x : Rx} (h : ¬ x.One) : x.oneB = false := yes_f h
theorem Rx.One.of {x : Rx} (h : x.oneB = true) : x.One := of_yes h

/-- .. as the code asks it: kind, whether the set may be, the set's length. -/
def oneC (k : Int) (sb : Bool) (n : Nat) (many least most : Int) : Bool :=
  if k == 0 then ((n : Int) == 0 && least == 0 && most == 0) && many == 0
  else if k == 1 then sb && least == 0 && most == 0 && many == 0
  else if k == 2 || k == 3 then ((n : Int) == 0 && least == 0 && most == 0) && decide (2 ≤ many)
  else if k == 4 then (n : Int) == 0 && many == 1 && decide (0 ≤ least) && decide (least ≤ 16) && (most == -1 || decide (least ≤ most) && decide (most ≤ 16))
  else false
theorem oneC_eq (x : Rx) : oneC x.kind (setB x.set) x.set.length x.many x.least x.most = x.oneB := by
  by_cases h : x.One
  · rw [Rx.oneB_yes h]
    rcases h with ⟨h1, h2, h3, h4, h5⟩ | ⟨h1, h2, h3, h4, h5⟩ | ⟨h1, h2, h3, h4, h5⟩ | ⟨h1, h2, h3, h4, h5, h6⟩
    · simp [oneC, h1, h2, h3, h4, h5]
    · simp [oneC, h1, setB_yes h2, h3, h4, h5]
    · rcases h1 with h1 | h1 <;> simp [oneC, h1, h2, h3, h4, h5]
    · have : (x.most == -1 || decide (x.least ≤ x.most) && decide (x.most ≤ 16)) = true := by simp; omega
      simp [oneC, h1, h2, h3, h4, h5]; omega
  · rw [Rx.oneB_no h]
    cases hc : oneC x.kind (setB x.set) x.set.length x.many x.least x.most with
    | false => rfl
    | true =>
      refine absurd ?_ h
      have hn : x.set.length = 0 → x.set = [] := List.eq_nil_of_length_eq_zero
      unfold oneC at hc
      unfold Rx.One
      by_cases k0 : x.kind = 0
      · simp [k0] at hc; exact .inl ⟨k0, hc.1.1.1, hc.1.1.2, hc.1.2, hc.2⟩
      by_cases k1 : x.kind = 1
      · simp [k1] at hc; exact .inr (.inl ⟨k1, SetOk.of hc.1.1.1, hc.1.1.2, hc.1.2, hc.2⟩)
      by_cases k2 : x.kind = 2 ∨ x.kind = 3
      · have k2' : (x.kind == 2 || x.kind == 3) = true := by simpa using k2
        simp [k0, k1, k2'] at hc; exact .inr (.inr (.inl ⟨k2, hc.1.1.1, hc.1.1.2, hc.1.2, hc.2⟩))
      by_cases k4 : x.kind = 4
      · simp [k4] at hc
        exact .inr (.inr (.inr ⟨k4, hc.1.1.1.1, hc.1.1.1.2, hc.1.1.2, hc.1.2, hc.2⟩))
      · have k2' : (x.kind == 2 || x.kind == 3) = false := by simpa using k2
        simp [k0, k1, k2', k4] at hc

/-- One node behind the other. -/
def again (f : Nat → Option Nat) : Nat → Nat → Option Nat
  | 0, a => some a
  | n + 1, a => (f a).bind (again f n)
/-- The place behind the node that begins at one, at most so many deep. -/
noncomputable def behind (t : List Rx) : Nat → Nat → Option Nat
  | 0, i => match t[i]? with | none => none | some x => if x.oneB = true ∧ x.kind ≤ 1 then some (i + 1) else none
  | d + 1, i => match t[i]? with | none => none | some x => if x.oneB = true then again (behind t d) x.many.toNat (i + 1) else none
theorem behind_none {t : List Rx} {i : Nat} (h : t[i]? = none) (d : Nat) : behind t d i = none := by cases d <;> simp [behind, h]
theorem behind_bad {t : List Rx} {i : Nat} {x : Rx} (h : t[i]? = some x) (hx : x.oneB = false) (d : Nat) : behind t d i = none := by cases d <;> simp [behind, h, hx]
theorem behind_deep {t : List Rx} {i : Nat} {x : Rx} (h : t[i]? = some x) (hx : 1 < x.kind) : behind t 0 i = none := by simp [behind, h]; omega
theorem behind_leaf {t : List Rx} {i : Nat} {x : Rx} (h : t[i]? = some x) (hx : x.oneB = true) (hk : x.kind ≤ 1) (d : Nat) : behind t d i = some (i + 1) := by
  have hm : x.many = 0 := by
    rcases Rx.One.of hx with ⟨_, _, _, _, h⟩ | ⟨_, _, _, _, h⟩ | ⟨h, _⟩ | ⟨h, _⟩ <;> omega
  cases d <;> simp [behind, h, hx, hk, hm, again]
theorem behind_in {t : List Rx} {i : Nat} {x : Rx} (h : t[i]? = some x) (hx : x.oneB = true) (d : Nat) : behind t (d + 1) i = again (behind t d) x.many.toNat (i + 1) := by simp [behind, h, hx]

theorem again_snoc (f : Nat → Option Nat) : ∀ (n a : Nat), again f (n + 1) a = (again f n a).bind f
  | 0, a => by simp [again]
  | n + 1, a => by
    show (f a).bind (again f (n + 1)) = ((f a).bind (again f n)).bind f
    cases f a with
    | none => rfl
    | some b => exact again_snoc f n b
theorem again_more {f : Nat → Option Nat} {n a : Nat} (h : again f n a = none) : ∀ m, n ≤ m → again f m a = none
  | 0, hm => by
    obtain rfl : n = 0 := by omega
    exact h
  | m + 1, hm => by
    by_cases hn : n = m + 1
    · subst hn; exact h
    · rw [again_snoc, again_more h m (by omega)]; rfl
theorem behind_all {t : List Rx} {i : Nat} {x : Rx} (h : t[i]? = some x) (hx : x.oneB = true) (d : Nat) (hd : 1 < x.kind → 0 < d) : behind t d i = again (behind t (d - 1)) x.many.toNat (i + 1) := by
  cases d with
  | succ d => exact behind_in h hx d
  | zero =>
    have hk : x.kind ≤ 1 := by rcases Nat.lt_or_ge 0 0 with h | h; omega; exact Int.not_lt.1 fun hh => by have := hd hh; omega
    rw [behind_leaf h hx hk]
    have hm : x.many = 0 := by
      rcases Rx.One.of hx with ⟨_, _, _, _, h⟩ | ⟨_, _, _, _, h⟩ | ⟨h, _⟩ | ⟨h, _⟩ <;> omega
    rw [hm]; rfl
/-- The place, or -1. -/
def bR : Option Nat → Int
  | some e => e
  | none => -1

theorem bR_some (e : Nat) : bR (some e) = (e : Int) := rfl
theorem bR_none : bR none = -1 := rfl

/-- A pattern as a tree. -/
inductive Tr where
  | mk (x : Rx) (kids : List Tr) : Tr
mutual
def Tr.flat : Tr → List Rx
  | .mk x ks => x :: flats ks
def flats : List Tr → List Rx
  | [] => []
  | k :: ks => k.flat ++ flats ks
end
def Tr.size (t : Tr) : Nat := t.flat.length
def sizes (l : List Tr) : Nat := (flats l).length
theorem flats_app (l m : List Tr) : flats (l ++ m) = flats l ++ flats m := by
  induction l with
  | nil => simp [flats]
  | cons a l ih => simp [flats, ih]
theorem Tr.size_pos (t : Tr) : 0 < t.size := by cases t; simp [Tr.size, Tr.flat]
theorem Tr.size_mk (x : Rx) (ks : List Tr) : (Tr.mk x ks).size = sizes ks + 1 := by simp [Tr.size, Tr.flat, sizes]
theorem sizes_cons (k : Tr) (ks : List Tr) : sizes (k :: ks) = k.size + sizes ks := by simp [sizes, flats, Tr.size]
/-- A tree whose nodes may be, at most so deep. -/
def Tr.Ok : Nat → Tr → Prop
  | 0, .mk x ks => x.One ∧ x.many = 0 ∧ ks = []
  | d + 1, .mk x ks => x.One ∧ (ks.length : Int) = x.many ∧ ∀ k, k ∈ ks → Tr.Ok d k
theorem Rx.many0 {x : Rx} (h : x.One) (hk : x.kind ≤ 1) : x.many = 0 := by
  rcases h with h | h | h | h <;> omega
theorem Rx.One.many {x : Rx} (h : x.One) : 0 ≤ x.many := by
  rcases h with h | h | h | h <;> omega
theorem Tr.Ok.up {d : Nat} : ∀ {d' : Nat} {t : Tr}, t.Ok d → d ≤ d' → t.Ok d' := by
  induction d with
  | zero =>
    intro d' t h hd
    obtain ⟨x, ks⟩ := t
    obtain ⟨h1, h2, rfl⟩ := h
    cases d' with
    | zero => exact ⟨h1, h2, rfl⟩
    | succ d' => exact ⟨h1, by simp [h2], by simp⟩
  | succ d ih =>
    intro d' t h hd
    obtain ⟨x, ks⟩ := t
    cases d' with
    | zero => omega
    | succ d' => exact ⟨h.1, h.2.1, fun k hk => ih (h.2.2 k hk) (by omega)⟩
theorem Tr.Ok.one {d : Nat} {x : Rx} {ks : List Tr} (h : (Tr.mk x ks).Ok d) : x.One := by cases d <;> exact h.1
theorem Tr.Ok.len {d : Nat} {x : Rx} {ks : List Tr} (h : (Tr.mk x ks).Ok d) : (ks.length : Int) = x.many := by
  cases d with
  | zero => obtain ⟨_, h2, rfl⟩ := h; simp [h2]
  | succ d => exact h.2.1
theorem Tr.Ok.kid {d : Nat} {x : Rx} {ks : List Tr} (h : (Tr.mk x ks).Ok d) {k : Tr} (hk : k ∈ ks) : k.Ok (d - 1) := by
  cases d with
  | zero => obtain ⟨_, _, rfl⟩ := h; simp at hk
  | succ d => exact h.2.2 k hk

theorem drop_cons {α : Type} {t : List α} {i : Nat} {x : α} (h : t[i]? = some x) : t.drop i = x :: t.drop (i + 1) := by
  have hi := lt_of_get h
  rw [List.drop_eq_getElem_cons hi]
  rw [List.getElem?_eq_getElem hi] at h
  injection h with h
  rw [h]
theorem drop_head {α : Type} {t r : List α} {i : Nat} {x : α} (h : t.drop i = x :: r) : t[i]? = some x ∧ t.drop (i + 1) = r := by
  constructor
  · have := congrArg List.head? h
    simpa [List.head?_drop] using this
  · have := congrArg List.tail h
    simpa using this
theorem drop_app {α : Type} {t a r : List α} {i : Nat} (h : t.drop i = a ++ r) : t.drop (i + a.length) = r := by
  rw [← List.drop_drop, h, List.drop_left]

/-- What stands behind is a tree. -/
theorem behind_tree {t : List Rx} : ∀ {d i e : Nat}, behind t d i = some e → ∃ T : Tr, T.Ok d ∧ t.drop i = T.flat ++ t.drop e ∧ e = i + T.size := by
  intro d
  induction d with
  | zero =>
    intro i e h
    cases hx : t[i]? with
    | none => simp [behind, hx] at h
    | some x =>
      by_cases h1 : x.oneB = true ∧ x.kind ≤ 1
      · rw [behind_leaf hx h1.1 h1.2] at h
        injection h with h
        subst h
        have hm : x.many = 0 := by
          rcases Rx.One.of h1.1 with ⟨_, _, _, _, h⟩ | ⟨_, _, _, _, h⟩ | ⟨h, _⟩ | ⟨h, _⟩ <;> omega
        exact ⟨.mk x [], ⟨Rx.One.of h1.1, hm, rfl⟩, by simp [Tr.flat, flats, drop_cons hx], by simp [Tr.size, Tr.flat, flats]⟩
      · simp [behind, hx, h1] at h
  | succ d ih =>
    have more : ∀ (m i e : Nat), again (behind t d) m i = some e → ∃ ks : List Tr, ks.length = m ∧ (∀ k, k ∈ ks → k.Ok d) ∧ t.drop i = flats ks ++ t.drop e ∧ e = i + sizes ks := by
      intro m
      induction m with
      | zero =>
        intro i e h
        simp only [again, Option.some.injEq] at h
        subst h
        exact ⟨[], rfl, by simp, by simp [flats], by simp [sizes, flats]⟩
      | succ m ihm =>
        intro i e h
        simp only [again] at h
        cases hb : behind t d i with
        | none => rw [hb] at h; simp at h
        | some e1 =>
          rw [hb] at h
          obtain ⟨T, hT, hd, he⟩ := ih hb
          obtain ⟨ks, hl, hks, hd2, he2⟩ := ihm e1 e h
          exact ⟨T :: ks, by simp [hl], fun k hk => by rcases List.mem_cons.1 hk with rfl | hk; exact hT; exact hks k hk, by rw [hd, hd2]; simp [flats], by rw [sizes_cons]; omega⟩
    intro i e h
    cases hx : t[i]? with
    | none => simp [behind, hx] at h
    | some x =>
      cases h1 : x.oneB with
      | false => simp [behind, hx, h1] at h
      | true =>
        rw [behind_in hx h1] at h
        obtain ⟨ks, hl, hks, hd, he⟩ := more _ _ _ h
        exact ⟨.mk x ks, ⟨Rx.One.of h1, by have := (Rx.One.of h1).many; omega, hks⟩, by rw [drop_cons hx, hd]; simp [Tr.flat], by rw [Tr.size_mk]; omega⟩
/-- A tree has its place behind. -/
theorem tree_behind {t : List Rx} : ∀ {d : Nat} {T : Tr} {i : Nat} {r : List Rx}, T.Ok d → t.drop i = T.flat ++ r → behind t d i = some (i + T.size) := by
  intro d
  induction d with
  | zero =>
    intro T i r h hd
    obtain ⟨x, ks⟩ := T
    obtain ⟨h1, h2, rfl⟩ := h
    simp only [Tr.flat, flats, List.cons_append, List.nil_append] at hd
    have hk : x.kind ≤ 1 := by rcases h1 with ⟨h, _⟩ | ⟨h, _⟩ | ⟨_, _, _, _, h⟩ | ⟨_, _, h, _⟩ <;> omega
    rw [behind_leaf (drop_head hd).1 (Rx.oneB_yes h1) hk]
    simp [Tr.size, Tr.flat, flats]
  | succ d ih =>
    have more : ∀ (ks : List Tr) (i : Nat) (r : List Rx), (∀ k, k ∈ ks → k.Ok d) → t.drop i = flats ks ++ r → again (behind t d) ks.length i = some (i + sizes ks) := by
      intro ks
      induction ks with
      | nil => intro i r _ _; simp [again, sizes, flats]
      | cons k ks ihk =>
        intro i r hk hd
        simp only [flats, List.append_assoc] at hd
        have h1 := ih (hk k (by simp)) hd
        have h2 := ihk (i + k.size) r (fun k' h => hk k' (by simp [h])) (drop_app hd)
        simp only [List.length_cons, again, h1, Option.bind_some, h2, sizes_cons]
        congr 1; omega
    intro T i r h hd
    obtain ⟨x, ks⟩ := T
    simp only [Tr.flat, List.cons_append] at hd
    obtain ⟨hg, hd2⟩ := drop_head hd
    rw [behind_in hg (Rx.oneB_yes h.1), show x.many.toNat = ks.length by have := h.2.1; omega, more ks (i + 1) r h.2.2 hd2, Tr.size_mk]
    congr 1; omega
theorem behind_up {t : List Rx} {d d' i e : Nat} (h : behind t d i = some e) (hd : d ≤ d') : behind t d' i = some e := by
  obtain ⟨T, hT, hdr, rfl⟩ := behind_tree h
  exact tree_behind (hT.up hd) hdr
theorem behind_lt {t : List Rx} {d i e : Nat} (h : behind t d i = some e) : i < e ∧ e ≤ t.length := by
  obtain ⟨T, hT, hdr, rfl⟩ := behind_tree h
  have h1 := T.size_pos
  have h2 := congrArg List.length hdr
  have h3 : T.flat.length = T.size := rfl
  simp only [List.length_drop, List.length_append] at h2
  omega
/-- Are nodes a pattern? -/
def Pat (t : List Rx) : Prop := t ≠ [] ∧ t.length ≤ 64 ∧ behind t 16 0 = some t.length
noncomputable def patB (t : List Rx) : Bool := yes (Pat t)
theorem patB_yes {t : List Rx} (h : Pat t) : patB t = true := yes_t h
theorem patB_no {t : List Rx} (h : ¬ Pat t) : patB t = false := yes_f h
theorem Pat.tree {t : List Rx} (h : Pat t) : ∃ T : Tr, T.Ok 16 ∧ t = T.flat := by
  obtain ⟨T, hT, hd, _⟩ := behind_tree h.2.2
  exact ⟨T, hT, by simpa using hd⟩
end Pv

namespace Pv
open Go Go.RowKit
/-- All blocks but one are as they were. -/
structure Only (b : Nat) (w w' : World) : Prop where
  os : w'.os = w.os
  tape : w'.tape = w.tape
  output : w'.output = w.output
  size : w.heap.size ≤ w'.heap.size
  block : ∀ k, k < w.heap.size → k ≠ b → w'.heap[k]? = w.heap[k]?
section
variable {w w' : World} {b : Nat}
theorem Only.refl (b : Nat) (w : World) : Only b w w := ⟨rfl, rfl, rfl, Nat.le_refl _, fun _ _ _ => rfl⟩
theorem Only.set (h : Only b w w') (i : Nat) (v : Value) : Only b w (w'.setCell ⟨b, i, none⟩ v) :=
  ⟨h.os, h.tape, h.output, by simpa using h.size, fun k hk hb => (Below.heap_setCell w' ⟨b, i, none⟩ v k hb).trans (h.block k hk hb)⟩
theorem Only.below {B : Nat} (h : Only b w w') (hB : B ≤ b) (hs : B ≤ w.heap.size) : Below B w w' := ⟨h.os, h.tape, h.output, h.size, fun k hk => h.block k (by omega) (by omega)⟩
theorem Only.blk {g : Nat} {t : TypeId} {cs : Array Value} (h : Only b w w') (hb : Blk w g t cs) (hne : g ≠ b) : Blk w' g t cs := (h.block g hb.lt hne).trans hb
end
end Pv

namespace Pv
open Go Go.RowKit
/-- A string's bytes. -/
abbrev bsl (r : ByteArray) : List UInt8 := r.data.toList
theorem bsl_len (r : ByteArray) : (bsl r).length = r.size := by rw [bsl, Array.length_toList]; rfl
theorem bsl_mk (l : List UInt8) : bsl ⟨l.toArray⟩ = l := by simp [bsl]
def isP (n : Nat) : Bool := decide (n ≤ 1114111 ∧ (n < 55296 ∨ 57343 < n))
/-- A code point's bytes. -/
def bytesP (n : Nat) : List Nat :=
  if n < 128 then [n] else if n < 2048 then [192 + n / 64, 128 + n % 64] else if n < 65536 then [224 + n / 4096, 128 + n / 64 % 64, 128 + n % 64]
  else [240 + n / 262144, 128 + n / 4096 % 64, 128 + n / 64 % 64, 128 + n % 64]
theorem bytesP_1 {n : Nat} (h : n < 128) : bytesP n = [n] := by unfold bytesP; rw [if_pos h]
theorem bytesP_len {n : Nat} : (bytesP n).length = if n < 128 then 1 else if n < 2048 then 2 else if n < 65536 then 3 else 4 := by
  unfold bytesP; repeat' split
  all_goals rfl
theorem range_1 {n : Nat} (h : (bytesP n).length = 1) : n < 128 := by rw [bytesP_len] at h; repeat' split at h
                                                                      all_goals omega
theorem toList_bsl (s : ByteArray) : s.toList = bsl s := ByteArray.toList_eq s
end Pv

namespace Go.Proofs.YtilhicefhhgecaaGreatDoor
open Go.RowKit Pv

theorem own_get1 {w : World} {b e n k c : Nat} {A : Option Addr} {us : List Value} {u : Value} (h : w.ownsRow b e 1 (.slice A n c) n us) (hk : us[k]? = some u) : ∃ g, A = some ⟨g, 0, none⟩ ∧ g < w.heap.size ∧ w.cell? ⟨g, k, none⟩ = some u := by
  rcases h.2 with ⟨hv, h0⟩ | ⟨g, cap, cur, hv, hg, hh, hnc, hcm, hcs, htk⟩
  · have := h.1; have := lt_of_get hk; omega
  · injection hv with e1 e2 e3
    subst e1
    have hb : Blk w g e cur := hh
    refine ⟨g, rfl, hb.lt, ?_⟩
    rw [hb.cell k]
    rw [← htk, List.getElem?_take] at hk
    split at hk
    · simpa using hk
    · cases hk
end Go.Proofs.YtilhicefhhgecaaGreatDoor

namespace Pv
open Go Go.RowKit

/-- An edge, the edges of all states. -/
structure Ed where
  to : Int
  free : Bool
  set : List Rng
deriving DecidableEq
abbrev Au := List (List Ed)

def auEdge (a : Au) (s : Nat) (x : Ed) : Au := a.modify s (· ++ [x])
def auFrees (m : Nat) : Au → List Nat → Au
  | a, [] => a
  | a, s :: l => auFrees m (auEdge a s ⟨m, true, []⟩) l
def auJoin (a : Au) (l : List Nat) : Au := auFrees a.length (a ++ [[]]) l
def iter (f : Au → Nat → Au × Nat) : Nat → Au → Nat → Au × Nat
  | 0, a, s => (a, s)
  | n + 1, a, s => iter f n (f a s).1 (f a s).2
/-- again and again, all places told -/
def iters (f : Au → Nat → Au × Nat) : Nat → Au → Nat → Au × List Nat
  | 0, a, s => (a, [s])
  | n + 1, a, s => ((iters f n (f a s).1 (f a s).2).1, s :: (iters f n (f a s).1 (f a s).2).2)
def joinOf (r : Au × List Nat) : Au × Nat := (auJoin r.1 r.2, r.1.length)
def starOf (f : Au → Nat → Au × Nat) (r : Au × Nat) : Au × Nat :=
  (auEdge (f (auJoin r.1 [r.2]) r.1.length).1 (f (auJoin r.1 [r.2]) r.1.length).2 ⟨r.1.length, true, []⟩, r.1.length)
mutual
/-- How a tree leads from a state: the edges behind it, the state that it leads to. -/
def leadT : Tr → Au → Nat → Au × Nat
  | .mk x ks, a, s =>
    if x.kind = 0 then joinOf (a, [s])
    else if x.kind = 1 then (auEdge (a ++ [[]]) s ⟨a.length, false, x.set⟩, a.length)
    else if x.kind = 2 then leadCat ks a s
    else if x.kind = 3 then joinOf (leadAlt ks a s)
    else if x.most < 0 then starOf (leadHd ks) (iter (leadHd ks) x.least.toNat a s)
    else joinOf (iters (leadHd ks) (x.most - x.least).toNat (iter (leadHd ks) x.least.toNat a s).1 (iter (leadHd ks) x.least.toNat a s).2)
def leadHd : List Tr → Au → Nat → Au × Nat
  | [], a, s => (a, s)
  | k :: _, a, s => leadT k a s
def leadCat : List Tr → Au → Nat → Au × Nat
  | [], a, s => (a, s)
  | k :: ks, a, s => leadCat ks (leadT k a s).1 (leadT k a s).2
def leadAlt : List Tr → Au → Nat → Au × List Nat
  | [], a, _ => (a, [])
  | k :: ks, a, s => ((leadAlt ks (leadT k a s).1 s).1, (leadT k a s).2 :: (leadAlt ks (leadT k a s).1 s).2)
end
/-- How often what is repeated is laid. -/
def timesOf (x : Rx) : Nat := if x.most < 0 then x.least.toNat + 1 else x.least.toNat + (x.most - x.least).toNat
mutual
/-- How many states a tree makes. -/
def statesT : Tr → Nat
  | .mk x ks =>
    if x.kind = 0 then 1 else if x.kind = 1 then 1 else if x.kind = 2 then statesL ks else if x.kind = 3 then statesL ks + 1
    else statesH ks * timesOf x + 1
def statesH : List Tr → Nat
  | [] => 0
  | k :: _ => statesT k
def statesL : List Tr → Nat
  | [] => 0
  | k :: ks => statesT k + statesL ks
end

theorem auEdge_length (a : Au) (s : Nat) (x : Ed) : (auEdge a s x).length = a.length := by simp [auEdge]
theorem auFrees_length (m : Nat) : ∀ (l : List Nat) (a : Au), (auFrees m a l).length = a.length
  | [], a => rfl
  | s :: l, a => by rw [auFrees, auFrees_length m l, auEdge_length]
theorem auJoin_length (a : Au) (l : List Nat) : (auJoin a l).length = a.length + 1 := by simp [auJoin, auFrees_length]
theorem joinOf_length (r : Au × List Nat) : (joinOf r).1.length = r.1.length + 1 := auJoin_length _ _

/-- A way of leading that makes c states, and leads to one that there is. -/
def Leads (f : Au → Nat → Au × Nat) (c : Nat) : Prop := ∀ a s, s < a.length → (f a s).1.length = a.length + c ∧ (f a s).2 < (f a s).1.length
theorem Leads.iter {f : Au → Nat → Au × Nat} {c : Nat} (h : Leads f c) : ∀ n, Leads (iter f n) (c * n)
  | 0 => fun a s hs => ⟨by simp [Pv.iter], by simpa [Pv.iter] using hs⟩
  | n + 1 => fun a s hs => by
    obtain ⟨h1, h2⟩ := h a s hs
    obtain ⟨h3, h4⟩ := Leads.iter h n _ _ h2
    exact ⟨by rw [Pv.iter, h3, h1, Nat.mul_add]; omega, h4⟩
theorem Leads.iters {f : Au → Nat → Au × Nat} {c : Nat} (h : Leads f c) : ∀ n a s, s < a.length → (iters f n a s).1.length = a.length + c * n ∧ ∀ e, e ∈ (iters f n a s).2 → e < (iters f n a s).1.length
  | 0, a, s, hs => ⟨by simp [Pv.iters], by simpa [Pv.iters] using hs⟩
  | n + 1, a, s, hs => by
    obtain ⟨h1, h2⟩ := h a s hs
    obtain ⟨h3, h4⟩ := Leads.iters h n _ _ h2
    refine ⟨by rw [Pv.iters]; simp only; rw [h3, h1, Nat.mul_add]; omega, fun e he => ?_⟩
    rw [Pv.iters] at he ⊢
    simp only [List.mem_cons] at he
    rcases he with rfl | he
    · simp only; rw [h3]; omega
    · exact h4 e he
theorem iters_len {f : Au → Nat → Au × Nat} : ∀ n a s, (iters f n a s).2.length = n + 1
  | 0, a, s => rfl
  | n + 1, a, s => by rw [iters]; simp [iters_len n]
theorem Leads.star {f : Au → Nat → Au × Nat} {c : Nat} (h : Leads f c) (r : Au × Nat) : (starOf f r).1.length = r.1.length + 1 + c ∧ (starOf f r).2 < (starOf f r).1.length := by
  have h1 := h (auJoin r.1 [r.2]) r.1.length (by rw [auJoin_length]; omega)
  rw [auJoin_length] at h1
  refine ⟨by rw [starOf]; simp only [auEdge_length]; omega, ?_⟩
  rw [starOf]; simp only [auEdge_length]; omega
mutual
theorem leadT_leads : ∀ T : Tr, Leads (leadT T) (statesT T)
  | .mk x ks => fun a s hs => by
    rw [leadT, statesT]
    have hd := leadHd_leads ks
    by_cases h0 : x.kind = 0
    · rw [if_pos h0, if_pos h0]; exact ⟨joinOf_length _, by rw [joinOf_length]; simp [joinOf]⟩
    rw [if_neg h0, if_neg h0]
    by_cases h1 : x.kind = 1
    · rw [if_pos h1, if_pos h1]; exact ⟨by simp [auEdge_length], by simp [auEdge_length]⟩
    rw [if_neg h1, if_neg h1]
    by_cases h2 : x.kind = 2
    · rw [if_pos h2, if_pos h2]; exact leadCat_leads ks a s hs
    rw [if_neg h2, if_neg h2]
    by_cases h3 : x.kind = 3
    · rw [if_pos h3, if_pos h3]
      have := leadAlt_leads ks a s hs
      exact ⟨by rw [joinOf_length, this.1]; omega, by rw [joinOf_length]; simp [joinOf]⟩
    rw [if_neg h3, if_neg h3]
    have hi := hd.iter x.least.toNat a s hs
    by_cases h4 : x.most < 0
    · rw [if_pos h4, timesOf, if_pos h4]
      have := hd.star (iter (leadHd ks) x.least.toNat a s)
      exact ⟨by rw [this.1, hi.1, Nat.mul_add]; omega, this.2⟩
    rw [if_neg h4, timesOf, if_neg h4]
    have := hd.iters (x.most - x.least).toNat _ _ hi.2
    refine ⟨?_, by rw [joinOf_length]; simp [joinOf]⟩
    rw [joinOf_length, this.1, hi.1, Nat.mul_add]; omega
theorem leadHd_leads : ∀ ks : List Tr, Leads (leadHd ks) (statesH ks)
  | [] => fun a s hs => by simpa [leadHd, statesH] using hs
  | k :: _ => fun a s hs => by rw [leadHd, statesH]; exact leadT_leads k a s hs
theorem leadCat_leads : ∀ ks : List Tr, Leads (leadCat ks) (statesL ks)
  | [] => fun a s hs => by simpa [leadCat, statesL] using hs
  | k :: ks => fun a s hs => by
    obtain ⟨h1, h2⟩ := leadT_leads k a s hs
    obtain ⟨h3, h4⟩ := leadCat_leads ks _ _ h2
    rw [leadCat, statesL]
    exact ⟨by rw [h3, h1]; omega, h4⟩
theorem leadAlt_leads : ∀ (ks : List Tr) (a : Au) (s : Nat), s < a.length → (leadAlt ks a s).1.length = a.length + statesL ks ∧ ∀ e, e ∈ (leadAlt ks a s).2 → e < (leadAlt ks a s).1.length
  | [], a, s, hs => by simp [leadAlt, statesL]
  | k :: ks, a, s, hs => by
    obtain ⟨h1, h2⟩ := leadT_leads k a s hs
    obtain ⟨h3, h4⟩ := leadAlt_leads ks (leadT k a s).1 s (by omega)
    rw [leadAlt, statesL]
    refine ⟨by simp only; rw [h3, h1]; omega, fun e he => ?_⟩
    simp only [List.mem_cons] at he
    rcases he with rfl | he
    · simp only; omega
    · exact h4 e he
end
end Pv

namespace Pv
open Go Go.RowKit

/-- Has a set a number? -/
def InSet (l : List Rng) (p : Int) : Prop := ∃ (i : Nat) (x : Rng), l[i]? = some x ∧ x.lo ≤ p ∧ p ≤ x.hi

section
variable (pts : List Int)
end

/-- Places, and where one comes from them. -/
def im (A : Nat → Nat → Prop) (S : Nat → Prop) (j : Nat) : Prop := ∃ i, S i ∧ A i j
end Pv

namespace Pv
open Go Go.RowKit
mutual
/-- A tree is told by its nodes. -/
theorem flat_one : ∀ (T T' : Tr) (d d' : Nat) (r r' : List Rx), T.Ok d → T'.Ok d' → T.flat ++ r = T'.flat ++ r' → T = T' ∧ r = r'
  | .mk x ks, .mk x' ks', d, d', r, r', h, h', e => by
    simp only [Tr.flat, List.cons_append, List.cons.injEq] at e
    obtain ⟨rfl, e⟩ := e
    have hl := h.len; have hl' := h'.len
    obtain ⟨e1, e2⟩ := flats_one ks ks' (d - 1) (d' - 1) r r' (by omega) (fun k hk => h.kid hk) (fun k hk => h'.kid hk) e
    exact ⟨by rw [e1], e2⟩
theorem flats_one : ∀ (ks ks' : List Tr) (d d' : Nat) (r r' : List Rx), ks.length = ks'.length → (∀ k, k ∈ ks → k.Ok d) → (∀ k, k ∈ ks' → k.Ok d') → flats ks ++ r = flats ks' ++ r' → ks = ks' ∧ r = r'
  | [], [], _, _, r, r', _, _, _, e => ⟨rfl, by simpa [flats] using e⟩
  | k :: ks, k' :: ks', d, d', r, r', hl, h, h', e => by
    simp only [flats, List.append_assoc] at e
    obtain ⟨e1, e2⟩ := flat_one k k' d d' _ _ (h k (by simp)) (h' k' (by simp)) e
    obtain ⟨e3, e4⟩ := flats_one ks ks' d d' r r' (by simpa using hl) (fun j hj => h j (by simp [hj])) (fun j hj => h' j (by simp [hj])) e2
    exact ⟨by rw [e1, e3], e4⟩
  | [], _ :: _, _, _, _, _, hl, _, _, _ => by simp at hl
  | _ :: _, [], _, _, _, _, hl, _, _, _ => by simp at hl
end
theorem flat_inj {T T' : Tr} {d d' : Nat} (h : T.Ok d) (h' : T'.Ok d') (e : T.flat = T'.flat) : T = T' := (flat_one T T' d d' [] [] h h' (by rw [e])).1
end Pv

namespace Pv
open Go Go.RowKit

theorem Pat.of_tree {T : Tr} (h : T.Ok 16) (hl : T.size ≤ 64) : Pat T.flat := by
  refine ⟨fun e => ?_, hl, ?_⟩
  · have := T.size_pos
    unfold Tr.size at this
    rw [e] at this
    simp at this
  · have := tree_behind (t := T.flat) (i := 0) (r := []) h (by simp)
    rw [this, Nat.zero_add]
    rfl
end Pv

namespace Pv
open Go Go.RowKit
theorem sizes_mem {k : Tr} : ∀ {ks : List Tr}, k ∈ ks → k.size ≤ sizes ks
  | j :: ks, h => by
    rw [sizes_cons]
    rcases List.mem_cons.1 h with rfl | h
    · omega
    · have := sizes_mem h; omega
theorem length_sizes : ∀ ks : List Tr, ks.length ≤ sizes ks
  | [] => by simp
  | k :: ks => by rw [sizes_cons, List.length_cons]; have := length_sizes ks; have := k.size_pos; omega

theorem kids_at {t : List Rx} {ks : List Tr} {i : Nat} {r : List Rx} (hd : t.drop i = flats ks ++ r) (hk : ∀ k, k ∈ ks → k.Ok 16) :
    ∀ j, j ≤ ks.length → again (behind t 16) j i = some (i + sizes (ks.take j)) ∧ t.drop (i + sizes (ks.take j)) = flats (ks.drop j) ++ r
  | 0, _ => ⟨by simp [again, sizes, flats], by simpa [sizes, flats] using hd⟩
  | j + 1, hj => by
    obtain ⟨h1, h2⟩ := kids_at hd hk j (by omega)
    have hg : ks.drop j = ks[j] :: ks.drop (j + 1) := List.drop_eq_getElem_cons (by omega)
    rw [hg] at h2
    simp only [flats, List.append_assoc] at h2
    have h3 := tree_behind (hk ks[j] (List.getElem_mem _)) h2
    have h4 : sizes (ks.take (j + 1)) = sizes (ks.take j) + ks[j].size := by
      show (flats (ks.take (j + 1))).length = (flats (ks.take j)).length + ks[j].flat.length
      rw [List.take_succ_eq_append_getElem (by omega), flats_app, List.length_append]
      simp only [flats, List.append_nil]
    refine ⟨?_, ?_⟩
    · rw [again_snoc, h1]
      show behind t 16 _ = _
      rw [h3, h4]; congr 1; omega
    · rw [h4, ← Nat.add_assoc]
      exact drop_app h2
theorem sizes_le {t : List Rx} {ks : List Tr} {i : Nat} {r : List Rx} (hd : t.drop i = flats ks ++ r) (j : Nat) (hi : i ≤ t.length) : i + sizes (ks.take j) ≤ t.length := by
  have h1 := congrArg List.length hd
  simp only [List.length_drop, List.length_append] at h1
  have h2 : sizes (ks.take j) + sizes (ks.drop j) = sizes ks := by
    rw [sizes, sizes, sizes, ← List.length_append, ← flats_app, List.take_append_drop]
  have h3 : sizes ks = (flats ks).length := rfl
  omega
theorem sizes_take_le {ks : List Tr} (j : Nat) : sizes (ks.take j) ≤ sizes ks := by
  have h2 : sizes (ks.take j) + sizes (ks.drop j) = sizes ks := by
    rw [sizes, sizes, sizes, ← List.length_append, ← flats_app, List.take_append_drop]
  omega

end Pv

namespace Pv
open Go Go.RowKit

def freesR (m : Nat) : Au → List Int → Au × Int
  | a, [] => (a, m)
  | a, e :: l => if e < 0 then (a, -1) else freesR m (auEdge a e.toNat ⟨m, true, []⟩) l
/-- What stands behind the ends: a state, its free edges, and what is again and again. -/
def shutR (x : Rx) (f : Au → Int → Au × Int) (r : Au × List Int) : Au × Int :=
  if (freesR r.1.length (r.1 ++ [[]]) r.2).2 < 0 then ((freesR r.1.length (r.1 ++ [[]]) r.2).1, -1)
  else if x.kind = 4 ∧ x.most < 0 then
    if (f (freesR r.1.length (r.1 ++ [[]]) r.2).1 r.1.length).2 < 0 then ((f (freesR r.1.length (r.1 ++ [[]]) r.2).1 r.1.length).1, -1)
    else (auEdge (f (freesR r.1.length (r.1 ++ [[]]) r.2).1 r.1.length).1 (f (freesR r.1.length (r.1 ++ [[]]) r.2).1 r.1.length).2.toNat ⟨r.1.length, true, []⟩, r.1.length)
  else ((freesR r.1.length (r.1 ++ [[]]) r.2).1, r.1.length)
def iterR (f : Au → Int → Au × Int) : Nat → Au → Int → Au × Int
  | 0, a, s => (a, s)
  | n + 1, a, s => f (iterR f n a s).1 (iterR f n a s).2
def itersR (f : Au → Int → Au × Int) : Nat → Au → Int → Au × List Int
  | 0, a, s => (a, [s])
  | n + 1, a, s => ((f (itersR f n a s).1 (iterR f n a s).2).1, (itersR f n a s).2 ++ [(f (itersR f n a s).1 (iterR f n a s).2).2])
theorem itersR_fst (f : Au → Int → Au × Int) : ∀ n a s, (itersR f n a s).1 = (iterR f n a s).1
  | 0, _, _ => rfl
  | n + 1, a, s => by simp only [itersR, iterR]; rw [itersR_fst f n a s]
mutual
def leadR : Tr → Au → Int → Au × Int
  | .mk x ks, a, s =>
    if s < 0 ∨ 256 < a.length then (a, -1)
    else if x.kind = 0 ∨ x.kind = 1 then (auEdge (a ++ [[]]) s.toNat ⟨a.length, x.kind == 0, x.set⟩, a.length)
    else if x.kind = 2 then catR ks a s
    else if x.kind = 3 then shutR x (leadHdR ks) (altR ks a s)
    else shutR x (leadHdR ks) (itersR (leadHdR ks) (x.most - x.least).toNat (iterR (leadHdR ks) x.least.toNat a s).1 (iterR (leadHdR ks) x.least.toNat a s).2)
def leadHdR : List Tr → Au → Int → Au × Int
  | [], a, s => (a, s)
  | k :: _, a, s => leadR k a s
def catR : List Tr → Au → Int → Au × Int
  | [], a, s => (a, s)
  | k :: ks, a, s => catR ks (leadR k a s).1 (leadR k a s).2
def altR : List Tr → Au → Int → Au × List Int
  | [], a, _ => (a, [])
  | k :: ks, a, s => ((altR ks (leadR k a s).1 s).1, (leadR k a s).2 :: (altR ks (leadR k a s).1 s).2)
end
theorem iter_snoc (f : Au → Nat → Au × Nat) : ∀ n a s, iter f (n + 1) a s = f (iter f n a s).1 (iter f n a s).2
  | 0, a, s => rfl
  | n + 1, a, s => by rw [iter, iter_snoc f n]; rfl
theorem iters_snoc (f : Au → Nat → Au × Nat) : ∀ n a s, iters f (n + 1) a s = ((f (iter f n a s).1 (iter f n a s).2).1, (iters f n a s).2 ++ [(f (iter f n a s).1 (iter f n a s).2).2])
  | 0, a, s => rfl
  | n + 1, a, s => by rw [iters, iters_snoc f n]; simp [iters, iter]
theorem iters_fst (f : Au → Nat → Au × Nat) : ∀ n a s, (iters f n a s).1 = (iter f n a s).1
  | 0, a, s => rfl
  | n + 1, a, s => by rw [iters, iters_fst f n]; rfl

/-- How many edges. -/
def edgesN (a : Au) : Nat := (a.map List.length).sum
theorem modify_sum (l : List Nat) (x : Nat) : ∀ i, i < l.length → (l.modify i (· + x)).sum = l.sum + x := by
  induction l with
  | nil => intro i h; simp at h
  | cons y l ih =>
    intro i h
    match i with
    | 0 => simp; omega
    | i + 1 => simp only [List.modify_succ_cons, List.sum_cons]; rw [ih i (by simpa using h)]; omega
theorem edgesN_edge (a : Au) (s : Nat) (x : Ed) (hs : s < a.length) : edgesN (auEdge a s x) = edgesN a + 1 := by
  have : (auEdge a s x).map List.length = (a.map List.length).modify s (· + 1) := by
    apply List.ext_getElem?
    intro i
    simp only [auEdge, List.getElem?_map, List.getElem?_modify]
    by_cases h : s = i <;> cases a[i]? <;> simp [h]
  rw [edgesN, this, modify_sum _ _ _ (by simpa using hs)]
  rfl
theorem edgesN_state (a : Au) : edgesN (a ++ [[]]) = edgesN a := by simp [edgesN]
theorem le_edgesN {a : Au} {s : Nat} {l : List Ed} (h : a[s]? = some l) : l.length ≤ edgesN a := by
  unfold edgesN
  induction a generalizing s with
  | nil => simp at h
  | cons y a ih =>
    match s with
    | 0 => simp at h; subst h; simp
    | s + 1 => have := ih (s := s) (by simpa using h); simp only [List.map_cons, List.sum_cons]; omega
/-- No more than 65 edges for each state that comes. -/
structure EL (a b : Au) : Prop where
  e : edgesN b + 65 * a.length ≤ edgesN a + 65 * b.length
  l : a.length ≤ b.length
theorem EL.refl (a : Au) : EL a a := ⟨Nat.le_refl _, Nat.le_refl _⟩
theorem EL.trans {a b c : Au} (h : EL a b) (k : EL b c) : EL a c := ⟨by have := h.e; have := k.e; omega, Nat.le_trans h.l k.l⟩

/-- The document's way against the clean one. -/
structure LOk (c dep : Nat) (F : Au → Nat → Au × Nat) (a : Au) (s : Int) (r : Au × Int) : Prop where
  yes : 0 ≤ r.2 → 0 ≤ s ∧ r.1 = (F a s.toNat).1 ∧ r.2 = ((F a s.toNat).2 : Nat)
  no : r.2 < 0 → r.2 = -1 ∧ (s < 0 ∨ 256 < a.length + c)
  lt : r.2 < r.1.length
  el : EL a r.1
  len : r.1.length ≤ max a.length 257 + dep
  stop : 256 < a.length → r.1 = a
def RLeads (c dep : Nat) (F : Au → Nat → Au × Nat) (f : Au → Int → Au × Int) : Prop := ∀ a s, -1 ≤ s → s < a.length → LOk c dep F a s (f a s)
theorem LOk.ge {c dep : Nat} {F : Au → Nat → Au × Nat} {a : Au} {s : Int} {r : Au × Int} (h : LOk c dep F a s r) : -1 ≤ r.2 := by
  rcases Int.lt_or_le r.2 0 with h1 | h1
  · have := (h.no h1).1; omega
  · omega
/-- one behind the other -/
theorem LOk.seq {c c' dep : Nat} {F F' : Au → Nat → Au × Nat} {a : Au} {s : Int} {r r' : Au × Int} (hF : Leads F c) (hs : s < a.length) (h : LOk c dep F a s r) (h' : LOk c' dep F' r.1 r.2 r') : LOk (c + c') dep (fun a s => F' (F a s).1 (F a s).2) a s r' := by
  refine ⟨fun h0 => ?_, fun h0 => ?_, h'.lt, h.el.trans h'.el, ?_, fun hl => ?_⟩
  · obtain ⟨g1, g2, g3⟩ := h'.yes h0
    obtain ⟨k1, k2, k3⟩ := h.yes g1
    refine ⟨k1, ?_, ?_⟩
    · rw [g2, k2, k3]; simp
    · rw [g3, k2, k3]; simp
  · refine ⟨(h'.no h0).1, ?_⟩
    rcases Int.lt_or_le r.2 0 with h1 | h1
    · rcases (h.no h1).2 with h2 | h2
      · exact .inl h2
      · exact .inr (by omega)
    · obtain ⟨k1, k2, k3⟩ := h.yes h1
      rcases (h'.no h0).2 with h2 | h2
      · omega
      · have := (hF a s.toNat (by omega)).1
        rw [k2, this] at h2
        exact .inr (by omega)
  · by_cases h1 : 256 < r.1.length
    · rw [h'.stop h1]; exact h.len
    · have := h'.len
      omega
  · rw [h'.stop (by rw [h.stop hl]; exact hl), h.stop hl]
theorem LOk.here (dep : Nat) (a : Au) (s : Int) (h1 : -1 ≤ s) (hs : s < a.length) : LOk 0 dep (fun a s => (a, s)) a s (a, s) :=
  ⟨fun h => ⟨h, rfl, by simp only; omega⟩, fun h => ⟨by simp only at h ⊢; omega, .inl h⟩, hs, EL.refl _, by simp only; omega, fun _ => rfl⟩
theorem RLeads.iterN {c dep : Nat} {F : Au → Nat → Au × Nat} {f : Au → Int → Au × Int} (hF : Leads F c) (h : RLeads c dep F f) : ∀ n, RLeads (c * n) dep (iter F n) (iterR f n)
  | 0 => fun a s h1 hs => by
    have : iter F 0 = fun a s => (a, s) := by funext a s; rfl
    rw [this, Nat.mul_zero]; exact LOk.here dep a s h1 hs
  | n + 1 => fun a s h1 hs => by
    have := LOk.seq (hF.iter n) hs (RLeads.iterN hF h n a s h1 hs) (h (iterR f n a s).1 (iterR f n a s).2 (RLeads.iterN hF h n a s h1 hs).ge (RLeads.iterN hF h n a s h1 hs).lt)
    have e : iter F (n + 1) = fun a s => F (Pv.iter F n a s).1 (Pv.iter F n a s).2 := by funext a s; exact iter_snoc F n a s
    rw [e, show c * (n + 1) = c * n + c from rfl]
    exact this

/-- .. of several ends -/
structure AOk (c dep : Nat) (G : Au × List Nat) (a : Au) (s : Int) (q : Nat) (r : Au × List Int) : Prop where
  yes : (∀ e, e ∈ r.2 → 0 ≤ e) → r.1 = G.1 ∧ r.2 = G.2.map Int.ofNat
  no : (∃ e, e ∈ r.2 ∧ e < 0) → s < 0 ∨ 256 < a.length + c
  lt : ∀ e, e ∈ r.2 → -1 ≤ e ∧ e < r.1.length
  el : EL a r.1
  len : r.1.length ≤ max a.length 257 + dep
  few : r.2.length ≤ q
  stop : 256 < a.length → r.1 = a
theorem frees_ok (m : Nat) : ∀ (l : List Int) (a : Au), (∀ e, e ∈ l → -1 ≤ e ∧ e < a.length) →
    ((∀ e, e ∈ l → 0 ≤ e) → freesR m a l = (auFrees m a (l.map Int.toNat), (m : Int))) ∧ ((∃ e, e ∈ l ∧ e < 0) → (freesR m a l).2 = -1) ∧
    (freesR m a l).1.length = a.length ∧ edgesN (freesR m a l).1 ≤ edgesN a + l.length
  | [], a, _ => ⟨fun _ => rfl, fun ⟨e, he, _⟩ => by simp at he, rfl, by simp [freesR]⟩
  | e :: l, a, h => by
    have he := h e (by simp)
    by_cases h0 : e < 0
    · refine ⟨fun hh => absurd (hh e (by simp)) (by omega), fun _ => by rw [freesR, if_pos h0], by rw [freesR, if_pos h0], by rw [freesR, if_pos h0]; simp only [List.length_cons]; omega⟩
    · obtain ⟨i1, i2, i3, i4⟩ := frees_ok m l (auEdge a e.toNat ⟨m, true, []⟩) (fun e he => by rw [auEdge_length]; exact h e (by simp [he]))
      rw [freesR, if_neg h0]
      refine ⟨fun hh => ?_, fun ⟨e', he', h1⟩ => ?_, by rw [i3, auEdge_length], ?_⟩
      · rw [i1 (fun e he => hh e (by simp [he]))]; simp [auFrees]
      · rcases List.mem_cons.1 he' with rfl | he'
        · omega
        · exact i2 ⟨e', he', h1⟩
      · rw [edgesN_edge _ _ _ (by omega)] at i4
        simp only [List.length_cons]; omega

/-- What is shut behind ends is the clean joining. -/
theorem shut_ok {c ch dep : Nat} {x : Rx} {F : Au → Nat → Au × Nat} {f : Au → Int → Au × Int} {G : Au × List Nat} {a : Au} {r : Au × List Int} {s : Int} (hs0 : 0 ≤ s) (hf : RLeads ch dep F f)
    (h : AOk c dep G a s 64 r) (hG : G.1.length = a.length + c) (hl : a.length ≤ 256) :
    LOk (c + 1 + if x.kind = 4 ∧ x.most < 0 then ch else 0) (dep + 1) (fun _ _ => if x.kind = 4 ∧ x.most < 0 then (auEdge (F (auJoin G.1 G.2) G.1.length).1 (F (auJoin G.1 G.2) G.1.length).2 ⟨G.1.length, true, []⟩, G.1.length) else (auJoin G.1 G.2, G.1.length)) a s (shutR x f r) := by
  obtain ⟨r1, r2⟩ := r
  obtain ⟨f1, f2, f3, f4⟩ := frees_ok r1.length r2 (r1 ++ [[]]) (fun e he => by have := h.lt e he; simp only at this; simp; omega)
  have hlen := h.len
  rw [List.length_append] at f3
  simp only [List.length_cons, List.length_nil, Nat.zero_add] at f3
  rw [edgesN_state] at f4
  have few := h.few
  have e0 := h.el.e; have l0 := h.el.l
  simp only at hlen few e0 l0
  by_cases hall : ∀ e, e ∈ r2 → 0 ≤ e
  · obtain ⟨y1, y2⟩ := h.yes hall
    simp only at y1 y2
    subst y1
    have hj : freesR G.1.length (G.1 ++ [[]]) r2 = (auJoin G.1 G.2, (G.1.length : Int)) := by
      rw [f1 hall, y2]
      simp [auJoin, List.map_map, Function.comp_def]
    unfold shutR
    rw [hj] at f3 f4
    simp only at f3 f4
    rw [hj]
    simp only
    rw [if_neg (show ¬ ((G.1.length : Nat) : Int) < 0 by omega)]
    by_cases hst : x.kind = 4 ∧ x.most < 0
    · simp only [if_pos hst]
      have hm : (G.1.length : Int) < (auJoin G.1 G.2).length := by rw [f3]; omega
      have hz := hf (auJoin G.1 G.2) G.1.length (by omega) hm
      generalize hzz : f (auJoin G.1 G.2) (G.1.length : Int) = z at *
      have ze := hz.el.e; have zl := hz.el.l
      have zlen : z.1.length ≤ max a.length 257 + dep + 1 := by
        by_cases h6 : 256 < (auJoin G.1 G.2).length
        · rw [hz.stop h6]; omega
        · have := hz.len; omega
      by_cases hz0 : z.2 < 0
      · rw [if_pos hz0]
        refine ⟨fun hh => by simp only at hh; omega, fun _ => ⟨rfl, .inr ?_⟩, by simp only; omega, ⟨by simp only; omega, by simp only; omega⟩, ?_, fun hh => by omega⟩
        · rcases (hz.no hz0).2 with g | g
          · omega
          · omega
        · simp only; omega
      · rw [if_neg hz0]
        obtain ⟨_, z2, z3⟩ := hz.yes (by omega)
        have hzl := hz.lt
        have ee := edgesN_edge z.1 z.2.toNat ⟨G.1.length, true, []⟩ (by omega)
        refine ⟨fun _ => ⟨hs0, ?_, rfl⟩, fun hh => by simp only at hh; omega, by simp only [auEdge_length]; omega, ⟨by simp only [auEdge_length]; omega, by simp only [auEdge_length]; omega⟩, by simp only [auEdge_length]; omega, fun hh => by omega⟩
        rw [z2, z3]; simp
    · simp only [if_neg hst]
      refine ⟨fun _ => ⟨hs0, rfl, rfl⟩, fun hh => by simp only at hh; omega, by simp only; omega, ⟨by simp only; omega, by simp only; omega⟩, by simp only; omega, fun hh => by omega⟩
  · have hex : ∃ e, e ∈ r2 ∧ e < 0 := by
      refine Classical.byContradiction fun hn => hall fun e he => ?_
      rcases Int.lt_or_le e 0 with h1 | h1
      · exact absurd ⟨e, he, h1⟩ hn
      · exact h1
    have hneg := f2 hex
    unfold shutR
    simp only
    rw [if_pos (show (freesR r1.length (r1 ++ [[]]) r2).2 < 0 by omega)]
    refine ⟨fun hh => by simp only at hh; omega, fun _ => ⟨rfl, .inr (by have := h.no hex; omega)⟩, by simp only; omega, ⟨by simp only; omega, by simp only; omega⟩, by simp only; omega, fun hh => by omega⟩

/-- the ends of what is again and again -/
theorem RLeads.itersN {c dep : Nat} {F : Au → Nat → Au × Nat} {f : Au → Int → Au × Int} (hF : Leads F c) (h : RLeads c dep F f) : ∀ (n : Nat) (a : Au) (s : Int), -1 ≤ s → s < a.length → AOk (c * n) dep (iters F n a s.toNat) a s (n + 1) (itersR f n a s) ∧ s ∈ (itersR f n a s).2
  | 0, a, s, h1, hs => ⟨⟨fun hh => ⟨rfl, by have := hh s (by simp [itersR]); simp [Pv.iters, itersR]; omega⟩, fun ⟨e, he, h0⟩ => by simp [itersR] at he; subst he; exact .inl h0, fun e he => by simp [itersR] at he; subst he; simp only [itersR]; omega, EL.refl _, by simp only [itersR]; omega, by simp [itersR], fun _ => rfl⟩, by simp [itersR]⟩
  | n + 1, a, s, h1, hs => by
    obtain ⟨ih, im⟩ := RLeads.itersN hF h n a s h1 hs
    have hi := RLeads.iterN hF h n a s (by omega) hs
    have hn := RLeads.iterN hF h (n + 1) a s (by omega) hs
    have e1 : (itersR f (n + 1) a s).1 = (iterR f (n + 1) a s).1 := itersR_fst _ _ _ _
    have e2 : (itersR f (n + 1) a s).2 = (itersR f n a s).2 ++ [(iterR f (n + 1) a s).2] := by simp only [itersR, iterR]; rw [itersR_fst]
    have e3 : (itersR f n a s).1 = (iterR f n a s).1 := itersR_fst _ _ _ _
    refine ⟨⟨fun hall => ?_, fun ⟨e, he, h0⟩ => ?_, fun e he => ?_, ?_, ?_, ?_, ?_⟩, by rw [e2]; simp [im]⟩
    · rw [e2] at hall
      obtain ⟨y1, y2⟩ := ih.yes (fun e he => hall e (by simp [he]))
      obtain ⟨_, z1, z2⟩ := hn.yes (hall _ (by simp))
      rw [e1, e2, iters_fst, y2, z1, z2, iters_snoc, iter_snoc]
      simp
    · rw [e2] at he
      rcases List.mem_append.1 he with he | he
      · rcases ih.no ⟨e, he, h0⟩ with g | g
        · exact .inl g
        · rw [Nat.mul_add]; exact .inr (by omega)
      · simp at he; subst he
        exact (hn.no h0).2
    · rw [e2] at he
      rw [e1]
      rcases List.mem_append.1 he with he | he
      · have := ih.lt e he
        have hk := (h (iterR f n a s).1 (iterR f n a s).2 hi.ge hi.lt).el.l
        rw [e3] at this
        have : (iterR f (n + 1) a s).1 = (f (iterR f n a s).1 (iterR f n a s).2).1 := rfl
        rw [this]; omega
      · simp at he; subst he
        exact ⟨hn.ge, hn.lt⟩
    · rw [e1]; exact hn.el
    · rw [e1]; exact hn.len
    · rw [e2]; have := ih.few; simp; omega
    · rw [e1]; exact hn.stop
theorem AOk.up {c dep dep' : Nat} {G : Au × List Nat} {a : Au} {s : Int} {q q' : Nat} {r : Au × List Int} (h : AOk c dep G a s q r) (hq : q ≤ q') (hd : dep ≤ dep') : AOk c dep' G a s q' r := ⟨h.yes, h.no, h.lt, h.el, by have := h.len; omega, Nat.le_trans h.few hq, h.stop⟩
theorem LOk.up {c dep dep' : Nat} {F : Au → Nat → Au × Nat} {a : Au} {s : Int} {r : Au × Int} (h : LOk c dep F a s r) (hd : dep ≤ dep') : LOk c dep' F a s r := ⟨h.yes, h.no, h.lt, h.el, by have := h.len; omega, h.stop⟩
theorem LOk.alike {c c' dep : Nat} {F F' : Au → Nat → Au × Nat} {a : Au} {s : Int} {r : Au × Int} (h : LOk c dep F a s r) (hc : c = c') (hF : 0 ≤ s → F a s.toNat = F' a s.toNat) : LOk c' dep F' a s r := by
  subst hc
  exact ⟨fun h0 => by have := h.yes h0; rw [hF this.1] at this; exact this, h.no, h.lt, h.el, h.len, h.stop⟩
/-- first again and again, then its ends -/
theorem rep_ok {c dep : Nat} {F : Au → Nat → Au × Nat} {f : Au → Int → Au × Int} (hF : Leads F c) (h : RLeads c dep F f) (l n : Nat) (a : Au) (s : Int) (h0 : 0 ≤ s) (hs : s < a.length) :
    AOk (c * l + c * n) dep (iters F n (iter F l a s.toNat).1 (iter F l a s.toNat).2) a s (n + 1) (itersR f n (iterR f l a s).1 (iterR f l a s).2) := by
  have hi := RLeads.iterN hF h l a s (by omega) hs
  obtain ⟨hk, hm⟩ := RLeads.itersN hF h n (iterR f l a s).1 (iterR f l a s).2 hi.ge hi.lt
  have hlen := (hF.iter l a s.toNat (by omega)).1
  refine ⟨fun hall => ?_, fun hex => .inr ?_, hk.lt, hi.el.trans hk.el, ?_, hk.few, fun hl => ?_⟩
  · obtain ⟨_, z1, z2⟩ := hi.yes (hall _ hm)
    have := hk.yes hall
    rw [z1, z2] at this
    rw [z1, z2]
    simpa using this
  · rcases Int.lt_or_le (iterR f l a s).2 0 with g | g
    · rcases (hi.no g).2 with g' | g' <;> omega
    · obtain ⟨_, z1, z2⟩ := hi.yes g
      rcases hk.no hex with g' | g'
      · omega
      · rw [z1, hlen] at g'; omega
  · by_cases h6 : 256 < (iterR f l a s).1.length
    · rw [hk.stop h6]; exact hi.len
    · have := hk.len; omega
  · rw [hk.stop (by rw [hi.stop hl]; exact hl), hi.stop hl]

mutual
theorem leadR_ok : ∀ (T : Tr) (d : Nat), T.Ok d → T.size ≤ 64 → RLeads (statesT T) (d + 1) (leadT T) (leadR T)
  | .mk x ks, d, hT, hz => fun a s h1 hs => by
    have hone := hT.one
    have hkid : ∀ k, k ∈ ks → k.Ok (d - 1) := fun k hk => hT.kid hk
    have hlen := hT.len
    rw [Tr.size_mk] at hz
    have hks : ks.length ≤ 63 := by have := length_sizes ks; omega
    have hcat := catR_ok ks (d - 1) hkid (by omega)
    have hhd := hdR_ok ks (d - 1) hkid (by omega)
    have hdz : 1 < x.kind → d - 1 + 1 = d := fun hk => by
      cases d with
      | zero => obtain ⟨_, hm, _⟩ := hT; rcases hone with h | h | h | h <;> omega
      | succ d => simp
    rw [leadR]
    by_cases hstop : s < 0 ∨ 256 < a.length
    · rw [if_pos hstop]
      exact ⟨fun h => by simp only at h; omega, fun _ => ⟨rfl, by omega⟩, by simp only; omega, EL.refl _, by simp only; omega, fun _ => rfl⟩
    rw [if_neg hstop]
    by_cases hk01 : x.kind = 0 ∨ x.kind = 1
    · rw [if_pos hk01]
      have hst : statesT (.mk x ks) = 1 := by rw [statesT]; rcases hk01 with h | h <;> simp [h]
      have hl : leadT (.mk x ks) a s.toNat = (auEdge (a ++ [[]]) s.toNat ⟨a.length, x.kind == 0, x.set⟩, a.length) := by
        rw [leadT]
        rcases hk01 with h | h
        · have hset : x.set = [] := by rcases hone with g | g | g | g <;> first | exact g.2.1 | omega
          rw [if_pos h]; simp [joinOf, auJoin, auFrees, h, hset]
        · rw [if_neg (by omega), if_pos h]; simp [h]
      rw [hst]
      have ee := edgesN_edge (a ++ [[]]) s.toNat ⟨a.length, x.kind == 0, x.set⟩ (by simp; omega)
      rw [edgesN_state] at ee
      exact ⟨fun _ => ⟨by omega, by rw [hl], by rw [hl]⟩, fun h => by simp only at h; omega, by simp [auEdge_length]; omega, ⟨by simp only [auEdge_length, ee]; simp; omega, by simp [auEdge_length]⟩, by simp [auEdge_length]; omega, fun h => by omega⟩
    rw [if_neg hk01]
    have hk0 : ¬ x.kind = 0 := fun h => hk01 (.inl h)
    have hk1 : ¬ x.kind = 1 := fun h => hk01 (.inr h)
    have hk2' : 1 < x.kind := by rcases hone with h | h | h | h <;> omega
    have hd := hdz hk2'
    rw [hd] at hcat hhd
    by_cases hk2 : x.kind = 2
    · rw [if_pos hk2]
      exact ((hcat a s h1 hs).up (by omega)).alike (by rw [statesT, if_neg hk0, if_neg hk1, if_pos hk2]) (fun _ => by rw [leadT, if_neg hk0, if_neg hk1, if_pos hk2])
    rw [if_neg hk2]
    by_cases hk3 : x.kind = 3
    · rw [if_pos hk3]
      have ha := (altR_ok ks (d - 1) hkid (by omega) a s (by omega) hs)
      rw [hd] at ha
      have hG := (leadAlt_leads ks a s.toNat (by omega)).1
      have := shut_ok (x := x) (by omega) hhd (ha.up (by omega) (Nat.le_refl _)) hG (by omega)
      refine this.alike ?_ (fun _ => ?_)
      · rw [statesT, if_neg hk0, if_neg hk1, if_neg hk2, if_pos hk3, if_neg (by omega)]
      · rw [leadT, if_neg hk0, if_neg hk1, if_neg hk2, if_pos hk3, if_neg (by omega)]; rfl
    rw [if_neg hk3]
    have hk4 : x.kind = 4 := by rcases hone with h | h | h | h <;> omega
    have hmost : (x.most - x.least).toNat ≤ 16 := by rcases hone with h | h | h | h <;> omega
    have hF := leadHd_leads ks
    have hr := rep_ok hF hhd x.least.toNat (x.most - x.least).toNat a s (by omega) hs
    have hG : (iters (leadHd ks) (x.most - x.least).toNat (iter (leadHd ks) x.least.toNat a s.toNat).1 (iter (leadHd ks) x.least.toNat a s.toNat).2).1.length = a.length + (statesH ks * x.least.toNat + statesH ks * (x.most - x.least).toNat) := by
      obtain ⟨g1, g2⟩ := hF.iter x.least.toNat a s.toNat (by omega)
      rw [(hF.iters (x.most - x.least).toNat _ _ g2).1, g1]; omega
    have := shut_ok (x := x) (by omega) hhd (hr.up (by omega) (Nat.le_refl _)) hG (by omega)
    refine this.alike ?_ (fun _ => ?_)
    · rw [statesT, if_neg hk0, if_neg hk1, if_neg hk2, if_neg hk3, timesOf]
      by_cases hm : x.most < 0
      · have h5 : (x.most - x.least).toNat = 0 := by rcases hone with h | h | h | h <;> omega
        rw [if_pos ⟨hk4, hm⟩, if_pos hm, h5, Nat.mul_zero, Nat.mul_add]; omega
      · rw [if_neg (by omega), if_neg hm, Nat.mul_add]
    · rw [leadT, if_neg hk0, if_neg hk1, if_neg hk2, if_neg hk3]
      by_cases hm : x.most < 0
      · have h5 : (x.most - x.least).toNat = 0 := by rcases hone with h | h | h | h <;> omega
        rw [if_pos ⟨hk4, hm⟩, if_pos hm, h5]; rfl
      · rw [if_neg (by omega), if_neg hm]; rfl
theorem hdR_ok : ∀ (ks : List Tr) (d : Nat), (∀ k, k ∈ ks → k.Ok d) → sizes ks ≤ 64 → RLeads (statesH ks) (d + 1) (leadHd ks) (leadHdR ks)
  | [], d, _, _ => fun a s h1 hs => by
    have e : leadHd [] = fun a s => (a, s) := by funext a s; rw [leadHd]
    rw [leadHdR, e, statesH]; exact LOk.here _ a s h1 hs
  | k :: ks, d, hk, hz => fun a s h1 hs => by
    have e : leadHd (k :: ks) = leadT k := by funext a s; rw [leadHd]
    rw [leadHdR, e, statesH]; exact leadR_ok k d (hk k (by simp)) (by rw [sizes_cons] at hz; omega) a s h1 hs
theorem catR_ok : ∀ (ks : List Tr) (d : Nat), (∀ k, k ∈ ks → k.Ok d) → sizes ks ≤ 64 → RLeads (statesL ks) (d + 1) (leadCat ks) (catR ks)
  | [], d, _, _ => fun a s h1 hs => by
    have e : leadCat [] = fun a s => (a, s) := by funext a s; rw [leadCat]
    rw [catR, e, statesL]; exact LOk.here _ a s h1 hs
  | k :: ks, d, hk, hz => fun a s h1 hs => by
    have e : leadCat (k :: ks) = fun a s => leadCat ks (leadT k a s).1 (leadT k a s).2 := by funext a s; rw [leadCat]
    rw [sizes_cons] at hz
    have hh := leadR_ok k d (hk k (by simp)) (by omega) a s h1 hs
    rw [catR, e, statesL]
    exact LOk.seq (leadT_leads k) hs hh (catR_ok ks d (fun k h => hk k (by simp [h])) (by omega) _ _ hh.ge hh.lt)
theorem altR_ok : ∀ (ks : List Tr) (d : Nat), (∀ k, k ∈ ks → k.Ok d) → sizes ks ≤ 64 → ∀ (a : Au) (s : Int), 0 ≤ s → s < a.length → AOk (statesL ks) (d + 1) (leadAlt ks a s.toNat) a s ks.length (altR ks a s)
  | [], d, _, _ => fun a s h1 hs => by
    rw [altR, leadAlt, statesL]
    exact ⟨fun _ => ⟨rfl, rfl⟩, fun ⟨e, he, _⟩ => by simp at he, fun e he => by simp at he, EL.refl _, by simp only; omega, by simp, fun _ => rfl⟩
  | k :: ks, d, hk, hz => fun a s h1 hs => by
    rw [sizes_cons] at hz
    have hh := leadR_ok k d (hk k (by simp)) (by omega) a s (by omega) hs
    have hl := hh.el.l
    have hr := altR_ok ks d (fun k h => hk k (by simp [h])) (by omega) (leadR k a s).1 s h1 (by omega)
    have hT := leadT_leads k a s.toNat (by omega)
    rw [altR, leadAlt, statesL]
    refine ⟨fun hall => ?_, fun ⟨e, he, h0⟩ => .inr ?_, fun e he => ?_, hh.el.trans hr.el, ?_, ?_, fun h6 => ?_⟩
    · obtain ⟨_, z1, z2⟩ := hh.yes (hall _ (by simp))
      obtain ⟨y1, y2⟩ := hr.yes (fun e he => hall e (by simp [he]))
      simp only
      rw [z1] at y1 y2
      rw [z1, y1, y2, z2]
      simp
    · simp only [List.mem_cons] at he
      rcases Int.lt_or_le (leadR k a s).2 0 with g | g
      · rcases (hh.no g).2 with g' | g' <;> omega
      · obtain ⟨_, z1, z2⟩ := hh.yes g
        rcases he with rfl | he
        · omega
        · rcases hr.no ⟨e, he, h0⟩ with g' | g'
          · omega
          · rw [z1, hT.1] at g'; omega
    · simp only [List.mem_cons] at he
      have hl2 := hr.el.l
      rcases he with rfl | he
      · exact ⟨hh.ge, by have := hh.lt; simp only; omega⟩
      · exact hr.lt e he
    · simp only
      by_cases h6 : 256 < (leadR k a s).1.length
      · rw [hr.stop h6]; exact hh.len
      · have := hr.len; omega
    · have := hr.few; simp only [List.length_cons]; omega
    · simp only; rw [hr.stop (by rw [hh.stop h6]; exact h6), hh.stop h6]
end
end Pv

namespace Pv
open Go Go.RowKit

theorem LOk.clean {c dep : Nat} {F : Au → Nat → Au × Nat} {a : Au} {s : Nat} {r : Au × Int} (h : LOk c dep F a s r) (hc : a.length + c ≤ 256) : r = ((F a s).1, ((F a s).2 : Int)) ∧ EL a (F a s).1 := by
  rcases Int.lt_or_le r.2 0 with g | g
  · rcases (h.no g).2 with g' | g' <;> omega
  · obtain ⟨_, y1, y2⟩ := h.yes g
    simp only [Int.toNat_natCast] at y1 y2
    exact ⟨Prod.ext y1 y2, by have := h.el; rwa [y1] at this⟩
section
variable {d : Nat} {a : Au} {s : Nat}
theorem leadT_el {T : Tr} (hT : T.Ok d) (hz : T.size ≤ 64) (hs : s < a.length) (hc : a.length + statesT T ≤ 256) : EL a (leadT T a s).1 :=
  (LOk.clean (leadR_ok T d hT hz a s (by omega) (by omega)) hc).2
theorem iter_el {K : Tr} {n : Nat} (hK : K.Ok d) (hz : K.size ≤ 64) (hs : s < a.length) (hc : a.length + statesT K * n ≤ 256) : EL a (iter (leadT K) n a s).1 :=
  (LOk.clean (RLeads.iterN (leadT_leads K) (leadR_ok K d hK hz) n a s (by omega) (by omega)) hc).2
end
theorem statesL_take (ks : List Tr) : ∀ j, statesL (ks.take j) ≤ statesL ks := by
  induction ks with
  | nil => intro j; simp [statesL]
  | cons k ks ih =>
    intro j
    cases j with
    | zero => simp [statesL]
    | succ j => have := ih j; simp only [List.take_succ_cons, statesL]; omega
mutual
/-- How many states, as the program counts: no more than 256 are told. -/
def countT : Tr → Nat
  | .mk x ks => if x.kind ≤ 1 then 1 else min (if x.kind = 3 then countL ks + 1 else if x.kind = 4 then countL ks * (if x.most < 0 then x.least.toNat + 1 else x.most.toNat) + 1 else countL ks) 256
def countL : List Tr → Nat
  | [] => 0
  | k :: ks => countT k + countL ks
end
theorem min_mul (s t : Nat) : min (min s 256 * t + 1) 256 = min (s * t + 1) 256 := by
  rcases Nat.lt_or_ge 256 s with h | h
  · rw [Nat.min_eq_right (by omega : 256 ≤ s)]
    rcases Nat.eq_zero_or_pos t with h0 | h0
    · subst h0; simp
    · have h1 : 256 * 1 ≤ 256 * t := Nat.mul_le_mul_left 256 h0
      have h2 : 256 * t ≤ s * t := Nat.mul_le_mul_right t (by omega)
      omega
  · rw [Nat.min_eq_left h]
mutual
theorem countT_eq : ∀ (T : Tr) (d : Nat), T.Ok d → countT T = min (statesT T) 256
  | .mk x ks, d, hT => by
    have hone := hT.one
    have hlen := hT.len
    have hL := countL_eq ks (d - 1) (fun k hk => hT.kid hk)
    rw [countT, statesT]
    by_cases h0 : x.kind = 0
    · rw [if_pos (by omega), if_pos h0]; rfl
    by_cases h1 : x.kind = 1
    · rw [if_pos (by omega), if_neg h0, if_pos h1]; rfl
    have hk : 1 < x.kind := by rcases hone with h | h | h | h <;> omega
    rw [if_neg (by omega), if_neg h0, if_neg h1]
    by_cases h2 : x.kind = 2
    · rw [if_neg (by omega), if_neg (by omega), if_pos h2]; exact hL
    rw [if_neg h2]
    by_cases h3 : x.kind = 3
    · rw [if_pos h3, if_pos h3]; omega
    have h4 : x.kind = 4 := by rcases hone with h | h | h | h <;> omega
    rw [if_neg h3, if_pos h4, if_neg h3]
    have hmany : x.many = 1 := by rcases hone with h | h | h | h <;> omega
    have ht : (if x.most < 0 then x.least.toNat + 1 else x.most.toNat) = timesOf x := by
      unfold timesOf
      split
      · rfl
      · rcases hone with h | h | h | h <;> omega
    rw [ht]
    have hl1 : ks.length = 1 := by omega
    match ks, hl1, hL, hT with
    | [K], _, _, hT =>
      have hK := countT_eq K (d - 1) (hT.kid (by simp))
      simp only [countL, statesH, Nat.add_zero]
      rw [hK]
      exact min_mul _ _
theorem countL_eq : ∀ (ks : List Tr) (d : Nat), (∀ k, k ∈ ks → k.Ok d) → min (countL ks) 256 = min (statesL ks) 256
  | [], d, _ => by simp [countL, statesL]
  | k :: ks, d, h => by
    have h1 := countT_eq k d (h k (by simp))
    have h2 := countL_eq ks d (fun k hk => h k (by simp [hk]))
    rw [countL, statesL, h1]; omega
end
end Pv

namespace Pv
open Go Go.RowKit

section
variable {F : Nat → Nat → Prop} {A : Nat → Nat → Prop}
end
/-- How many places of 0 .. n. -/
noncomputable def cnt (n : Nat) (S : Nat → Prop) : Nat := (List.range (n + 1)).countP fun i => yes (S i)
end Pv
