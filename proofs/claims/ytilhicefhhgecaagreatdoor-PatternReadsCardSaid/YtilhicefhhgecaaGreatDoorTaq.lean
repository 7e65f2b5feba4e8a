/- Lists of cells that the call itself makes: append onto them, and reading them back. Nothing of a program stands here. -/
import Derived.Maps.AppendAt
import Derived.Deep.AppendLies
import Derived.RegionTactic
import Derived.OwnWalk
import Derived.Test.YtilhicefhhgecaaGreatDoorMemq
namespace Pv
open Go Go.RowKit

/-- Two lists, element by element. -/
def Rel {α : Type} (R : Value → α → Prop) (us : List Value) (xs : List α) : Prop := us.length = xs.length ∧ ∀ (i : Nat) u x, us[i]? = some u → xs[i]? = some x → R u x
theorem Rel.nil {α : Type} {R : Value → α → Prop} : Rel R [] ([] : List α) := ⟨rfl, fun i u x h => by simp at h⟩
theorem Rel.app {α : Type} {R : Value → α → Prop} {us vs : List Value} {xs ys : List α} (h : Rel R us xs) (k : Rel R vs ys) : Rel R (us ++ vs) (xs ++ ys) := ⟨by simp [h.1, k.1], fun i u x hu hx => by
  by_cases hi : i < us.length
  · rw [List.getElem?_append_left hi] at hu
    rw [List.getElem?_append_left (by rw [← h.1]; exact hi)] at hx
    exact h.2 i u x hu hx
  · rw [List.getElem?_append_right (by omega)] at hu
    rw [List.getElem?_append_right (by rw [← h.1]; omega), ← h.1] at hx
    exact k.2 _ u x hu hx⟩
theorem Rel.one {α : Type} {R : Value → α → Prop} {u : Value} {x : α} (h : R u x) : Rel R [u] [x] := ⟨rfl, fun i v y hv hy => by
  match i with
  | 0 => simp at hv hy; subst hv; subst hy; exact h
  | i + 1 => simp at hv⟩
theorem Rel.mono {α : Type} {R R' : Value → α → Prop} {us : List Value} {xs : List α} (h : Rel R us xs) (hr : ∀ u x, R u x → R' u x) : Rel R' us xs :=
  ⟨h.1, fun i u x hu hx => hr u x (h.2 i u x hu hx)⟩
/-- A source of an append: m elements of size cells, these values, from A on. -/
def Src (w : World) (A : Option Addr) (size m : Nat) (us : List Value) : Prop :=
  us.length = m * size ∧ (∀ u ∈ us, u.oneCell' = true) ∧ (0 < m → ∃ b off, A = some ⟨b, off, none⟩ ∧ b < w.heap.size ∧ ∀ j u, us[j]? = some u → w.cell? ⟨b, off + j, none⟩ = some u)
theorem Src.keep {w w' : World} {A : Option Addr} {size m : Nat} {us : List Value} (h : Pv.Src w A size m us) (k : Keep w w') : Pv.Src w' A size m us := ⟨h.1, h.2.1, fun hm => by
  obtain ⟨b, off, e, hb, hc⟩ := h.2.2 hm
  exact ⟨b, off, e, Nat.lt_of_lt_of_le hb k.size, fun j u hu => (k.cell _ _ hb).trans (hc j u hu)⟩⟩

theorem list_of_ex {α β : Type} (p : Nat → α → β → Prop) (xs : List β) (h : ∀ i x, xs[i]? = some x → ∃ u, p i u x) :
    ∃ us : List α, us.length = xs.length ∧ ∀ i u x, us[i]? = some u → xs[i]? = some x → p i u x := by
  induction xs generalizing p with
  | nil => exact ⟨[], rfl, fun i u x hu => by simp at hu⟩
  | cons y ys ih =>
    obtain ⟨u0, h0⟩ := h 0 y rfl
    obtain ⟨us, hl, hus⟩ := ih (fun i u x => p (i + 1) u x) (fun i x hx => h (i + 1) x (by simpa using hx))
    refine ⟨u0 :: us, by simp [hl], fun i u x hu hx => ?_⟩
    match i with
    | 0 => simp at hu hx; subst hu; subst hx; exact h0
    | i + 1 => exact hus i u x (by simpa using hu) (by simpa using hx)

section
variable {P : Program} (w : World)
theorem run_append_src (base : Nat) (t ty e : TypeId) (i : TypeInfo) (z : Value) (size bytes : Nat) (ht : P.underlying t = some (.slice e)) (hi : P.info? e = some i) (hz : i.zero = some z)
    (hsize : i.size = size) (hby : i.bytes = bytes) (hzs : z.cells.size = size) (hsz : 0 < size)
    (A0 : Option Addr) (c0 : Nat) (n : Nat) (xs : List Value) (hown : w.ownsRow base e size (.slice A0 n c0) n xs)
    (A : Option Addr) (m c : Nat) (us : List Value) (hr : Pv.Src w A size m us)
    (h63 : n + m ≤ maxLen) (hbytes : (n + m) * bytes ≤ 140737488355328) (hbase : base ≤ w.heap.size) :
    ∃ A' c' w', (Builtin.append_ #[t, t] ty #[.slice A0 n c0, .slice A m c]).run P w = .ok (.slice A' (n + m) c') w' ∧ w'.ownsRow base e size (.slice A' (n + m) c') (n + m) (xs ++ us) ∧
      w.grownBy w' (Value.slice A0 n c0).ownBlock ∧ ((Value.slice A' (n + m) c').ownBlock = (Value.slice A0 n c0).ownBlock ∨ (Value.slice A' (n + m) c').ownBlock = some w.heap.size) := by
  obtain ⟨h0, h1, h2⟩ := hr
  have shape : ∀ (v' : Value) (w' : World), w'.ownsRow base e size v' (n + m) (xs ++ us) → ∃ A' c', v' = Value.slice A' (n + m) c' := by
    intro v' w' ho
    rcases ho.2 with ⟨rfl, h⟩ | ⟨g, cap, cur, rfl, _⟩
    · exact ⟨none, 0, by rw [h]⟩
    · exact ⟨_, _, rfl⟩
  rcases Nat.eq_zero_or_pos m with hm | hm
  · subst hm
    have hu : us = [] := List.eq_nil_of_length_eq_zero (by simpa using h0)
    subst hu
    rcases A with _ | ad
    · refine ⟨A0, c0, w, ?_, by simpa using hown, World.grownBy.refl w _, .inl rfl⟩
      rcases hown.2 with ⟨hv, hn⟩ | ⟨g, cap, cur, hv, _, _, hnc, _⟩
      · injection hv with e1 e2 e3
        subst e1; subst e2; subst e3
        simp [Builtin.append_, run_underlying ht, Go.sizeOf, typeInfo, hi, Builtin.lenOf, Builtin.firstCells]
      · injection hv with e1 e2 e3
        subst e1; subst e3
        simp [Builtin.append_, run_underlying ht, Go.sizeOf, typeInfo, hi, Builtin.lenOf, Builtin.firstCells, hnc, storeCells]
    · obtain ⟨v', w', hrun, g1, g2, _, g4⟩ := run_append_own_at (P := P) w base t ty e i z size bytes ht hi hz hsize hby hzs hsz _ n xs hown ad 0 c [] (by simp) (by simp) (by simp) h63 hbytes hbase
      obtain ⟨A', c', rfl⟩ := shape v' w' g1
      exact ⟨A', c', w', hrun, g1, g2, g4⟩
  · obtain ⟨b, off, rfl, hb, hc⟩ := h2 hm
    obtain ⟨v', w', hrun, g1, g2, _, g4⟩ := run_append_own_at (P := P) w base t ty e i z size bytes ht hi hz hsize hby hzs hsz _ n xs hown ⟨b, off, none⟩ m c us h0 (fun j u hu => by
      have : (⟨b, off, none⟩ : Addr).add j = ⟨b, off + j, none⟩ := by unfold Addr.add; by_cases hj : j = 0 <;> simp [hj]
      rw [this]; exact hc j u hu) h1 h63 hbytes hbase
    obtain ⟨A', c', rfl⟩ := shape v' w' g1
    exact ⟨A', c', w', hrun, g1, g2, g4⟩

theorem wp_append_src {o : Oper} {a : Act} {K : Act → World → Prop} {Q : Exit → Act → World → Prop} (s x : Operand) (t : TypeId)
    (ho : o.op = .call { callee := .builtin .append, args := #[s, x], argTypes := #[t, t] })
    (base : Nat) (e : TypeId) (i : TypeInfo) (z : Value) (size bytes : Nat) (ht : P.underlying t = some (.slice e)) (hi : P.info? e = some i) (hz : i.zero = some z)
    (hsize : i.size = size) (hby : i.bytes = bytes) (hzs : z.cells.size = size) (hsz : 0 < size)
    (A0 : Option Addr) (c0 n : Nat) (xs : List Value) (hs : a.eval s = .slice A0 n c0) (hown : w.ownsRow base e size (.slice A0 n c0) n xs)
    (A : Option Addr) (m c : Nat) (us : List Value) (hx : a.eval x = .slice A m c) (hr : Pv.Src w A size m us)
    (h63 : n + m ≤ maxLen) (hbytes : (n + m) * bytes ≤ 140737488355328) (hbase : base ≤ w.heap.size)
    (h : ∀ A' c' w', w'.ownsRow base e size (.slice A' (n + m) c') (n + m) (xs ++ us) → w.grownBy w' (Value.slice A0 n c0).ownBlock →
      ((Value.slice A' (n + m) c').ownBlock = (Value.slice A0 n c0).ownBlock ∨ (Value.slice A' (n + m) c').ownBlock = some w.heap.size) → K (a.put o.dst (.slice A' (n + m) c')) w') : o.wp P a w K Q := by
  obtain ⟨A', c', w', hrun, h2, h3, h4⟩ := run_append_src (P := P) w base t o.type e i z size bytes ht hi hz hsize hby hzs hsz A0 c0 n xs hown A m c us hr h63 hbytes hbase
  unfold Oper.wp execOp
  simp only [ho, resolve, invoke, builtin, Sem.run_bind, Sem.run_pure, Result.andThen_ok, List.map_toArray, List.map_cons, List.map_nil, hs, hx, hrun]
  exact h A' c' w' h2 h3 h4

/-- append onto a row of the call's own, whatever the source (nil, empty or not): the result has a slice's shape. -/
theorem wpList_append_src {ops : Array Oper} {rest : List Oper} {o : Oper} {a : Act} {Q : Exit → Act → World → Prop} (hgd : o.guard = none) (s x : Operand) (t : TypeId)
    (ho : o.op = .call { callee := .builtin .append, args := #[s, x], argTypes := #[t, t] })
    (base : Nat) (e : TypeId) (i : TypeInfo) (z : Value) (size bytes : Nat) (ht : P.underlying t = some (.slice e)) (hi : P.info? e = some i) (hz : i.zero = some z)
    (hsize : i.size = size) (hby : i.bytes = bytes) (hzs : z.cells.size = size) (hsz : 0 < size)
    (A0 : Option Addr) (c0 n : Nat) (xs : List Value) (hs : a.eval s = .slice A0 n c0) (hown : w.ownsRow base e size (.slice A0 n c0) n xs)
    (A : Option Addr) (m c : Nat) (us : List Value) (hx : a.eval x = .slice A m c) (hr : Pv.Src w A size m us)
    (h63 : n + m ≤ maxLen) (hbytes : (n + m) * bytes ≤ 140737488355328) (hbase : base ≤ w.heap.size)
    (h : ∀ A' c' w', w'.ownsRow base e size (.slice A' (n + m) c') (n + m) (xs ++ us) → w.grownBy w' (Value.slice A0 n c0).ownBlock →
      ((Value.slice A' (n + m) c').ownBlock = (Value.slice A0 n c0).ownBlock ∨ (Value.slice A' (n + m) c').ownBlock = some w.heap.size) → wpList P ops Q rest (a.put o.dst (.slice A' (n + m) c')) w') : wpList P ops Q (o :: rest) a w :=
  wpList_plain hgd fun _ hK => wp_append_src w s x t ho base e i z size bytes ht hi hz hsize hby hzs hsz A0 c0 n xs hs hown A m c us hx hr h63 hbytes hbase fun A' c' w' h2 h3 h4 => hK _ _ (h A' c' w' h2 h3 h4)
end

section
variable {P : Program} (w : World)
end

/-- What the call owns reads as a list. -/
theorem At.of_own {α : Type} {w : World} {base e n c : Nat} {A : Option Addr} {us : List Value} {R : Value → α → Prop} {xs : List α}
    (h : w.ownsRow base e 1 (.slice A n c) n us) (hr : Rel R us xs) (hl : xs.length ≤ 140737488355328) : n = xs.length ∧ n ≤ c ∧ At w A R xs := by
  have hn : n = xs.length := by have := h.1; have := hr.1; omega
  subst hn
  rcases h.2 with ⟨hv, h0⟩ | ⟨g, cap, cur, hv, hg, hh, hnc, hcm, hcs, htk⟩
  · injection hv with e1 e2 e3
    subst e3
    exact ⟨rfl, by omega, hl, fun hp => absurd hp (by omega)⟩
  · injection hv with e1 e2 e3
    subst e1; subst e3
    refine ⟨rfl, hnc, hl, fun hp => ⟨g, 0, rfl, ?_, fun i x hx => ?_⟩⟩
    · rcases Nat.lt_or_ge g w.heap.size with hlt | hge
      · exact hlt
      · rw [Array.getElem?_eq_none hge] at hh; cases hh
    · have hi : i < us.length := by
        have : i < xs.length := by
          rcases Nat.lt_or_ge i xs.length with h | h
          · exact h
          · rw [List.getElem?_eq_none h] at hx; cases hx
        rw [hr.1]; exact this
      refine ⟨us[i], ?_, hr.2 i _ x (List.getElem?_eq_getElem hi) hx⟩
      have hcur : cur[i]? = some us[i] := by
        have := congrArg (fun l : List Value => l[i]?) htk
        simp only [List.getElem?_take, List.getElem?_eq_getElem hi] at this
        split at this
        · simpa using this
        · cases this
      simp [World.cell?, hh, hcur]

/-- A block that is known whole. -/
def Blk (w : World) (g : Nat) (t : TypeId) (cs : Array Value) : Prop := w.heap[g]? = some (.cells cs t (0, 0))
section
variable {w w' : World} {g : Nat} {t : TypeId} {cs : Array Value}
theorem Blk.lt (h : Blk w g t cs) : g < w.heap.size := by
  rcases Nat.lt_or_ge g w.heap.size with hlt | hge
  · exact hlt
  · unfold Blk at h; rw [Array.getElem?_eq_none hge] at h; cases h
theorem Blk.cell (h : Blk w g t cs) (i : Nat) : w.cell? ⟨g, i, none⟩ = cs[i]? := by
  unfold Blk at h; simp [World.cell?, h]
theorem Blk.frozen (h : Blk w g t cs) (i : Nat) : w.frozen? ⟨g, i, none⟩ = false := by
  unfold Blk at h
  simp [World.frozen?, h]
theorem Blk.new (w : World) (t : TypeId) (cs : Array Value) : Blk (w.alloc (.cells cs t)) w.heap.size t cs := by
  show (w.heap.push _)[w.heap.size]? = _
  simp
theorem Blk.alloc (h : Blk w g t cs) (o : Obj) : Blk (w.alloc o) g t cs := (Below.heap_alloc w o g h.lt).trans h
theorem Blk.set (h : Blk w g t cs) (i : Nat) (u : Value) : Blk (w.setCell ⟨g, i, none⟩ u) g t (cs.setIfInBounds i u) := by
  unfold Blk at h ⊢
  simp [World.setCell, Array.getElem?_modify, h]
theorem Blk.far (h : Blk w g t cs) {p : Addr} (hp : g ≠ p.block) (u : Value) : Blk (w.setCell p u) g t cs := (Below.heap_setCell w p u g hp).trans h
theorem Blk.below {B : Nat} (h : Blk w g t cs) (hb : Below B w w') (hg : g < B) : Blk w' g t cs := (hb.block g hg).trans h
theorem Blk.grown {row : Option Nat} (h : Blk w g t cs) (hb : w.grownBy w' row) (hg : some g ≠ row) : Blk w' g t cs := (hb.block g h.lt hg).trans h
theorem Blk.ne {g' : Nat} {t' : TypeId} {cs' : Array Value} (h : Blk w g t cs) (h' : Blk w g' t' cs') (hne : t ≠ t') : g ≠ g' := by
  rintro rfl
  unfold Blk at h h'
  rw [h] at h'
  injection h' with h'
  injection h' with _ ht
  exact hne ht
theorem own_blk_ne {base : Nat} {e : TypeId} {size n : Nat} {v : Value} {xs : List Value} (h : w.ownsRow base e size v n xs) (hg : Blk w g t cs) (hne : e ≠ t) : some g ≠ v.ownBlock := by
  rcases h.2 with ⟨rfl, _⟩ | ⟨g', cap, cur, rfl, _, hh, _⟩
  · simp [Value.ownBlock]
  · intro he
    have : g = g' := by simpa [Value.ownBlock] using he
    subst this
    exact Blk.ne (t := e) hh hg hne rfl
end
end Pv

namespace Pv
open Go Go.RowKit

/-- v is a slice of the call's own (element type e, one cell each) that reads as xs. -/
def Own {α : Type} (w : World) (base : Nat) (e : TypeId) (R : Value → α → Prop) (v : Value) (xs : List α) : Prop :=
  ∃ A c us, v = .slice A xs.length c ∧ w.ownsRow base e 1 (.slice A xs.length c) xs.length us ∧ Rel R us xs

theorem own_ne {w : World} {b b' : Nat} {e e' : TypeId} {s s' n n' : Nat} {v v' : Value} {us us' : List Value} (h : w.ownsRow b e s v n us) (h' : w.ownsRow b' e' s' v' n' us') (hne : e ≠ e') :
    v.ownBlock = none ∨ v.ownBlock ≠ v'.ownBlock := by
  rcases h.2 with ⟨rfl, _⟩ | ⟨g, cap, cur, rfl, _, hh, _⟩
  · exact .inl rfl
  · rcases h'.2 with ⟨rfl, _⟩ | ⟨g', cap', cur', rfl, _, hh', _⟩
    · exact .inr (by simp [Value.ownBlock])
    · refine .inr fun he => ?_
      have : g = g' := by simpa [Value.ownBlock] using he
      subst this
      rw [hh] at hh'
      injection hh' with hh'
      injection hh' with _ ht
      exact hne ht
theorem ownsRow_setFar {w : World} {b : Nat} {e : TypeId} {s n : Nat} {v : Value} {us : List Value} (h : w.ownsRow b e s v n us) {g : Nat} {t : TypeId} {cs : Array Value} (hb : Blk w g t cs) (hne : e ≠ t) (i : Nat) (u : Value) :
    (w.setCell ⟨g, i, none⟩ u).ownsRow b e s v n us := by
  refine ⟨h.1, ?_⟩
  rcases h.2 with h2 | ⟨g', cap, cur, rfl, hg, hh, r⟩
  · exact .inl h2
  · have hgg : g' ≠ g := fun he => by
      subst he
      unfold Blk at hb
      rw [hh] at hb
      injection hb with hb
      injection hb with _ ht
      exact hne ht
    exact .inr ⟨g', cap, cur, rfl, hg, by rw [Below.heap_setCell _ _ _ _ (by simpa using hgg)]; exact hh, r⟩
theorem ownsRow_drewN {w : World} {b : Nat} {e : TypeId} {s n : Nat} {v : Value} {us : List Value} (h : w.ownsRow b e s v n us) (k : Nat) : (w.drewN k).ownsRow b e s v n us := h

section
variable {α : Type} {w w' : World} {base : Nat} {e : TypeId} {R R' : Value → α → Prop} {v : Value} {xs : List α}
theorem Own.nil : Own w base e R (.slice none 0 0) ([] : List α) := ⟨none, 0, [], rfl, World.ownsRow_nil _ _ _ _, Rel.nil⟩
end
/-- the own block of an owned row lies from base on -/
theorem own_ge {w : World} {b : Nat} {e : TypeId} {s n : Nat} {v : Value} {us : List Value} (h : w.ownsRow b e s v n us) : ∀ k, v.ownBlock = some k → b ≤ k := fun k hk => (h.lt k hk).1
/-- One element, boxed by buildSlice, as an append's source. -/
theorem Src.one {w : World} {x : Value} {t : TypeId} (h : x.oneCell' = true) : Pv.Src (w.alloc (.cells #[x] t)) (some ⟨w.heap.size, 0, none⟩) 1 1 [x] := by
  refine ⟨rfl, by simpa using h, fun _ => ⟨w.heap.size, 0, rfl, by simp, fun j u hu => ?_⟩⟩
  match j with
  | 0 => simp at hu; subst hu; simp
  | j + 1 => simp at hu
theorem RI.one {u : Value} {x : Int} (h : RI u x) : u.oneCell' = true := by obtain ⟨rfl, _⟩ := h; rfl
end Pv

namespace Pv
open Go Go.RowKit
/-- A string's bytes. -/
abbrev bsl (r : ByteArray) : List UInt8 := r.data.toList
theorem bsl_len (r : ByteArray) : (bsl r).length = r.size := by rw [bsl, Array.length_toList]; rfl
theorem bsl_mk (l : List UInt8) : bsl ⟨l.toArray⟩ = l := by simp [bsl]
def isP (n : Nat) : Bool := decide (n ≤ 1114111 ∧ (n < 55296 ∨ 57343 < n))
/-- A code point's bytes. -/
def bytesP (n : Nat) : List Nat :=
  if n < 128 then [n] else if n < 2048 then [192 + n / 64, 128 + n % 64] else if n < 65536 then [224 + n / 4096, 128 + n / 64 % 64, 128 + n % 64]
  else [240 + n / 262144, 128 + n / 4096 % 64, 128 + n / 64 % 64, 128 + n % 64]
theorem bytesP_1 {n : Nat} (h : n < 128) : bytesP n = [n] := by unfold bytesP; rw [if_pos h]
theorem bytesP_2 {n : Nat} (h : 128 ≤ n) (h' : n < 2048) : bytesP n = [192 + n / 64, 128 + n % 64] := by unfold bytesP; rw [if_neg (by omega), if_pos h']
theorem bytesP_3 {n : Nat} (h : 2048 ≤ n) (h' : n < 65536) : bytesP n = [224 + n / 4096, 128 + n / 64 % 64, 128 + n % 64] := by unfold bytesP; rw [if_neg (by omega), if_neg (by omega), if_pos h']
theorem bytesP_4 {n : Nat} (h : 65536 ≤ n) : bytesP n = [240 + n / 262144, 128 + n / 4096 % 64, 128 + n / 64 % 64, 128 + n % 64] := by unfold bytesP; rw [if_neg (by omega), if_neg (by omega), if_neg (by omega)]
theorem bytesP_len {n : Nat} : (bytesP n).length = if n < 128 then 1 else if n < 2048 then 2 else if n < 65536 then 3 else 4 := by
  unfold bytesP; repeat' split
  all_goals rfl
theorem range_1 {n : Nat} (h : (bytesP n).length = 1) : n < 128 := by rw [bytesP_len] at h; repeat' split at h
                                                                      all_goals omega
theorem range_2 {n : Nat} (h : (bytesP n).length = 2) : 128 ≤ n ∧ n < 2048 := by rw [bytesP_len] at h; repeat' split at h
                                                                                 all_goals omega
theorem range_3 {n : Nat} (h : (bytesP n).length = 3) : 2048 ≤ n ∧ n < 65536 := by rw [bytesP_len] at h; repeat' split at h
                                                                                   all_goals omega
theorem range_4 {n : Nat} (h : (bytesP n).length = 4) : 65536 ≤ n := by rw [bytesP_len] at h; repeat' split at h
                                                                        all_goals omega
/-- Bytes as a string. -/
def mkS (l : List UInt8) : ByteArray := ⟨l.toArray⟩
theorem bsl_mkS (l : List UInt8) : bsl (mkS l) = l := by simp [mkS, bsl]
theorem toList_bsl (s : ByteArray) : s.toList = bsl s := ByteArray.toList_eq s
theorem bytesP_lt {n x : Nat} (hn : n ≤ 1114111) (hx : x ∈ bytesP n) : x < 256 := by
  unfold bytesP at hx
  repeat' split at hx
  all_goals simp only [List.mem_cons, List.not_mem_nil, or_false] at hx
  all_goals omega
/-- A code point's bytes, as bytes. -/
def bytes8 (n : Nat) : List UInt8 := (bytesP n).map UInt8.ofNat
theorem bytes8_eq {n : Nat} (hn : n ≤ 1114111) (l : List UInt8) : bytes8 n = l ↔ bytesP n = l.map (·.toNat) := by
  constructor
  · rintro rfl
    unfold bytes8
    rw [List.map_map]
    refine (List.map_id _).symm.trans (List.map_congr_left fun x hx => ?_)
    have := bytesP_lt hn hx
    simp; omega
  · intro h
    unfold bytes8
    rw [h, List.map_map]
    refine (List.map_congr_left fun x _ => ?_).trans (List.map_id _)
    simp
end Pv

namespace Pv
open Go Go.RowKit

/-- A range, a node. -/
structure Rng where
  lo : Int
  hi : Int
deriving DecidableEq
structure Rx where
  kind : Int
  set : List Rng
  many : Int
  least : Int
  most : Int
deriving DecidableEq
def RRng (f : Nat → Value) (r : Rng) : Prop := RI (f 0) r.lo ∧ RI (f 1) r.hi
abbrev IsSet (w : World) := SlK w 2 RRng
def RU (v : Value) (n : Int) : Prop := v = .int .u8 n ∧ 0 ≤ n ∧ n ≤ 255
structure RRx (w : World) (f : Nat → Value) (x : Rx) : Prop where
  kind : RU (f 0) x.kind
  set : IsSet w (f 1) x.set
  many : RI (f 2) x.many
  least : RI (f 3) x.least
  most : RI (f 4) x.most
theorem RRx.keep {w w' : World} {f : Nat → Value} {x : Rx} (h : RRx w f x) (k : Keep w w') : RRx w' f x := ⟨h.1, SlK.keep h.2 k, h.3, h.4, h.5⟩
/-- Nodes from an address on. -/
abbrev AtRx (w : World) (A : Option Addr) (t : List Rx) : Prop := AtK w 5 A (RRx w) t
theorem AtRx.keep {w w' : World} {A : Option Addr} {t : List Rx} (h : AtRx w A t) (k : Keep w w') : AtRx w' A t := h.keepR k fun _ _ h => h.keep k
abbrev AtSet (w : World) (A : Option Addr) (l : List Rng) : Prop := AtK w 2 A RRng l
/-- A node of them: its cells. -/
theorem AtRx.gt {w : World} {A : Option Addr} {t : List Rx} {n i : Nat} (h : AtRx w A t) (HL : Hid (t.length = n)) (hi : i < n) :
    ∃ b off k B c m l many least most, A = some ⟨b, off, none⟩ ∧ b < w.heap.size ∧ w.cell? ⟨b, off + i * 5, none⟩ = some (.int .u8 k) ∧ w.cell? ⟨b, off + i * 5 + 1, none⟩ = some (.slice B m c) ∧
      w.cell? ⟨b, off + i * 5 + 2, none⟩ = some (.int .i64 many) ∧ w.cell? ⟨b, off + i * 5 + 3, none⟩ = some (.int .i64 least) ∧ w.cell? ⟨b, off + i * 5 + 4, none⟩ = some (.int .i64 most) ∧
      AtSet w B l ∧ Hid (l.length = m) ∧ m ≤ c ∧ (0 ≤ k ∧ k ≤ 255) ∧ (-9223372036854775808 ≤ many ∧ many ≤ 9223372036854775807) ∧ (-9223372036854775808 ≤ least ∧ least ≤ 9223372036854775807) ∧ (-9223372036854775808 ≤ most ∧ most ≤ 9223372036854775807) ∧
      Hid (t[i]? = some ⟨k, l, many, least, most⟩) := by
  obtain ⟨b, off, f, ⟨k, l, many, least, most⟩, e, hb, hc, ⟨⟨h0, h01, h02⟩, ⟨B, c, h1, hs, hm⟩, ⟨h2, h21, h22⟩, ⟨h3, h31, h32⟩, ⟨h4, h41, h42⟩⟩, hx⟩ := AtK.gt h HL hi
  have c0 := hc 0 (by omega); have c1 := hc 1 (by omega); have c2 := hc 2 (by omega); have c3 := hc 3 (by omega); have c4 := hc 4 (by omega)
  rw [h0] at c0; rw [h1] at c1; rw [h2] at c2; rw [h3] at c3; rw [h4] at c4
  exact ⟨b, off, k, B, c, l.length, l, many, least, most, e, hb, c0, c1, c2, c3, c4, hs, rfl, hm, ⟨h01, h02⟩, ⟨h21, h22⟩, ⟨h31, h32⟩, ⟨h41, h42⟩, hx⟩
/-- The five cells of a node. -/
structure C5 (w : World) (b o : Nat) (k : Int) (B : Option Addr) (m c : Nat) (many least most : Int) : Prop where
  lt : b < w.heap.size
  c0 : w.cell? ⟨b, o, none⟩ = some (.int .u8 k)
  c1 : w.cell? ⟨b, o + 1, none⟩ = some (.slice B m c)
  c2 : w.cell? ⟨b, o + 2, none⟩ = some (.int .i64 many)
  c3 : w.cell? ⟨b, o + 3, none⟩ = some (.int .i64 least)
  c4 : w.cell? ⟨b, o + 4, none⟩ = some (.int .i64 most)
theorem C5.next {w w' : World} {b o : Nat} {k : Int} {B : Option Addr} {m c : Nat} {many least most : Int} (h : C5 w b o k B m c many least most) (kp : Keep w w') : C5 w' b o k B m c many least most :=
  ⟨Nat.lt_of_lt_of_le h.lt kp.size, (kp.cell _ _ h.lt).trans h.c0, (kp.cell _ _ h.lt).trans h.c1, (kp.cell _ _ h.lt).trans h.c2, (kp.cell _ _ h.lt).trans h.c3, (kp.cell _ _ h.lt).trans h.c4⟩
/-- A node of nodes: cells, set, bounds. -/
theorem AtRx.g5 {w : World} {A : Option Addr} {t : List Rx} {n i : Nat} (h : AtRx w A t) (HL : Hid (t.length = n)) (hi : i < n) :
    ∃ b off k B c m l many least most, A = some ⟨b, off, none⟩ ∧ C5 w b (off + i * 5) k B m c many least most ∧
      AtSet w B l ∧ Hid (l.length = m) ∧ m ≤ c ∧ (0 ≤ k ∧ k ≤ 255) ∧ (-9223372036854775808 ≤ many ∧ many ≤ 9223372036854775807) ∧ (-9223372036854775808 ≤ least ∧ least ≤ 9223372036854775807) ∧ (-9223372036854775808 ≤ most ∧ most ≤ 9223372036854775807) ∧
      Hid (t[i]? = some ⟨k, l, many, least, most⟩) := by
  obtain ⟨b, off, k, B, c, m, l, many, least, most, e, hb, c0, c1, c2, c3, c4, hs, HM, hm, h1, h2, h3, h4, HX⟩ := h.gt HL hi
  exact ⟨b, off, k, B, c, m, l, many, least, most, e, ⟨hb, c0, c1, c2, c3, c4⟩, hs, HM, hm, h1, h2, h3, h4, HX⟩
/-- A range of a set. -/
theorem AtSet.gt {w : World} {A : Option Addr} {l : List Rng} {n i : Nat} (h : AtSet w A l) (HL : Hid (l.length = n)) (hi : i < n) :
    ∃ b off lo hi', A = some ⟨b, off, none⟩ ∧ b < w.heap.size ∧ w.cell? ⟨b, off + i * 2, none⟩ = some (.int .i64 lo) ∧ w.cell? ⟨b, off + i * 2 + 1, none⟩ = some (.int .i64 hi') ∧
      (-9223372036854775808 ≤ lo ∧ lo ≤ 9223372036854775807) ∧ (-9223372036854775808 ≤ hi' ∧ hi' ≤ 9223372036854775807) ∧ Hid (l[i]? = some ⟨lo, hi'⟩) := by
  obtain ⟨b, off, f, ⟨lo, hi'⟩, e, hb, hc, ⟨⟨h0, h01, h02⟩, ⟨h1, h11, h12⟩⟩, hx⟩ := AtK.gt h HL hi
  have c0 := hc 0 (by omega); have c1 := hc 1 (by omega)
  rw [h0] at c0; rw [h1] at c1
  exact ⟨b, off, lo, hi', e, hb, c0, c1, ⟨h01, h02⟩, ⟨h11, h12⟩, hx⟩

/-- May ranges be a set? -/
structure SetOk (l : List Rng) : Prop where
  few : l.length ≤ 256
  one : ∀ (i : Nat) x, l[i]? = some x → 0 ≤ x.lo ∧ x.lo ≤ x.hi ∧ x.hi ≤ 1114111
  gap : ∀ (i : Nat) x y, l[i]? = some x → l[i + 1]? = some y → x.hi + 2 ≤ y.lo
noncomputable def setB (l : List Rng) : Bool := yes (SetOk l)
theorem setB_yes {l : List Rng} (h : SetOk l) : setB l = true := yes_t h
theorem setB_no {l : List Rng} (h : ¬ SetOk l) : setB l = false := yes_f h
theorem SetOk.of {l : List Rng} (h : setB l = true) : SetOk l := of_yes h
/-- The error that Check tells. -/
noncomputable def setE (l : List Rng) : Int := if setB l = true then 0 else 8

theorem setE_yes {l : List Rng} (h : setB l = true) : setE l = 0 := by unfold setE; rw [if_pos h]
theorem setE_no {l : List Rng} (h : setB l = false) : setE l = 8 := by unfold setE; rw [if_neg (by rw [h]; simp)]
/-- May a node be, by itself? -/
def Rx.One (x : Rx) : Prop :=
  (x.kind = 0 ∧ x.set = [] ∧ x.least = 0 ∧ x.most = 0 ∧ x.many = 0) ∨ (x.kind = 1 ∧ SetOk x.set ∧ x.least = 0 ∧ x.most = 0 ∧ x.many = 0) ∨
  ((x.kind = 2 ∨ x.kind = 3) ∧ x.set = [] ∧ x.least = 0 ∧ x.most = 0 ∧ 2 ≤ x.many) ∨
  (x.kind = 4 ∧ x.set = [] ∧ x.many = 1 ∧ 0 ≤ x.least ∧ x.least ≤ 16 ∧ (x.most = -1 ∨ (x.least ≤ x.most ∧ x.most ≤ 16)))
noncomputable def Rx.oneB (x : Rx) : Bool := yes x.One
theorem Rx.oneB_yes {x : Rx} (h : x.One) : x.oneB = true := yes_t h
theorem Rx.oneB_no {x : Rx} (h : ¬ x.One) : x.oneB = false := yes_f h
theorem Rx.One.of {x : Rx} (h : x.oneB = true) : x.One := of_yes h

/-- .. as the code asks it: kind, whether the set may be, the set's length. -/
def oneC (k : Int) (sb : Bool) (n : Nat) (many least most : Int) : Bool :=
  if k == 0 then ((n : Int) == 0 && least == 0 && most == 0) && many == 0
  else if k == 1 then sb && least == 0 && most == 0 && many == 0
  else if k == 2 || k == 3 then ((n : Int) == 0 && least == 0 && most == 0) && decide (2 ≤ many)
  else if k == 4 then (n : Int) == 0 && many == 1 && decide (0 ≤ least) && decide (least ≤ 16) && (most == -1 || decide (least ≤ most) && decide (most ≤ 16))
  else false
theorem oneC_eq (x : Rx) : oneC x.kind (setB x.set) x.set.length x.many x.least x.most = x.oneB := by
  by_cases h : x.One
  · rw [Rx.oneB_yes h]
    rcases h with ⟨h1, h2, h3, h4, h5⟩ | ⟨h1, h2, h3, h4, h5⟩ | ⟨h1, h2, h3, h4, h5⟩ | ⟨h1, h2, h3, h4, h5, h6⟩
    · simp [oneC, h1, h2, h3, h4, h5]
    · simp [oneC, h1, setB_yes h2, h3, h4, h5]
    · rcases h1 with h1 | h1 <;> simp [oneC, h1, h2, h3, h4, h5]
    · have : (x.most == -1 || decide (x.least ≤ x.most) && decide (x.most ≤ 16)) = true := by simp; omega
      simp [oneC, h1, h2, h3, h4, h5]; omega
  · rw [Rx.oneB_no h]
    cases hc : oneC x.kind (setB x.set) x.set.length x.many x.least x.most with
    | false => rfl
    | true =>
      refine absurd ?_ h
      have hn : x.set.length = 0 → x.set = [] := List.eq_nil_of_length_eq_zero
      unfold oneC at hc
      unfold Rx.One
      by_cases k0 : x.kind = 0
      · simp [k0] at hc; exact .inl ⟨k0, hc.1.1.1, hc.1.1.2, hc.1.2, hc.2⟩
      by_cases k1 : x.kind = 1
      · simp [k1] at hc; exact .inr (.inl ⟨k1, SetOk.of hc.1.1.1, hc.1.1.2, hc.1.2, hc.2⟩)
      by_cases k2 : x.kind = 2 ∨ x.kind = 3
      · have k2' : (x.kind == 2 || x.kind == 3) = true := by simpa using k2
        simp [k0, k1, k2'] at hc; exact .inr (.inr (.inl ⟨k2, hc.1.1.1, hc.1.1.2, hc.1.2, hc.2⟩))
      by_cases k4 : x.kind = 4
      · simp [k4] at hc
        exact .inr (.inr (.inr ⟨k4, hc.1.1.1.1, hc.1.1.1.2, hc.1.1.2, hc.1.2, hc.2⟩))
      · have k2' : (x.kind == 2 || x.kind == 3) = false := by simpa using k2
        simp [k0, k1, k2', k4] at hc

/-- One node behind the other. -/
def again (f : Nat → Option Nat) : Nat → Nat → Option Nat
  | 0, a => some a
  | n + 1, a => (f a).bind (again f n)
/-- The place behind the node that begins at one, at most so many deep. -/
noncomputable def behind (t : List Rx) : Nat → Nat → Option Nat
  | 0, i => match t[i]? with | none => none | some x => if x.oneB = true ∧ x.kind ≤ 1 then some (i + 1) else none
  | d + 1, i => match t[i]? with | none => none | some x => if x.oneB = true then again (behind t d) x.many.toNat (i + 1) else none
theorem behind_none {t : List Rx} {i : Nat} (h : t[i]? = none) (d : Nat) : behind t d i = none := by cases d <;> simp [behind, h]
theorem behind_bad {t : List Rx} {i : Nat} {x : Rx} (h : t[i]? = some x) (hx : x.oneB = false) (d : Nat) : behind t d i = none := by cases d <;> simp [behind, h, hx]
theorem behind_deep {t : List Rx} {i : Nat} {x : Rx} (h : t[i]? = some x) (hx : 1 < x.kind) : behind t 0 i = none := by simp [behind, h]; omega
theorem behind_leaf {t : List Rx} {i : Nat} {x : Rx} (h : t[i]? = some x) (hx : x.oneB = true) (hk : x.kind ≤ 1) (d : Nat) : behind t d i = some (i + 1) := by
  have hm : x.many = 0 := by
    rcases Rx.One.of hx with ⟨_, _, _, _, h⟩ | ⟨_, _, _, _, h⟩ | ⟨h, _⟩ | ⟨h, _⟩ <;> omega
  cases d <;> simp [behind, h, hx, hk, hm, again]
theorem behind_in {t : List Rx} {i : Nat} {x : Rx} (h : t[i]? = some x) (hx : x.oneB = true) (d : Nat) : behind t (d + 1) i = again (behind t d) x.many.toNat (i + 1) := by simp [behind, h, hx]

theorem again_snoc (f : Nat → Option Nat) : ∀ (n a : Nat), again f (n + 1) a = (again f n a).bind f
  | 0, a => by simp [again]
  | n + 1, a => by
    show (f a).bind (again f (n + 1)) = ((f a).bind (again f n)).bind f
    cases f a with
    | none => rfl
    | some b => exact again_snoc f n b
theorem again_more {f : Nat → Option Nat} {n a : Nat} (h : again f n a = none) : ∀ m, n ≤ m → again f m a = none
  | 0, hm => by
    obtain rfl : n = 0 := by omega
    exact h
  | m + 1, hm => by
    by_cases hn : n = m + 1
    · subst hn; exact h
    · rw [again_snoc, again_more h m (by omega)]; rfl
theorem behind_all {t : List Rx} {i : Nat} {x : Rx} (h : t[i]? = some x) (hx : x.oneB = true) (d : Nat) (hd : 1 < x.kind → 0 < d) : behind t d i = again (behind t (d - 1)) x.many.toNat (i + 1) := by
  cases d with
  | succ d => exact behind_in h hx d
  | zero =>
    have hk : x.kind ≤ 1 := by rcases Nat.lt_or_ge 0 0 with h | h; omega; exact Int.not_lt.1 fun hh => by have := hd hh; omega
    rw [behind_leaf h hx hk]
    have hm : x.many = 0 := by
      rcases Rx.One.of hx with ⟨_, _, _, _, h⟩ | ⟨_, _, _, _, h⟩ | ⟨h, _⟩ | ⟨h, _⟩ <;> omega
    rw [hm]; rfl
/-- The place, or -1. -/
def bR : Option Nat → Int
  | some e => e
  | none => -1

theorem bR_some (e : Nat) : bR (some e) = (e : Int) := rfl
theorem bR_none : bR none = -1 := rfl

/-- A pattern as a tree. -/
inductive Tr where
  | mk (x : Rx) (kids : List Tr) : Tr
mutual
def Tr.flat : Tr → List Rx
  | .mk x ks => x :: flats ks
def flats : List Tr → List Rx
  | [] => []
  | k :: ks => k.flat ++ flats ks
end
def Tr.size (t : Tr) : Nat := t.flat.length
def sizes (l : List Tr) : Nat := (flats l).length
theorem Tr.size_pos (t : Tr) : 0 < t.size := by cases t; simp [Tr.size, Tr.flat]
theorem Tr.size_mk (x : Rx) (ks : List Tr) : (Tr.mk x ks).size = sizes ks + 1 := by simp [Tr.size, Tr.flat, sizes]
theorem sizes_cons (k : Tr) (ks : List Tr) : sizes (k :: ks) = k.size + sizes ks := by simp [sizes, flats, Tr.size]
/-- A tree whose nodes may be, at most so deep. -/
def Tr.Ok : Nat → Tr → Prop
  | 0, .mk x ks => x.One ∧ x.many = 0 ∧ ks = []
  | d + 1, .mk x ks => x.One ∧ (ks.length : Int) = x.many ∧ ∀ k, k ∈ ks → Tr.Ok d k
theorem Rx.many0 {x : Rx} (h : x.One) (hk : x.kind ≤ 1) : x.many = 0 := by
  rcases h with h | h | h | h <;> omega
theorem Rx.One.many {x : Rx} (h : x.One) : 0 ≤ x.many := by
  rcases h with h | h | h | h <;> omega
theorem Tr.Ok.up {d : Nat} : ∀ {d' : Nat} {t : Tr}, t.Ok d → d ≤ d' → t.Ok d' := by
  induction d with
  | zero =>
    intro d' t h hd
    obtain ⟨x, ks⟩ := t
    obtain ⟨h1, h2, rfl⟩ := h
    cases d' with
    | zero => exact ⟨h1, h2, rfl⟩
    | succ d' => exact ⟨h1, by simp [h2], by simp⟩
  | succ d ih =>
    intro d' t h hd
    obtain ⟨x, ks⟩ := t
    cases d' with
    | zero => omega
    | succ d' => exact ⟨h.1, h.2.1, fun k hk => ih (h.2.2 k hk) (by omega)⟩
theorem drop_cons {α : Type} {t : List α} {i : Nat} {x : α} (h : t[i]? = some x) : t.drop i = x :: t.drop (i + 1) := by
  have hi := lt_of_get h
  rw [List.drop_eq_getElem_cons hi]
  rw [List.getElem?_eq_getElem hi] at h
  injection h with h
  rw [h]
theorem drop_head {α : Type} {t r : List α} {i : Nat} {x : α} (h : t.drop i = x :: r) : t[i]? = some x ∧ t.drop (i + 1) = r := by
  constructor
  · have := congrArg List.head? h
    simpa [List.head?_drop] using this
  · have := congrArg List.tail h
    simpa using this
theorem drop_app {α : Type} {t a r : List α} {i : Nat} (h : t.drop i = a ++ r) : t.drop (i + a.length) = r := by
  rw [← List.drop_drop, h, List.drop_left]

/-- What stands behind is a tree. -/
theorem behind_tree {t : List Rx} : ∀ {d i e : Nat}, behind t d i = some e → ∃ T : Tr, T.Ok d ∧ t.drop i = T.flat ++ t.drop e ∧ e = i + T.size := by
  intro d
  induction d with
  | zero =>
    intro i e h
    cases hx : t[i]? with
    | none => simp [behind, hx] at h
    | some x =>
      by_cases h1 : x.oneB = true ∧ x.kind ≤ 1
      · rw [behind_leaf hx h1.1 h1.2] at h
        injection h with h
        subst h
        have hm : x.many = 0 := by
          rcases Rx.One.of h1.1 with ⟨_, _, _, _, h⟩ | ⟨_, _, _, _, h⟩ | ⟨h, _⟩ | ⟨h, _⟩ <;> omega
        exact ⟨.mk x [], ⟨Rx.One.of h1.1, hm, rfl⟩, by simp [Tr.flat, flats, drop_cons hx], by simp [Tr.size, Tr.flat, flats]⟩
      · simp [behind, hx, h1] at h
  | succ d ih =>
    have more : ∀ (m i e : Nat), again (behind t d) m i = some e → ∃ ks : List Tr, ks.length = m ∧ (∀ k, k ∈ ks → k.Ok d) ∧ t.drop i = flats ks ++ t.drop e ∧ e = i + sizes ks := by
      intro m
      induction m with
      | zero =>
        intro i e h
        simp only [again, Option.some.injEq] at h
        subst h
        exact ⟨[], rfl, by simp, by simp [flats], by simp [sizes, flats]⟩
      | succ m ihm =>
        intro i e h
        simp only [again] at h
        cases hb : behind t d i with
        | none => rw [hb] at h; simp at h
        | some e1 =>
          rw [hb] at h
          obtain ⟨T, hT, hd, he⟩ := ih hb
          obtain ⟨ks, hl, hks, hd2, he2⟩ := ihm e1 e h
          exact ⟨T :: ks, by simp [hl], fun k hk => by rcases List.mem_cons.1 hk with rfl | hk; exact hT; exact hks k hk, by rw [hd, hd2]; simp [flats], by rw [sizes_cons]; omega⟩
    intro i e h
    cases hx : t[i]? with
    | none => simp [behind, hx] at h
    | some x =>
      cases h1 : x.oneB with
      | false => simp [behind, hx, h1] at h
      | true =>
        rw [behind_in hx h1] at h
        obtain ⟨ks, hl, hks, hd, he⟩ := more _ _ _ h
        exact ⟨.mk x ks, ⟨Rx.One.of h1, by have := (Rx.One.of h1).many; omega, hks⟩, by rw [drop_cons hx, hd]; simp [Tr.flat], by rw [Tr.size_mk]; omega⟩
/-- A tree has its place behind. -/
theorem tree_behind {t : List Rx} : ∀ {d : Nat} {T : Tr} {i : Nat} {r : List Rx}, T.Ok d → t.drop i = T.flat ++ r → behind t d i = some (i + T.size) := by
  intro d
  induction d with
  | zero =>
    intro T i r h hd
    obtain ⟨x, ks⟩ := T
    obtain ⟨h1, h2, rfl⟩ := h
    simp only [Tr.flat, flats, List.cons_append, List.nil_append] at hd
    have hk : x.kind ≤ 1 := by rcases h1 with ⟨h, _⟩ | ⟨h, _⟩ | ⟨_, _, _, _, h⟩ | ⟨_, _, h, _⟩ <;> omega
    rw [behind_leaf (drop_head hd).1 (Rx.oneB_yes h1) hk]
    simp [Tr.size, Tr.flat, flats]
  | succ d ih =>
    have more : ∀ (ks : List Tr) (i : Nat) (r : List Rx), (∀ k, k ∈ ks → k.Ok d) → t.drop i = flats ks ++ r → again (behind t d) ks.length i = some (i + sizes ks) := by
      intro ks
      induction ks with
      | nil => intro i r _ _; simp [again, sizes, flats]
      | cons k ks ihk =>
        intro i r hk hd
        simp only [flats, List.append_assoc] at hd
        have h1 := ih (hk k (by simp)) hd
        have h2 := ihk (i + k.size) r (fun k' h => hk k' (by simp [h])) (drop_app hd)
        simp only [List.length_cons, again, h1, Option.bind_some, h2, sizes_cons]
        congr 1; omega
    intro T i r h hd
    obtain ⟨x, ks⟩ := T
    simp only [Tr.flat, List.cons_append] at hd
    obtain ⟨hg, hd2⟩ := drop_head hd
    rw [behind_in hg (Rx.oneB_yes h.1), show x.many.toNat = ks.length by have := h.2.1; omega, more ks (i + 1) r h.2.2 hd2, Tr.size_mk]
    congr 1; omega
theorem behind_up {t : List Rx} {d d' i e : Nat} (h : behind t d i = some e) (hd : d ≤ d') : behind t d' i = some e := by
  obtain ⟨T, hT, hdr, rfl⟩ := behind_tree h
  exact tree_behind (hT.up hd) hdr
theorem behind_lt {t : List Rx} {d i e : Nat} (h : behind t d i = some e) : i < e ∧ e ≤ t.length := by
  obtain ⟨T, hT, hdr, rfl⟩ := behind_tree h
  have h1 := T.size_pos
  have h2 := congrArg List.length hdr
  have h3 : T.flat.length = T.size := rfl
  simp only [List.length_drop, List.length_append] at h2
  omega
theorem again_in {t : List Rx} {d m i e : Nat} (h : again (behind t d) m i = some e) (hi : i ≤ t.length) : e ≤ t.length := by
  cases m with
  | zero => simp only [again, Option.some.injEq] at h; omega
  | succ m =>
    rw [again_snoc] at h
    cases hb : again (behind t d) m i with
    | none => rw [hb] at h; simp at h
    | some e1 => rw [hb] at h; exact (behind_lt h).2
/-- Are nodes a pattern? -/
def Pat (t : List Rx) : Prop := t ≠ [] ∧ t.length ≤ 64 ∧ behind t 16 0 = some t.length
noncomputable def patB (t : List Rx) : Bool := yes (Pat t)
theorem patB_yes {t : List Rx} (h : Pat t) : patB t = true := yes_t h
theorem patB_no {t : List Rx} (h : ¬ Pat t) : patB t = false := yes_f h
theorem Pat.of {t : List Rx} (h : patB t = true) : Pat t := of_yes h
end Pv

namespace Pv
open Go Go.RowKit

def marksL : List UInt8 := [46, 91, 93, 40, 41, 42, 43, 63, 123, 125, 124, 92, 45, 94]
def isMark (n : Nat) : Bool := marksL.any fun b => b.toNat == n
end Pv

namespace Pv
open Go Go.RowKit

/-- Values, k to an element, that read as a list. -/
def RelK {α : Type} (k : Nat) (R : (Nat → Value) → α → Prop) (us : List Value) (xs : List α) : Prop :=
  us.length = xs.length * k ∧ ∀ (i : Nat) x, xs[i]? = some x → ∃ f : Nat → Value, (∀ j, j < k → us[i * k + j]? = some (f j)) ∧ R f x
theorem RelK.nil {α : Type} {k : Nat} {R : (Nat → Value) → α → Prop} : RelK k R [] ([] : List α) := ⟨by simp, fun i x h => by simp at h⟩
theorem idx_lt {i n k j : Nat} (hi : i < n) (hj : j < k) : i * k + j < n * k := by
  have h1 : (i + 1) * k ≤ n * k := Nat.mul_le_mul_right k hi
  rw [Nat.add_mul, Nat.one_mul] at h1
  omega
theorem RelK.app {α : Type} {k : Nat} {R : (Nat → Value) → α → Prop} {us vs : List Value} {xs ys : List α} (h : RelK k R us xs) (h' : RelK k R vs ys) : RelK k R (us ++ vs) (xs ++ ys) := by
  refine ⟨by rw [List.length_append, List.length_append, h.1, h'.1, Nat.add_mul], fun i x hx => ?_⟩
  by_cases hi : i < xs.length
  · rw [List.getElem?_append_left hi] at hx
    obtain ⟨f, hf, hr⟩ := h.2 i x hx
    exact ⟨f, fun j hj => by rw [List.getElem?_append_left (by rw [h.1]; exact idx_lt hi hj)]; exact hf j hj, hr⟩
  · rw [List.getElem?_append_right (by omega)] at hx
    obtain ⟨f, hf, hr⟩ := h'.2 _ x hx
    refine ⟨f, fun j hj => ?_, hr⟩
    have e : i * k = xs.length * k + (i - xs.length) * k := by rw [← Nat.add_mul]; congr 1; omega
    rw [List.getElem?_append_right (by rw [h.1, e]; omega), h.1, e, show xs.length * k + (i - xs.length) * k + j - xs.length * k = (i - xs.length) * k + j by omega]
    exact hf j hj
theorem RelK.one {α : Type} {k : Nat} {R : (Nat → Value) → α → Prop} {vs : List Value} {x : α} {f : Nat → Value} (hl : vs.length = k) (hf : ∀ j, j < k → vs[j]? = some (f j)) (hr : R f x) : RelK k R vs [x] := by
  refine ⟨by simp [hl], fun i y hy => ?_⟩
  match i with
  | 0 => simp at hy; subst hy; exact ⟨f, fun j hj => by rw [Nat.zero_mul, Nat.zero_add]; exact hf j hj, hr⟩
  | i + 1 => simp at hy
theorem RelK.mono {α : Type} {k : Nat} {R R' : (Nat → Value) → α → Prop} {us : List Value} {xs : List α} (h : RelK k R us xs) (hr : ∀ f x, x ∈ xs → R f x → R' f x) : RelK k R' us xs :=
  ⟨h.1, fun i x hx => by obtain ⟨f, hf, h1⟩ := h.2 i x hx; exact ⟨f, hf, hr f x (mem_of_get hx) h1⟩⟩

/-- v is a slice of the call's own (element type e, k cells each) that reads as xs. -/
def OwnK {α : Type} (w : World) (base : Nat) (e : TypeId) (k : Nat) (R : (Nat → Value) → α → Prop) (v : Value) (xs : List α) : Prop :=
  ∃ A c us, v = .slice A xs.length c ∧ w.ownsRow base e k (.slice A xs.length c) xs.length us ∧ RelK k R us xs

theorem AtK.of_own {α : Type} {w : World} {base e n c k : Nat} {A : Option Addr} {us : List Value} {R : (Nat → Value) → α → Prop} {xs : List α} 
    (h : w.ownsRow base e k (.slice A n c) n us) (hr : RelK k R us xs) (hn : n = xs.length) (hl : xs.length ≤ 140737488355328) : n ≤ c ∧ AtK w k A R xs := by
  subst hn
  rcases h.2 with ⟨hv, h0⟩ | ⟨g, cap, cur, hv, hg, hh, hnc, hcm, hcs, htk⟩
  · injection hv with e1 e2 e3
    subst e3
    exact ⟨by omega, hl, fun hp => absurd hp (by omega)⟩
  · injection hv with e1 e2 e3
    subst e1; subst e3
    refine ⟨hnc, hl, fun hp => ⟨g, 0, rfl, ?_, fun i x hx => ?_⟩⟩
    · rcases Nat.lt_or_ge g w.heap.size with hlt | hge
      · exact hlt
      · rw [Array.getElem?_eq_none hge] at hh; cases hh
    · obtain ⟨f, hf, hR⟩ := hr.2 i x hx
      refine ⟨f, fun j hj => ?_, hR⟩
      have hcur : cur[i * k + j]? = some (f j) := by
        have h1 := hf j hj
        rw [← htk, List.getElem?_take] at h1
        split at h1
        · simpa using h1
        · cases h1
      simp [World.cell?, hh, hcur]

section
variable {α : Type} {w w' : World} {base : Nat} {e : TypeId} {k : Nat} {R R' : (Nat → Value) → α → Prop} {v : Value} {xs : List α}
theorem OwnK.nil : OwnK w base e k R (.slice none 0 0) ([] : List α) := ⟨none, 0, [], rfl, World.ownsRow_nil _ _ _ _, RelK.nil⟩
theorem OwnK.monoR (h : OwnK w base e k R v xs) (hr : ∀ f x, x ∈ xs → R f x → R' f x) : OwnK w base e k R' v xs := by
  obtain ⟨A, c, us, rfl, h, k⟩ := h; exact ⟨A, c, us, rfl, h, k.mono hr⟩
theorem OwnK.alloc (h : OwnK w base e k R v xs) (o : Obj) : OwnK (w.alloc o) base e k R v xs := by
  obtain ⟨A, c, us, rfl, h, k⟩ := h; exact ⟨A, c, us, rfl, h.alloc o, k⟩
theorem OwnK.drew (h : OwnK w base e k R v xs) : OwnK w.drew base e k R v xs := h
theorem OwnK.setFar (h : OwnK w base e k R v xs) {g : Nat} {t : TypeId} {cs : Array Value} (hb : Blk w g t cs) (hne : e ≠ t) (i : Nat) (u : Value) : OwnK (w.setCell ⟨g, i, none⟩ u) base e k R v xs := by
  obtain ⟨A, c, us, rfl, h, k⟩ := h; exact ⟨A, c, us, rfl, ownsRow_setFar h hb hne i u, k⟩
theorem OwnK.grown (h : OwnK w base e k R v xs) {b' : Nat} {e' : TypeId} {s' n' : Nat} {v' : Value} {us' : List Value} (h' : w.ownsRow b' e' s' v' n' us') (hne : e ≠ e') (hg : w.grownBy w' v'.ownBlock) : OwnK w' base e k R v xs := by
  obtain ⟨A, c, us, rfl, h, k⟩ := h; exact ⟨A, c, us, rfl, h.kept hg (own_ne h h' hne), k⟩
theorem OwnK.sl (h : OwnK w base e k R v xs) (hl : xs.length ≤ 140737488355328) : SlK w k R v xs := by
  obtain ⟨A, c, us, rfl, h, k⟩ := h
  obtain ⟨h2, h3⟩ := AtK.of_own h k rfl hl
  exact ⟨A, c, rfl, h3, h2⟩
theorem ownsRow_below {b e s n : Nat} {v : Value} {us : List Value} (h : w.ownsRow b e s v n us) (hb : Below w.heap.size w w') : w'.ownsRow b e s v n us := by
  refine ⟨h.1, ?_⟩
  rcases h.2 with h2 | ⟨g, cap, cur, hv, hg, hh, r⟩
  · exact .inl h2
  · refine .inr ⟨g, cap, cur, hv, hg, ?_, r⟩
    have : g < w.heap.size := by
      rcases Nat.lt_or_ge g w.heap.size with hlt | hge
      · exact hlt
      · rw [Array.getElem?_eq_none hge] at hh; cases hh
    exact (hb.block g this).trans hh
theorem OwnK.below (h : OwnK w base e k R v xs) (hb : Below w.heap.size w w') : OwnK w' base e k R v xs := by
  obtain ⟨A, c, us, rfl, h, k⟩ := h; exact ⟨A, c, us, rfl, ownsRow_below h hb, k⟩
theorem OwnK.lower {b' : Nat} (h : OwnK w base e k R v xs) (hb : b' ≤ base) : OwnK w b' e k R v xs := by
  obtain ⟨A, c, us, rfl, ⟨h0, h⟩, k⟩ := h
  refine ⟨A, c, us, rfl, ⟨h0, ?_⟩, k⟩
  rcases h with h2 | ⟨g, cap, cur, hv, hg, r⟩
  · exact .inl h2
  · exact .inr ⟨g, cap, cur, hv, Nat.le_trans hb hg, r⟩
theorem OwnK.one (h : OwnK w base e k R v xs) : v.oneCell' = true := by obtain ⟨A, c, us, rfl, _⟩ := h; rfl
end

/-- A list in memory as a source of an append. -/
theorem AtK.src {α : Type} {w : World} {A : Option Addr} {k : Nat} {R : (Nat → Value) → α → Prop} {xs : List α} (h : AtK w k A R xs) (h1 : ∀ f x, R f x → ∀ j, j < k → (f j).oneCell' = true) :
    ∃ us, RelK k R us xs ∧ Pv.Src w A k xs.length us := by
  rcases Nat.eq_zero_or_pos xs.length with h0 | h0
  · have : xs = [] := List.eq_nil_of_length_eq_zero h0
    subst this
    exact ⟨[], RelK.nil, by simp, by simp, fun hm => absurd hm (by simp)⟩
  · obtain ⟨b, off, e, hb, hc⟩ := h.2 h0
    obtain ⟨fs, hl, hfs⟩ := list_of_ex (fun i (f : Nat → Value) x => (∀ j, j < k → w.cell? ⟨b, off + i * k + j, none⟩ = some (f j)) ∧ R f x) xs hc
    have hget : ∀ i, i < xs.length → ∃ f x, fs[i]? = some f ∧ xs[i]? = some x ∧ (∀ j, j < k → w.cell? ⟨b, off + i * k + j, none⟩ = some (f j)) ∧ R f x := fun i hi => by
      have e1 : fs[i]? = some (fs[i]'(by omega)) := List.getElem?_eq_getElem (by omega)
      have e2 : xs[i]? = some (xs[i]'(by omega)) := List.getElem?_eq_getElem (by omega)
      obtain ⟨h2, h3⟩ := hfs i _ _ e1 e2
      exact ⟨_, _, e1, e2, h2, h3⟩
    refine ⟨fs.flatMap (fun f => (List.range k).map f), ?_, ?_, ?_, ?_⟩
    · have key : ∀ (fs : List (Nat → Value)) (xs : List α), fs.length = xs.length → (∀ i, i < xs.length → ∃ f x, fs[i]? = some f ∧ xs[i]? = some x ∧ R f x) → RelK k R (fs.flatMap (fun f => (List.range k).map f)) xs := by
        intro fs
        induction fs with
        | nil => intro xs hl _; obtain rfl : xs = [] := List.eq_nil_of_length_eq_zero (by simpa using hl.symm); exact RelK.nil
        | cons f fs ih =>
          intro xs hl hx
          match xs, hl, hx with
          | x :: xs, hl, hx =>
            obtain ⟨f', x', h1, h2, h3⟩ := hx 0 (by simp)
            simp at h1 h2; subst h1; subst h2
            have t1 : RelK k R ((List.range k).map f) [x] := RelK.one (f := f) (by simp) (fun j hj => by simp [hj]) h3
            exact t1.app (ih xs (by simpa using hl) fun i hi => by
              have := hx (i + 1) (by simpa using hi)
              simpa using this)
      exact key fs xs hl fun i hi => by obtain ⟨f, x, a, b, _, d⟩ := hget i hi; exact ⟨f, x, a, b, d⟩
    · have : ∀ fs : List (Nat → Value), (fs.flatMap (fun f => (List.range k).map f)).length = fs.length * k := by
        intro fs; induction fs with
        | nil => simp
        | cons f fs ih => simp only [List.flatMap_cons, List.length_append, List.length_map, List.length_range, ih, List.length_cons, Nat.add_mul]; omega
      rw [this, hl]
    · intro u hu
      obtain ⟨f, hf, hu⟩ := List.mem_flatMap.1 hu
      obtain ⟨i, hi⟩ := List.getElem?_of_mem hf
      obtain ⟨j, hj, rfl⟩ := List.mem_map.1 hu
      obtain ⟨f', x, a, b, _, d⟩ := hget i (by have := lt_of_get hi; omega)
      rw [hi] at a; injection a with a; subst a
      exact h1 f x d j (by simpa using hj)
    · intro _
      refine ⟨b, off, e, hb, fun q u hu => ?_⟩
      have key : ∀ (fs : List (Nat → Value)) (q : Nat) (u : Value), (fs.flatMap (fun f => (List.range k).map f))[q]? = some u → ∃ i j f, q = i * k + j ∧ j < k ∧ fs[i]? = some f ∧ f j = u := by
        intro fs
        induction fs with
        | nil => intro q u h; simp at h
        | cons f fs ih =>
          intro q u h
          simp only [List.flatMap_cons] at h
          by_cases hq : q < k
          · rw [List.getElem?_append_left (by simpa using hq)] at h
            exact ⟨0, q, f, by omega, hq, rfl, by simpa [hq] using h⟩
          · rw [List.getElem?_append_right (by simp; omega)] at h
            simp only [List.length_map, List.length_range] at h
            obtain ⟨i, j, f', e, hj, hf, hu⟩ := ih _ _ h
            exact ⟨i + 1, j, f', by rw [Nat.add_mul]; omega, hj, by simpa using hf, hu⟩
      obtain ⟨i, j, f, rfl, hj, hf, rfl⟩ := key fs q u hu
      obtain ⟨f', x, a, _, c, _⟩ := hget i (by have := lt_of_get hf; omega)
      rw [hf] at a; injection a with a; subst a
      rw [← Nat.add_assoc]; exact c j hj
end Pv

namespace Pv
open Go Go.RowKit
/-- All blocks but one are as they were. -/
structure Only (b : Nat) (w w' : World) : Prop where
  os : w'.os = w.os
  tape : w'.tape = w.tape
  output : w'.output = w.output
  size : w.heap.size ≤ w'.heap.size
  block : ∀ k, k < w.heap.size → k ≠ b → w'.heap[k]? = w.heap[k]?
section
variable {w w' : World} {b : Nat}
theorem Only.refl (b : Nat) (w : World) : Only b w w := ⟨rfl, rfl, rfl, Nat.le_refl _, fun _ _ _ => rfl⟩
theorem Only.set (h : Only b w w') (i : Nat) (v : Value) : Only b w (w'.setCell ⟨b, i, none⟩ v) :=
  ⟨h.os, h.tape, h.output, by simpa using h.size, fun k hk hb => (Below.heap_setCell w' ⟨b, i, none⟩ v k hb).trans (h.block k hk hb)⟩
theorem Only.below {B : Nat} (h : Only b w w') (hB : B ≤ b) (hs : B ≤ w.heap.size) : Below B w w' := ⟨h.os, h.tape, h.output, h.size, fun k hk => h.block k (by omega) (by omega)⟩
theorem Only.blk {g : Nat} {t : TypeId} {cs : Array Value} (h : Only b w w') (hb : Blk w g t cs) (hne : g ≠ b) : Blk w' g t cs := (h.block g hb.lt hne).trans hb
end
end Pv

namespace Go.Proofs.YtilhicefhhgecaaGreatDoor
open Go.RowKit Pv

theorem own_get1 {w : World} {b e n k c : Nat} {A : Option Addr} {us : List Value} {u : Value} (h : w.ownsRow b e 1 (.slice A n c) n us) (hk : us[k]? = some u) : ∃ g, A = some ⟨g, 0, none⟩ ∧ g < w.heap.size ∧ w.cell? ⟨g, k, none⟩ = some u := by
  rcases h.2 with ⟨hv, h0⟩ | ⟨g, cap, cur, hv, hg, hh, hnc, hcm, hcs, htk⟩
  · have := h.1; have := lt_of_get hk; omega
  · injection hv with e1 e2 e3
    subst e1
    have hb : Blk w g e cur := hh
    refine ⟨g, rfl, hb.lt, ?_⟩
    rw [hb.cell k]
    rw [← htk, List.getElem?_take] at hk
    split at hk
    · simpa using hk
    · cases hk
end Go.Proofs.YtilhicefhhgecaaGreatDoor

namespace Pv
open Go Go.RowKit

/-- Has a set a number? -/
def InSet (l : List Rng) (p : Int) : Prop := ∃ (i : Nat) (x : Rng), l[i]? = some x ∧ x.lo ≤ p ∧ p ≤ x.hi

section
variable (pts : List Int)
end

end Pv
