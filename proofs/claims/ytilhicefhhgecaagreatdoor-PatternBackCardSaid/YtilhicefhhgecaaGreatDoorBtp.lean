/- From an argument's reading as data to lists in memory. No program stands here. -/
import Derived.Deep.Slices
import Derived.Lib.SmallJoins
import Derived.SizedLaws
import Derived.OpenShut
import Derived.Test.YtilhicefhhgecaaGreatDoorYe0p
import Derived.Test.YtilhicefhhgecaaGreatDoorMemp
namespace Pv
open Go Go.RowKit Go.Deep Go.ChangeShapes Go.WideShapes Go.Joins

section
variable {H : Type} {enc : TypeId × Value → H} {P : Program} {w : World} {base : Nat} {spare : Nat → Bool} {held : Bool}

/-- No list in it takes more than the reach. -/
def Lite (P : Program) (t : TypeId) (d : DataW H) : Prop := ∀ n ∈ d.weights P t, n ≤ reachBytes

theorem weightsAll_mem {e : TypeId} : ∀ {l : List (DataW H)} {d : DataW H} {n : Nat}, d ∈ l → n ∈ d.weights P e → n ∈ DataW.weightsAll P e l
  | x :: r, d, n, hd, hn => by
    simp only [DataW.weightsAll, List.mem_append]
    rcases List.mem_cons.1 hd with rfl | hd
    · exact .inl hn
    · exact .inr (weightsAll_mem hd hn)

theorem add_plain' (b off i : Nat) : (⟨b, off, none⟩ : Addr).add i = ⟨b, off + i, none⟩ := by unfold Addr.add; by_cases hi : i = 0 <;> simp [hi]

theorem read_slice {α : Type} {R : Value → α → Prop} {t e : TypeId} {fuel : Nat} {v : Value} {x : DataW H × List MemPlace} (ht : P.underlying t = some (.slice e)) (hc : P.cellsOf e = 1) (hb : 1 ≤ P.bytesOf e)
    (h : DataW.trod enc P w base spare held fuel t [v] = some x) (hw : Lite P t x.1)
    (hel : ∀ (fuel : Nat) (u : Value) (y : DataW H × List MemPlace), DataW.trod enc P w base spare held fuel e [u] = some y → Lite P e y.1 → ∃ z, R u z) : ∃ xs : List α, Sl w R v xs := by
  rcases open_slice1 ht hc h with ⟨hcs, _⟩ | ⟨a, len, cap, m, n, V, D, Pl, hcs, _, hl, hm, hmm, rfl, hi⟩
  · injection hcs with hcs
    subst hcs
    exact ⟨[], none, 0, rfl, At.nil, by simp⟩
  · injection hcs with hcs
    subst hcs
    have hle : len ≤ m := by rw [hmm]; split <;> omega
    have hlen : len ≤ 140737488355328 := by
      have h1 := hw ((((List.range len).map D).length + ((List.range (m - len)).map fun j => D (len + j)).length) * P.bytesOf e) (by simp [DataW.weights, ht])
      simp only [List.length_map, List.length_range, reachBytes] at h1
      have h2 : len * 1 ≤ (len + (m - len)) * P.bytesOf e := Nat.mul_le_mul (by omega) hb
      omega
    have hex : ∀ (i j : Nat), (List.range len)[i]? = some j → ∃ z, R (V i) z := fun i j hj => by
      have hil : i < len := by have := lt_of_get hj; simpa using this
      obtain ⟨_, h2⟩ := hi i (by omega)
      refine hel _ _ _ h2 fun k hk => hw k ?_
      simp only [DataW.weights, ht, List.mem_cons, List.mem_append]
      exact .inr (.inl (weightsAll_mem (List.mem_map.2 ⟨i, by simpa using hil, rfl⟩) hk))
    obtain ⟨xs, hxl, hxs⟩ := list_of_ex (fun i z (_ : Nat) => R (V i) z) (List.range len) hex
    have hxl' : xs.length = len := by simpa using hxl
    refine ⟨xs, some a, cap, by rw [hxl'], ⟨by omega, fun hp => ?_⟩, by omega⟩
    have h0 := (hi 0 (by omega)).1
    obtain ⟨b, off, spot⟩ := a
    have hs : spot = none := by simpa [Addr.add] using World.cell?_spot h0
    subst hs
    refine ⟨b, off, rfl, by simpa [Addr.add] using World.block_lt_of_cell? _ _ h0, fun i z hz => ?_⟩
    have hil : i < len := by have := lt_of_get hz; omega
    refine ⟨V i, ?_, hxs i z i hz (by simp [hil])⟩
    have := (hi i (by omega)).1
    rwa [add_plain'] at this

theorem read_slice_K {α : Type} {R : (Nat → Value) → α → Prop} {t e k : Nat} {fuel : Nat} {v : Value} {x : DataW H × List MemPlace} (ht : P.underlying t = some (.slice e)) (hc : P.cellsOf e = k) (hk : 0 < k) (hb : 1 ≤ P.bytesOf e)
    (h : DataW.trod enc P w base spare held fuel t [v] = some x) (hw : Lite P t x.1)
    (hel : ∀ (fuel : Nat) (cs : List Value) (y : DataW H × List MemPlace), cs.length = k → DataW.trod enc P w base spare held fuel e cs = some y → Lite P e y.1 → ∃ z, R (fun j => cs.getD j undef) z) : ∃ xs : List α, SlK w k R v xs := by
  rcases open_slice ht h with ⟨hcs, _⟩ | ⟨a, len, cap, m, n, D, Pl, hcs, _, hl, hm, hmm, rfl, hi⟩
  · injection hcs with hcs
    subst hcs
    exact ⟨[], none, 0, rfl, AtK.nil, by simp⟩
  · injection hcs with hcs
    subst hcs
    have hle : len ≤ m := by rw [hmm]; split <;> omega
    have hlen : len ≤ 140737488355328 := by
      have h1 := hw ((((List.range len).map D).length + ((List.range (m - len)).map fun j => D (len + j)).length) * P.bytesOf e) (by simp [DataW.weights, ht])
      simp only [List.length_map, List.length_range, reachBytes] at h1
      have h2 : len * 1 ≤ (len + (m - len)) * P.bytesOf e := Nat.mul_le_mul (by omega) hb
      omega
    have hex : ∀ (i j : Nat), (List.range len)[i]? = some j → ∃ z : List Value × α, (∀ q, q < k → w.cell? (a.add (i * k + q)) = some (z.1.getD q undef)) ∧ R (fun j => z.1.getD j undef) z.2 := fun i j hj => by
      have hil : i < len := by have := lt_of_get hj; simpa using this
      obtain ⟨cs, h1, h2⟩ := hi i (by omega)
      rw [hc] at h1
      obtain ⟨_, hcl, hat⟩ := World.cells?_some h1
      obtain ⟨z, hz⟩ := hel _ _ _ hcl h2 fun k hk => hw k (by
        simp only [DataW.weights, ht, List.mem_cons, List.mem_append]
        exact .inr (.inl (weightsAll_mem (List.mem_map.2 ⟨i, by simpa using hil, rfl⟩) hk)))
      refine ⟨(cs, z), fun q hq => ?_, hz⟩
      have h3 := hat q hq
      rw [add_add] at h3
      have h4 : cs[q]? = some (cs[q]'(by omega)) := List.getElem?_eq_getElem (by omega)
      rw [h3, h4, getD_of h4]
    obtain ⟨zs, hzl, hzs⟩ := list_of_ex (fun i (z : List Value × α) (_ : Nat) => (∀ q, q < k → w.cell? (a.add (i * k + q)) = some (z.1.getD q undef)) ∧ R (fun j => z.1.getD j undef) z.2) (List.range len) hex
    have hzl' : zs.length = len := by simpa using hzl
    refine ⟨zs.map (·.2), some a, cap, by simp [hzl'], ⟨by simp; omega, fun hp => ?_⟩, by simp; omega⟩
    have hp' : 0 < len := by simpa [hzl'] using hp
    have hz0 : zs[0]? = some (zs[0]'(by omega)) := List.getElem?_eq_getElem (by omega)
    have h0 := (hzs 0 _ 0 hz0 (by simp [hp'])).1 0 hk
    obtain ⟨b, off, spot⟩ := a
    have hs : spot = none := by simpa [Addr.add] using World.cell?_spot h0
    subst hs
    refine ⟨b, off, rfl, by simpa [Addr.add] using World.block_lt_of_cell? _ _ h0, fun i z hz => ?_⟩
    have hil : i < len := by have := lt_of_get hz; simpa [hzl'] using this
    have hzi : zs[i]? = some (zs[i]'(by omega)) := List.getElem?_eq_getElem (by omega)
    obtain ⟨h1, h2⟩ := hzs i _ i hzi (by simp [hil])
    have e2 : (zs[i]'(by omega)).2 = z := by simpa [List.getElem?_map, hzi] using hz
    refine ⟨fun q => (zs[i]'(by omega)).1.getD q undef, fun q hq => ?_, by rw [← e2]; exact h2⟩
    have := h1 q hq
    rwa [add_plain', ← Nat.add_assoc] at this

theorem read_int {t : TypeId} {fuel : Nat} {u : Value} {y : DataW H × List MemPlace} (ht : P.underlying t = some (.int .i64)) (h : DataW.trod enc P w base spare held fuel t [u] = some y) : ∃ n, RI u n := by
  obtain ⟨n, hcs, _, hwf⟩ := DataW.trod_int ht h
  injection hcs with hcs
  exact ⟨n, hcs, bounds_i64 hwf⟩
/-- What an argument's own weights are, out of the arguments' together. -/
theorem lite_arg {ts : List TypeId} {ds : List (DataW H)} {j : Nat} {t : TypeId} {d : DataW H} (h : (DataW.weightsEach P ts ds).all (· ≤ reachBytes) = true) (ht : ts[j]? = some t) (hd : ds[j]? = some d) : Lite P t d := fun n hn => by
  have := List.all_eq_true.1 h n (DataW.weights_mem_each ht hd n hn)
  simpa using this
theorem lite_part {t : TypeId} {fs : Array Field} {parts : List (DataW H)} {j : Nat} {f : Field} {d : DataW H} (ht : P.underlying t = some (.struct fs)) (h : Lite P t (.agg parts)) (hf : fs.toList[j]? = some f) (hd : parts[j]? = some d) : Lite P f.type d := fun n hn =>
  h n (by
    simp only [DataW.weights, ht]
    exact DataW.weights_mem_each (j := j) (by simp [List.getElem?_map, hf]) hd n hn)

end
end Pv

namespace Pv
open Go Go.RowKit Go.Deep Go.ChangeShapes Go.WideShapes Go.Joins

section
variable {H : Type} {enc : TypeId × Value → H} {P : Program} {w : World} {base : Nat} {spare : Nat → Bool} {held : Bool}

/-- A field of one cell. -/
theorem trod_one {t : TypeId} {fs : Array Field} {fuel i : Nat} {cs : List Value} {x : DataW H × List MemPlace} {f : Field} (ht : P.underlying t = some (.struct fs)) (h : DataW.trod enc P w base spare held fuel t cs = some x) (hf : fs[i]? = some f) (ho : f.offset = i) (hc : P.cellsOf f.type = 1) (hl : i < cs.length) :
    ∃ n y, DataW.trod enc P w base spare held n f.type [cs.getD i undef] = some y ∧ (Lite P t x.1 → Lite P f.type y.1) := by
  obtain ⟨xs, n, _, rfl, _, hlen, hall⟩ := DataW.trod_struct ht h
  have h1 := hall i f hf
  have hi : i < xs.length := by
    rw [hlen]
    rcases Nat.lt_or_ge i fs.size with h2 | h2
    · exact h2
    · rw [Array.getElem?_eq_none h2] at hf; cases hf
  have hx : xs[i]? = some (xs[i]) := List.getElem?_eq_getElem hi
  have e : (cs.drop f.offset).take (P.cellsOf f.type) = [cs.getD i undef] := by
    rw [ho, hc, List.drop_eq_getElem_cons hl, List.take_succ_cons, List.take_zero]
    simp [List.getD, List.getElem?_eq_getElem hl]
  rw [e, hx] at h1
  refine ⟨n, xs[i], h1, fun hL => lite_part (j := i) ht hL (by rw [Array.getElem?_toList]; exact hf) ?_⟩
  rw [List.getElem?_map, hx]; rfl
theorem read_u8 {t : TypeId} {fuel : Nat} {u : Value} {y : DataW H × List MemPlace} (ht : P.underlying t = some (.int .u8)) (h : DataW.trod enc P w base spare held fuel t [u] = some y) : ∃ n, RU u n := by
  obtain ⟨n, hcs, _, hwf⟩ := DataW.trod_int ht h
  injection hcs with hcs
  exact ⟨n, hcs, bounds_u8 hwf⟩
theorem read_rng {t int : TypeId} {f0 f1 : Field} {fuel : Nat} {cs : List Value} {y : DataW H × List MemPlace} (ht : P.underlying t = some (.struct #[f0, f1])) (o0 : f0.offset = 0) (o1 : f1.offset = 1) (e0 : f0.type = int) (e1 : f1.type = int)
    (hi : P.underlying int = some (.int .i64)) (ci : P.cellsOf int = 1) (hl : cs.length = 2) (h : DataW.trod enc P w base spare held fuel t cs = some y) : ∃ z : Rng, RRng (fun j => cs.getD j undef) z := by
  obtain ⟨_, _, h0, _⟩ := trod_one (i := 0) (f := f0) ht h rfl o0 (by rw [e0]; exact ci) (by omega)
  obtain ⟨_, _, h1, _⟩ := trod_one (i := 1) (f := f1) ht h rfl o1 (by rw [e1]; exact ci) (by omega)
  rw [e0] at h0; rw [e1] at h1
  obtain ⟨a, ha⟩ := read_int hi h0
  obtain ⟨b, hb⟩ := read_int hi h1
  exact ⟨⟨a, b⟩, ha, hb⟩
/-- Nodes as an argument. kind, set, rng, int: the types of their fields. -/
theorem read_rx {t e kind set rng int : TypeId} {f0 f1 f2 f3 f4 g0 g1 : Field} {fuel : Nat} {v : Value} {x : DataW H × List MemPlace} (ht : P.underlying t = some (.slice e)) (he : P.underlying e = some (.struct #[f0, f1, f2, f3, f4])) (hr : P.underlying rng = some (.struct #[g0, g1]))
    (o0 : f0.offset = 0) (o1 : f1.offset = 1) (o2 : f2.offset = 2) (o3 : f3.offset = 3) (o4 : f4.offset = 4) (e0 : f0.type = kind) (e1 : f1.type = set) (e2 : f2.type = int) (e3 : f3.type = int) (e4 : f4.type = int)
    (p0 : g0.offset = 0) (p1 : g1.offset = 1) (d0 : g0.type = int) (d1 : g1.type = int)
    (hk : P.underlying kind = some (.int .u8)) (hs : P.underlying set = some (.slice rng)) (hi : P.underlying int = some (.int .i64))
    (ce : P.cellsOf e = 5) (cr : P.cellsOf rng = 2) (ck : P.cellsOf kind = 1) (cs' : P.cellsOf set = 1) (ci : P.cellsOf int = 1) (be : 1 ≤ P.bytesOf e) (br : 1 ≤ P.bytesOf rng)
    (h : DataW.trod enc P w base spare held fuel t [v] = some x) (hw : Lite P t x.1) : ∃ xs : List Rx, SlK w 5 (RRx w) v xs :=
  read_slice_K ht ce (by omega) be h hw fun fuel cs y hl hy hL => by
    obtain ⟨_, _, h0, _⟩ := trod_one (i := 0) (f := f0) he hy rfl o0 (by rw [e0]; exact ck) (by omega)
    obtain ⟨_, _, h1, L1⟩ := trod_one (i := 1) (f := f1) he hy rfl o1 (by rw [e1]; exact cs') (by omega)
    obtain ⟨_, _, h2, _⟩ := trod_one (i := 2) (f := f2) he hy rfl o2 (by rw [e2]; exact ci) (by omega)
    obtain ⟨_, _, h3, _⟩ := trod_one (i := 3) (f := f3) he hy rfl o3 (by rw [e3]; exact ci) (by omega)
    obtain ⟨_, _, h4, _⟩ := trod_one (i := 4) (f := f4) he hy rfl o4 (by rw [e4]; exact ci) (by omega)
    rw [e0] at h0; rw [e1] at h1 L1; rw [e2] at h2; rw [e3] at h3; rw [e4] at h4
    obtain ⟨k, hk'⟩ := read_u8 hk h0
    obtain ⟨l, hl'⟩ := read_slice_K hs cr (by omega) br h1 (L1 hL) fun fuel cs y hl hy _ => read_rng hr p0 p1 d0 d1 hi ci hl hy
    obtain ⟨a, ha⟩ := read_int hi h2
    obtain ⟨b, hb⟩ := read_int hi h3
    obtain ⟨c, hc⟩ := read_int hi h4
    exact ⟨⟨k, l, a, b, c⟩, hk', hl', ha, hb, hc⟩
end
end Pv
