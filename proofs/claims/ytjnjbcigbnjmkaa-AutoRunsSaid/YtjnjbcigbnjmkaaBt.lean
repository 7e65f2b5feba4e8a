/- From an argument's reading as data to nodes of a pattern in memory. No program stands here. -/
import Derived.Test.YtjnjbcigbnjmkaaRead
import Derived.Test.YtjnjbcigbnjmkaaRx
namespace Pv
open Go Go.RowKit Go.Deep Go.ChangeShapes Go.WideShapes Go.Joins

section
variable {H : Type} {enc : TypeId × Value → H} {P : Program} {w : World} {base : Nat} {spare : Nat → Bool} {held : Bool}

/-- A field of one cell. -/
theorem trod_one {t : TypeId} {fs : Array Field} {fuel i : Nat} {cs : List Value} {x : DataW H × List MemPlace} {f : Field} (ht : P.underlying t = some (.struct fs)) (h : DataW.trod enc P w base spare held fuel t cs = some x) (hf : fs[i]? = some f) (ho : f.offset = i) (hc : P.cellsOf f.type = 1) (hl : i < cs.length) :
    ∃ n y, DataW.trod enc P w base spare held n f.type [cs.getD i undef] = some y ∧ (Lite P t x.1 → Lite P f.type y.1) := by
  obtain ⟨xs, n, _, rfl, _, hlen, hall⟩ := DataW.trod_struct ht h
  have h1 := hall i f hf
  have hi : i < xs.length := by
    rw [hlen]
    rcases Nat.lt_or_ge i fs.size with h2 | h2
    · exact h2
    · rw [Array.getElem?_eq_none h2] at hf; cases hf
  have hx : xs[i]? = some (xs[i]) := List.getElem?_eq_getElem hi
  have e : (cs.drop f.offset).take (P.cellsOf f.type) = [cs.getD i undef] := by
    rw [ho, hc, List.drop_eq_getElem_cons hl, List.take_succ_cons, List.take_zero]
    simp [List.getD, List.getElem?_eq_getElem hl]
  rw [e, hx] at h1
  refine ⟨n, xs[i], h1, fun hL => lite_part (j := i) ht hL (by rw [Array.getElem?_toList]; exact hf) ?_⟩
  rw [List.getElem?_map, hx]; rfl
theorem read_u8 {t : TypeId} {fuel : Nat} {u : Value} {y : DataW H × List MemPlace} (ht : P.underlying t = some (.int .u8)) (h : DataW.trod enc P w base spare held fuel t [u] = some y) : ∃ n, RU u n := by
  obtain ⟨n, hcs, _, hwf⟩ := DataW.trod_int ht h
  injection hcs with hcs
  exact ⟨n, hcs, bounds_u8 hwf⟩
theorem read_rng {t int : TypeId} {f0 f1 : Field} {fuel : Nat} {cs : List Value} {y : DataW H × List MemPlace} (ht : P.underlying t = some (.struct #[f0, f1])) (o0 : f0.offset = 0) (o1 : f1.offset = 1) (e0 : f0.type = int) (e1 : f1.type = int)
    (hi : P.underlying int = some (.int .i64)) (ci : P.cellsOf int = 1) (hl : cs.length = 2) (h : DataW.trod enc P w base spare held fuel t cs = some y) : ∃ z : Rng, RRng (fun j => cs.getD j undef) z := by
  obtain ⟨_, _, h0, _⟩ := trod_one (i := 0) (f := f0) ht h rfl o0 (by rw [e0]; exact ci) (by omega)
  obtain ⟨_, _, h1, _⟩ := trod_one (i := 1) (f := f1) ht h rfl o1 (by rw [e1]; exact ci) (by omega)
  rw [e0] at h0; rw [e1] at h1
  obtain ⟨a, ha⟩ := read_int hi h0
  obtain ⟨b, hb⟩ := read_int hi h1
  exact ⟨⟨a, b⟩, ha, hb⟩
/-- Nodes as an argument. kind, set, rng, int: the types of their fields. -/
theorem read_rx {t e kind set rng int : TypeId} {f0 f1 f2 f3 f4 g0 g1 : Field} {fuel : Nat} {v : Value} {x : DataW H × List MemPlace} (ht : P.underlying t = some (.slice e)) (he : P.underlying e = some (.struct #[f0, f1, f2, f3, f4])) (hr : P.underlying rng = some (.struct #[g0, g1]))
    (o0 : f0.offset = 0) (o1 : f1.offset = 1) (o2 : f2.offset = 2) (o3 : f3.offset = 3) (o4 : f4.offset = 4) (e0 : f0.type = kind) (e1 : f1.type = set) (e2 : f2.type = int) (e3 : f3.type = int) (e4 : f4.type = int)
    (p0 : g0.offset = 0) (p1 : g1.offset = 1) (d0 : g0.type = int) (d1 : g1.type = int)
    (hk : P.underlying kind = some (.int .u8)) (hs : P.underlying set = some (.slice rng)) (hi : P.underlying int = some (.int .i64))
    (ce : P.cellsOf e = 5) (cr : P.cellsOf rng = 2) (ck : P.cellsOf kind = 1) (cs' : P.cellsOf set = 1) (ci : P.cellsOf int = 1) (be : 1 ≤ P.bytesOf e) (br : 1 ≤ P.bytesOf rng)
    (h : DataW.trod enc P w base spare held fuel t [v] = some x) (hw : Lite P t x.1) : ∃ xs : List Rx, SlK w 5 (RRx w) v xs :=
  read_slice_K ht ce (by omega) be h hw fun fuel cs y hl hy hL => by
    obtain ⟨_, _, h0, _⟩ := trod_one (i := 0) (f := f0) he hy rfl o0 (by rw [e0]; exact ck) (by omega)
    obtain ⟨_, _, h1, L1⟩ := trod_one (i := 1) (f := f1) he hy rfl o1 (by rw [e1]; exact cs') (by omega)
    obtain ⟨_, _, h2, _⟩ := trod_one (i := 2) (f := f2) he hy rfl o2 (by rw [e2]; exact ci) (by omega)
    obtain ⟨_, _, h3, _⟩ := trod_one (i := 3) (f := f3) he hy rfl o3 (by rw [e3]; exact ci) (by omega)
    obtain ⟨_, _, h4, _⟩ := trod_one (i := 4) (f := f4) he hy rfl o4 (by rw [e4]; exact ci) (by omega)
    rw [e0] at h0; rw [e1] at h1 L1; rw [e2] at h2; rw [e3] at h3; rw [e4] at h4
    obtain ⟨k, hk'⟩ := read_u8 hk h0
    obtain ⟨l, hl'⟩ := read_slice_K hs cr (by omega) br h1 (L1 hL) fun fuel cs y hl hy _ => read_rng hr p0 p1 d0 d1 hi ci hl hy
    obtain ⟨a, ha⟩ := read_int hi h2
    obtain ⟨b, hb⟩ := read_int hi h3
    obtain ⟨c, hc⟩ := read_int hi h4
    exact ⟨⟨k, l, a, b, c⟩, hk', hl', ha, hb, hc⟩
end
end Pv
