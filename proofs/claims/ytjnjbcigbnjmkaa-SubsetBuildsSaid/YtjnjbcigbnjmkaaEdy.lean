/- Automata read: rows of edges, with sets; names of types. -/
import Derived.Test.YtjnjbcigbnjmkaaTay
import Derived.Test.YtjnjbcigbnjmkaaW0y
namespace Go.Proofs.Ytjnjbcigbnjmkaa
open Go.RowKit Pv

abbrev TRow : TypeId := 56
abbrev TEdge : TypeId := 59
abbrev TRng : TypeId := 61
abbrev TAuto : TypeId := 50
theorem info_row : (Try.prog.info? TRow).map (fun i => (i.zero, i.size, i.bytes)) = some (some (.slice none 0 0), 1, 24) := by kernel_rfl
theorem info_edge : (Try.prog.info? TEdge).map (fun i => (i.zero, i.size, i.bytes)) = some (some (.agg #[.int .i64 0, .bool false, .slice none 0 0]), 3, 40) := by kernel_rfl
theorem blk2 (w : World) (c1 c2 : Array Value) (t1 t2 : TypeId) : Blk ((w.alloc (.cells c1 t1)).alloc (.cells c2 t2)) w.heap.size t1 c1 ∧ Blk ((w.alloc (.cells c1 t1)).alloc (.cells c2 t2)) (w.heap.size + 1) t2 c2 := by
  refine ⟨(Blk.new w t1 c1).alloc _, ?_⟩
  have h := Blk.new (w.alloc (.cells c1 t1)) t2 c2
  have e : (w.alloc (.cells c1 t1)).heap.size = w.heap.size + 1 := by simp
  rwa [e] at h
theorem Blk.two {w : World} {g : Nat} {t : TypeId} {a b : Value} (h : Blk w g t #[a, b]) : w.cell? ⟨g, 0, none⟩ = some a ∧ w.cell? ⟨g, 1, none⟩ = some b ∧ w.frozen? ⟨g, 0, none⟩ = false ∧ w.frozen? ⟨g, 1, none⟩ = false :=
  ⟨h.cell 0, h.cell 1, h.frozen 0, h.frozen 1⟩
/-- An edge's three cells, read. -/
structure RE (w : World) (f : Nat → Value) (x : Ed) : Prop where
  to : RI (f 0) x.to
  free : f 1 = .bool x.free
  set : IsSet w (f 2) x.set
theorem RE.keep {w w' : World} {f : Nat → Value} {x : Ed} (h : RE w f x) (k : Keep w w') : RE w' f x := ⟨h.1, h.2, SlK.keep h.3 k⟩
abbrev IsRow (w : World) (v : Value) (es : List Ed) : Prop := SlK w 3 (RE w) v es
theorem IsRow.keep {w w' : World} {v : Value} {es : List Ed} (h : IsRow w v es) (k : Keep w w') : IsRow w' v es := SlK.keepR h k fun _ _ h => h.keep k
/-- Rows from an address on. -/
abbrev AtAu (w : World) (A : Option Addr) (a : Au) : Prop := At w A (IsRow w) a
theorem AtAu.keep {w w' : World} {A : Option Addr} {a : Au} (h : AtAu w A a) (k : Keep w w') : AtAu w' A a := At.keepR h k fun _ _ h => IsRow.keep h k
theorem AtAu.gt {w : World} {A : Option Addr} {a : Au} {n i : Nat} (h : AtAu w A a) (HL : Hid (a.length = n)) (hi : i < n) :
    ∃ b off S m cs es, A = some ⟨b, off, none⟩ ∧ b < w.heap.size ∧ w.cell? ⟨b, off + i, none⟩ = some (.slice S m cs) ∧ AtK w 3 S (RE w) es ∧ Hid (es.length = m) ∧ m ≤ cs ∧ Hid (a[i]? = some es) := by
  obtain ⟨b, off, u, es, e, hb, hc, ⟨S, cs, rfl, hs, hm⟩, hx⟩ := At.gt h HL hi
  exact ⟨b, off, S, es.length, cs, es, e, hb, hc, hs, rfl, hm, hx⟩
theorem AtEd.gt {w : World} {A : Option Addr} {es : List Ed} {n k : Nat} (h : AtK w 3 A (RE w) es) (HL : Hid (es.length = n)) (hk : k < n) :
    ∃ b off to free T q tc l, A = some ⟨b, off, none⟩ ∧ b < w.heap.size ∧ (w.cell? ⟨b, off + k * 3, none⟩ = some (.int .i64 to) ∧ w.cell? ⟨b, off + k * 3 + 1, none⟩ = some (.bool free) ∧ w.cell? ⟨b, off + k * 3 + 2, none⟩ = some (.slice T q tc)) ∧
      AtSet w T l ∧ Hid (l.length = q) ∧ q ≤ tc ∧ (-9223372036854775808 ≤ to ∧ to ≤ 9223372036854775807) ∧ Hid (es[k]? = some ⟨to, free, l⟩) := by
  obtain ⟨b, off, f, ⟨to, free, l⟩, e, hb, hc, ⟨⟨h0, h01⟩, h1, ⟨T, tc, h2, hs, hm⟩⟩, hx⟩ := AtK.gt h HL hk
  have c0 := hc 0 (by omega); have c1 := hc 1 (by omega); have c2 := hc 2 (by omega)
  rw [h0] at c0; rw [h1] at c1; rw [h2] at c2
  exact ⟨b, off, to, free, T, l.length, tc, l, e, hb, ⟨c0, c1, c2⟩, hs, rfl, hm, h01, hx⟩
theorem AtEd.keep {w w' : World} {A : Option Addr} {es : List Ed} (h : AtK w 3 A (RE w) es) (k : Keep w w') : AtK w' 3 A (RE w') es := AtK.keepR h k fun _ _ h => h.keep k

end Go.Proofs.Ytjnjbcigbnjmkaa
