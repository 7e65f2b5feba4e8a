/- Automata read: rows of edges, with sets. -/
import Derived.Test.YtjnjbcigbnjmkaaBd
namespace Go.Proofs.Ytjnjbcigbnjmkaa
open Go.RowKit Pv

/-- An edge's three cells, read. -/
structure RE (w : World) (f : Nat → Value) (x : Ed) : Prop where
  to : RI (f 0) x.to
  free : f 1 = .bool x.free
  set : IsSet w (f 2) x.set
theorem RE.keep {w w' : World} {f : Nat → Value} {x : Ed} (h : RE w f x) (k : Keep w w') : RE w' f x := ⟨h.1, h.2, SlK.keep h.3 k⟩
abbrev IsRow (w : World) (v : Value) (es : List Ed) : Prop := SlK w 3 (RE w) v es
theorem IsRow.keep {w w' : World} {v : Value} {es : List Ed} (h : IsRow w v es) (k : Keep w w') : IsRow w' v es := SlK.keepR h k fun _ _ h => h.keep k
/-- Rows from an address on. -/
abbrev AtAu (w : World) (A : Option Addr) (a : Au) : Prop := At w A (IsRow w) a
theorem AtAu.keep {w w' : World} {A : Option Addr} {a : Au} (h : AtAu w A a) (k : Keep w w') : AtAu w' A a := At.keepR h k fun _ _ h => IsRow.keep h k
theorem AuAt.reads {w : World} {base n c : Nat} {A : Option Addr} {a : Au} (h : AuAt w base A n c a) (hn : n ≤ 1000000) (he : edgesN a ≤ 1000000) : AtAu w A a := by
  obtain ⟨rows, h1, h2⟩ := h
  have hr : Rel (IsRow w) rows a := ⟨by rw [h2.len, h2.n], fun i u x hu hx => by
    obtain ⟨r, hr, ho⟩ := h2.row i x hx
    obtain rfl := Option.some.inj (hu.symm.trans hr)
    have hl := le_edgesN hx
    refine (OwnK.sl ho (by omega)).keepR (Keep.refl _) fun f y hy => ⟨hy.1, hy.2, hy.3.set⟩⟩
  exact (At.of_own h1 hr (by rw [← h2.n]; omega)).2.2
theorem AuQ.reads {w : World} {base n c : Nat} {A : Option Addr} {a : Au} (h : AuQ w base A n c a) (hn : n ≤ 1000000) (he : edgesN a ≤ 1000000) : AtAu w A a := by
  obtain ⟨rows, h1, h2⟩ := h
  have hr : Rel (IsRow w) rows a := ⟨by rw [h2.len, h2.n], fun i u x hu hx => by
    obtain ⟨r, hr, ho⟩ := h2.row i x hx
    obtain rfl := Option.some.inj (hu.symm.trans hr)
    have hl := le_edgesN hx
    refine (OwnK.sl ho (by omega)).keepR (Keep.refl _) fun f y hy => ⟨hy.1, hy.2, hy.3.set⟩⟩
  exact (At.of_own h1 hr (by rw [← h2.n]; omega)).2.2

end Go.Proofs.Ytjnjbcigbnjmkaa
