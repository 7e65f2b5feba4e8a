/- Walks: the reader's atom. PUT1 -/
import Derived.Test.YtilhicefhhgecaaGreatDoorRhq
import Derived.Test.YtilhicefhhgecaaGreatDoorRcq
import Derived.Laws.EntriesVeiled
namespace Go.Proofs.YtilhicefhhgecaaGreatDoor
open Go.RowKit Pv

/-- What a method that is taken leaves, beyond what was there when the caller began. -/
theorem RdP.from {R : Nat} {w w1 : World} {t : List Rx} {l : Bs} {wd : Bool} {e : Ending} {w' : World} (h : RdP R w1 t l wd e w') (k : Only R w w1) : RdP R w t l wd e w' := by
  obtain ⟨A, n, c, he, h1, h2, h3⟩ := h
  exact ⟨A, n, c, he, h1, h2, k.step h3⟩
theorem rd_pointP (R : Nat) (r : Bs) (wd : Bool) (w : World) (h : RdS w R r wd) : Calls Tryz.prog 159 #[.pointer (some ⟨R, 0, none⟩)] w (RdP R w [setX [⟨0, 1114111⟩]] r wd) :=
  (rd_point R w).mono fun _ _ ⟨A, n, c, he, h1, h2⟩ => ⟨A, n, c, he, rx_lower h1 h.lt, h.below h2, Only.of h2⟩

theorem own_self {W : World} {base n : Nat} {v : Value} {l : List Rng} (h : W.heap.size = n) (hb : base ≤ n) (hs : OwnSet W base v l) : OwnRx (W.alloc (.cells #[.int .u8 1, v, .int .i64 0, .int .i64 0, .int .i64 0] 52)) base (.slice (some ⟨n, 0, none⟩) 1 1) [setX l] := by
  subst h
  exact rx_one hb hs

end Go.Proofs.YtilhicefhhgecaaGreatDoor
