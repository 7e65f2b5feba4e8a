/- Walks: the program's Parse at a text that tells a tree. PUT1 -/
import Derived.Test.YtilhicefhhgecaaGreatDoorRoq
import Derived.Test.YtilhicefhhgecaaGreatDoorSlq
import Derived.Test.YtilhicefhhgecaaGreatDoorPgq
import Derived.Test.YtilhicefhhgecaaGreatDoorRbq
import Derived.Test.YtilhicefhhgecaaGreatDoorO14q
import Derived.Defers
namespace Go.Proofs.YtilhicefhhgecaaGreatDoor
open Go.RowKit Pv

/-- The tables of package utf8 stand as they are laid, whatever is made from B on. -/
def TabU (B : Nat) (w : World) : Prop := ∀ w', Below B w w' → Lib.Utf8Tabs (Tryz.lays196_ren.g 3) (Tryz.lays196_ren.g 4) w'
theorem blk_new2 (w : World) (t1 t2 : TypeId) (c1 c2 : Array Value) : Blk ((w.alloc (.cells c1 t1)).alloc (.cells c2 t2)) (w.heap.size + 1) t2 c2 := by
  have h := Blk.new (w.alloc (.cells c1 t1)) t2 c2
  have e : (w.alloc (.cells c1 t1)).heap.size = w.heap.size + 1 := by simp
  rwa [e] at h
theorem rx_at {w : World} {b n c : Nat} {A : Option Addr} {t : List Rx} (h : OwnRx w b (.slice A n c) t) (hl : t.length ≤ 100000) (hs : ∀ x, x ∈ t → x.set.length ≤ 1000) : AtRx w A t := by
  obtain ⟨A', c', us, hv, ho, hr⟩ := h
  injection hv with e1 e2 e3
  subst e1
  obtain ⟨_, hat⟩ := AtK.of_own ho (hr.mono fun f x hx h => h.rx (by have := hs x hx; omega)) rfl (by omega)
  exact hat
end Go.Proofs.YtilhicefhhgecaaGreatDoor
