/- Walks: the law LeastTells: twins in boxes that are drawn to come before or after. PUT1 -/
import Derived.Deep.RegionHeld3
import Derived.Deep.RegionLaw
import Derived.Test.YtilhicefhhgecaaGreatDoorTbn
import Derived.Test.YtilhicefhhgecaaGreatDoorDfan
import Derived.Test.YtilhicefhhgecaaGreatDoorWhn
import Derived.Test.YtilhicefhhgecaaGreatDoorQvn
import Derived.Test.YtilhicefhhgecaaGreatDoorHdn
import Derived.Test.YtilhicefhhgecaaGreatDoorGnn
import Derived.Test.YtilhicefhhgecaaGreatDoorHan
import Derived.Test.YtilhicefhhgecaaGreatDoorWjn
namespace Pv
open Go Go.RowKit
section
variable {P : Program} {md : Region.Mode} {ops : Array Oper} {Q : Exit → Act → World → Prop} {S : World → Prop} {n : Nat}
end
end Pv
namespace Go.Proofs.YtilhicefhhgecaaGreatDoor
open Go.RowKit Pv

section
variable {w W W' : World} {av bv : Array Value} {d o : Dfa} {X Y : Nat} {a1 b1 c1 d1 e1 f1 : Option Addr} {a2 a3 b2 b3 c2 c3 d2 d3 e2 e3 f2 f3 : Nat}
end
section
variable {base : Nat} {w w' w'' : World}
end
theorem ref11_SameInts (A B : Option Addr) (c d n m : Nat) (l r : List Int) (w : World) (ha : At w A RI l) (hb : At w B RI r) (HL : Hid (l.length = n)) (HM : Hid (r.length = m)) :
    Calls Tryz.prog 23 #[.slice A n c, .slice B m d] w fun e w' => e = .returned (.bool (decide (l = r))) ∧ ∃ n, w' = w.drewN n := by
  have HS := Lib.hid (ref06_SameInts A B c d n m l r w ha hb HL HM)
  obtain ⟨bb, hbb⟩ : ∃ bb, decide (l = r) = bb := ⟨_, rfl⟩
  rw [hbb] at HS ⊢
  clear ha hb hbb
  go_enter Tryz.func23, Tryz.ntmps23
  go_wp2_with fail
  refine HS.out.mono ?_
  rintro e w' ⟨rfl, k, rfl⟩
  go_wp2
  go_ret
  exact ⟨rfl, k, rfl⟩

end Go.Proofs.YtilhicefhhgecaaGreatDoor
