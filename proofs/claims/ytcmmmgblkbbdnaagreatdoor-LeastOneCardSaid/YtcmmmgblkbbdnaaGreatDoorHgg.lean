/- Walks: the law LeastTells: twins in boxes that are drawn to come before or after. PUT1 -/
import Derived.Deep.RegionHeld3
import Derived.Deep.RegionLaw
import Derived.Test.YtcmmmgblkbbdnaaGreatDoorTbg
import Derived.Test.YtcmmmgblkbbdnaaGreatDoorDfag
import Derived.Test.YtcmmmgblkbbdnaaGreatDoorWhg
import Derived.Test.YtcmmmgblkbbdnaaGreatDoorQvg
import Derived.Test.YtcmmmgblkbbdnaaGreatDoorHdg
import Derived.Test.YtcmmmgblkbbdnaaGreatDoorGng
import Derived.Test.YtcmmmgblkbbdnaaGreatDoorHag
import Derived.Test.YtcmmmgblkbbdnaaGreatDoorWfg
namespace Pv
open Go Go.RowKit
section
variable {P : Program} {md : Region.Mode} {ops : Array Oper} {Q : Exit → Act → World → Prop} {S : World → Prop} {n : Nat}
end
end Pv
namespace Go.Proofs.YtcmmmgblkbbdnaaGreatDoor
open Go.RowKit Pv

section
variable {w W W' : World} {av bv : Array Value} {d o : Dfa} {X Y : Nat} {a1 b1 c1 d1 e1 f1 : Option Addr} {a2 a3 b2 b3 c2 c3 d2 d3 e2 e3 f2 f3 : Nat}
end
theorem rowP_mem {d o : Dfa} {x : Pr} {ps : List Int} (hx : ∀ y, y ∈ x.w → y ∈ ps) : ∀ (qs : List Int), (∀ q, q ∈ qs → q ∈ ps) → ∀ (l : List Pr), (∀ p, p ∈ l → ∀ y, y ∈ p.w → y ∈ ps) → ∀ p, p ∈ rowP d o x l qs → ∀ y, y ∈ p.w → y ∈ ps
  | [], _, _, h => h
  | q :: qs, hq, l, h => by
    refine rowP_mem hx qs (fun z hz => hq z (by simp [hz])) (addP l (nxtPr d o x q)) fun p hp y hy => ?_
    unfold addP at hp
    split at hp
    · exact h p hp y hy
    · rcases List.mem_append.1 hp with hp | hp
      · exact h p hp y hy
      · simp at hp
        subst hp
        rcases List.mem_append.1 (show y ∈ x.w ++ [q] from hy) with hy | hy
        · exact hx y hy
        · simp at hy; rw [hy]; exact hq q (by simp)
theorem wordF_ok {d o : Dfa} {ps : List Int} (hd : d.Ok) (ho : o.Ok) : ∀ (f i : Nat) (l : List Pr), PrOk d o l → WOk l → (∀ p, p ∈ l → ∀ y, y ∈ p.w → y ∈ ps) → ∀ w, wordF d o ps f i l = some w → w.length ≤ d.next.length * o.next.length ∧ ∀ x, x ∈ w → x ∈ ps
  | 0, _, _, _, _, _, w, h => by cases h
  | f + 1, i, l, h1, h2, h3, w, h => by
    cases e : l[i]? with
    | none => rw [wordF_end (by simpa using e)] at h; cases h
    | some x =>
      have hm := mem_of_get e
      by_cases ha : d.acc x.a = o.acc x.b
      · rw [wordF_row e ha] at h
        exact wordF_ok hd ho f (i + 1) _ (PrOk.row hd ho (h1.lt x hm).1 (h1.lt x hm).2 ps h1) (WOk.row ps (h2 x hm) h2) (rowP_mem (h3 x hm) ps (fun _ h => h) l h3) w h
      · rw [wordF_word e ha] at h
        obtain rfl := Option.some.inj h
        exact ⟨Nat.le_trans (h2 x hm) h1.len, h3 x hm⟩
section
variable {base : Nat} {w w' w'' : World}
end
end Go.Proofs.YtcmmmgblkbbdnaaGreatDoor
