/- A pattern's text: by its tree. Nothing of a program stands here. -/
import Derived.Test.YtilhicefhhgecaaGreatDoorYe0p
import Derived.Lib.Join
namespace Pv
open Go Go.RowKit

def Tr.root : Tr → Rx
  | .mk x _ => x
/-- Does a node of the kind k, in one of the kind o, stand in brackets? -/
def inK (o k : Int) : Bool := if o = 4 then decide (k ≠ 1) else if o = 2 then decide (k = 2 ∨ k = 3 ∨ k = 0) else decide (k = 3)
def sepK (o : Int) : List UInt8 := if o = 3 then [124] else []
def brS (b : Bool) (l : List UInt8) : List UInt8 := if b then 40 :: (l ++ [41]) else l
mutual
def Tr.txt : Tr → List UInt8
  | .mk x ks => if x.kind = 0 then [] else if x.kind = 1 then setL x.set else Lib.join (txts x.kind ks) (sepK x.kind) ++ (if x.kind = 4 then oftL x.least x.most else [])
def txts (o : Int) : List Tr → List (List UInt8)
  | [] => []
  | k :: ks => brS (inK o k.root.kind) k.txt :: txts o ks
end
theorem txts_map (o : Int) : ∀ ks : List Tr, txts o ks = ks.map fun k => brS (inK o k.root.kind) k.txt
  | [] => rfl
  | k :: ks => by rw [txts, txts_map o ks]; rfl
theorem txt_empty {x : Rx} {ks : List Tr} (h : x.kind = 0) : (Tr.mk x ks).txt = [] := by rw [Tr.txt, if_pos h]
theorem txt_set {x : Rx} {ks : List Tr} (h : x.kind = 1) : (Tr.mk x ks).txt = setL x.set := by rw [Tr.txt, if_neg (by omega), if_pos h]
theorem txt_in {x : Rx} {ks : List Tr} (h : 1 < x.kind) : (Tr.mk x ks).txt = Lib.join (txts x.kind ks) (sepK x.kind) ++ (if x.kind = 4 then oftL x.least x.most else []) := by rw [Tr.txt, if_neg (by omega), if_neg (by omega)]

end Pv
