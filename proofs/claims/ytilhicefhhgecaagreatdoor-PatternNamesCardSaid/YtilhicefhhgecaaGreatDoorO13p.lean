/- Trees that are known: may they be, reckoned; what is of their language, reckoned. Nothing of a program stands here. -/
import Derived.Test.YtilhicefhhgecaaGreatDoorYe0p
import Derived.Ground.SlgmProg
import Derived.Shelf.SortM.SortNone
import Derived.Shelf.SlIterI.Nil
import Derived.Shelf.SortM.Plain
import Derived.Ground.GgzProg
import Derived.Test.YtilhicefhhgecaaGreatDoorProg
import Derived.Maps.OwnSet
import Derived.Maps.Views
import Derived.Lib.SlKeysI
import Derived.Test.YtilhicefhhgecaaGreatDoorMemp
import Derived.Test.YtilhicefhhgecaaGreatDoorChecked
import Derived.WalkKit
import Derived.WalkSpells
import Derived.WalkLawsBesides
import Derived.Deep.QuietTactic
import Derived.BigQuiet
import Derived.Lib.Hide
import Derived.Outline
import Derived.Maps.RangeWalk
import Derived.Test.YtilhicefhhgecaaGreatDoorQgp
import Derived.Test.YtilhicefhhgecaaGreatDoorQvp
import Derived.Deep.OwnRows
import Derived.StillTailTactics
import Derived.Test.YtilhicefhhgecaaGreatDoorPap
import Derived.Test.YtilhicefhhgecaaGreatDoorFjp
import Derived.Lib.SlicesCompact
import Derived.DeepKeys4
import Derived.WideKeyMaps
import Derived.MapKept
import Derived.MapFrom
import Derived.ChangeMaps4
import Derived.Laws.Bits64b
import Derived.Ground.SlgnProg
import Derived.Ground.SlgfProg
import Derived.Shelf.SlicesE.DeleteFunc
import Derived.Shelf.SlicesG.CompactI
import Derived.Sort.OwnSortedInts
import Derived.Deep.RegionHeld3
import Derived.Deep.RegionLaw
namespace Pv
open Go Go.RowKit

def setC (l : List Rng) : Bool := decide (l.length ≤ 256) && (l.all fun x => decide (0 ≤ x.lo) && decide (x.lo ≤ x.hi) && decide (x.hi ≤ 1114111)) &&
  ((List.range l.length).all fun i => match l[i]?, l[i + 1]? with | some x, some y => decide (x.hi + 2 ≤ y.lo) | _, _ => true)
theorem setC_is {l : List Rng} (h : setC l = true) : SetOk l := by
  unfold setC at h
  simp only [Bool.and_eq_true, decide_eq_true_eq, List.all_eq_true, List.mem_range] at h
  obtain ⟨⟨h1, h2⟩, h3⟩ := h
  refine ⟨h1, fun i x hx => ?_, fun i x y hx hy => ?_⟩
  · have := h2 x (mem_of_get hx)
    exact ⟨this.1.1, this.1.2, this.2⟩
  · have := h3 i (lt_of_get hx)
    rw [hx, hy] at this
    simpa using this
def oneXC (x : Rx) : Bool :=
  (decide (x.kind = 0) && decide (x.set = []) && decide (x.many = 0) && decide (x.least = 0) && decide (x.most = 0)) ||
  (decide (x.kind = 1) && setC x.set && decide (x.many = 0) && decide (x.least = 0) && decide (x.most = 0)) ||
  ((decide (x.kind = 2) || decide (x.kind = 3)) && decide (x.set = []) && decide (2 ≤ x.many) && decide (x.least = 0) && decide (x.most = 0)) ||
  (decide (x.kind = 4) && decide (x.set = []) && decide (x.many = 1) && decide (0 ≤ x.least) && decide (x.least ≤ 16) && (decide (x.most = -1) || (decide (x.least ≤ x.most) && decide (x.most ≤ 16))))
theorem oneXC_is {x : Rx} (h : oneXC x = true) : x.One := by
  unfold oneXC at h
  simp only [Bool.or_eq_true, Bool.and_eq_true, decide_eq_true_eq] at h
  unfold Rx.One
  rcases h with ((h | h) | h) | h
  · left; simp_all
  · right; left
    obtain ⟨⟨⟨⟨a, b⟩, c⟩, d⟩, e⟩ := h
    have := setC_is b
    simp_all
  · right; right; left; simp_all
  · right; right; right
    obtain ⟨⟨⟨⟨⟨a, b⟩, c⟩, d⟩, e⟩, f⟩ := h
    simp_all
def okTr : Nat → Tr → Bool
  | 0, .mk x ks => oneXC x && decide (x.many = 0) && ks.isEmpty
  | d + 1, .mk x ks => oneXC x && decide ((ks.length : Int) = x.many) && ks.all fun k => okTr d k
theorem okTr_is : ∀ {d : Nat} {T : Tr}, okTr d T = true → T.Ok d
  | 0, .mk x ks, h => by
    unfold okTr at h
    simp only [Bool.and_eq_true, decide_eq_true_eq, List.isEmpty_iff] at h
    exact ⟨oneXC_is h.1.1, h.1.2, h.2⟩
  | d + 1, .mk x ks, h => by
    unfold okTr at h
    simp only [Bool.and_eq_true, decide_eq_true_eq, List.all_eq_true] at h
    exact ⟨oneXC_is h.1.1, h.1.2, fun k hk => okTr_is (h.2 k hk)⟩
/-- A tree that is known. -/
structure Known (T : Tr) : Prop where
  ok : T.Ok 16
  size : T.size ≤ 64
  few : 1 + statesT T ≤ 256
def knownT (T : Tr) : Bool := okTr 16 T && decide (T.flat.length ≤ 64) && decide (1 + statesT T ≤ 256)
theorem knownT_is {T : Tr} (h : knownT T = true) : Known T := by
  unfold knownT at h
  simp only [Bool.and_eq_true, decide_eq_true_eq] at h
  exact ⟨okTr_is h.1.1, h.1.2, h.2⟩
end Pv
