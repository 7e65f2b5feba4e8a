/- Twins that can be reckoned: closures, steps, the automaton that goes one way, the least one. Nothing of a program stands here. -/
import Derived.Test.YtcmmmgblkbbdnaaGreatDoorFjh
import Derived.Test.YtcmmmgblkbbdnaaGreatDoorFgh
import Derived.Test.YtcmmmgblkbbdnaaGreatDoorZih
import Derived.DeepKeys4
import Derived.WideKeyMaps
import Derived.MapKept
import Derived.MapFrom
import Derived.ChangeMaps4
import Derived.Laws.Bits64b
import Derived.Test.YtcmmmgblkbbdnaaGreatDoorAuh
import Derived.Test.YtcmmmgblkbbdnaaGreatDoorTi0h
import Derived.Lib.SlicesCompact
import Derived.Test.YtcmmmgblkbbdnaaGreatDoorZnh
import Derived.Test.YtcmmmgblkbbdnaaGreatDoorZeh
import Derived.Test.YtcmmmgblkbbdnaaGreatDoorQth
import Derived.Ground.SlgnProg
import Derived.Ground.SlgfProg
import Derived.Shelf.SlicesE.DeleteFunc
import Derived.Shelf.SortM.Plain
import Derived.Shelf.SlicesG.CompactI
import Derived.Test.YtcmmmgblkbbdnaaGreatDoorProg
import Derived.Test.YtcmmmgblkbbdnaaGreatDoorZbh
import Derived.Sort.OwnSortedInts
import Derived.Deep.RegionHeld3
import Derived.Deep.RegionLaw
import Derived.Test.YtcmmmgblkbbdnaaGreatDoorRxh
import Derived.Test.YtcmmmgblkbbdnaaGreatDoorMemh
import Derived.Test.YtcmmmgblkbbdnaaGreatDoorWah
import Derived.Test.YtcmmmgblkbbdnaaGreatDoorO10h
import Derived.Test.YtcmmmgblkbbdnaaGreatDoorO4h
import Derived.Test.YtcmmmgblkbbdnaaGreatDoorBfh
namespace Pv
open Go Go.RowKit

def inC (s : List Rng) (p : Int) : Bool := s.any fun r => decide (r.lo ≤ p) && decide (p ≤ r.hi)
def freeC (a : Au) (s : Nat) : List Nat := ((a.getD s []).filter fun x => x.free).map fun x => x.to.toNat
def numC (a : Au) (p : Int) (s : Nat) : List Nat := ((a.getD s []).filter fun x => !x.free && inC x.set p).map fun x => x.to.toNat
/-- All that some states lead to by free edges (those under way, those seen). -/
def cloC (a : Au) : Nat → List Nat → List Nat → List Nat
  | 0, _, seen => seen
  | _ + 1, [], seen => seen
  | f + 1, s :: todo, seen => if seen.contains s then cloC a f todo seen else cloC a f (freeC a s ++ todo) (s :: seen)
def shutC (a : Au) (l r : List Nat) : Bool := l.all (fun s => r.contains s) && r.all fun s => (freeC a s).all fun t => r.contains t
/-- Where edges lead is told by natural numbers. -/
def toOk (a : Au) : Bool := a.all fun es => es.all fun x => decide (0 ≤ x.to)
section
variable {a : Au}
theorem toOk_at (h : toOk a = true) {s : Nat} {es : List Ed} {x : Ed} (hs : a[s]? = some es) (hx : x ∈ es) : 0 ≤ x.to := by
  unfold toOk at h
  have := List.all_eq_true.1 (List.all_eq_true.1 h es (List.mem_of_getElem? hs)) x hx
  simpa using this
theorem freeC_iff (h : toOk a = true) {s t : Nat} : t ∈ freeC a s ↔ FreeTo a s t := by
  unfold freeC FreeTo
  simp only [List.mem_map, List.mem_filter]
  constructor
  · rintro ⟨x, ⟨h1, h2⟩, h3⟩
    cases hs : a[s]? with
    | none => simp [List.getD, hs] at h1
    | some es =>
      rw [getD_of hs] at h1
      have := toOk_at h hs h1
      exact ⟨es, x, rfl, h1, h2, by omega⟩
  · rintro ⟨es, x, h1, h2, h3, h4⟩
    exact ⟨x, ⟨by rw [getD_of h1]; exact h2, h3⟩, by omega⟩
theorem inC_iff (s : List Rng) (p : Int) : inC s p = true ↔ InSet s p := by
  unfold inC InSet
  simp only [List.any_eq_true, Bool.and_eq_true, decide_eq_true_eq]
  constructor
  · rintro ⟨r, h1, h2, h3⟩
    obtain ⟨i, hi⟩ := List.getElem?_of_mem h1
    exact ⟨i, r, hi, h2, h3⟩
  · rintro ⟨i, r, h1, h2, h3⟩
    exact ⟨r, List.mem_of_getElem? h1, h2, h3⟩
theorem numC_iff (h : toOk a = true) {p : Int} {s t : Nat} : t ∈ numC a p s ↔ NumTo a p s t := by
  unfold numC NumTo
  simp only [List.mem_map, List.mem_filter, Bool.and_eq_true, Bool.not_eq_true', inC_iff]
  constructor
  · rintro ⟨x, ⟨h1, h2, h2'⟩, h3⟩
    cases hs : a[s]? with
    | none => simp [List.getD, hs] at h1
    | some es =>
      rw [getD_of hs] at h1
      have := toOk_at h hs h1
      exact ⟨es, x, rfl, h1, h2, h2', by omega⟩
  · rintro ⟨es, x, h1, h2, h3, h3', h4⟩
    exact ⟨x, ⟨by rw [getD_of h1]; exact h2, h3, h3'⟩, by omega⟩
theorem cloC_sub (h : toOk a = true) {S : Nat → Prop} : ∀ (f : Nat) (todo seen : List Nat), (∀ s, s ∈ todo → Clo a S s) → (∀ s, s ∈ seen → Clo a S s) → ∀ s, s ∈ cloC a f todo seen → Clo a S s
  | 0, _, _, _, h2, s, hs => h2 s hs
  | _ + 1, [], _, _, h2, s, hs => h2 s hs
  | f + 1, x :: todo, seen, h1, h2, s, hs => by
    unfold cloC at hs
    split at hs
    · exact cloC_sub h f todo seen (fun y hy => h1 y (by simp [hy])) h2 s hs
    · refine cloC_sub h f _ _ (fun y hy => ?_) (fun y hy => ?_) s hs
      · rcases List.mem_append.1 hy with hy | hy
        · exact .step (h1 x (by simp)) ((freeC_iff h).1 hy)
        · exact h1 y (by simp [hy])
      · rcases List.mem_cons.1 hy with rfl | hy
        · exact h1 _ (by simp)
        · exact h2 y hy
theorem cloC_is (h : toOk a = true) {l r : List Nat} (hr : cloC a 100000 l [] = r) (hs : shutC a l r = true) (s : Nat) : s ∈ r ↔ Clo a (fun s => s ∈ l) s := by
  unfold shutC at hs
  simp only [Bool.and_eq_true, List.all_eq_true, List.contains_iff_mem] at hs
  refine Clo.is (T := fun s => s ∈ r) hs.1 (fun x y hx hxy => hs.2 x hx y ((freeC_iff h).2 hxy)) (fun x hx => ?_) s
  rw [← hr] at hx
  exact cloC_sub h _ _ _ (fun y hy => .base hy) (fun y hy => by simp at hy) x hx
end
/-- Some states as a rising list: those of which it is told. -/
def lstC (n : Nat) (r : List Nat) : List Int := ((List.range n).filter fun i => r.contains i).map fun i : Nat => (i : Int)
theorem lstC_is {n : Nat} {r : List Nat} {S : Nat → Prop} (h : ∀ s, s ∈ r ↔ S s) : lstC n r = stL n S := by
  unfold lstC stL
  congr 1
  refine List.filter_congr fun i _ => ?_
  by_cases hi : S i
  · rw [yes_t hi]; simpa using (h i).2 hi
  · rw [yes_f hi]
    have : i ∉ r := fun e => hi ((h i).1 e)
    simpa using this
/-- Where some states come to by a number, all free edges gone; none: not reckoned through. -/
def shutL (a : Au) (l : List Nat) : Option (List Int) := if shutC a l (cloC a 100000 l []) then some (lstC a.length (cloC a 100000 l [])) else none
theorem shutL_is {a : Au} (h : toOk a = true) {l : List Nat} {r : List Int} {S : Nat → Prop} (hS : ∀ s, s ∈ l ↔ S s) (hr : shutL a l = some r) : stL a.length (Clo a S) = r := by
  unfold shutL at hr
  split at hr
  · rename_i hs
    obtain rfl := Option.some.inj hr
    have e : S = fun s => s ∈ l := funext fun s => propext (hS s).symm
    rw [e]
    exact (lstC_is (cloC_is h rfl hs)).symm
  · cases hr
def stepC (a : Au) (l : List Int) (p : Int) : Option (List Int) := shutL a (l.flatMap fun s => numC a p s.toNat)
theorem stepC_is {a : Au} (h : toOk a = true) {l : List Int} {p : Int} {r : List Int} (hl : ∀ s, s ∈ l → 0 ≤ s) (hr : stepC a l p = some r) : stepS a l p = r := by
  refine shutL_is h (fun t => ?_) hr
  simp only [List.mem_flatMap]
  unfold Stp Of
  constructor
  · rintro ⟨s, h1, h2⟩
    have := hl s h1
    exact ⟨s.toNat, by rw [Int.toNat_of_nonneg this]; exact h1, (numC_iff h).1 h2⟩
  · rintro ⟨s, h1, h2⟩
    exact ⟨(s : Int), h1, by simpa using (numC_iff h).2 h2⟩
theorem lstC_nn {n : Nat} {r : List Nat} : ∀ s, s ∈ lstC n r → 0 ≤ s := fun s hs => by
  obtain ⟨i, _, rfl⟩ := List.mem_map.1 hs
  omega
end Pv

namespace Pv
open Go Go.RowKit

/-- Where a run comes to; none: not reckoned through. -/
def runFC (a : Au) : List Int → List Int → Option (List Int)
  | l, [] => some l
  | l, p :: ps => match stepC a l p with
    | none => none
    | some m => runFC a m ps
def runC (a : Au) (pts : List Int) : Option (List Int) := if toOk a then (match shutL a [0] with
  | none => none
  | some l => runFC a l pts) else none
theorem shutL_nn {a : Au} {l : List Nat} {r : List Int} (h : shutL a l = some r) : ∀ s, s ∈ r → 0 ≤ s := by
  unfold shutL at h
  split at h
  · obtain rfl := Option.some.inj h
    exact lstC_nn
  · cases h
theorem runFC_is {a : Au} {acc : Int} (hok : AuOk a acc) (h : toOk a = true) : ∀ (pts pre l r : List Int), stL a.length (runA a pre) = l → (∀ s, s ∈ l → 0 ≤ s) → runFC a l pts = some r → stL a.length (runA a (pre ++ pts)) = r
  | [], pre, l, r, hl, _, hr => by
    obtain rfl := Option.some.inj hr
    rw [List.append_nil]; exact hl
  | p :: pts, pre, l, r, hl, hn, hr => by
    unfold runFC at hr
    cases hm : stepC a l p with
    | none => rw [hm] at hr; cases hr
    | some m =>
      rw [hm] at hr
      have h1 := stepC_is h hn hm
      have h2 : stL a.length (runA a (pre ++ [p])) = m := by
        rw [runA_snoc, ← h1, ← hl]
        unfold stepS
        rw [of_stL (fun s hs => runA_in hok _ s hs)]
      have h3 := runFC_is hok h pts (pre ++ [p]) m r h2 (shutL_nn hm) hr
      rwa [List.append_assoc] at h3
theorem runC_is {a : Au} {acc : Int} (hok : AuOk a acc) {pts r : List Int} (h : runC a pts = some r) : stL a.length (runA a pts) = r := by
  unfold runC at h
  split at h
  · rename_i ht
    cases hl : shutL a [0] with
    | none => rw [hl] at h; cases h
    | some l =>
      rw [hl] at h
      exact runFC_is hok ht pts [] l r (shutL_is ht (fun s => by simp) hl) (shutL_nn hl) h
  · cases h

end Pv

namespace Pv
open Go Go.RowKit

def setC (l : List Rng) : Bool := decide (l.length ≤ 256) && (l.all fun x => decide (0 ≤ x.lo) && decide (x.lo ≤ x.hi) && decide (x.hi ≤ 1114111)) &&
  ((List.range l.length).all fun i => match l[i]?, l[i + 1]? with | some x, some y => decide (x.hi + 2 ≤ y.lo) | _, _ => true)
theorem setC_is {l : List Rng} (h : setC l = true) : SetOk l := by
  unfold setC at h
  simp only [Bool.and_eq_true, decide_eq_true_eq, List.all_eq_true, List.mem_range] at h
  obtain ⟨⟨h1, h2⟩, h3⟩ := h
  refine ⟨h1, fun i x hx => ?_, fun i x y hx hy => ?_⟩
  · have := h2 x (mem_of_get hx)
    exact ⟨this.1.1, this.1.2, this.2⟩
  · have := h3 i (lt_of_get hx)
    rw [hx, hy] at this
    simpa using this
def oneXC (x : Rx) : Bool :=
  (decide (x.kind = 0) && decide (x.set = []) && decide (x.many = 0) && decide (x.least = 0) && decide (x.most = 0)) ||
  (decide (x.kind = 1) && setC x.set && decide (x.many = 0) && decide (x.least = 0) && decide (x.most = 0)) ||
  ((decide (x.kind = 2) || decide (x.kind = 3)) && decide (x.set = []) && decide (2 ≤ x.many) && decide (x.least = 0) && decide (x.most = 0)) ||
  (decide (x.kind = 4) && decide (x.set = []) && decide (x.many = 1) && decide (0 ≤ x.least) && decide (x.least ≤ 16) && (decide (x.most = -1) || (decide (x.least ≤ x.most) && decide (x.most ≤ 16))))
theorem oneXC_is {x : Rx} (h : oneXC x = true) : x.One := by
  unfold oneXC at h
  simp only [Bool.or_eq_true, Bool.and_eq_true, decide_eq_true_eq] at h
  unfold Rx.One
  rcases h with ((h | h) | h) | h
  · left; simp_all
  · right; left
    obtain ⟨⟨⟨⟨a, b⟩, c⟩, d⟩, e⟩ := h
    have := setC_is b
    simp_all
  · right; right; left; simp_all
  · right; right; right
    obtain ⟨⟨⟨⟨⟨a, b⟩, c⟩, d⟩, e⟩, f⟩ := h
    simp_all
def okTr : Nat → Tr → Bool
  | 0, .mk x ks => oneXC x && decide (x.many = 0) && ks.isEmpty
  | d + 1, .mk x ks => oneXC x && decide ((ks.length : Int) = x.many) && ks.all fun k => okTr d k
theorem okTr_is : ∀ {d : Nat} {T : Tr}, okTr d T = true → T.Ok d
  | 0, .mk x ks, h => by
    unfold okTr at h
    simp only [Bool.and_eq_true, decide_eq_true_eq, List.isEmpty_iff] at h
    exact ⟨oneXC_is h.1.1, h.1.2, h.2⟩
  | d + 1, .mk x ks, h => by
    unfold okTr at h
    simp only [Bool.and_eq_true, decide_eq_true_eq, List.all_eq_true] at h
    exact ⟨oneXC_is h.1.1, h.1.2, fun k hk => okTr_is (h.2 k hk)⟩
/-- A tree that is known. -/
structure Known (T : Tr) : Prop where
  ok : T.Ok 16
  size : T.size ≤ 64
  few : 1 + statesT T ≤ 256
def knownT (T : Tr) : Bool := okTr 16 T && decide (T.flat.length ≤ 64) && decide (1 + statesT T ≤ 256)
theorem knownT_is {T : Tr} (h : knownT T = true) : Known T := by
  unfold knownT at h
  simp only [Bool.and_eq_true, decide_eq_true_eq] at h
  exact ⟨okTr_is h.1.1, h.1.2, h.2⟩
theorem Known.pat {T : Tr} (h : Known T) : Pat T.flat := Pat.of_tree h.ok h.size
theorem Known.in {T : Tr} (h : Known T) {pts m : List Int} {r : Bool × Int} (hl : pts.length ≤ 1024) (hm : runC (leadT T [[]] 0).1 pts = some m) (hr : BIn T.flat pts r) : r = (m.contains ((leadT T [[]] 0).2 : Int), 0) := by
  rcases hr with ⟨hn, _⟩ | ⟨_, h2, _⟩ | ⟨_, _, S, hS, eS, rfl⟩
  · exact absurd h.pat hn
  · omega
  obtain rfl := flat_inj h.ok hS eS
  have hok := lead_ok h.ok h.few
  have e := runC_is hok hm
  have h3 : yes (spT pts T 0 pts.length) = m.contains ((leadT T [[]] 0).2 : Int) := by
    have h4 : spT pts T 0 pts.length ↔ ((leadT T [[]] 0).2 : Int) ∈ m := by
      rw [← lead_lang h.ok pts, ← e]
      exact stL_of (by have := hok.acc1; omega) |>.symm
    by_cases h5 : spT pts T 0 pts.length
    · rw [yes_t h5]; simpa using h4.1 h5
    · rw [yes_f h5]
      have : ((leadT T [[]] 0).2 : Int) ∉ m := fun h6 => h5 (h4.2 h6)
      simpa using this
  rw [h3]
end Pv
