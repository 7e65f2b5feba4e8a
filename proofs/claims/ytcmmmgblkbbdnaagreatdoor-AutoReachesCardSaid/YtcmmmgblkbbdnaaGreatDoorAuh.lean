/- All blocks but one stay. Nothing of a program stands here. -/
import Derived.Test.YtcmmmgblkbbdnaaGreatDoorRxh
namespace Pv
open Go Go.RowKit
/-- All blocks but one are as they were. -/
structure Only (b : Nat) (w w' : World) : Prop where
  os : w'.os = w.os
  tape : w'.tape = w.tape
  output : w'.output = w.output
  size : w.heap.size ≤ w'.heap.size
  block : ∀ k, k < w.heap.size → k ≠ b → w'.heap[k]? = w.heap[k]?
section
variable {w w' : World} {b : Nat}
theorem Only.refl (b : Nat) (w : World) : Only b w w := ⟨rfl, rfl, rfl, Nat.le_refl _, fun _ _ _ => rfl⟩
theorem Only.set (h : Only b w w') (i : Nat) (v : Value) : Only b w (w'.setCell ⟨b, i, none⟩ v) :=
  ⟨h.os, h.tape, h.output, by simpa using h.size, fun k hk hb => (Below.heap_setCell w' ⟨b, i, none⟩ v k hb).trans (h.block k hk hb)⟩
theorem Only.below {B : Nat} (h : Only b w w') (hB : B ≤ b) (hs : B ≤ w.heap.size) : Below B w w' := ⟨h.os, h.tape, h.output, h.size, fun k hk => h.block k (by omega) (by omega)⟩
theorem Only.blk {g : Nat} {t : TypeId} {cs : Array Value} (h : Only b w w') (hb : Blk w g t cs) (hne : g ≠ b) : Blk w' g t cs := (h.block g hb.lt hne).trans hb
end
end Pv

namespace Pv
open Go Go.RowKit
/-- A string's bytes. -/
abbrev bsl (r : ByteArray) : List UInt8 := r.data.toList
theorem bsl_len (r : ByteArray) : (bsl r).length = r.size := by rw [bsl, Array.length_toList]; rfl
theorem bsl_mk (l : List UInt8) : bsl ⟨l.toArray⟩ = l := by simp [bsl]
def isP (n : Nat) : Bool := decide (n ≤ 1114111 ∧ (n < 55296 ∨ 57343 < n))
/-- A code point's bytes. -/
def bytesP (n : Nat) : List Nat :=
  if n < 128 then [n] else if n < 2048 then [192 + n / 64, 128 + n % 64] else if n < 65536 then [224 + n / 4096, 128 + n / 64 % 64, 128 + n % 64]
  else [240 + n / 262144, 128 + n / 4096 % 64, 128 + n / 64 % 64, 128 + n % 64]
theorem bytesP_1 {n : Nat} (h : n < 128) : bytesP n = [n] := by unfold bytesP; rw [if_pos h]
theorem bytesP_len {n : Nat} : (bytesP n).length = if n < 128 then 1 else if n < 2048 then 2 else if n < 65536 then 3 else 4 := by
  unfold bytesP; repeat' split
  all_goals rfl
theorem range_1 {n : Nat} (h : (bytesP n).length = 1) : n < 128 := by rw [bytesP_len] at h; repeat' split at h
                                                                      all_goals omega
theorem toList_bsl (s : ByteArray) : s.toList = bsl s := ByteArray.toList_eq s
end Pv

namespace Go.Proofs.YtcmmmgblkbbdnaaGreatDoor
open Go.RowKit Pv

theorem own_get1 {w : World} {b e n k c : Nat} {A : Option Addr} {us : List Value} {u : Value} (h : w.ownsRow b e 1 (.slice A n c) n us) (hk : us[k]? = some u) : ∃ g, A = some ⟨g, 0, none⟩ ∧ g < w.heap.size ∧ w.cell? ⟨g, k, none⟩ = some u := by
  rcases h.2 with ⟨hv, h0⟩ | ⟨g, cap, cur, hv, hg, hh, hnc, hcm, hcs, htk⟩
  · have := h.1; have := lt_of_get hk; omega
  · injection hv with e1 e2 e3
    subst e1
    have hb : Blk w g e cur := hh
    refine ⟨g, rfl, hb.lt, ?_⟩
    rw [hb.cell k]
    rw [← htk, List.getElem?_take] at hk
    split at hk
    · simpa using hk
    · cases hk
end Go.Proofs.YtcmmmgblkbbdnaaGreatDoor

namespace Pv
open Go Go.RowKit

/-- An edge, the edges of all states. -/
structure Ed where
  to : Int
  free : Bool
  set : List Rng
deriving DecidableEq
abbrev Au := List (List Ed)

def auEdge (a : Au) (s : Nat) (x : Ed) : Au := a.modify s (· ++ [x])
def auFrees (m : Nat) : Au → List Nat → Au
  | a, [] => a
  | a, s :: l => auFrees m (auEdge a s ⟨m, true, []⟩) l
def auJoin (a : Au) (l : List Nat) : Au := auFrees a.length (a ++ [[]]) l
def iter (f : Au → Nat → Au × Nat) : Nat → Au → Nat → Au × Nat
  | 0, a, s => (a, s)
  | n + 1, a, s => iter f n (f a s).1 (f a s).2
/-- again and again, all places told -/
def iters (f : Au → Nat → Au × Nat) : Nat → Au → Nat → Au × List Nat
  | 0, a, s => (a, [s])
  | n + 1, a, s => ((iters f n (f a s).1 (f a s).2).1, s :: (iters f n (f a s).1 (f a s).2).2)
def joinOf (r : Au × List Nat) : Au × Nat := (auJoin r.1 r.2, r.1.length)
def starOf (f : Au → Nat → Au × Nat) (r : Au × Nat) : Au × Nat :=
  (auEdge (f (auJoin r.1 [r.2]) r.1.length).1 (f (auJoin r.1 [r.2]) r.1.length).2 ⟨r.1.length, true, []⟩, r.1.length)
mutual
/-- How a tree leads from a state: the edges behind it, the state that it leads to. -/
def leadT : Tr → Au → Nat → Au × Nat
  | .mk x ks, a, s =>
    if x.kind = 0 then joinOf (a, [s])
    else if x.kind = 1 then (auEdge (a ++ [[]]) s ⟨a.length, false, x.set⟩, a.length)
    else if x.kind = 2 then leadCat ks a s
    else if x.kind = 3 then joinOf (leadAlt ks a s)
    else if x.most < 0 then starOf (leadHd ks) (iter (leadHd ks) x.least.toNat a s)
    else joinOf (iters (leadHd ks) (x.most - x.least).toNat (iter (leadHd ks) x.least.toNat a s).1 (iter (leadHd ks) x.least.toNat a s).2)
def leadHd : List Tr → Au → Nat → Au × Nat
  | [], a, s => (a, s)
  | k :: _, a, s => leadT k a s
def leadCat : List Tr → Au → Nat → Au × Nat
  | [], a, s => (a, s)
  | k :: ks, a, s => leadCat ks (leadT k a s).1 (leadT k a s).2
def leadAlt : List Tr → Au → Nat → Au × List Nat
  | [], a, _ => (a, [])
  | k :: ks, a, s => ((leadAlt ks (leadT k a s).1 s).1, (leadT k a s).2 :: (leadAlt ks (leadT k a s).1 s).2)
end
/-- How often what is repeated is laid. -/
def timesOf (x : Rx) : Nat := if x.most < 0 then x.least.toNat + 1 else x.least.toNat + (x.most - x.least).toNat
mutual
/-- How many states a tree makes. -/
def statesT : Tr → Nat
  | .mk x ks =>
    if x.kind = 0 then 1 else if x.kind = 1 then 1 else if x.kind = 2 then statesL ks else if x.kind = 3 then statesL ks + 1
    else statesH ks * timesOf x + 1
def statesH : List Tr → Nat
  | [] => 0
  | k :: _ => statesT k
def statesL : List Tr → Nat
  | [] => 0
  | k :: ks => statesT k + statesL ks
end

theorem auEdge_length (a : Au) (s : Nat) (x : Ed) : (auEdge a s x).length = a.length := by simp [auEdge]
theorem auFrees_length (m : Nat) : ∀ (l : List Nat) (a : Au), (auFrees m a l).length = a.length
  | [], a => rfl
  | s :: l, a => by rw [auFrees, auFrees_length m l, auEdge_length]
theorem auJoin_length (a : Au) (l : List Nat) : (auJoin a l).length = a.length + 1 := by simp [auJoin, auFrees_length]
theorem joinOf_length (r : Au × List Nat) : (joinOf r).1.length = r.1.length + 1 := auJoin_length _ _

/-- A way of leading that makes c states, and leads to one that there is. -/
def Leads (f : Au → Nat → Au × Nat) (c : Nat) : Prop := ∀ a s, s < a.length → (f a s).1.length = a.length + c ∧ (f a s).2 < (f a s).1.length
theorem Leads.iter {f : Au → Nat → Au × Nat} {c : Nat} (h : Leads f c) : ∀ n, Leads (iter f n) (c * n)
  | 0 => fun a s hs => ⟨by simp [Pv.iter], by simpa [Pv.iter] using hs⟩
  | n + 1 => fun a s hs => by
    obtain ⟨h1, h2⟩ := h a s hs
    obtain ⟨h3, h4⟩ := Leads.iter h n _ _ h2
    exact ⟨by rw [Pv.iter, h3, h1, Nat.mul_add]; omega, h4⟩
theorem Leads.iters {f : Au → Nat → Au × Nat} {c : Nat} (h : Leads f c) : ∀ n a s, s < a.length → (iters f n a s).1.length = a.length + c * n ∧ ∀ e, e ∈ (iters f n a s).2 → e < (iters f n a s).1.length
  | 0, a, s, hs => ⟨by simp [Pv.iters], by simpa [Pv.iters] using hs⟩
  | n + 1, a, s, hs => by
    obtain ⟨h1, h2⟩ := h a s hs
    obtain ⟨h3, h4⟩ := Leads.iters h n _ _ h2
    refine ⟨by rw [Pv.iters]; simp only; rw [h3, h1, Nat.mul_add]; omega, fun e he => ?_⟩
    rw [Pv.iters] at he ⊢
    simp only [List.mem_cons] at he
    rcases he with rfl | he
    · simp only; rw [h3]; omega
    · exact h4 e he
theorem iters_len {f : Au → Nat → Au × Nat} : ∀ n a s, (iters f n a s).2.length = n + 1
  | 0, a, s => rfl
  | n + 1, a, s => by rw [iters]; simp [iters_len n]
theorem Leads.star {f : Au → Nat → Au × Nat} {c : Nat} (h : Leads f c) (r : Au × Nat) : (starOf f r).1.length = r.1.length + 1 + c ∧ (starOf f r).2 < (starOf f r).1.length := by
  have h1 := h (auJoin r.1 [r.2]) r.1.length (by rw [auJoin_length]; omega)
  rw [auJoin_length] at h1
  refine ⟨by rw [starOf]; simp only [auEdge_length]; omega, ?_⟩
  rw [starOf]; simp only [auEdge_length]; omega
mutual
theorem leadT_leads : ∀ T : Tr, Leads (leadT T) (statesT T)
  | .mk x ks => fun a s hs => by
    rw [leadT, statesT]
    have hd := leadHd_leads ks
    by_cases h0 : x.kind = 0
    · rw [if_pos h0, if_pos h0]; exact ⟨joinOf_length _, by rw [joinOf_length]; simp [joinOf]⟩
    rw [if_neg h0, if_neg h0]
    by_cases h1 : x.kind = 1
    · rw [if_pos h1, if_pos h1]; exact ⟨by simp [auEdge_length], by simp [auEdge_length]⟩
    rw [if_neg h1, if_neg h1]
    by_cases h2 : x.kind = 2
    · rw [if_pos h2, if_pos h2]; exact leadCat_leads ks a s hs
    rw [if_neg h2, if_neg h2]
    by_cases h3 : x.kind = 3
    · rw [if_pos h3, if_pos h3]
      have := leadAlt_leads ks a s hs
      exact ⟨by rw [joinOf_length, this.1]; omega, by rw [joinOf_length]; simp [joinOf]⟩
    rw [if_neg h3, if_neg h3]
    have hi := hd.iter x.least.toNat a s hs
    by_cases h4 : x.most < 0
    · rw [if_pos h4, timesOf, if_pos h4]
      have := hd.star (iter (leadHd ks) x.least.toNat a s)
      exact ⟨by rw [this.1, hi.1, Nat.mul_add]; omega, this.2⟩
    rw [if_neg h4, timesOf, if_neg h4]
    have := hd.iters (x.most - x.least).toNat _ _ hi.2
    refine ⟨?_, by rw [joinOf_length]; simp [joinOf]⟩
    rw [joinOf_length, this.1, hi.1, Nat.mul_add]; omega
theorem leadHd_leads : ∀ ks : List Tr, Leads (leadHd ks) (statesH ks)
  | [] => fun a s hs => by simpa [leadHd, statesH] using hs
  | k :: _ => fun a s hs => by rw [leadHd, statesH]; exact leadT_leads k a s hs
theorem leadCat_leads : ∀ ks : List Tr, Leads (leadCat ks) (statesL ks)
  | [] => fun a s hs => by simpa [leadCat, statesL] using hs
  | k :: ks => fun a s hs => by
    obtain ⟨h1, h2⟩ := leadT_leads k a s hs
    obtain ⟨h3, h4⟩ := leadCat_leads ks _ _ h2
    rw [leadCat, statesL]
    exact ⟨by rw [h3, h1]; omega, h4⟩
theorem leadAlt_leads : ∀ (ks : List Tr) (a : Au) (s : Nat), s < a.length → (leadAlt ks a s).1.length = a.length + statesL ks ∧ ∀ e, e ∈ (leadAlt ks a s).2 → e < (leadAlt ks a s).1.length
  | [], a, s, hs => by simp [leadAlt, statesL]
  | k :: ks, a, s, hs => by
    obtain ⟨h1, h2⟩ := leadT_leads k a s hs
    obtain ⟨h3, h4⟩ := leadAlt_leads ks (leadT k a s).1 s (by omega)
    rw [leadAlt, statesL]
    refine ⟨by simp only; rw [h3, h1]; omega, fun e he => ?_⟩
    simp only [List.mem_cons] at he
    rcases he with rfl | he
    · simp only; omega
    · exact h4 e he
end
end Pv
