/- Walks: what free edges lead to, by the program. PUT1 -/
import Derived.Test.YtcmmmgblkbbdnaaGreatDoorZiy
import Derived.Test.YtcmmmgblkbbdnaaGreatDoorAuy
import Derived.Test.YtcmmmgblkbbdnaaGreatDoorTi0y
namespace Pv
open Go Go.RowKit
/-- States that wait, states that are met; D: edges that have been looked at. -/
structure RchR (a : Au) (S : Nat → Prop) (n : Nat) (W L : List Int) (D : Nat → Ed → Prop) : Prop where
  win : ∀ x, x ∈ W → ∃ s : Nat, s < n ∧ x = (s : Int) ∧ Clo a S s
  lin : ∀ x, x ∈ L → ∃ s : Nat, s < n ∧ x = (s : Int) ∧ Clo a S s
  base : ∀ s, S s → (s : Int) ∈ L ∨ (s : Int) ∈ W
  clos : ∀ (s : Nat) x (t : Nat), (s : Int) ∈ L → D s x → x.free = true → x.to = (t : Int) → (t : Int) ∈ L ∨ (t : Int) ∈ W
abbrev DAll (a : Au) : Nat → Ed → Prop := fun s x => ∃ es, a[s]? = some es ∧ x ∈ es
abbrev DOne (a : Au) (s : Nat) (es : List Ed) (k : Nat) : Nat → Ed → Prop := fun s' x => (s' ≠ s ∧ ∃ es, a[s']? = some es ∧ x ∈ es) ∨ (s' = s ∧ x ∈ es.take k)
section
variable {a : Au} {S : Nat → Prop} {n : Nat} {W L : List Int} {D : Nat → Ed → Prop}
theorem RchR.new {s : Nat} {es : List Ed} (h : RchR a S n (W ++ [(s : Int)]) L (DAll a)) : RchR a S n W (L ++ [(s : Int)]) (DOne a s es 0) := by
  have hm : ∀ y, y ∈ L ∨ y ∈ W ++ [(s : Int)] → y ∈ L ++ [(s : Int)] ∨ y ∈ W := fun y hy => by
    rcases hy with hy | hy
    · exact .inl (by simp [hy])
    · rcases List.mem_append.1 hy with hy | hy
      · exact .inr hy
      · exact .inl (by simp at hy; simp [hy])
  refine ⟨fun y hy => h.win y (by simp [hy]), fun y hy => ?_, fun t ht => hm _ (h.base t ht), fun t y u h1 h2 h3 h4 => ?_⟩
  · rcases List.mem_append.1 hy with hy | hy
    · exact h.lin y hy
    · exact h.win y (by simp at hy; simp [hy])
  · rcases h2 with ⟨h2, h5⟩ | ⟨_, h2⟩
    · refine hm _ (h.clos t y u ?_ h5 h3 h4)
      rcases List.mem_append.1 h1 with h1 | h1
      · exact h1
      · rw [List.mem_singleton] at h1; omega
    · simp at h2
theorem RchR.skip {s k : Nat} {es : List Ed} {x : Ed} (h : RchR a S n W L (DOne a s es k)) (hx : es[k]? = some x) (hf : x.free = false) : RchR a S n W L (DOne a s es (k + 1)) :=
  ⟨h.win, h.lin, h.base, fun t y u h1 h2 h3 h4 => by
    rcases h2 with h2 | ⟨h2, h5⟩
    · exact h.clos t y u h1 (.inl h2) h3 h4
    · rw [take_snoc hx] at h5
      rcases List.mem_append.1 h5 with h5 | h5
      · exact h.clos t y u h1 (.inr ⟨h2, h5⟩) h3 h4
      · rw [List.mem_singleton] at h5; subst h5; rw [hf] at h3; cases h3⟩
theorem RchR.push {s k q : Nat} {es : List Ed} {x : Ed} (h : RchR a S n W L (DOne a s es k)) (hx : es[k]? = some x) (hf : x.free = true) (hs : Clo a S s) (he : a[s]? = some es) (hq : x.to = (q : Int)) (hqn : q < n) : RchR a S n (W ++ [(q : Int)]) L (DOne a s es (k + 1)) :=
  ⟨fun y hy => by
    rcases List.mem_append.1 hy with hy | hy
    · exact h.win y hy
    · rw [List.mem_singleton] at hy; exact ⟨q, hqn, hy, .step hs ⟨es, x, he, mem_of_get hx, hf, hq⟩⟩,
   h.lin, fun t ht => (h.base t ht).imp_right fun h => by simp [h], fun t y u h1 h2 h3 h4 => by
    rcases h2 with h2 | ⟨h2, h5⟩
    · exact (h.clos t y u h1 (.inl h2) h3 h4).imp_right fun h => by simp [h]
    · rw [take_snoc hx] at h5
      rcases List.mem_append.1 h5 with h5 | h5
      · exact (h.clos t y u h1 (.inr ⟨h2, h5⟩) h3 h4).imp_right fun h => by simp [h]
      · rw [List.mem_singleton] at h5; subst h5
        exact .inr (by rw [hq] at h4; simp [h4])⟩
theorem RchR.all {s k : Nat} {es : List Ed} (h : RchR a S n W L (DOne a s es k)) (he : a[s]? = some es) (hk : es.length ≤ k) : RchR a S n W L (DAll a) :=
  ⟨h.win, h.lin, h.base, fun t y u h1 h2 h3 h4 => by
    refine h.clos t y u h1 ?_ h3 h4
    obtain ⟨es', h5, h6⟩ := h2
    by_cases e : t = s
    · subst e
      obtain rfl := Option.some.inj (h5.symm.trans he)
      exact .inr ⟨rfl, by rw [List.take_of_length_le hk]; exact h6⟩
    · exact .inl ⟨e, es', h5, h6⟩⟩
theorem RchR.start {l : List Int} (h : InAu n l) : RchR a (Of l) n l [] D :=
  ⟨fun x hx => ⟨x.toNat, by have := h x hx; omega, by have := h x hx; omega, .base (by show ((x.toNat : Nat) : Int) ∈ l; rw [Int.toNat_of_nonneg (h x hx).1]; exact hx)⟩, fun x hx => by simp at hx, fun s hs => .inr hs, fun s x t h1 => by simp at h1⟩
end
end Pv
namespace Go.Proofs.YtcmmmgblkbbdnaaGreatDoor
open Go.RowKit Go.Maps Pv

end Go.Proofs.YtcmmmgblkbbdnaaGreatDoor

namespace Pv
open Go Go.RowKit Go.Proofs.YtcmmmgblkbbdnaaGreatDoor
theorem of_stL {n : Nat} {S : Nat → Prop} (h : ∀ s, S s → s < n) : Of (stL n S) = S := by
  funext s
  refine propext ⟨fun hs => ?_, fun hs => (stL_of (h s hs)).2 hs⟩
  obtain ⟨t, h1, h2, h3⟩ := stL_mem.1 (show (s : Int) ∈ stL n S from hs)
  obtain rfl : s = t := by omega
  exact h2
/-- The states behind numbers. -/
def runA (a : Au) (l : List Int) : Nat → Prop := l.foldl (fun S p => Clo a (Stp a p S)) (Clo a (fun s => s = 0))
theorem runA_snoc (a : Au) (l : List Int) (p : Int) : runA a (l ++ [p]) = Clo a (Stp a p (runA a l)) := by simp [runA, List.foldl_append]
theorem stp_in {a : Au} {acc : Int} {p : Int} {S : Nat → Prop} (h : AuOk a acc) {t : Nat} (ht : Stp a p S t) : t < a.length := by
  obtain ⟨s, _, es, x, h1, h2, h3, h4, h5⟩ := ht
  have := (h.each es (mem_of_get h1) x h2).2.1
  omega
theorem runA_in {a : Au} {acc : Int} (h : AuOk a acc) (l : List Int) : ∀ s, runA a l s → s < a.length := by
  have h0 : ∀ s, runA a [] s → s < a.length := fun s hs => clo_in h (fun s hs => by subst hs; have := h.pos; omega) hs
  rcases List.eq_nil_or_concat l with rfl | ⟨l', p, rfl⟩
  · exact h0
  · intro s hs
    rw [List.concat_eq_append, runA_snoc] at hs
    exact clo_in h (fun t ht => stp_in h ht) hs
end Pv
namespace Go.Proofs.YtcmmmgblkbbdnaaGreatDoor
open Go.RowKit Go.Maps Pv

end Go.Proofs.YtcmmmgblkbbdnaaGreatDoor

namespace Pv
open Go Go.RowKit

def labE (x : Ed) : Option (List Rng) := if x.free then none else some x.set
theorem edgA_new (a : Au) (u : Nat) (l : Option (List Rng)) (v : Nat) : EdgA (a ++ [[]]) u l v ↔ EdgA a u l v := by
  unfold EdgA
  constructor
  · rintro ⟨es, x, h1, h2, h3⟩
    rcases Nat.lt_or_ge u a.length with hu | hu
    · rw [List.getElem?_append_left hu] at h1; exact ⟨es, x, h1, h2, h3⟩
    · rw [List.getElem?_append_right hu] at h1
      match hk : u - a.length with
      | 0 => rw [hk] at h1; simp at h1; subst h1; simp at h2
      | k + 1 => rw [hk] at h1; simp at h1
  · rintro ⟨es, x, h1, h2, h3⟩
    exact ⟨es, x, by rw [List.getElem?_append_left (lt_of_get h1)]; exact h1, h2, h3⟩
theorem auEdge_at (a : Au) (s : Nat) (x : Ed) : (auEdge a s x)[s]? = (a[s]?).map (· ++ [x]) := by unfold auEdge; rw [List.getElem?_modify]; simp
theorem auEdge_off {a : Au} {s u : Nat} (x : Ed) (h : s ≠ u) : (auEdge a s x)[u]? = a[u]? := by unfold auEdge; rw [List.getElem?_modify]; simp [h]
theorem edgA_edge {a : Au} {s : Nat} (hs : s < a.length) (x : Ed) (u : Nat) (l : Option (List Rng)) (v : Nat) : EdgA (auEdge a s x) u l v ↔ EdgA a u l v ∨ (u = s ∧ l = labE x ∧ x.to = (v : Int)) := by
  unfold EdgA
  have e0 : a[s]? = some (a[s]'hs) := List.getElem?_eq_getElem hs
  constructor
  · rintro ⟨es, y, h1, h2, h3, h4⟩
    by_cases e : s = u
    · subst e
      rw [auEdge_at, e0] at h1
      obtain rfl := Option.some.inj h1
      rcases List.mem_append.1 h2 with h2 | h2
      · exact .inl ⟨_, y, e0, h2, h3, h4⟩
      · simp at h2; subst h2; exact .inr ⟨rfl, h4, h3⟩
    · rw [auEdge_off x e] at h1
      exact .inl ⟨es, y, h1, h2, h3, h4⟩
  · rintro (⟨es, y, h1, h2, h3, h4⟩ | ⟨rfl, h2, h3⟩)
    · by_cases e : s = u
      · subst e
        exact ⟨es ++ [x], y, by rw [auEdge_at, h1]; rfl, by simp [h2], h3, h4⟩
      · exact ⟨es, y, by rw [auEdge_off x e]; exact h1, h2, h3, h4⟩
    · exact ⟨(a[u]'hs) ++ [x], x, by rw [auEdge_at, e0]; rfl, by simp, h3, h2⟩
theorem edgA_frees {m : Nat} : ∀ (es : List Nat) (a : Au), (∀ e, e ∈ es → e < a.length) → ∀ u l v, EdgA (auFrees m a es) u l v ↔ EdgA a u l v ∨ (u ∈ es ∧ l = none ∧ v = m)
  | [], a, _, u, l, v => by simp [auFrees]
  | e :: es, a, h, u, l, v => by
    rw [auFrees, edgA_frees es _ (fun x hx => by rw [auEdge_length]; exact h x (by simp [hx])), edgA_edge (h e (by simp))]
    simp only [labE, if_true, List.mem_cons]
    constructor
    · rintro ((h1 | ⟨h1, h2, h3⟩) | ⟨h1, h2, h3⟩)
      · exact .inl h1
      · exact .inr ⟨.inl h1, h2, by omega⟩
      · exact .inr ⟨.inr h1, h2, h3⟩
    · rintro (h1 | ⟨h1 | h1, h2, h3⟩)
      · exact .inl (.inl h1)
      · exact .inl (.inr ⟨h1, h2, by omega⟩)
      · exact .inr ⟨h1, h2, h3⟩
theorem edgA_join {a : Au} {es : List Nat} (h : ∀ e, e ∈ es → e < a.length) (u : Nat) (l : Option (List Rng)) (v : Nat) : EdgA (auJoin a es) u l v ↔ EdgA a u l v ∨ (u ∈ es ∧ l = none ∧ v = a.length) := by
  unfold auJoin
  rw [edgA_frees _ _ (fun e he => by have := h e he; simp; omega), edgA_new]
section
variable (pts : List Int)
/-- A way of leading that lays L. -/
def FrF (f : Au → Nat → Au × Nat) (L : Nat → Nat → Prop) : Prop := ∀ a s, s < a.length → ∃ G, (∀ u l v, EdgA (f a s).1 u l v ↔ EdgA a u l v ∨ G u l v) ∧ Fr pts G a.length (f a s).1.length s (f a s).2 L
variable {pts}
theorem FrF.ends {f : Au → Nat → Au × Nat} {L : Nat → Nat → Prop} (h : FrF pts f L) {a : Au} {s : Nat} (hs : s < a.length) : (f a s).2 < (f a s).1.length ∧ a.length ≤ (f a s).1.length := by
  obtain ⟨G, _, k⟩ := h a s hs
  have := k.en; have := k.le
  omega
theorem FrF.iter {f : Au → Nat → Au × Nat} {L : Nat → Nat → Prop} (h : FrF pts f L) : ∀ n, FrF pts (Pv.iter f n) (Pw L n)
  | 0 => fun a s hs => ⟨fun _ _ _ => False, fun _ _ _ => by simp [Pv.iter], Fr.none pts hs⟩
  | n + 1 => fun a s hs => by
    obtain ⟨G1, e1, k1⟩ := h a s hs
    obtain ⟨G2, e2, k2⟩ := FrF.iter h n (f a s).1 (f a s).2 (h.ends hs).1
    refine ⟨Gor G1 G2, fun u l v => ?_, ?_⟩
    · show EdgA (Pv.iter f n (f a s).1 (f a s).2).1 u l v ↔ _
      rw [e2, e1, or_assoc]
    · refine (k1.comp k2).ext fun i j => ?_
      rw [← pwL_iff (n + 1)]
      show _ ↔ ∃ m, L i m ∧ PwL L n m j
      simp only [pwL_iff]
theorem FrF.iters {f : Au → Nat → Au × Nat} {L : Nat → Nat → Prop} (h : FrF pts f L) : ∀ n a s, s < a.length → ∃ G, (∀ u l v, EdgA (Pv.iters f n a s).1 u l v ↔ EdgA a u l v ∨ G u l v) ∧ FrL pts G a.length (Pv.iters f n a s).1.length s (Pv.iters f n a s).2 (fun i j => ∃ k, k ≤ n ∧ Pw L k i j)
  | 0, a, s, hs => by
    refine ⟨fun _ _ _ => False, fun _ _ _ => by simp [Pv.iters], (FrL.one pts hs).ext fun i j => ⟨fun e => ⟨0, Nat.le_refl _, e⟩, ?_⟩⟩
    rintro ⟨k, h1, h2⟩
    obtain rfl : k = 0 := by omega
    exact h2
  | n + 1, a, s, hs => by
    obtain ⟨G1, e1, k1⟩ := h a s hs
    obtain ⟨G2, e2, k2⟩ := FrF.iters h n (f a s).1 (f a s).2 (h.ends hs).1
    refine ⟨Gor G1 G2, fun u l v => ?_, ?_⟩
    · show EdgA (Pv.iters f n (f a s).1 (f a s).2).1 u l v ↔ _
      rw [e2, e1, or_assoc]
    · refine (FrL.comp k1 k2).ext fun i j => ?_
      constructor
      · rintro (rfl | ⟨m, h1, k, h2, h3⟩)
        · exact ⟨0, by omega, rfl⟩
        · exact ⟨k + 1, by omega, (pwL_iff _ _ _).1 ⟨m, h1, (pwL_iff _ _ _).2 h3⟩⟩
      · rintro ⟨k, h2, h3⟩
        cases k with
        | zero => exact .inl h3
        | succ k =>
          obtain ⟨m, h4, h5⟩ := (pwL_iff _ _ _).2 h3
          exact .inr ⟨m, h4, k, by omega, (pwL_iff _ _ _).1 h5⟩
theorem FrL.joined {a : Au} {r : Au × List Nat} {s : Nat} {L : Nat → Nat → Prop} {G : Gr} (e : ∀ u l v, EdgA r.1 u l v ↔ EdgA a u l v ∨ G u l v) (k : FrL pts G a.length r.1.length s r.2 L) : ∃ G, (∀ u l v, EdgA (joinOf r).1 u l v ↔ EdgA a u l v ∨ G u l v) ∧ Fr pts G a.length (joinOf r).1.length s (joinOf r).2 L := by
  have hl := k.lo; have hle := k.le
  refine ⟨Gor G (fun u l v => u ∈ r.2 ∧ l = Option.none ∧ v = r.1.length), fun u l v => ?_, ?_⟩
  · show EdgA (auJoin r.1 r.2) u l v ↔ _
    rw [edgA_join (fun x hx => by have := k.en x hx; omega), e, or_assoc]
  · rw [joinOf_length]; exact k.join
mutual
theorem leadT_fr : ∀ (T : Tr) (d : Nat), T.Ok d → FrF pts (leadT T) (spT pts T)
  | .mk x ks, d, hok => fun a s hs => by
    have hone := hok.one
    have hkids := fun k hk => hok.kid (k := k) hk
    have hd : FrF pts (leadHd ks) (spHd pts ks) := leadHd_fr ks (d - 1) hkids
    rw [leadT]
    by_cases h0 : x.kind = 0
    · rw [if_pos h0]
      obtain ⟨G, e, k⟩ := FrL.joined (r := (a, [s])) (fun u l v => by simp) (FrL.one pts hs)
      exact ⟨G, e, k.ext fun i j => by rw [spT, if_pos h0]⟩
    rw [if_neg h0]
    by_cases h1 : x.kind = 1
    · rw [if_pos h1]
      refine ⟨fun u l v => u = s ∧ l = some x.set ∧ v = a.length, fun u l v => ?_, ?_⟩
      · rw [edgA_edge (by simp; omega), edgA_new]
        simp only [labE, Bool.false_eq_true, if_false]
        constructor
        · rintro (h | ⟨h1, h2, h3⟩)
          · exact .inl h
          · exact .inr ⟨h1, h2, by omega⟩
        · rintro (h | ⟨h1, h2, h3⟩)
          · exact .inl h
          · exact .inr ⟨h1, h2, by omega⟩
      · have hlen : (auEdge (a ++ [[]]) s ⟨a.length, false, x.set⟩).length = a.length + 1 := by simp [auEdge_length]
        simp only [hlen]
        refine ⟨fun u l v h => .inl h.1, fun u l v h => by have := h.2.2; omega, hs, by omega, .inr ⟨by omega, by omega⟩, fun i j => ?_⟩
        rw [spT, if_neg h0, if_pos h1]
        constructor
        · intro p
          cases p with
          | nil => omega
          | cons k1 kr =>
            rcases k1 with ⟨⟨_, h2, _⟩, _⟩ | ⟨st, p, ⟨_, h2, h3⟩, h4, h5, h6⟩
            · cases h2
            · obtain rfl := Option.some.inj h2
              subst h3; subst h6
              cases kr with
              | nil => exact ⟨p, h4, h5, rfl⟩
              | cons k2 _ => obtain ⟨l, hl⟩ := k2.edge; have := hl.1; omega
        · rintro ⟨p, h4, h5, rfl⟩
          exact .one (.inr ⟨x.set, p, ⟨rfl, rfl, rfl⟩, h4, h5, rfl⟩)
    rw [if_neg h1]
    by_cases h2 : x.kind = 2
    · rw [if_pos h2]
      obtain ⟨G, e, k⟩ := leadCat_fr ks (d - 1) hkids a s hs
      exact ⟨G, e, k.ext fun i j => by rw [spT, if_neg h0, if_neg h1, if_pos h2]⟩
    rw [if_neg h2]
    by_cases h3 : x.kind = 3
    · rw [if_pos h3]
      obtain ⟨G, e, k⟩ := leadAlt_fr ks (d - 1) hkids a s hs
      obtain ⟨G, e, k⟩ := FrL.joined e k
      exact ⟨G, e, k.ext fun i j => by rw [spT, if_neg h0, if_neg h1, if_neg h2, if_pos h3]⟩
    rw [if_neg h3]
    have hI := hd.iter x.least.toNat
    obtain ⟨G1, e1, k1⟩ := hI a s hs
    have hE := hI.ends hs
    have hlang : ∀ i j, spT pts (.mk x ks) i j ↔ Ag (spHd pts ks) x.least.toNat x.most i j := fun i j => by rw [spT, if_neg h0, if_neg h1, if_neg h2, if_neg h3]
    by_cases hm : x.most < 0
    · rw [if_pos hm]
      generalize hr : Pv.iter (leadHd ks) x.least.toNat a s = r at *
      have hj : ∀ u l v, EdgA (auJoin r.1 [r.2]) u l v ↔ EdgA r.1 u l v ∨ (u = r.2 ∧ l = none ∧ v = r.1.length) := fun u l v => by
        rw [edgA_join (fun x hx => by simp at hx; subst hx; exact hE.1)]
        simp
      obtain ⟨G2, e2, k2⟩ := hd (auJoin r.1 [r.2]) r.1.length (by rw [auJoin_length]; omega)
      have hE2 := hd.ends (a := auJoin r.1 [r.2]) (s := r.1.length) (by rw [auJoin_length]; omega)
      rw [auJoin_length] at k2 hE2
      have k3 := Fr.star hE.1 k2
      have k4 := k1.comp k3
      refine ⟨Gor G1 (Gor (Gor (fun u l v => u = r.2 ∧ l = Option.none ∧ v = r.1.length) G2) (fun u l v => u = (leadHd ks (auJoin r.1 [r.2]) r.1.length).2 ∧ l = Option.none ∧ v = r.1.length)), fun u l v => ?_, ?_⟩
      · show EdgA (auEdge (leadHd ks (auJoin r.1 [r.2]) r.1.length).1 (leadHd ks (auJoin r.1 [r.2]) r.1.length).2 ⟨r.1.length, true, []⟩) u l v ↔ _
        rw [edgA_edge hE2.1, e2, hj, e1]
        simp only [labE, if_true, Gor]
        constructor
        · rintro ((((h | h) | h) | h) | ⟨h1, h2, h3⟩)
          · exact .inl h
          · exact .inr (.inl h)
          · exact .inr (.inr (.inl (.inl h)))
          · exact .inr (.inr (.inl (.inr h)))
          · exact .inr (.inr (.inr ⟨h1, h2, by omega⟩))
        · rintro (h | h | (h | h) | ⟨h1, h2, h3⟩)
          · exact .inl (.inl (.inl (.inl h)))
          · exact .inl (.inl (.inl (.inr h)))
          · exact .inl (.inl (.inr h))
          · exact .inl (.inr h)
          · exact .inr ⟨h1, h2, by omega⟩
      · have hlen : (starOf (leadHd ks) r).1.length = (leadHd ks (auJoin r.1 [r.2]) r.1.length).1.length := by simp [starOf, auEdge_length]
        have hend : (starOf (leadHd ks) r).2 = r.1.length := rfl
        rw [hlen, hend]
        refine k4.ext fun i j => ?_
        rw [hlang]
        unfold Ag
        constructor
        · rintro ⟨m, p1, k, p2⟩
          exact ⟨x.least.toNat + k, by omega, .inl hm, Pw.add.2 ⟨m, p1, p2⟩⟩
        · rintro ⟨k, q1, _, q2⟩
          obtain ⟨c, rfl⟩ : ∃ c, k = x.least.toNat + c := ⟨k - x.least.toNat, by omega⟩
          obtain ⟨m, p1, p2⟩ := Pw.add.1 q2
          exact ⟨m, p1, c, p2⟩
    · rw [if_neg hm]
      generalize hr : Pv.iter (leadHd ks) x.least.toNat a s = r at *
      obtain ⟨G2, e2, k2⟩ := FrF.iters hd (x.most - x.least).toNat r.1 r.2 hE.1
      obtain ⟨G3, e3, k3⟩ := FrL.joined e2 k2
      refine ⟨Gor G1 G3, fun u l v => ?_, ?_⟩
      · rw [e3, e1, or_assoc]
      · refine (k1.comp k3).ext fun i j => ?_
        rw [hlang]
        have hbd : 0 ≤ x.least ∧ x.least ≤ x.most := by
          rcases hone with h | h | h | h <;> omega
        unfold Ag
        constructor
        · rintro ⟨m, p1, k, p2, p3⟩
          exact ⟨x.least.toNat + k, by omega, .inr (by omega), Pw.add.2 ⟨m, p1, p3⟩⟩
        · rintro ⟨k, q1, q2, q3⟩
          obtain ⟨c, rfl⟩ : ∃ c, k = x.least.toNat + c := ⟨k - x.least.toNat, by omega⟩
          obtain ⟨m, p1, p2⟩ := Pw.add.1 q3
          exact ⟨m, p1, c, by omega, p2⟩
theorem leadHd_fr : ∀ (ks : List Tr) (d : Nat), (∀ k, k ∈ ks → k.Ok d) → FrF pts (leadHd ks) (spHd pts ks)
  | [], _, _ => fun a s hs => ⟨fun _ _ _ => False, fun _ _ _ => by simp [leadHd], (Fr.none pts hs).ext fun i j => by rw [spHd]⟩
  | k :: ks, d, h => fun a s hs => by
    have h0 : FrF pts (leadT k) (spT pts k) := leadT_fr k d (h k (by simp))
    obtain ⟨G, e, f⟩ := h0 a s hs
    exact ⟨G, fun u l v => by rw [leadHd]; exact e u l v, by rw [leadHd]; exact f.ext fun i j => by rw [spHd]⟩
theorem leadCat_fr : ∀ (ks : List Tr) (d : Nat), (∀ k, k ∈ ks → k.Ok d) → FrF pts (leadCat ks) (spCat pts ks)
  | [], _, _ => fun a s hs => ⟨fun _ _ _ => False, fun _ _ _ => by simp [leadCat], (Fr.none pts hs).ext fun i j => by rw [spCat]⟩
  | k :: ks, d, h => fun a s hs => by
    have h0 : FrF pts (leadT k) (spT pts k) := leadT_fr k d (h k (by simp))
    obtain ⟨G1, e1, k1⟩ := h0 a s hs
    obtain ⟨G2, e2, k2⟩ := leadCat_fr ks d (fun x hx => h x (by simp [hx])) (leadT k a s).1 (leadT k a s).2 (h0.ends hs).1
    refine ⟨Gor G1 G2, fun u l v => ?_, ?_⟩
    · rw [leadCat, e2, e1, or_assoc]
    · rw [leadCat]
      exact (k1.comp k2).ext fun i j => by rw [spCat]
theorem leadAlt_fr : ∀ (ks : List Tr) (d : Nat), (∀ k, k ∈ ks → k.Ok d) → ∀ a s, s < a.length → ∃ G, (∀ u l v, EdgA (leadAlt ks a s).1 u l v ↔ EdgA a u l v ∨ G u l v) ∧ FrL pts G a.length (leadAlt ks a s).1.length s (leadAlt ks a s).2 (spAlt pts ks)
  | [], _, _, a, s, hs => ⟨fun _ _ _ => False, fun _ _ _ => by simp [leadAlt], (FrL.none pts hs).ext fun i j => by rw [spAlt]⟩
  | k :: ks, d, h, a, s, hs => by
    have h0 : FrF pts (leadT k) (spT pts k) := leadT_fr k d (h k (by simp))
    obtain ⟨G1, e1, k1⟩ := h0 a s hs
    obtain ⟨G2, e2, k2⟩ := leadAlt_fr ks d (fun x hx => h x (by simp [hx])) (leadT k a s).1 s (by have := (h0.ends hs).2; omega)
    refine ⟨Gor G1 G2, fun u l v => ?_, ?_⟩
    · rw [leadAlt, e2, e1, or_assoc]
    · rw [leadAlt]
      exact (FrL.alt k1 k2).ext fun i j => by rw [spAlt]
end
end
/-- Where a run comes to: the ways from the first state. -/
theorem clo_path {a : Au} {pts : List Int} {S : Nat → Prop} {i : Nat} (hS : ∀ s, S s → Pt pts (EdgA a) 0 0 s i) {s : Nat} (h : Clo a S s) : Pt pts (EdgA a) 0 0 s i := by
  induction h with
  | base h => exact hS _ h
  | step _ h2 ih =>
    obtain ⟨es, x, h3, h4, h5, h6⟩ := h2
    exact ih.trans (.one (.inl ⟨⟨es, x, h3, h4, h6, by rw [h5]; rfl⟩, rfl⟩))
theorem runA_free {a : Au} {l : List Int} {u v : Nat} (h : runA a l u) (h2 : FreeTo a u v) : runA a l v := by
  rcases List.eq_nil_or_concat l with rfl | ⟨m, z, rfl⟩
  · exact .step h h2
  · rw [List.concat_eq_append, runA_snoc] at h ⊢
    exact .step h h2
theorem run_path {a : Au} (pts : List Int) : ∀ i, i ≤ pts.length → ∀ s, runA a (pts.take i) s ↔ Pt pts (EdgA a) 0 0 s i := by
  have h1 : ∀ i, i ≤ pts.length → ∀ s, runA a (pts.take i) s → Pt pts (EdgA a) 0 0 s i := by
    intro i
    induction i with
    | zero => intro _ s h; exact clo_path (fun s hs => by obtain rfl : s = 0 := hs; exact .nil _ _) h
    | succ i ih =>
      intro hi s h
      have e : pts[i]? = some (pts[i]'(by omega)) := List.getElem?_eq_getElem _
      rw [take_snoc e, runA_snoc] at h
      refine clo_path (fun t ht => ?_) h
      obtain ⟨u, hu, es, x, h3, h4, h5, h6, h7⟩ := ht
      exact (ih (by omega) u hu).trans (.one (.inr ⟨x.set, _, ⟨es, x, h3, h4, h7, by rw [h5]; rfl⟩, e, h6, rfl⟩))
  have h2 : ∀ {u i s j : Nat}, Pt pts (EdgA a) u i s j → i ≤ pts.length → runA a (pts.take i) u → j ≤ pts.length ∧ runA a (pts.take j) s := by
    intro u i s j p
    induction p with
    | nil => exact fun h1 h2 => ⟨h1, h2⟩
    | cons k1 _ ih =>
      intro hi hr
      rename_i u i v j _ _ _
      rcases k1 with ⟨⟨es, x, h3, h4, h5, h6⟩, rfl⟩ | ⟨st, p, ⟨es, x, h3, h4, h5, h6⟩, h7, h8, rfl⟩
      · refine ih hi ?_
        have hfree : x.free = true := by
          cases hf : x.free with
          | true => rfl
          | false => rw [hf] at h6; cases h6
        have hstep : FreeTo a u v := ⟨es, x, h3, h4, hfree, h5⟩
        exact runA_free hr hstep
      · have hlt := lt_of_get h7
        refine ih (by omega) ?_
        rw [take_snoc h7, runA_snoc]
        have hfree : x.free = false := by
          cases hf : x.free with
          | true => rw [hf] at h6; cases h6
          | false => rfl
        rw [hfree] at h6
        obtain rfl := Option.some.inj h6
        exact .base ⟨u, hr, es, x, h3, h4, hfree, h8, h5⟩
  intro i hi s
  exact ⟨h1 i hi s, fun p => (h2 p (Nat.zero_le _) (.base rfl)).2⟩
/-- THE LANGUAGE: a pattern's automaton accepts just what the pattern matches. -/
theorem lead_lang {T : Tr} {d : Nat} (h : T.Ok d) (pts : List Int) : runA (leadT T [[]] 0).1 pts (leadT T [[]] 0).2 ↔ spT pts T 0 pts.length := by
  obtain ⟨G, e, k⟩ := leadT_fr (pts := pts) T d h [[]] 0 (by simp)
  have h1 := run_path (a := (leadT T [[]] 0).1) pts pts.length (Nat.le_refl _) (leadT T [[]] 0).2
  rw [List.take_length] at h1
  rw [h1, ← k.lang]
  have e2 : EdgA (leadT T [[]] 0).1 = G := by
    funext u l v
    refine propext ((e u l v).trans ⟨fun h => ?_, .inr⟩)
    rcases h with ⟨es, x, h1, h2, _⟩ | h
    · match u with
      | 0 => simp at h1; subst h1; simp at h2
      | u + 1 => simp at h1
    · exact h
  rw [e2]
end Pv

namespace Go.Proofs.YtcmmmgblkbbdnaaGreatDoor
open Go.RowKit Pv

abbrev TLI : TypeId := 3
abbrev TLL : TypeId := 27
theorem OwnI.grown {w w' : World} {b : Nat} {u : Value} {l : List Int} {r : Option Nat} (h : OwnI w b u l) (hg : w.grownBy w' r) (hn : u.ownBlock = none ∨ u.ownBlock ≠ r) : OwnI w' b u l := by
  obtain ⟨A, c, rfl, h1⟩ := h
  exact ⟨A, c, rfl, h1.kept hg hn⟩
theorem OwnI.lt {w : World} {b g : Nat} {u : Value} {l : List Int} (h : OwnI w b u l) (hg : u.ownBlock = some g) : b ≤ g ∧ g < w.heap.size := by
  obtain ⟨A, c, rfl, h1⟩ := h
  exact h1.lt g hg
/-- A list of lists of the call's own; none of these lies in block x. -/
def Ls (w : World) (base : Nat) (x : Option Nat) (v : Value) (ll : List (List Int)) : Prop :=
  ∃ A c us, v = .slice A ll.length c ∧ w.ownsRow base TLL 1 (.slice A ll.length c) ll.length us ∧ Rel (fun u l => OwnI w base u l ∧ (u.ownBlock = none ∨ u.ownBlock ≠ x)) us ll
section
variable {w w' : World} {base : Nat} {x : Option Nat} {v : Value} {ll : List (List Int)}
theorem Ls.nil (w : World) (base : Nat) (x : Option Nat) : Ls w base x (.slice none 0 0) [] := ⟨none, 0, [], rfl, World.ownsRow_nil _ _ _ _, Rel.nil⟩
theorem Ls.below (h : Ls w base x v ll) (hb : Below w.heap.size w w') : Ls w' base x v ll := by
  obtain ⟨A, c, us, rfl, h1, h2⟩ := h
  exact ⟨A, c, us, rfl, ownsRow_below h1 hb, h2.mono fun u l h => ⟨OwnI.below h.1 hb, h.2⟩⟩
theorem Ls.alloc (h : Ls w base x v ll) (o : Obj) : Ls (w.alloc o) base x v ll := h.below ((Below.refl _ _).alloc (Nat.le_refl _) o)
theorem Ls.drew (h : Ls w base x v ll) : Ls w.drew base x v ll := h.below (Below.refl _ _).drew
theorem Ls.bare (h : Ls w base x v ll) : Ls w base none v ll := by
  obtain ⟨A, c, us, rfl, h1, h2⟩ := h
  exact ⟨A, c, us, rfl, h1, h2.mono fun u l h => ⟨h.1, by cases hu : u.ownBlock with | none => exact .inl rfl | some g => exact .inr (by simp)⟩⟩
theorem Ls.lower {b : Nat} (h : Ls w base x v ll) (hb : b ≤ base) : Ls w b x v ll := by
  obtain ⟨A, c, us, rfl, ⟨h0, h1⟩, h2⟩ := h
  refine ⟨A, c, us, rfl, ⟨h0, ?_⟩, h2.mono fun u l h => ⟨OwnI.lower h.1 hb, h.2⟩⟩
  rcases h1 with h1 | ⟨g, cap, cur, hv, hg, r⟩
  · exact .inl h1
  · exact .inr ⟨g, cap, cur, hv, Nat.le_trans hb hg, r⟩
/-- Behind an append onto the row in block x. -/
theorem Ls.row {b n : Nat} {rv rv' : Value} {us' : List Value} (h : Ls w base rv.ownBlock v ll) (hr : w.ownsRow b TLI 1 rv n us') (hg : w.grownBy w' rv.ownBlock) (hn : rv'.ownBlock = rv.ownBlock ∨ rv'.ownBlock = some w.heap.size) : Ls w' base rv'.ownBlock v ll := by
  obtain ⟨A, c, us, rfl, h1, h2⟩ := h
  refine ⟨A, c, us, rfl, h1.kept hg (own_ne h1 hr (by decide)), h2.mono fun u l h => ⟨h.1.grown hg h.2, ?_⟩⟩
  rcases hn with e | e
  · rw [e]; exact h.2
  · rw [e]
    cases hu : u.ownBlock with
    | none => exact .inl rfl
    | some k => have := (h.1.lt hu).2; exact .inr (by simp; omega)
theorem Ls.far {g i : Nat} {t : TypeId} {cs : Array Value} {u : Value} (h : Ls w base x v ll) (hb : Blk w g t cs) (h1 : TLL ≠ t) (h2 : TLI ≠ t) : Ls (w.setCell ⟨g, i, none⟩ u) base x v ll := by
  obtain ⟨A, c, us, rfl, k1, k2⟩ := h
  refine ⟨A, c, us, rfl, ownsRow_setFar k1 hb h1 i u, k2.mono fun u l h => ⟨?_, h.2⟩⟩
  obtain ⟨B, d, rfl, h3⟩ := h.1
  exact ⟨B, d, rfl, ownsRow_setFar h3 hb h2 _ _⟩
/-- A number written into the row in block x. -/
theorem Ls.put {g i : Nat} {cs : Array Value} {u : Value} (h : Ls w base (some g) v ll) (hb : Blk w g TLI cs) : Ls (w.setCell ⟨g, i, none⟩ u) base (some g) v ll := by
  obtain ⟨A, c, us, rfl, k1, k2⟩ := h
  refine ⟨A, c, us, rfl, ownsRow_setFar k1 hb (by decide) i u, k2.mono fun q l h => ⟨?_, h.2⟩⟩
  obtain ⟨⟨B, d, rfl, h3⟩, h4⟩ := h
  refine ⟨B, d, rfl, h3.1, ?_⟩
  rcases h3.2 with h5 | ⟨g', cap, cur, hv, hg, hh, r⟩
  · exact .inl h5
  · have hne : g' ≠ g := fun e => by
      rcases h4 with h4 | h4
      · rw [hv] at h4; simp [Value.ownBlock] at h4
      · exact h4 (by rw [hv, e]; rfl)
    exact .inr ⟨g', cap, cur, hv, hg, by rw [Below.heap_setCell _ _ _ _ (by simpa using hne)]; exact hh, r⟩
/-- One list more. -/
theorem Ls.push {w2 : World} {A A' : Option Addr} {c c' k : Nat} {us : List Value} {u : Value} {l : List Int} (h1 : w.ownsRow base TLL 1 (.slice A k c) k us) (h2 : Rel (fun u l => OwnI w base u l ∧ (u.ownBlock = none ∨ u.ownBlock ≠ x)) us ll) (hk : ll.length = k)
    (hu : OwnI w base u l) (hx : u.ownBlock = none ∨ u.ownBlock ≠ x) (own : w2.ownsRow base TLL 1 (.slice A' (k + 1) c') (k + 1) (us ++ [u])) (gr : (w.alloc (.cells #[u] TLL)).grownBy w2 (Value.slice A k c).ownBlock) :
    Ls w2 base x (.slice A' (k + 1) c') (ll ++ [l]) := by
  have hb : Below w.heap.size w (w.alloc (.cells #[u] TLL)) := (Below.refl _ _).alloc (Nat.le_refl _) _
  have one : ∀ u l, OwnI w base u l → OwnI w2 base u l := fun u l h => by
    obtain ⟨B, d, rfl, h3⟩ := h
    exact OwnI.grown (OwnI.below ⟨B, d, rfl, h3⟩ hb) gr (own_ne (ownsRow_below h3 hb) (ownsRow_below h1 hb) (by decide))
  refine ⟨A', c', us ++ [u], by simp [hk], by rw [List.length_append, hk]; exact own, Rel.app (h2.mono fun u l h => ⟨one u l h.1, h.2⟩) (Rel.one ⟨one u l hu, hx⟩)⟩
theorem Ls.lists (h : Ls w base x v ll) (hr : ∀ l, l ∈ ll → (∀ y, y ∈ l → -9223372036854775808 ≤ y ∧ y ≤ 9223372036854775807) ∧ l.length ≤ 140737488355328) (hl : ll.length ≤ 140737488355328) :
    ∃ A c, v = .slice A ll.length c ∧ At w A (IsInts w) ll ∧ ll.length ≤ c := by
  obtain ⟨A, c, us, rfl, h1, h2⟩ := h
  obtain ⟨_, h3, h4⟩ := At.of_own h1 h2 hl
  refine ⟨A, c, rfl, ⟨h4.1, fun hp => ?_⟩, h3⟩
  obtain ⟨b, off, e, hb, hc⟩ := h4.2 hp
  refine ⟨b, off, e, hb, fun i l hi => ?_⟩
  obtain ⟨u, hu, ho, _⟩ := hc i l hi
  obtain ⟨k1, k2⟩ := hr l (mem_of_get hi)
  obtain ⟨B, d, rfl, hB, hd⟩ := ho.at' k1 k2
  exact ⟨_, hu, B, d, rfl, hB, hd⟩
end
end Go.Proofs.YtcmmmgblkbbdnaaGreatDoor
