/- The language of a pattern, as data: from where to where a tree matches; places; again and again. Nothing of a program stands here. -/
import Derived.Test.YtcmmmgblkbbdnaaGreatDoorRxh
import Derived.Test.YtcmmmgblkbbdnaaGreatDoorAuh
namespace Pv
open Go Go.RowKit

/-- One behind the other, so often. -/
def Pw (A : Nat → Nat → Prop) : Nat → Nat → Nat → Prop
  | 0, i, j => i = j
  | k + 1, i, j => ∃ m, Pw A k i m ∧ A m j
theorem Pw.add {A : Nat → Nat → Prop} {k : Nat} : ∀ {m i j : Nat}, Pw A (k + m) i j ↔ ∃ q, Pw A k i q ∧ Pw A m q j
  | 0, i, j => by simp [Pw]
  | m + 1, i, j => by
    constructor
    · rintro ⟨q, h1, h2⟩
      obtain ⟨p, h3, h4⟩ := Pw.add.1 h1
      exact ⟨p, h3, q, h4, h2⟩
    · rintro ⟨p, h3, q, h4, h2⟩
      exact ⟨q, Pw.add.2 ⟨p, h3, h4⟩, h2⟩
/-- From least to most times; without end, if most is below 0. -/
def Ag (A : Nat → Nat → Prop) (least : Nat) (most : Int) (i j : Nat) : Prop := ∃ k : Nat, least ≤ k ∧ (most < 0 ∨ (k : Int) ≤ most) ∧ Pw A k i j
/-- Has a set a number? -/
def InSet (l : List Rng) (p : Int) : Prop := ∃ (i : Nat) (x : Rng), l[i]? = some x ∧ x.lo ≤ p ∧ p ≤ x.hi

section
variable (pts : List Int)
mutual
/-- From where to where a tree matches. -/
def spT : Tr → Nat → Nat → Prop
  | .mk x ks, i, j =>
    if x.kind = 0 then i = j
    else if x.kind = 1 then ∃ p, pts[i]? = some p ∧ InSet x.set p ∧ j = i + 1
    else if x.kind = 2 then spCat ks i j
    else if x.kind = 3 then spAlt ks i j
    else Ag (spHd ks) x.least.toNat x.most i j
def spHd : List Tr → Nat → Nat → Prop
  | [], i, j => i = j
  | k :: _, i, j => spT k i j
def spCat : List Tr → Nat → Nat → Prop
  | [], i, j => i = j
  | k :: ks, i, j => ∃ m, spT k i m ∧ spCat ks m j
def spAlt : List Tr → Nat → Nat → Prop
  | [], _, _ => False
  | k :: ks, i, j => spT k i j ∨ spAlt ks i j
end
mutual
/-- .. no further than there are numbers -/
theorem spT_in : ∀ (T : Tr) (i j : Nat), i ≤ pts.length → spT pts T i j → j ≤ pts.length
  | .mk x ks, i, j, hi, h => by
    rw [spT] at h
    split at h
    · omega
    split at h
    · obtain ⟨p, h1, _, h⟩ := h; have := lt_of_get h1; omega
    split at h
    · exact spCat_in ks i j hi h
    split at h
    · exact spAlt_in ks i j hi h
    · obtain ⟨k, _, _, h⟩ := h
      have hp : ∀ (k i j : Nat), i ≤ pts.length → Pw (spHd pts ks) k i j → j ≤ pts.length := fun k => by
        induction k with
        | zero => intro i j hi h; simp only [Pw] at h; omega
        | succ k ih => rintro i j hi ⟨m, h1, h2⟩; exact spHd_in ks m j (ih i m hi h1) h2
      exact hp k i j hi h
theorem spHd_in : ∀ (ks : List Tr) (i j : Nat), i ≤ pts.length → spHd pts ks i j → j ≤ pts.length
  | [], i, j, hi, h => by rw [spHd] at h; omega
  | k :: _, i, j, hi, h => by rw [spHd] at h; exact spT_in k i j hi h
theorem spCat_in : ∀ (ks : List Tr) (i j : Nat), i ≤ pts.length → spCat pts ks i j → j ≤ pts.length
  | [], i, j, hi, h => by rw [spCat] at h; omega
  | k :: ks, i, j, hi, h => by
    rw [spCat] at h
    obtain ⟨m, h1, h2⟩ := h
    exact spCat_in ks m j (spT_in k i m hi h1) h2
theorem spAlt_in : ∀ (ks : List Tr) (i j : Nat), i ≤ pts.length → spAlt pts ks i j → j ≤ pts.length
  | [], i, j, hi, h => by rw [spAlt] at h; exact h.elim
  | k :: ks, i, j, hi, h => by
    rw [spAlt] at h
    rcases h with h | h
    · exact spT_in k i j hi h
    · exact spAlt_in ks i j hi h
end
theorem spCat_snoc (k : Tr) : ∀ (ks : List Tr) (i j : Nat), spCat pts (ks ++ [k]) i j ↔ ∃ m, spCat pts ks i m ∧ spT pts k m j
  | [], i, j => by simp [spCat]
  | x :: ks, i, j => by
    simp only [List.cons_append, spCat]
    constructor
    · rintro ⟨m, h1, h2⟩
      obtain ⟨q, h3, h4⟩ := (spCat_snoc k ks m j).1 h2
      exact ⟨q, ⟨m, h1, h3⟩, h4⟩
    · rintro ⟨q, ⟨m, h1, h3⟩, h4⟩
      exact ⟨m, h1, (spCat_snoc k ks m j).2 ⟨q, h3, h4⟩⟩
theorem spAlt_snoc (k : Tr) : ∀ (ks : List Tr) (i j : Nat), spAlt pts (ks ++ [k]) i j ↔ spAlt pts ks i j ∨ spT pts k i j
  | [], i, j => by simp [spAlt]
  | x :: ks, i, j => by
    simp only [List.cons_append, spAlt, spAlt_snoc k ks i j]
    exact ⟨fun h => by rcases h with h | h | h <;> simp [h], fun h => by rcases h with (h | h) | h <;> simp [h]⟩
end

/-- Places, and where one comes from them. -/
def im (A : Nat → Nat → Prop) (S : Nat → Prop) (j : Nat) : Prop := ∃ i, S i ∧ A i j
/-- Places as a list. -/
noncomputable def lst (n : Nat) (S : Nat → Prop) : List Bool := (List.range (n + 1)).map fun i => yes (S i)
theorem lst_len (n : Nat) (S : Nat → Prop) : (lst n S).length = n + 1 := by simp [lst]
theorem lst_get {n i : Nat} {S : Nat → Prop} (h : i ≤ n) : (lst n S)[i]? = some (yes (S i)) := by simp only [lst, List.getElem?_map, List.getElem?_range (show i < n + 1 by omega), Option.map_some]
theorem lst_ext {n : Nat} {S S' : Nat → Prop} (h : ∀ i, i ≤ n → (S i ↔ S' i)) : lst n S = lst n S' := by
  unfold lst
  refine List.map_congr_left fun i hi => ?_
  have := h i (by simp at hi; omega)
  rw [show S i = S' i from propext this]
theorem lst_eq {n : Nat} {S S' : Nat → Prop} (h : lst n S = lst n S') {i : Nat} (hi : i ≤ n) : S i ↔ S' i := by
  have h1 := lst_get (S := S) hi
  rw [h, lst_get hi] at h1
  injection h1 with h1
  constructor
  · intro h2; exact of_yes (h1.trans (yes_t h2))
  · intro h2; exact of_yes (h1.symm.trans (yes_t h2))
end Pv

namespace Pv
open Go Go.RowKit

/-- Edges: from, by a set (none: free), to. -/
abbrev Gr := Nat → Option (List Rng) → Nat → Prop
def EdgA (a : Au) : Gr := fun s l t => ∃ es x, a[s]? = some es ∧ x ∈ es ∧ x.to = (t : Int) ∧ l = (if x.free then none else some x.set)
section
variable (pts : List Int)
def StG (G : Gr) (u i v j : Nat) : Prop := (G u none v ∧ j = i) ∨ ∃ s p, G u (some s) v ∧ pts[i]? = some p ∧ InSet s p ∧ j = i + 1
/-- Ways. -/
inductive Pt (G : Gr) : Nat → Nat → Nat → Nat → Prop where
  | nil (u i : Nat) : Pt G u i u i
  | cons {u i v j x k : Nat} (h : StG pts G u i v j) (r : Pt G v j x k) : Pt G u i x k
end
section
variable {pts : List Int} {G G1 G2 : Gr}
theorem StG.mono (h : ∀ u l v, G1 u l v → G2 u l v) {u i v j : Nat} (k : StG pts G1 u i v j) : StG pts G2 u i v j := by
  rcases k with ⟨k1, k2⟩ | ⟨s, p, k1, k2⟩
  · exact .inl ⟨h _ _ _ k1, k2⟩
  · exact .inr ⟨s, p, h _ _ _ k1, k2⟩
theorem StG.edge {u i v j : Nat} (k : StG pts G u i v j) : ∃ l, G u l v := by
  rcases k with ⟨k1, _⟩ | ⟨s, p, k1, _⟩
  · exact ⟨_, k1⟩
  · exact ⟨_, k1⟩
theorem StG.or {u i v j : Nat} (k : StG pts (fun u l v => G1 u l v ∨ G2 u l v) u i v j) : StG pts G1 u i v j ∨ StG pts G2 u i v j := by
  rcases k with ⟨k1 | k1, k2⟩ | ⟨s, p, k1 | k1, k2⟩
  · exact .inl (.inl ⟨k1, k2⟩)
  · exact .inr (.inl ⟨k1, k2⟩)
  · exact .inl (.inr ⟨s, p, k1, k2⟩)
  · exact .inr (.inr ⟨s, p, k1, k2⟩)
theorem Pt.trans {u i v j x k : Nat} (h : Pt pts G u i v j) (r : Pt pts G v j x k) : Pt pts G u i x k := by
  induction h with
  | nil => exact r
  | cons h _ ih => exact .cons h (ih r)
theorem Pt.mono (h : ∀ u l v, G1 u l v → G2 u l v) {u i v j : Nat} (k : Pt pts G1 u i v j) : Pt pts G2 u i v j := by
  induction k with
  | nil => exact .nil _ _
  | cons h1 _ ih => exact .cons (h1.mono h) ih
theorem Pt.one {u i v j : Nat} (h : StG pts G u i v j) : Pt pts G u i v j := .cons h (.nil _ _)
end

/-- Edges laid from s: into new places b to c alone; what stands between s and e is L. -/
structure Fr (pts : List Int) (G : Gr) (b c s e : Nat) (L : Nat → Nat → Prop) : Prop where
  src : ∀ u l v, G u l v → u = s ∨ (b ≤ u ∧ u < c)
  tgt : ∀ u l v, G u l v → b ≤ v ∧ v < c
  lo : s < b
  le : b ≤ c
  en : e = s ∨ (b ≤ e ∧ e < c)
  lang : ∀ i j, Pt pts G s i e j ↔ L i j
/-- .. many ends. -/
structure FrL (pts : List Int) (G : Gr) (b c s : Nat) (es : List Nat) (L : Nat → Nat → Prop) : Prop where
  src : ∀ u l v, G u l v → u = s ∨ (b ≤ u ∧ u < c)
  tgt : ∀ u l v, G u l v → b ≤ v ∧ v < c
  lo : s < b
  le : b ≤ c
  en : ∀ e, e ∈ es → e = s ∨ (b ≤ e ∧ e < c)
  lang : ∀ i j, (∃ e, e ∈ es ∧ Pt pts G s i e j) ↔ L i j
abbrev Gor (G1 G2 : Gr) : Gr := fun u l v => G1 u l v ∨ G2 u l v
section
variable {pts : List Int} {G G1 G2 : Gr} {b c m s e q : Nat} {L L1 L2 : Nat → Nat → Prop} {es : List Nat}
theorem Fr.ext (h : Fr pts G b c s e L) (hL : ∀ i j, L i j ↔ L1 i j) : Fr pts G b c s e L1 := ⟨h.src, h.tgt, h.lo, h.le, h.en, fun i j => (h.lang i j).trans (hL i j)⟩
theorem FrL.ext (h : FrL pts G b c s es L) (hL : ∀ i j, L i j ↔ L1 i j) : FrL pts G b c s es L1 := ⟨h.src, h.tgt, h.lo, h.le, h.en, fun i j => (h.lang i j).trans (hL i j)⟩
/-- nothing comes back to where it began -/
theorem stay_nil (ht : ∀ u l v, G u l v → b ≤ v ∧ v < c) (hs : s < b) {u i x j : Nat} (h : Pt pts G u i x j) : x = s → u = s ∧ i = j := by
  induction h with
  | nil => intro e; exact ⟨e, rfl⟩
  | cons h1 _ ih =>
    intro e
    obtain ⟨l, hl⟩ := h1.edge
    have h2 := ht _ _ _ hl
    have h3 := (ih e).1
    omega
theorem Fr.none (pts : List Int) {b s : Nat} (h : s < b) : Fr pts (fun _ _ _ => False) b b s s (fun i j => i = j) :=
  ⟨fun _ _ _ h => h.elim, fun _ _ _ h => h.elim, h, Nat.le_refl _, .inl rfl, fun _i _j => ⟨fun h1 => (stay_nil (b := b) (c := b) (fun _ _ _ h => h.elim) h h1 rfl).2, fun e => e ▸ .nil _ _⟩⟩
/-- one behind the other -/
theorem comp_path (hs1 : ∀ u l v, G1 u l v → u = s ∨ (b ≤ u ∧ u < m)) (ht1 : ∀ u l v, G1 u l v → b ≤ v ∧ v < m) (h0 : s < b) (hbm : b ≤ m)
    (hs2 : ∀ u l v, G2 u l v → u = q ∨ (m ≤ u ∧ u < c)) (ht2 : ∀ u l v, G2 u l v → m ≤ v ∧ v < c) (hq : q < m) (he : e = q ∨ (m ≤ e ∧ e < c)) {u i x j : Nat} (h : Pt pts (Gor G1 G2) u i x j) :
    x = e → ((u = s ∨ (b ≤ u ∧ u < m)) → ∃ k, Pt pts G1 u i q k ∧ Pt pts G2 q k e j) ∧ ((m ≤ u ∧ u < c) → Pt pts G2 u i e j) := by
  induction h with
  | nil u i =>
    rintro rfl
    refine ⟨fun hu => ?_, fun _ => .nil _ _⟩
    obtain rfl : u = q := by omega
    exact ⟨i, .nil _ _, .nil _ _⟩
  | cons h1 _ ih =>
    intro hx
    obtain ⟨ih1, ih2⟩ := ih hx
    rcases h1.or with h2 | h2
    · obtain ⟨l, hl⟩ := h2.edge
      have k1 := hs1 _ _ _ hl; have k2 := ht1 _ _ _ hl
      refine ⟨fun _ => ?_, fun hu => by omega⟩
      obtain ⟨k, p1, p2⟩ := ih1 (.inr k2)
      exact ⟨k, .cons h2 p1, p2⟩
    · obtain ⟨l, hl⟩ := h2.edge
      have k1 := hs2 _ _ _ hl; have k2 := ht2 _ _ _ hl
      have p := ih2 k2
      refine ⟨fun hu => ?_, fun _ => .cons h2 p⟩
      rcases k1 with rfl | k1
      · exact ⟨_, .nil _ _, .cons h2 p⟩
      · omega
theorem Fr.comp (h1 : Fr pts G1 b m s q L1) (h2 : Fr pts G2 m c q e L2) : Fr pts (Gor G1 G2) b c s e (fun i j => ∃ k, L1 i k ∧ L2 k j) := by
  have e1 := h1.en; have e2 := h2.en; have l1 := h1.lo; have l2 := h2.lo; have n1 := h1.le; have n2 := h2.le
  refine ⟨fun u l v h => ?_, fun u l v h => ?_, h1.lo, by omega, by omega, fun i j => ⟨fun h => ?_, ?_⟩⟩
  · rcases h with h | h
    · have := h1.src u l v h; omega
    · have := h2.src u l v h; omega
  · rcases h with h | h
    · have := h1.tgt u l v h; omega
    · have := h2.tgt u l v h; omega
  · obtain ⟨k, p1, p2⟩ := (comp_path h1.src h1.tgt h1.lo h1.le h2.src h2.tgt h2.lo h2.en h rfl).1 (.inl rfl)
    exact ⟨k, (h1.lang _ _).1 p1, (h2.lang _ _).1 p2⟩
  · rintro ⟨k, p1, p2⟩
    exact (((h1.lang _ _).2 p1).mono fun _ _ _ h => Or.inl h).trans (((h2.lang _ _).2 p2).mono fun _ _ _ h => Or.inr h)
theorem FrL.comp (h1 : Fr pts G1 b m s q L1) (h2 : FrL pts G2 m c q es L2) : FrL pts (Gor G1 G2) b c s (s :: es) (fun i j => i = j ∨ ∃ k, L1 i k ∧ L2 k j) := by
  have e1 := h1.en; have l1 := h1.lo; have l2 := h2.lo; have n1 := h1.le; have n2 := h2.le
  have ht : ∀ u l v, Gor G1 G2 u l v → b ≤ v ∧ v < c := fun u l v h => by
    rcases h with h | h
    · have := h1.tgt u l v h; omega
    · have := h2.tgt u l v h; omega
  refine ⟨fun u l v h => ?_, ht, h1.lo, by omega, fun x hx => ?_, fun i j => ⟨?_, ?_⟩⟩
  · rcases h with h | h
    · have := h1.src u l v h; omega
    · have := h2.src u l v h; omega
  · rcases List.mem_cons.1 hx with rfl | hx
    · exact .inl rfl
    · have := h2.en x hx; omega
  · rintro ⟨x, hx, p⟩
    rcases List.mem_cons.1 hx with rfl | hx
    · exact .inl (stay_nil ht h1.lo p rfl).2
    · obtain ⟨k, p1, p2⟩ := (comp_path h1.src h1.tgt h1.lo h1.le h2.src h2.tgt h2.lo (h2.en x hx) p rfl).1 (.inl rfl)
      exact .inr ⟨k, (h1.lang _ _).1 p1, (h2.lang _ _).1 ⟨x, hx, p2⟩⟩
  · rintro (rfl | ⟨k, p1, p2⟩)
    · exact ⟨s, by simp, .nil _ _⟩
    · obtain ⟨x, hx, p3⟩ := (h2.lang _ _).2 p2
      exact ⟨x, by simp [hx], (((h1.lang _ _).2 p1).mono fun _ _ _ h => Or.inl h).trans (p3.mono fun _ _ _ h => Or.inr h)⟩
theorem FrL.one (pts : List Int) {b s : Nat} (h : s < b) : FrL pts (fun _ _ _ => False) b b s [s] (fun i j => i = j) := by
  have k := Fr.none pts h
  exact ⟨k.src, k.tgt, k.lo, k.le, fun x hx => .inl (by simpa using hx), fun i j => by simpa using k.lang i j⟩
theorem FrL.none (pts : List Int) {b s : Nat} (h : s < b) : FrL pts (fun _ _ _ => False) b b s [] (fun _ _ => False) := by
  have k := Fr.none pts h
  exact ⟨k.src, k.tgt, k.lo, k.le, fun x hx => by simp at hx, fun i j => by simp⟩
/-- side by side -/
theorem far_path (_hs2 : ∀ u l v, G2 u l v → u = s ∨ (m ≤ u ∧ u < c)) (ht2 : ∀ u l v, G2 u l v → m ≤ v ∧ v < c) (hs1 : ∀ u l v, G1 u l v → u = s ∨ (b ≤ u ∧ u < m)) (h0 : s < m) {u i x j : Nat} (h : Pt pts (Gor G1 G2) u i x j) : m ≤ u ∧ u < c → (m ≤ x ∧ x < c) ∧ Pt pts G2 u i x j := by
  induction h with
  | nil => exact fun h => ⟨h, .nil _ _⟩
  | cons h1 _ ih =>
    intro hu
    rcases h1.or with h2 | h2
    · obtain ⟨l, hl⟩ := h2.edge
      have := hs1 _ _ _ hl
      exact absurd hu (by omega)
    · obtain ⟨l, hl⟩ := h2.edge
      obtain ⟨k1, k2⟩ := ih (ht2 _ _ _ hl)
      exact ⟨k1, .cons h2 k2⟩
theorem near_path (hs1 : ∀ u l v, G1 u l v → u = s ∨ (b ≤ u ∧ u < m)) (ht1 : ∀ u l v, G1 u l v → b ≤ v ∧ v < m) (hs2 : ∀ u l v, G2 u l v → u = s ∨ (m ≤ u ∧ u < c)) (ht2 : ∀ u l v, G2 u l v → m ≤ v ∧ v < c) (h0 : s < b) (hbm : b ≤ m) {u i x j : Nat} (h : Pt pts (Gor G1 G2) u i x j) :
    (x = s ∨ (b ≤ x ∧ x < m)) → (u = s ∨ (b ≤ u ∧ u < m)) → Pt pts G1 u i x j := by
  induction h with
  | nil => exact fun _ _ => .nil _ _
  | cons h1 hr ih =>
    intro hx hu
    rcases h1.or with h2 | h2
    · obtain ⟨l, hl⟩ := h2.edge
      exact .cons h2 (ih hx (.inr (ht1 _ _ _ hl)))
    · obtain ⟨l, hl⟩ := h2.edge
      have := (far_path hs2 ht2 hs1 (by omega) hr (ht2 _ _ _ hl)).1
      omega
theorem FrL.alt (h1 : Fr pts G1 b m s e L1) (h2 : FrL pts G2 m c s es L2) : FrL pts (Gor G1 G2) b c s (e :: es) (fun i j => L1 i j ∨ L2 i j) := by
  have e1 := h1.en; have l1 := h1.lo; have l2 := h2.lo; have n1 := h1.le; have n2 := h2.le
  have ht : ∀ u l v, Gor G1 G2 u l v → b ≤ v ∧ v < c := fun u l v h => by
    rcases h with h | h
    · have := h1.tgt u l v h; omega
    · have := h2.tgt u l v h; omega
  refine ⟨fun u l v h => ?_, ht, h1.lo, by omega, fun x hx => ?_, fun i j => ⟨?_, ?_⟩⟩
  · rcases h with h | h
    · have := h1.src u l v h; omega
    · have := h2.src u l v h; omega
  · rcases List.mem_cons.1 hx with rfl | hx
    · omega
    · have := h2.en x hx; omega
  · rintro ⟨x, hx, p⟩
    rcases List.mem_cons.1 hx with rfl | hx
    · exact .inl ((h1.lang _ _).1 (near_path h1.src h1.tgt h2.src h2.tgt h1.lo h1.le p h1.en (.inl rfl)))
    · refine .inr ((h2.lang _ _).1 ⟨x, hx, ?_⟩)
      have key : ∀ {u i x j : Nat}, Pt pts (Gor G1 G2) u i x j → u = s → (x = s ∨ (m ≤ x ∧ x < c)) → Pt pts G2 u i x j := by
        intro u i x j h
        cases h with
        | nil => exact fun _ _ => .nil _ _
        | cons k1 kr =>
          intro hu hx
          rcases k1.or with h2' | h2'
          · obtain ⟨l, hl⟩ := h2'.edge
            have hv := h1.tgt _ _ _ hl
            exfalso
            have stays : ∀ {u i x j : Nat}, Pt pts (Gor G1 G2) u i x j → b ≤ u ∧ u < m → b ≤ x ∧ x < m := by
              intro u i x j h
              induction h with
              | nil => exact id
              | cons k1 _ ih =>
                intro hu
                rcases k1.or with h3 | h3
                · obtain ⟨l, hl⟩ := h3.edge
                  exact ih (h1.tgt _ _ _ hl)
                · obtain ⟨l, hl⟩ := h3.edge
                  have := h2.src _ _ _ hl
                  omega
            have := stays kr hv
            omega
          · obtain ⟨l, hl⟩ := h2'.edge
            exact .cons h2' (far_path h2.src h2.tgt h1.src (by omega) kr (h2.tgt _ _ _ hl)).2
      exact key p rfl (h2.en x hx)
  · rintro (p | p)
    · exact ⟨e, by simp, ((h1.lang _ _).2 p).mono fun _ _ _ h => Or.inl h⟩
    · obtain ⟨x, hx, p3⟩ := (h2.lang _ _).2 p
      exact ⟨x, by simp [hx], p3.mono fun _ _ _ h => Or.inr h⟩
/-- all ends joined -/
theorem FrL.join (h : FrL pts G b c s es L) : Fr pts (Gor G (fun u l v => u ∈ es ∧ l = Option.none ∧ v = c)) b (c + 1) s c L := by
  have l1 := h.lo; have n1 := h.le
  have key : ∀ {u i x j : Nat}, Pt pts (Gor G (fun u l v => u ∈ es ∧ l = Option.none ∧ v = c)) u i x j → x = c → u ≠ c → ∃ e, e ∈ es ∧ Pt pts G u i e j := by
    intro u i x j p
    induction p with
    | nil => intro h1 h2; exact absurd h1 h2
    | cons k1 kr ih =>
      intro hx hu
      rcases k1.or with h3 | h3
      · obtain ⟨l, hl⟩ := h3.edge
        have := h.tgt _ _ _ hl
        obtain ⟨x, hx, p⟩ := ih hx (by omega)
        exact ⟨x, hx, .cons h3 p⟩
      · rcases h3 with ⟨⟨h4, _, h5⟩, h6⟩ | ⟨_, _, ⟨_, h7, _⟩, _⟩
        · subst h5; subst h6
          cases kr with
          | nil => exact ⟨_, h4, .nil _ _⟩
          | cons k2 _ =>
            obtain ⟨l, hl⟩ := k2.edge
            rcases hl with hl | hl
            · have := h.src _ _ _ hl; omega
            · have := h.en _ hl.1; omega
        · cases h7
  refine ⟨fun u l v k => ?_, fun u l v k => ?_, h.lo, by omega, .inr ⟨by omega, by omega⟩, fun i j => ⟨fun p => (h.lang _ _).1 (key p rfl (by omega)), fun p => ?_⟩⟩
  · rcases k with k | k
    · have := h.src _ _ _ k; omega
    · have := h.en _ k.1; omega
  · rcases k with k | k
    · have := h.tgt _ _ _ k; omega
    · have := k.2.2; omega
  · obtain ⟨x, hx, p⟩ := (h.lang _ _).2 p
    exact (p.mono fun _ _ _ h => Or.inl h).trans (.one (.inl ⟨.inr ⟨hx, rfl, rfl⟩, rfl⟩))
/-- so often, told from the front -/
def PwL (A : Nat → Nat → Prop) : Nat → Nat → Nat → Prop
  | 0, i, j => i = j
  | k + 1, i, j => ∃ m, A i m ∧ PwL A k m j
theorem pwL_iff {A : Nat → Nat → Prop} : ∀ (k i j : Nat), PwL A k i j ↔ Pw A k i j
  | 0, _, _ => Iff.rfl
  | k + 1, i, j => by
    rw [show k + 1 = 1 + k by omega, Pw.add, show 1 + k = k + 1 by omega]
    unfold PwL
    constructor
    · rintro ⟨m, h1, h2⟩; exact ⟨m, ⟨i, rfl, h1⟩, (pwL_iff k m j).1 h2⟩
    · rintro ⟨m, ⟨_, rfl, h1⟩, h2⟩; exact ⟨m, h1, (pwL_iff k m j).2 h2⟩
/-- again and again without end -/
theorem Fr.star (hq : q < b) (h : Fr pts G (b + 1) c b e L) : Fr pts (Gor (Gor (fun u l v => u = q ∧ l = Option.none ∧ v = b) G) (fun u l v => u = e ∧ l = Option.none ∧ v = b)) b c q b (fun i j => ∃ k, Pw L k i j) := by
  have l1 := h.lo; have n1 := h.le; have e1 := h.en
  generalize hG : (Gor (Gor (fun u l v => u = q ∧ l = Option.none ∧ v = b) G) (fun u l v => u = e ∧ l = Option.none ∧ v = b)) = GG
  have hor : ∀ {u i v j : Nat}, StG pts GG u i v j → (u = q ∧ v = b ∧ j = i) ∨ StG pts G u i v j ∨ (u = e ∧ v = b ∧ j = i) := by
    intro u i v j k
    rw [← hG] at k
    rcases k.or with k | k
    · rcases k.or with k | k
      · rcases k with ⟨⟨k1, _, k2⟩, k3⟩ | ⟨_, _, ⟨_, k2, _⟩, _⟩
        · exact .inl ⟨k1, k2, k3⟩
        · cases k2
      · exact .inr (.inl k)
    · rcases k with ⟨⟨k1, _, k2⟩, k3⟩ | ⟨_, _, ⟨_, k2, _⟩, _⟩
      · exact .inr (.inr ⟨k1, k2, k3⟩)
      · cases k2
  have key : ∀ {u i x j : Nat}, Pt pts GG u i x j → x = b → (u = q → ∃ k, PwL L k i j) ∧ (u = b → ∃ k, PwL L k i j) ∧ (b + 1 ≤ u ∧ u < c → ∃ k m, Pt pts G u i e m ∧ PwL L k m j) := by
    intro u i x j p
    induction p with
    | nil u i => rintro rfl; exact ⟨fun _ => ⟨0, rfl⟩, fun _ => ⟨0, rfl⟩, fun h => absurd h.1 (by omega)⟩
    | cons k1 kr ih =>
      intro hx
      obtain ⟨i1, i2, i3⟩ := ih hx
      rcases hor k1 with ⟨h1, h2, h3⟩ | h2 | ⟨h1, h2, h3⟩
      · subst h3
        exact ⟨fun _ => i2 h2, fun h => absurd h (by omega), fun h => absurd h.1 (by omega)⟩
      · obtain ⟨l, hl⟩ := h2.edge
        have t1 := h.tgt _ _ _ hl; have t2 := h.src _ _ _ hl
        obtain ⟨k, m, p1, p2⟩ := i3 t1
        refine ⟨fun h => absurd h (by omega), fun hu => ?_, fun _ => ⟨k, m, .cons h2 p1, p2⟩⟩
        subst hu
        exact ⟨k + 1, m, (h.lang _ _).1 (.cons h2 p1), p2⟩
      · subst h3
        obtain ⟨k, p2⟩ := i2 h2
        refine ⟨fun h => absurd h (by omega), fun _ => ⟨k, p2⟩, fun _ => ⟨k, _, ?_, p2⟩⟩
        subst h1
        exact .nil _ _
  refine ⟨fun u l v k => ?_, fun u l v k => ?_, hq, by omega, .inr ⟨by omega, by omega⟩, fun i j => ⟨fun p => ?_, ?_⟩⟩
  · rw [← hG] at k
    rcases k with (k | k) | k
    · exact .inl k.1
    · have := h.src _ _ _ k; omega
    · have := k.1; omega
  · rw [← hG] at k
    rcases k with (k | k) | k
    · have := k.2.2; omega
    · have := h.tgt _ _ _ k; omega
    · have := k.2.2; omega
  · obtain ⟨k, p⟩ := (key p rfl).1 rfl
    exact ⟨k, (pwL_iff _ _ _).1 p⟩
  · rintro ⟨k, p⟩
    have back : ∀ (k i j : Nat), PwL L k i j → Pt pts GG b i b j := fun k => by
      induction k with
      | zero => rintro i j h; obtain rfl : i = j := h; exact .nil _ _
      | succ k ih =>
        rintro i j ⟨m, h1, h2⟩
        exact (((h.lang _ _).2 h1).mono (G2 := GG) fun u l v h => hG ▸ Or.inl (Or.inr h)).trans (.cons (.inl ⟨hG ▸ .inr ⟨rfl, rfl, rfl⟩, rfl⟩) (ih _ _ h2))
    exact .cons (.inl ⟨hG ▸ .inl (.inl ⟨rfl, rfl, rfl⟩), rfl⟩) (back k i j ((pwL_iff _ _ _).2 p))
end
end Pv

namespace Pv
open Go Go.RowKit
mutual
/-- A tree is told by its nodes. -/
theorem flat_one : ∀ (T T' : Tr) (d d' : Nat) (r r' : List Rx), T.Ok d → T'.Ok d' → T.flat ++ r = T'.flat ++ r' → T = T' ∧ r = r'
  | .mk x ks, .mk x' ks', d, d', r, r', h, h', e => by
    simp only [Tr.flat, List.cons_append, List.cons.injEq] at e
    obtain ⟨rfl, e⟩ := e
    have hl := h.len; have hl' := h'.len
    obtain ⟨e1, e2⟩ := flats_one ks ks' (d - 1) (d' - 1) r r' (by omega) (fun k hk => h.kid hk) (fun k hk => h'.kid hk) e
    exact ⟨by rw [e1], e2⟩
theorem flats_one : ∀ (ks ks' : List Tr) (d d' : Nat) (r r' : List Rx), ks.length = ks'.length → (∀ k, k ∈ ks → k.Ok d) → (∀ k, k ∈ ks' → k.Ok d') → flats ks ++ r = flats ks' ++ r' → ks = ks' ∧ r = r'
  | [], [], _, _, r, r', _, _, _, e => ⟨rfl, by simpa [flats] using e⟩
  | k :: ks, k' :: ks', d, d', r, r', hl, h, h', e => by
    simp only [flats, List.append_assoc] at e
    obtain ⟨e1, e2⟩ := flat_one k k' d d' _ _ (h k (by simp)) (h' k' (by simp)) e
    obtain ⟨e3, e4⟩ := flats_one ks ks' d d' r r' (by simpa using hl) (fun j hj => h j (by simp [hj])) (fun j hj => h' j (by simp [hj])) e2
    exact ⟨by rw [e1, e3], e4⟩
  | [], _ :: _, _, _, _, _, hl, _, _, _ => by simp at hl
  | _ :: _, [], _, _, _, _, hl, _, _, _ => by simp at hl
end
theorem flat_inj {T T' : Tr} {d d' : Nat} (h : T.Ok d) (h' : T'.Ok d') (e : T.flat = T'.flat) : T = T' := (flat_one T T' d d' [] [] h h' (by rw [e])).1
end Pv

namespace Pv
open Go Go.RowKit

/-- The places of a set, rising. -/
noncomputable def upTo (S : Nat → Prop) (k : Nat) : List Int := ((List.range k).filter fun i => yes (S i)).map fun (i : Nat) => (i : Int)
theorem upTo_yes {S : Nat → Prop} {k : Nat} (h : S k) : upTo S (k + 1) = upTo S k ++ [(k : Int)] := by
  simp [upTo, List.range_succ, List.filter_append, yes_t h]
theorem upTo_no {S : Nat → Prop} {k : Nat} (h : ¬ S k) : upTo S (k + 1) = upTo S k := by
  simp [upTo, List.range_succ, List.filter_append, yes_f h]
theorem upTo_len (S : Nat → Prop) (k : Nat) : (upTo S k).length ≤ k := by
  have := List.length_filter_le (fun i => yes (S i)) (List.range k)
  simpa [upTo] using this
theorem upTo_mem {S : Nat → Prop} {k : Nat} {z : Int} : z ∈ upTo S k ↔ ∃ i : Nat, i < k ∧ S i ∧ z = (i : Int) := by
  simp only [upTo, List.mem_map, List.mem_filter, List.mem_range]
  constructor
  · rintro ⟨i, ⟨h1, h2⟩, h3⟩; exact ⟨i, h1, of_yes h2, h3.symm⟩
  · rintro ⟨i, h1, h2, h3⟩; exact ⟨i, ⟨h1, yes_t h2⟩, h3.symm⟩
/-- What In answers. -/
def BIn (t : List Rx) (pts : List Int) (r : Bool × Int) : Prop :=
  (¬ Pat t ∧ r = (false, 8)) ∨ (Pat t ∧ 1024 < pts.length ∧ r = (false, 4)) ∨ (Pat t ∧ pts.length ≤ 1024 ∧ ∃ T : Tr, T.Ok 16 ∧ t = T.flat ∧ r = (yes (spT pts T 0 pts.length), 0))
/-- What Ends answers. -/
def BEnds (t : List Rx) (pts : List Int) (at' : Int) (r : List Int × Int) : Prop :=
  (¬ Pat t ∧ r = ([], 8)) ∨ (Pat t ∧ 1024 < pts.length ∧ r = ([], 4)) ∨ (Pat t ∧ pts.length ≤ 1024 ∧ (at' < 0 ∨ (pts.length : Int) < at') ∧ r = ([], 2)) ∨
    (Pat t ∧ pts.length ≤ 1024 ∧ ∃ (T : Tr) (a : Nat), at' = a ∧ a ≤ pts.length ∧ T.Ok 16 ∧ t = T.flat ∧ r = (upTo (spT pts T a) (pts.length + 1), 0))
end Pv
