/- What is repeated is once, and then again. Nothing of a program stands here. -/
import Derived.Test.YtcmmmgblkbbdnaaGreatDoorTi0h
import Derived.Test.YtcmmmgblkbbdnaaGreatDoorRxh
import Derived.Test.YtcmmmgblkbbdnaaGreatDoorAuh
namespace Pv
open Go Go.RowKit

theorem Pat.of_tree {T : Tr} (h : T.Ok 16) (hl : T.size ≤ 64) : Pat T.flat := by
  refine ⟨fun e => ?_, hl, ?_⟩
  · have := T.size_pos
    unfold Tr.size at this
    rw [e] at this
    simp at this
  · have := tree_behind (t := T.flat) (i := 0) (r := []) h (by simp)
    rw [this, Nat.zero_add]
    rfl
end Pv

namespace Pv
open Go Go.RowKit

section
variable {F : Nat → Nat → Prop} {A : Nat → Nat → Prop}
theorem Fs.stay (hs : ∀ k j, F (k + 1) j ↔ im A (F k) j) {k : Nat} (h : ∀ j, F (k + 1) j ↔ F k j) : ∀ d j, F (k + d) j ↔ F k j
  | 0, j => Iff.rfl
  | d + 1, j => by
    rw [← h j]
    show F (k + d + 1) j ↔ F (k + 1) j
    rw [hs, hs]
    constructor
    · rintro ⟨i, h1, h2⟩; exact ⟨i, (Fs.stay hs h d i).1 h1, h2⟩
    · rintro ⟨i, h1, h2⟩; exact ⟨i, (Fs.stay hs h d i).2 h1, h2⟩
theorem Fs.shut (hs : ∀ k j, F (k + 1) j ↔ im A (F k) j) {l c : Nat} (hlc : l ≤ c) (h : ∀ j, F (c + 1) j → ∃ k, l ≤ k ∧ k ≤ c ∧ F k j) : ∀ m j, l ≤ m → F m j → ∃ k, l ≤ k ∧ k ≤ c ∧ F k j
  | m, j, hl, hf => by
    by_cases hm : m ≤ c
    · exact ⟨m, hl, hm, hf⟩
    · match m, hl, hf, hm with
      | 0, _, _, hm => omega
      | m + 1, hl, hf, hm =>
        by_cases hml : l ≤ m
        · obtain ⟨i, h1, h2⟩ := (hs m j).1 hf
          obtain ⟨k, h3, h4, h5⟩ := Fs.shut hs hlc h m i hml h1
          have h6 : F (k + 1) j := (hs k j).2 ⟨i, h5, h2⟩
          by_cases hk : k + 1 ≤ c
          · exact ⟨k + 1, by omega, hk, h6⟩
          · obtain rfl : k = c := by omega
            exact h j h6
        · exfalso; omega
end
theorem im_pw {A : Nat → Nat → Prop} {S : Nat → Prop} (k j : Nat) : im (Pw A (k + 1)) S j ↔ im A (im (Pw A k) S) j := by
  constructor
  · rintro ⟨i, h1, m, h2, h3⟩; exact ⟨m, ⟨i, h1, h2⟩, h3⟩
  · rintro ⟨m, ⟨i, h1, h2⟩, h3⟩; exact ⟨i, h1, m, h2, h3⟩
theorem im_pw0 {A : Nat → Nat → Prop} {S : Nat → Prop} (j : Nat) : im (Pw A 0) S j ↔ S j := by
  constructor
  · rintro ⟨i, h1, h2⟩; simp only [Pw] at h2; subst h2; exact h1
  · intro h; exact ⟨j, h, rfl⟩
theorem im_ag {A : Nat → Nat → Prop} {S : Nat → Prop} {l : Nat} {m : Int} (j : Nat) : im (Ag A l m) S j ↔ ∃ k : Nat, l ≤ k ∧ (m < 0 ∨ (k : Int) ≤ m) ∧ im (Pw A k) S j := by
  constructor
  · rintro ⟨i, h1, k, h2, h3, h4⟩; exact ⟨k, h2, h3, i, h1, h4⟩
  · rintro ⟨k, h2, h3, i, h1, h4⟩; exact ⟨i, h1, k, h2, h3, h4⟩
/-- How many places of 0 .. n. -/
noncomputable def cnt (n : Nat) (S : Nat → Prop) : Nat := (List.range (n + 1)).countP fun i => yes (S i)
theorem cnt_le (n : Nat) (S : Nat → Prop) : cnt n S ≤ n + 1 := by
  have := List.countP_le_length (p := fun i => yes (S i)) (l := List.range (n + 1))
  simpa [cnt] using this
theorem countP_lt {S S' : Nat → Prop} (h : ∀ i, S i → S' i) : ∀ l : List Nat, (∃ i, i ∈ l ∧ S' i ∧ ¬ S i) → (l.countP fun i => yes (S i)) < l.countP fun i => yes (S' i)
  | [], ⟨i, hi, _⟩ => by simp at hi
  | x :: l, ⟨i, hi, h1, h2⟩ => by
    have hle : ∀ l : List Nat, (l.countP fun i => yes (S i)) ≤ l.countP fun i => yes (S' i) := fun l => List.countP_mono_left fun i _ hi => yes_t (h i (of_yes hi))
    rw [List.countP_cons, List.countP_cons]
    rcases List.mem_cons.1 hi with rfl | hi
    · rw [yes_t h1, yes_f h2]
      have := hle l
      simp; omega
    · have := countP_lt h l ⟨i, hi, h1, h2⟩
      by_cases hx : S x
      · rw [yes_t hx, yes_t (h x hx)]; simp; omega
      · rw [yes_f hx]; simp; omega
theorem cnt_lt {n : Nat} {S S' : Nat → Prop} (h : ∀ i, S i → S' i) {i : Nat} (hi : i ≤ n) (h1 : S' i) (h2 : ¬ S i) : cnt n S < cnt n S' := countP_lt h _ ⟨i, by simp; omega, h1, h2⟩
end Pv

namespace Pv
open Go Go.RowKit
theorem sizes_mem {k : Tr} : ∀ {ks : List Tr}, k ∈ ks → k.size ≤ sizes ks
  | j :: ks, h => by
    rw [sizes_cons]
    rcases List.mem_cons.1 h with rfl | h
    · omega
    · have := sizes_mem h; omega
theorem length_sizes : ∀ ks : List Tr, ks.length ≤ sizes ks
  | [] => by simp
  | k :: ks => by rw [sizes_cons, List.length_cons]; have := length_sizes ks; have := k.size_pos; omega

theorem kids_at {t : List Rx} {ks : List Tr} {i : Nat} {r : List Rx} (hd : t.drop i = flats ks ++ r) (hk : ∀ k, k ∈ ks → k.Ok 16) :
    ∀ j, j ≤ ks.length → again (behind t 16) j i = some (i + sizes (ks.take j)) ∧ t.drop (i + sizes (ks.take j)) = flats (ks.drop j) ++ r
  | 0, _ => ⟨by simp [again, sizes, flats], by simpa [sizes, flats] using hd⟩
  | j + 1, hj => by
    obtain ⟨h1, h2⟩ := kids_at hd hk j (by omega)
    have hg : ks.drop j = ks[j] :: ks.drop (j + 1) := List.drop_eq_getElem_cons (by omega)
    rw [hg] at h2
    simp only [flats, List.append_assoc] at h2
    have h3 := tree_behind (hk ks[j] (List.getElem_mem _)) h2
    have h4 : sizes (ks.take (j + 1)) = sizes (ks.take j) + ks[j].size := by
      show (flats (ks.take (j + 1))).length = (flats (ks.take j)).length + ks[j].flat.length
      rw [List.take_succ_eq_append_getElem (by omega), flats_app, List.length_append]
      simp only [flats, List.append_nil]
    refine ⟨?_, ?_⟩
    · rw [again_snoc, h1]
      show behind t 16 _ = _
      rw [h3, h4]; congr 1; omega
    · rw [h4, ← Nat.add_assoc]
      exact drop_app h2
theorem sizes_le {t : List Rx} {ks : List Tr} {i : Nat} {r : List Rx} (hd : t.drop i = flats ks ++ r) (j : Nat) (hi : i ≤ t.length) : i + sizes (ks.take j) ≤ t.length := by
  have h1 := congrArg List.length hd
  simp only [List.length_drop, List.length_append] at h1
  have h2 : sizes (ks.take j) + sizes (ks.drop j) = sizes ks := by
    rw [sizes, sizes, sizes, ← List.length_append, ← flats_app, List.take_append_drop]
  have h3 : sizes ks = (flats ks).length := rfl
  omega
theorem sizes_take_le {ks : List Tr} (j : Nat) : sizes (ks.take j) ≤ sizes ks := by
  have h2 : sizes (ks.take j) + sizes (ks.drop j) = sizes ks := by
    rw [sizes, sizes, sizes, ← List.length_append, ← flats_app, List.take_append_drop]
  omega

end Pv

namespace Pv
open Go Go.RowKit

def freesR (m : Nat) : Au → List Int → Au × Int
  | a, [] => (a, m)
  | a, e :: l => if e < 0 then (a, -1) else freesR m (auEdge a e.toNat ⟨m, true, []⟩) l
/-- What stands behind the ends: a state, its free edges, and what is again and again. -/
def shutR (x : Rx) (f : Au → Int → Au × Int) (r : Au × List Int) : Au × Int :=
  if (freesR r.1.length (r.1 ++ [[]]) r.2).2 < 0 then ((freesR r.1.length (r.1 ++ [[]]) r.2).1, -1)
  else if x.kind = 4 ∧ x.most < 0 then
    if (f (freesR r.1.length (r.1 ++ [[]]) r.2).1 r.1.length).2 < 0 then ((f (freesR r.1.length (r.1 ++ [[]]) r.2).1 r.1.length).1, -1)
    else (auEdge (f (freesR r.1.length (r.1 ++ [[]]) r.2).1 r.1.length).1 (f (freesR r.1.length (r.1 ++ [[]]) r.2).1 r.1.length).2.toNat ⟨r.1.length, true, []⟩, r.1.length)
  else ((freesR r.1.length (r.1 ++ [[]]) r.2).1, r.1.length)
def iterR (f : Au → Int → Au × Int) : Nat → Au → Int → Au × Int
  | 0, a, s => (a, s)
  | n + 1, a, s => f (iterR f n a s).1 (iterR f n a s).2
def itersR (f : Au → Int → Au × Int) : Nat → Au → Int → Au × List Int
  | 0, a, s => (a, [s])
  | n + 1, a, s => ((f (itersR f n a s).1 (iterR f n a s).2).1, (itersR f n a s).2 ++ [(f (itersR f n a s).1 (iterR f n a s).2).2])
theorem itersR_fst (f : Au → Int → Au × Int) : ∀ n a s, (itersR f n a s).1 = (iterR f n a s).1
  | 0, _, _ => rfl
  | n + 1, a, s => by simp only [itersR, iterR]; rw [itersR_fst f n a s]
mutual
def leadR : Tr → Au → Int → Au × Int
  | .mk x ks, a, s =>
    if s < 0 ∨ 256 < a.length then (a, -1)
    else if x.kind = 0 ∨ x.kind = 1 then (auEdge (a ++ [[]]) s.toNat ⟨a.length, x.kind == 0, x.set⟩, a.length)
    else if x.kind = 2 then catR ks a s
    else if x.kind = 3 then shutR x (leadHdR ks) (altR ks a s)
    else shutR x (leadHdR ks) (itersR (leadHdR ks) (x.most - x.least).toNat (iterR (leadHdR ks) x.least.toNat a s).1 (iterR (leadHdR ks) x.least.toNat a s).2)
def leadHdR : List Tr → Au → Int → Au × Int
  | [], a, s => (a, s)
  | k :: _, a, s => leadR k a s
def catR : List Tr → Au → Int → Au × Int
  | [], a, s => (a, s)
  | k :: ks, a, s => catR ks (leadR k a s).1 (leadR k a s).2
def altR : List Tr → Au → Int → Au × List Int
  | [], a, _ => (a, [])
  | k :: ks, a, s => ((altR ks (leadR k a s).1 s).1, (leadR k a s).2 :: (altR ks (leadR k a s).1 s).2)
end
theorem iter_snoc (f : Au → Nat → Au × Nat) : ∀ n a s, iter f (n + 1) a s = f (iter f n a s).1 (iter f n a s).2
  | 0, a, s => rfl
  | n + 1, a, s => by rw [iter, iter_snoc f n]; rfl
theorem iters_snoc (f : Au → Nat → Au × Nat) : ∀ n a s, iters f (n + 1) a s = ((f (iter f n a s).1 (iter f n a s).2).1, (iters f n a s).2 ++ [(f (iter f n a s).1 (iter f n a s).2).2])
  | 0, a, s => rfl
  | n + 1, a, s => by rw [iters, iters_snoc f n]; simp [iters, iter]
theorem iters_fst (f : Au → Nat → Au × Nat) : ∀ n a s, (iters f n a s).1 = (iter f n a s).1
  | 0, a, s => rfl
  | n + 1, a, s => by rw [iters, iters_fst f n]; rfl

/-- How many edges. -/
def edgesN (a : Au) : Nat := (a.map List.length).sum
theorem modify_sum (l : List Nat) (x : Nat) : ∀ i, i < l.length → (l.modify i (· + x)).sum = l.sum + x := by
  induction l with
  | nil => intro i h; simp at h
  | cons y l ih =>
    intro i h
    match i with
    | 0 => simp; omega
    | i + 1 => simp only [List.modify_succ_cons, List.sum_cons]; rw [ih i (by simpa using h)]; omega
theorem edgesN_edge (a : Au) (s : Nat) (x : Ed) (hs : s < a.length) : edgesN (auEdge a s x) = edgesN a + 1 := by
  have : (auEdge a s x).map List.length = (a.map List.length).modify s (· + 1) := by
    apply List.ext_getElem?
    intro i
    simp only [auEdge, List.getElem?_map, List.getElem?_modify]
    by_cases h : s = i <;> cases a[i]? <;> simp [h]
  rw [edgesN, this, modify_sum _ _ _ (by simpa using hs)]
  rfl
theorem edgesN_state (a : Au) : edgesN (a ++ [[]]) = edgesN a := by simp [edgesN]
theorem le_edgesN {a : Au} {s : Nat} {l : List Ed} (h : a[s]? = some l) : l.length ≤ edgesN a := by
  unfold edgesN
  induction a generalizing s with
  | nil => simp at h
  | cons y a ih =>
    match s with
    | 0 => simp at h; subst h; simp
    | s + 1 => have := ih (s := s) (by simpa using h); simp only [List.map_cons, List.sum_cons]; omega
/-- No more than 65 edges for each state that comes. -/
structure EL (a b : Au) : Prop where
  e : edgesN b + 65 * a.length ≤ edgesN a + 65 * b.length
  l : a.length ≤ b.length
theorem EL.refl (a : Au) : EL a a := ⟨Nat.le_refl _, Nat.le_refl _⟩
theorem EL.trans {a b c : Au} (h : EL a b) (k : EL b c) : EL a c := ⟨by have := h.e; have := k.e; omega, Nat.le_trans h.l k.l⟩

/-- The document's way against the clean one. -/
structure LOk (c dep : Nat) (F : Au → Nat → Au × Nat) (a : Au) (s : Int) (r : Au × Int) : Prop where
  yes : 0 ≤ r.2 → 0 ≤ s ∧ r.1 = (F a s.toNat).1 ∧ r.2 = ((F a s.toNat).2 : Nat)
  no : r.2 < 0 → r.2 = -1 ∧ (s < 0 ∨ 256 < a.length + c)
  lt : r.2 < r.1.length
  el : EL a r.1
  len : r.1.length ≤ max a.length 257 + dep
  stop : 256 < a.length → r.1 = a
def RLeads (c dep : Nat) (F : Au → Nat → Au × Nat) (f : Au → Int → Au × Int) : Prop := ∀ a s, -1 ≤ s → s < a.length → LOk c dep F a s (f a s)
theorem LOk.ge {c dep : Nat} {F : Au → Nat → Au × Nat} {a : Au} {s : Int} {r : Au × Int} (h : LOk c dep F a s r) : -1 ≤ r.2 := by
  rcases Int.lt_or_le r.2 0 with h1 | h1
  · have := (h.no h1).1; omega
  · omega
/-- one behind the other -/
theorem LOk.seq {c c' dep : Nat} {F F' : Au → Nat → Au × Nat} {a : Au} {s : Int} {r r' : Au × Int} (hF : Leads F c) (hs : s < a.length) (h : LOk c dep F a s r) (h' : LOk c' dep F' r.1 r.2 r') : LOk (c + c') dep (fun a s => F' (F a s).1 (F a s).2) a s r' := by
  refine ⟨fun h0 => ?_, fun h0 => ?_, h'.lt, h.el.trans h'.el, ?_, fun hl => ?_⟩
  · obtain ⟨g1, g2, g3⟩ := h'.yes h0
    obtain ⟨k1, k2, k3⟩ := h.yes g1
    refine ⟨k1, ?_, ?_⟩
    · rw [g2, k2, k3]; simp
    · rw [g3, k2, k3]; simp
  · refine ⟨(h'.no h0).1, ?_⟩
    rcases Int.lt_or_le r.2 0 with h1 | h1
    · rcases (h.no h1).2 with h2 | h2
      · exact .inl h2
      · exact .inr (by omega)
    · obtain ⟨k1, k2, k3⟩ := h.yes h1
      rcases (h'.no h0).2 with h2 | h2
      · omega
      · have := (hF a s.toNat (by omega)).1
        rw [k2, this] at h2
        exact .inr (by omega)
  · by_cases h1 : 256 < r.1.length
    · rw [h'.stop h1]; exact h.len
    · have := h'.len
      omega
  · rw [h'.stop (by rw [h.stop hl]; exact hl), h.stop hl]
theorem LOk.here (dep : Nat) (a : Au) (s : Int) (h1 : -1 ≤ s) (hs : s < a.length) : LOk 0 dep (fun a s => (a, s)) a s (a, s) :=
  ⟨fun h => ⟨h, rfl, by simp only; omega⟩, fun h => ⟨by simp only at h ⊢; omega, .inl h⟩, hs, EL.refl _, by simp only; omega, fun _ => rfl⟩
theorem RLeads.iterN {c dep : Nat} {F : Au → Nat → Au × Nat} {f : Au → Int → Au × Int} (hF : Leads F c) (h : RLeads c dep F f) : ∀ n, RLeads (c * n) dep (iter F n) (iterR f n)
  | 0 => fun a s h1 hs => by
    have : iter F 0 = fun a s => (a, s) := by funext a s; rfl
    rw [this, Nat.mul_zero]; exact LOk.here dep a s h1 hs
  | n + 1 => fun a s h1 hs => by
    have := LOk.seq (hF.iter n) hs (RLeads.iterN hF h n a s h1 hs) (h (iterR f n a s).1 (iterR f n a s).2 (RLeads.iterN hF h n a s h1 hs).ge (RLeads.iterN hF h n a s h1 hs).lt)
    have e : iter F (n + 1) = fun a s => F (Pv.iter F n a s).1 (Pv.iter F n a s).2 := by funext a s; exact iter_snoc F n a s
    rw [e, show c * (n + 1) = c * n + c from rfl]
    exact this

/-- .. of several ends -/
structure AOk (c dep : Nat) (G : Au × List Nat) (a : Au) (s : Int) (q : Nat) (r : Au × List Int) : Prop where
  yes : (∀ e, e ∈ r.2 → 0 ≤ e) → r.1 = G.1 ∧ r.2 = G.2.map Int.ofNat
  no : (∃ e, e ∈ r.2 ∧ e < 0) → s < 0 ∨ 256 < a.length + c
  lt : ∀ e, e ∈ r.2 → -1 ≤ e ∧ e < r.1.length
  el : EL a r.1
  len : r.1.length ≤ max a.length 257 + dep
  few : r.2.length ≤ q
  stop : 256 < a.length → r.1 = a
theorem frees_ok (m : Nat) : ∀ (l : List Int) (a : Au), (∀ e, e ∈ l → -1 ≤ e ∧ e < a.length) →
    ((∀ e, e ∈ l → 0 ≤ e) → freesR m a l = (auFrees m a (l.map Int.toNat), (m : Int))) ∧ ((∃ e, e ∈ l ∧ e < 0) → (freesR m a l).2 = -1) ∧
    (freesR m a l).1.length = a.length ∧ edgesN (freesR m a l).1 ≤ edgesN a + l.length
  | [], a, _ => ⟨fun _ => rfl, fun ⟨e, he, _⟩ => by simp at he, rfl, by simp [freesR]⟩
  | e :: l, a, h => by
    have he := h e (by simp)
    by_cases h0 : e < 0
    · refine ⟨fun hh => absurd (hh e (by simp)) (by omega), fun _ => by rw [freesR, if_pos h0], by rw [freesR, if_pos h0], by rw [freesR, if_pos h0]; simp only [List.length_cons]; omega⟩
    · obtain ⟨i1, i2, i3, i4⟩ := frees_ok m l (auEdge a e.toNat ⟨m, true, []⟩) (fun e he => by rw [auEdge_length]; exact h e (by simp [he]))
      rw [freesR, if_neg h0]
      refine ⟨fun hh => ?_, fun ⟨e', he', h1⟩ => ?_, by rw [i3, auEdge_length], ?_⟩
      · rw [i1 (fun e he => hh e (by simp [he]))]; simp [auFrees]
      · rcases List.mem_cons.1 he' with rfl | he'
        · omega
        · exact i2 ⟨e', he', h1⟩
      · rw [edgesN_edge _ _ _ (by omega)] at i4
        simp only [List.length_cons]; omega

/-- What is shut behind ends is the clean joining. -/
theorem shut_ok {c ch dep : Nat} {x : Rx} {F : Au → Nat → Au × Nat} {f : Au → Int → Au × Int} {G : Au × List Nat} {a : Au} {r : Au × List Int} {s : Int} (hs0 : 0 ≤ s) (hf : RLeads ch dep F f)
    (h : AOk c dep G a s 64 r) (hG : G.1.length = a.length + c) (hl : a.length ≤ 256) :
    LOk (c + 1 + if x.kind = 4 ∧ x.most < 0 then ch else 0) (dep + 1) (fun _ _ => if x.kind = 4 ∧ x.most < 0 then (auEdge (F (auJoin G.1 G.2) G.1.length).1 (F (auJoin G.1 G.2) G.1.length).2 ⟨G.1.length, true, []⟩, G.1.length) else (auJoin G.1 G.2, G.1.length)) a s (shutR x f r) := by
  obtain ⟨r1, r2⟩ := r
  obtain ⟨f1, f2, f3, f4⟩ := frees_ok r1.length r2 (r1 ++ [[]]) (fun e he => by have := h.lt e he; simp only at this; simp; omega)
  have hlen := h.len
  rw [List.length_append] at f3
  simp only [List.length_cons, List.length_nil, Nat.zero_add] at f3
  rw [edgesN_state] at f4
  have few := h.few
  have e0 := h.el.e; have l0 := h.el.l
  simp only at hlen few e0 l0
  by_cases hall : ∀ e, e ∈ r2 → 0 ≤ e
  · obtain ⟨y1, y2⟩ := h.yes hall
    simp only at y1 y2
    subst y1
    have hj : freesR G.1.length (G.1 ++ [[]]) r2 = (auJoin G.1 G.2, (G.1.length : Int)) := by
      rw [f1 hall, y2]
      simp [auJoin, List.map_map, Function.comp_def]
    unfold shutR
    rw [hj] at f3 f4
    simp only at f3 f4
    rw [hj]
    simp only
    rw [if_neg (show ¬ ((G.1.length : Nat) : Int) < 0 by omega)]
    by_cases hst : x.kind = 4 ∧ x.most < 0
    · simp only [if_pos hst]
      have hm : (G.1.length : Int) < (auJoin G.1 G.2).length := by rw [f3]; omega
      have hz := hf (auJoin G.1 G.2) G.1.length (by omega) hm
      generalize hzz : f (auJoin G.1 G.2) (G.1.length : Int) = z at *
      have ze := hz.el.e; have zl := hz.el.l
      have zlen : z.1.length ≤ max a.length 257 + dep + 1 := by
        by_cases h6 : 256 < (auJoin G.1 G.2).length
        · rw [hz.stop h6]; omega
        · have := hz.len; omega
      by_cases hz0 : z.2 < 0
      · rw [if_pos hz0]
        refine ⟨fun hh => by simp only at hh; omega, fun _ => ⟨rfl, .inr ?_⟩, by simp only; omega, ⟨by simp only; omega, by simp only; omega⟩, ?_, fun hh => by omega⟩
        · rcases (hz.no hz0).2 with g | g
          · omega
          · omega
        · simp only; omega
      · rw [if_neg hz0]
        obtain ⟨_, z2, z3⟩ := hz.yes (by omega)
        have hzl := hz.lt
        have ee := edgesN_edge z.1 z.2.toNat ⟨G.1.length, true, []⟩ (by omega)
        refine ⟨fun _ => ⟨hs0, ?_, rfl⟩, fun hh => by simp only at hh; omega, by simp only [auEdge_length]; omega, ⟨by simp only [auEdge_length]; omega, by simp only [auEdge_length]; omega⟩, by simp only [auEdge_length]; omega, fun hh => by omega⟩
        rw [z2, z3]; simp
    · simp only [if_neg hst]
      refine ⟨fun _ => ⟨hs0, rfl, rfl⟩, fun hh => by simp only at hh; omega, by simp only; omega, ⟨by simp only; omega, by simp only; omega⟩, by simp only; omega, fun hh => by omega⟩
  · have hex : ∃ e, e ∈ r2 ∧ e < 0 := by
      refine Classical.byContradiction fun hn => hall fun e he => ?_
      rcases Int.lt_or_le e 0 with h1 | h1
      · exact absurd ⟨e, he, h1⟩ hn
      · exact h1
    have hneg := f2 hex
    unfold shutR
    simp only
    rw [if_pos (show (freesR r1.length (r1 ++ [[]]) r2).2 < 0 by omega)]
    refine ⟨fun hh => by simp only at hh; omega, fun _ => ⟨rfl, .inr (by have := h.no hex; omega)⟩, by simp only; omega, ⟨by simp only; omega, by simp only; omega⟩, by simp only; omega, fun hh => by omega⟩

/-- the ends of what is again and again -/
theorem RLeads.itersN {c dep : Nat} {F : Au → Nat → Au × Nat} {f : Au → Int → Au × Int} (hF : Leads F c) (h : RLeads c dep F f) : ∀ (n : Nat) (a : Au) (s : Int), -1 ≤ s → s < a.length → AOk (c * n) dep (iters F n a s.toNat) a s (n + 1) (itersR f n a s) ∧ s ∈ (itersR f n a s).2
  | 0, a, s, h1, hs => ⟨⟨fun hh => ⟨rfl, by have := hh s (by simp [itersR]); simp [Pv.iters, itersR]; omega⟩, fun ⟨e, he, h0⟩ => by simp [itersR] at he; subst he; exact .inl h0, fun e he => by simp [itersR] at he; subst he; simp only [itersR]; omega, EL.refl _, by simp only [itersR]; omega, by simp [itersR], fun _ => rfl⟩, by simp [itersR]⟩
  | n + 1, a, s, h1, hs => by
    obtain ⟨ih, im⟩ := RLeads.itersN hF h n a s h1 hs
    have hi := RLeads.iterN hF h n a s (by omega) hs
    have hn := RLeads.iterN hF h (n + 1) a s (by omega) hs
    have e1 : (itersR f (n + 1) a s).1 = (iterR f (n + 1) a s).1 := itersR_fst _ _ _ _
    have e2 : (itersR f (n + 1) a s).2 = (itersR f n a s).2 ++ [(iterR f (n + 1) a s).2] := by simp only [itersR, iterR]; rw [itersR_fst]
    have e3 : (itersR f n a s).1 = (iterR f n a s).1 := itersR_fst _ _ _ _
    refine ⟨⟨fun hall => ?_, fun ⟨e, he, h0⟩ => ?_, fun e he => ?_, ?_, ?_, ?_, ?_⟩, by rw [e2]; simp [im]⟩
    · rw [e2] at hall
      obtain ⟨y1, y2⟩ := ih.yes (fun e he => hall e (by simp [he]))
      obtain ⟨_, z1, z2⟩ := hn.yes (hall _ (by simp))
      rw [e1, e2, iters_fst, y2, z1, z2, iters_snoc, iter_snoc]
      simp
    · rw [e2] at he
      rcases List.mem_append.1 he with he | he
      · rcases ih.no ⟨e, he, h0⟩ with g | g
        · exact .inl g
        · rw [Nat.mul_add]; exact .inr (by omega)
      · simp at he; subst he
        exact (hn.no h0).2
    · rw [e2] at he
      rw [e1]
      rcases List.mem_append.1 he with he | he
      · have := ih.lt e he
        have hk := (h (iterR f n a s).1 (iterR f n a s).2 hi.ge hi.lt).el.l
        rw [e3] at this
        have : (iterR f (n + 1) a s).1 = (f (iterR f n a s).1 (iterR f n a s).2).1 := rfl
        rw [this]; omega
      · simp at he; subst he
        exact ⟨hn.ge, hn.lt⟩
    · rw [e1]; exact hn.el
    · rw [e1]; exact hn.len
    · rw [e2]; have := ih.few; simp; omega
    · rw [e1]; exact hn.stop
theorem AOk.up {c dep dep' : Nat} {G : Au × List Nat} {a : Au} {s : Int} {q q' : Nat} {r : Au × List Int} (h : AOk c dep G a s q r) (hq : q ≤ q') (hd : dep ≤ dep') : AOk c dep' G a s q' r := ⟨h.yes, h.no, h.lt, h.el, by have := h.len; omega, Nat.le_trans h.few hq, h.stop⟩
theorem LOk.up {c dep dep' : Nat} {F : Au → Nat → Au × Nat} {a : Au} {s : Int} {r : Au × Int} (h : LOk c dep F a s r) (hd : dep ≤ dep') : LOk c dep' F a s r := ⟨h.yes, h.no, h.lt, h.el, by have := h.len; omega, h.stop⟩
theorem LOk.alike {c c' dep : Nat} {F F' : Au → Nat → Au × Nat} {a : Au} {s : Int} {r : Au × Int} (h : LOk c dep F a s r) (hc : c = c') (hF : 0 ≤ s → F a s.toNat = F' a s.toNat) : LOk c' dep F' a s r := by
  subst hc
  exact ⟨fun h0 => by have := h.yes h0; rw [hF this.1] at this; exact this, h.no, h.lt, h.el, h.len, h.stop⟩
/-- first again and again, then its ends -/
theorem rep_ok {c dep : Nat} {F : Au → Nat → Au × Nat} {f : Au → Int → Au × Int} (hF : Leads F c) (h : RLeads c dep F f) (l n : Nat) (a : Au) (s : Int) (h0 : 0 ≤ s) (hs : s < a.length) :
    AOk (c * l + c * n) dep (iters F n (iter F l a s.toNat).1 (iter F l a s.toNat).2) a s (n + 1) (itersR f n (iterR f l a s).1 (iterR f l a s).2) := by
  have hi := RLeads.iterN hF h l a s (by omega) hs
  obtain ⟨hk, hm⟩ := RLeads.itersN hF h n (iterR f l a s).1 (iterR f l a s).2 hi.ge hi.lt
  have hlen := (hF.iter l a s.toNat (by omega)).1
  refine ⟨fun hall => ?_, fun hex => .inr ?_, hk.lt, hi.el.trans hk.el, ?_, hk.few, fun hl => ?_⟩
  · obtain ⟨_, z1, z2⟩ := hi.yes (hall _ hm)
    have := hk.yes hall
    rw [z1, z2] at this
    rw [z1, z2]
    simpa using this
  · rcases Int.lt_or_le (iterR f l a s).2 0 with g | g
    · rcases (hi.no g).2 with g' | g' <;> omega
    · obtain ⟨_, z1, z2⟩ := hi.yes g
      rcases hk.no hex with g' | g'
      · omega
      · rw [z1, hlen] at g'; omega
  · by_cases h6 : 256 < (iterR f l a s).1.length
    · rw [hk.stop h6]; exact hi.len
    · have := hk.len; omega
  · rw [hk.stop (by rw [hi.stop hl]; exact hl), hi.stop hl]

mutual
theorem leadR_ok : ∀ (T : Tr) (d : Nat), T.Ok d → T.size ≤ 64 → RLeads (statesT T) (d + 1) (leadT T) (leadR T)
  | .mk x ks, d, hT, hz => fun a s h1 hs => by
    have hone := hT.one
    have hkid : ∀ k, k ∈ ks → k.Ok (d - 1) := fun k hk => hT.kid hk
    have hlen := hT.len
    rw [Tr.size_mk] at hz
    have hks : ks.length ≤ 63 := by have := length_sizes ks; omega
    have hcat := catR_ok ks (d - 1) hkid (by omega)
    have hhd := hdR_ok ks (d - 1) hkid (by omega)
    have hdz : 1 < x.kind → d - 1 + 1 = d := fun hk => by
      cases d with
      | zero => obtain ⟨_, hm, _⟩ := hT; rcases hone with h | h | h | h <;> omega
      | succ d => simp
    rw [leadR]
    by_cases hstop : s < 0 ∨ 256 < a.length
    · rw [if_pos hstop]
      exact ⟨fun h => by simp only at h; omega, fun _ => ⟨rfl, by omega⟩, by simp only; omega, EL.refl _, by simp only; omega, fun _ => rfl⟩
    rw [if_neg hstop]
    by_cases hk01 : x.kind = 0 ∨ x.kind = 1
    · rw [if_pos hk01]
      have hst : statesT (.mk x ks) = 1 := by rw [statesT]; rcases hk01 with h | h <;> simp [h]
      have hl : leadT (.mk x ks) a s.toNat = (auEdge (a ++ [[]]) s.toNat ⟨a.length, x.kind == 0, x.set⟩, a.length) := by
        rw [leadT]
        rcases hk01 with h | h
        · have hset : x.set = [] := by rcases hone with g | g | g | g <;> first | exact g.2.1 | omega
          rw [if_pos h]; simp [joinOf, auJoin, auFrees, h, hset]
        · rw [if_neg (by omega), if_pos h]; simp [h]
      rw [hst]
      have ee := edgesN_edge (a ++ [[]]) s.toNat ⟨a.length, x.kind == 0, x.set⟩ (by simp; omega)
      rw [edgesN_state] at ee
      exact ⟨fun _ => ⟨by omega, by rw [hl], by rw [hl]⟩, fun h => by simp only at h; omega, by simp [auEdge_length]; omega, ⟨by simp only [auEdge_length, ee]; simp; omega, by simp [auEdge_length]⟩, by simp [auEdge_length]; omega, fun h => by omega⟩
    rw [if_neg hk01]
    have hk0 : ¬ x.kind = 0 := fun h => hk01 (.inl h)
    have hk1 : ¬ x.kind = 1 := fun h => hk01 (.inr h)
    have hk2' : 1 < x.kind := by rcases hone with h | h | h | h <;> omega
    have hd := hdz hk2'
    rw [hd] at hcat hhd
    by_cases hk2 : x.kind = 2
    · rw [if_pos hk2]
      exact ((hcat a s h1 hs).up (by omega)).alike (by rw [statesT, if_neg hk0, if_neg hk1, if_pos hk2]) (fun _ => by rw [leadT, if_neg hk0, if_neg hk1, if_pos hk2])
    rw [if_neg hk2]
    by_cases hk3 : x.kind = 3
    · rw [if_pos hk3]
      have ha := (altR_ok ks (d - 1) hkid (by omega) a s (by omega) hs)
      rw [hd] at ha
      have hG := (leadAlt_leads ks a s.toNat (by omega)).1
      have := shut_ok (x := x) (by omega) hhd (ha.up (by omega) (Nat.le_refl _)) hG (by omega)
      refine this.alike ?_ (fun _ => ?_)
      · rw [statesT, if_neg hk0, if_neg hk1, if_neg hk2, if_pos hk3, if_neg (by omega)]
      · rw [leadT, if_neg hk0, if_neg hk1, if_neg hk2, if_pos hk3, if_neg (by omega)]; rfl
    rw [if_neg hk3]
    have hk4 : x.kind = 4 := by rcases hone with h | h | h | h <;> omega
    have hmost : (x.most - x.least).toNat ≤ 16 := by rcases hone with h | h | h | h <;> omega
    have hF := leadHd_leads ks
    have hr := rep_ok hF hhd x.least.toNat (x.most - x.least).toNat a s (by omega) hs
    have hG : (iters (leadHd ks) (x.most - x.least).toNat (iter (leadHd ks) x.least.toNat a s.toNat).1 (iter (leadHd ks) x.least.toNat a s.toNat).2).1.length = a.length + (statesH ks * x.least.toNat + statesH ks * (x.most - x.least).toNat) := by
      obtain ⟨g1, g2⟩ := hF.iter x.least.toNat a s.toNat (by omega)
      rw [(hF.iters (x.most - x.least).toNat _ _ g2).1, g1]; omega
    have := shut_ok (x := x) (by omega) hhd (hr.up (by omega) (Nat.le_refl _)) hG (by omega)
    refine this.alike ?_ (fun _ => ?_)
    · rw [statesT, if_neg hk0, if_neg hk1, if_neg hk2, if_neg hk3, timesOf]
      by_cases hm : x.most < 0
      · have h5 : (x.most - x.least).toNat = 0 := by rcases hone with h | h | h | h <;> omega
        rw [if_pos ⟨hk4, hm⟩, if_pos hm, h5, Nat.mul_zero, Nat.mul_add]; omega
      · rw [if_neg (by omega), if_neg hm, Nat.mul_add]
    · rw [leadT, if_neg hk0, if_neg hk1, if_neg hk2, if_neg hk3]
      by_cases hm : x.most < 0
      · have h5 : (x.most - x.least).toNat = 0 := by rcases hone with h | h | h | h <;> omega
        rw [if_pos ⟨hk4, hm⟩, if_pos hm, h5]; rfl
      · rw [if_neg (by omega), if_neg hm]; rfl
theorem hdR_ok : ∀ (ks : List Tr) (d : Nat), (∀ k, k ∈ ks → k.Ok d) → sizes ks ≤ 64 → RLeads (statesH ks) (d + 1) (leadHd ks) (leadHdR ks)
  | [], d, _, _ => fun a s h1 hs => by
    have e : leadHd [] = fun a s => (a, s) := by funext a s; rw [leadHd]
    rw [leadHdR, e, statesH]; exact LOk.here _ a s h1 hs
  | k :: ks, d, hk, hz => fun a s h1 hs => by
    have e : leadHd (k :: ks) = leadT k := by funext a s; rw [leadHd]
    rw [leadHdR, e, statesH]; exact leadR_ok k d (hk k (by simp)) (by rw [sizes_cons] at hz; omega) a s h1 hs
theorem catR_ok : ∀ (ks : List Tr) (d : Nat), (∀ k, k ∈ ks → k.Ok d) → sizes ks ≤ 64 → RLeads (statesL ks) (d + 1) (leadCat ks) (catR ks)
  | [], d, _, _ => fun a s h1 hs => by
    have e : leadCat [] = fun a s => (a, s) := by funext a s; rw [leadCat]
    rw [catR, e, statesL]; exact LOk.here _ a s h1 hs
  | k :: ks, d, hk, hz => fun a s h1 hs => by
    have e : leadCat (k :: ks) = fun a s => leadCat ks (leadT k a s).1 (leadT k a s).2 := by funext a s; rw [leadCat]
    rw [sizes_cons] at hz
    have hh := leadR_ok k d (hk k (by simp)) (by omega) a s h1 hs
    rw [catR, e, statesL]
    exact LOk.seq (leadT_leads k) hs hh (catR_ok ks d (fun k h => hk k (by simp [h])) (by omega) _ _ hh.ge hh.lt)
theorem altR_ok : ∀ (ks : List Tr) (d : Nat), (∀ k, k ∈ ks → k.Ok d) → sizes ks ≤ 64 → ∀ (a : Au) (s : Int), 0 ≤ s → s < a.length → AOk (statesL ks) (d + 1) (leadAlt ks a s.toNat) a s ks.length (altR ks a s)
  | [], d, _, _ => fun a s h1 hs => by
    rw [altR, leadAlt, statesL]
    exact ⟨fun _ => ⟨rfl, rfl⟩, fun ⟨e, he, _⟩ => by simp at he, fun e he => by simp at he, EL.refl _, by simp only; omega, by simp, fun _ => rfl⟩
  | k :: ks, d, hk, hz => fun a s h1 hs => by
    rw [sizes_cons] at hz
    have hh := leadR_ok k d (hk k (by simp)) (by omega) a s (by omega) hs
    have hl := hh.el.l
    have hr := altR_ok ks d (fun k h => hk k (by simp [h])) (by omega) (leadR k a s).1 s h1 (by omega)
    have hT := leadT_leads k a s.toNat (by omega)
    rw [altR, leadAlt, statesL]
    refine ⟨fun hall => ?_, fun ⟨e, he, h0⟩ => .inr ?_, fun e he => ?_, hh.el.trans hr.el, ?_, ?_, fun h6 => ?_⟩
    · obtain ⟨_, z1, z2⟩ := hh.yes (hall _ (by simp))
      obtain ⟨y1, y2⟩ := hr.yes (fun e he => hall e (by simp [he]))
      simp only
      rw [z1] at y1 y2
      rw [z1, y1, y2, z2]
      simp
    · simp only [List.mem_cons] at he
      rcases Int.lt_or_le (leadR k a s).2 0 with g | g
      · rcases (hh.no g).2 with g' | g' <;> omega
      · obtain ⟨_, z1, z2⟩ := hh.yes g
        rcases he with rfl | he
        · omega
        · rcases hr.no ⟨e, he, h0⟩ with g' | g'
          · omega
          · rw [z1, hT.1] at g'; omega
    · simp only [List.mem_cons] at he
      have hl2 := hr.el.l
      rcases he with rfl | he
      · exact ⟨hh.ge, by have := hh.lt; simp only; omega⟩
      · exact hr.lt e he
    · simp only
      by_cases h6 : 256 < (leadR k a s).1.length
      · rw [hr.stop h6]; exact hh.len
      · have := hr.len; omega
    · have := hr.few; simp only [List.length_cons]; omega
    · simp only; rw [hr.stop (by rw [hh.stop h6]; exact h6), hh.stop h6]
end
end Pv

namespace Pv
open Go Go.RowKit

theorem LOk.clean {c dep : Nat} {F : Au → Nat → Au × Nat} {a : Au} {s : Nat} {r : Au × Int} (h : LOk c dep F a s r) (hc : a.length + c ≤ 256) : r = ((F a s).1, ((F a s).2 : Int)) ∧ EL a (F a s).1 := by
  rcases Int.lt_or_le r.2 0 with g | g
  · rcases (h.no g).2 with g' | g' <;> omega
  · obtain ⟨_, y1, y2⟩ := h.yes g
    simp only [Int.toNat_natCast] at y1 y2
    exact ⟨Prod.ext y1 y2, by have := h.el; rwa [y1] at this⟩
section
variable {d : Nat} {a : Au} {s : Nat}
theorem leadT_el {T : Tr} (hT : T.Ok d) (hz : T.size ≤ 64) (hs : s < a.length) (hc : a.length + statesT T ≤ 256) : EL a (leadT T a s).1 :=
  (LOk.clean (leadR_ok T d hT hz a s (by omega) (by omega)) hc).2
theorem iter_el {K : Tr} {n : Nat} (hK : K.Ok d) (hz : K.size ≤ 64) (hs : s < a.length) (hc : a.length + statesT K * n ≤ 256) : EL a (iter (leadT K) n a s).1 :=
  (LOk.clean (RLeads.iterN (leadT_leads K) (leadR_ok K d hK hz) n a s (by omega) (by omega)) hc).2
end
theorem statesL_take (ks : List Tr) : ∀ j, statesL (ks.take j) ≤ statesL ks := by
  induction ks with
  | nil => intro j; simp [statesL]
  | cons k ks ih =>
    intro j
    cases j with
    | zero => simp [statesL]
    | succ j => have := ih j; simp only [List.take_succ_cons, statesL]; omega
mutual
/-- How many states, as the program counts: no more than 256 are told. -/
def countT : Tr → Nat
  | .mk x ks => if x.kind ≤ 1 then 1 else min (if x.kind = 3 then countL ks + 1 else if x.kind = 4 then countL ks * (if x.most < 0 then x.least.toNat + 1 else x.most.toNat) + 1 else countL ks) 256
def countL : List Tr → Nat
  | [] => 0
  | k :: ks => countT k + countL ks
end
theorem min_mul (s t : Nat) : min (min s 256 * t + 1) 256 = min (s * t + 1) 256 := by
  rcases Nat.lt_or_ge 256 s with h | h
  · rw [Nat.min_eq_right (by omega : 256 ≤ s)]
    rcases Nat.eq_zero_or_pos t with h0 | h0
    · subst h0; simp
    · have h1 : 256 * 1 ≤ 256 * t := Nat.mul_le_mul_left 256 h0
      have h2 : 256 * t ≤ s * t := Nat.mul_le_mul_right t (by omega)
      omega
  · rw [Nat.min_eq_left h]
mutual
theorem countT_eq : ∀ (T : Tr) (d : Nat), T.Ok d → countT T = min (statesT T) 256
  | .mk x ks, d, hT => by
    have hone := hT.one
    have hlen := hT.len
    have hL := countL_eq ks (d - 1) (fun k hk => hT.kid hk)
    rw [countT, statesT]
    by_cases h0 : x.kind = 0
    · rw [if_pos (by omega), if_pos h0]; rfl
    by_cases h1 : x.kind = 1
    · rw [if_pos (by omega), if_neg h0, if_pos h1]; rfl
    have hk : 1 < x.kind := by rcases hone with h | h | h | h <;> omega
    rw [if_neg (by omega), if_neg h0, if_neg h1]
    by_cases h2 : x.kind = 2
    · rw [if_neg (by omega), if_neg (by omega), if_pos h2]; exact hL
    rw [if_neg h2]
    by_cases h3 : x.kind = 3
    · rw [if_pos h3, if_pos h3]; omega
    have h4 : x.kind = 4 := by rcases hone with h | h | h | h <;> omega
    rw [if_neg h3, if_pos h4, if_neg h3]
    have hmany : x.many = 1 := by rcases hone with h | h | h | h <;> omega
    have ht : (if x.most < 0 then x.least.toNat + 1 else x.most.toNat) = timesOf x := by
      unfold timesOf
      split
      · rfl
      · rcases hone with h | h | h | h <;> omega
    rw [ht]
    have hl1 : ks.length = 1 := by omega
    match ks, hl1, hL, hT with
    | [K], _, _, hT =>
      have hK := countT_eq K (d - 1) (hT.kid (by simp))
      simp only [countL, statesH, Nat.add_zero]
      rw [hK]
      exact min_mul _ _
theorem countL_eq : ∀ (ks : List Tr) (d : Nat), (∀ k, k ∈ ks → k.Ok d) → min (countL ks) 256 = min (statesL ks) 256
  | [], d, _ => by simp [countL, statesL]
  | k :: ks, d, h => by
    have h1 := countT_eq k d (h k (by simp))
    have h2 := countL_eq ks d (fun k hk => h k (by simp [hk]))
    rw [countL, statesL, h1]; omega
end
end Pv
