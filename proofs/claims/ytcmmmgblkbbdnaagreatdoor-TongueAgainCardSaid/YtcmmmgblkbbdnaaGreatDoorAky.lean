/- What is repeated is once, and then again. Nothing of a program stands here. -/
import Derived.Test.YtcmmmgblkbbdnaaGreatDoorTi0y
import Derived.Test.YtcmmmgblkbbdnaaGreatDoorAuy
namespace Pv
open Go Go.RowKit

theorem Pat.of_tree {T : Tr} (h : T.Ok 16) (hl : T.size ≤ 64) : Pat T.flat := by
  refine ⟨fun e => ?_, hl, ?_⟩
  · have := T.size_pos
    unfold Tr.size at this
    rw [e] at this
    simp at this
  · have := tree_behind (t := T.flat) (i := 0) (r := []) h (by simp)
    rw [this, Nat.zero_add]
    rfl
abbrev rpX (a b : Int) : Rx := ⟨4, [], 1, a, b⟩
abbrev ctX : Rx := ⟨2, [], 2, 0, 0⟩
theorem rpX_one {a b : Int} (h : 0 ≤ a ∧ a ≤ 16) (h2 : b = -1 ∨ (a ≤ b ∧ b ≤ 16)) : (rpX a b).One := by
  refine .inr (.inr (.inr ?_))
  simp only
  refine ⟨?_, ?_, ?_, ?_⟩ <;> first | trivial | omega | rfl | simp <;> omega
theorem ctX_one : ctX.One := by
  refine .inr (.inr (.inl ?_))
  simp
theorem rep_tree {a b : Int} {t : List Rx} {S : Tr} {d : Nat} (h : S.Ok (d + 1)) (e : rpX a b :: t = S.flat) : ∃ T : Tr, T.Ok d ∧ t = T.flat ∧ S = .mk (rpX a b) [T] := by
  obtain ⟨x, ks⟩ := S
  simp only [Tr.flat, List.cons.injEq] at e
  obtain ⟨rfl, rfl⟩ := e
  obtain ⟨_, h2, h3⟩ := h
  simp only at h2
  match ks, h2, h3 with
  | [T], _, h3 => exact ⟨T, h3 T (by simp), by simp [flats], rfl⟩
  | [], h2, _ => simp at h2
  | _ :: _ :: _, h2, _ => simp at h2; omega
theorem cat_tree {t u : List Rx} {S T : Tr} {d dT : Nat} (h : S.Ok (d + 1)) (e : ctX :: (t ++ u) = S.flat) (hT : T.Ok dT) (ht : t = T.flat) : ∃ U : Tr, T.Ok d ∧ U.Ok d ∧ u = U.flat ∧ S = .mk ctX [T, U] := by
  obtain ⟨x, ks⟩ := S
  simp only [Tr.flat, List.cons.injEq] at e
  obtain ⟨rfl, e⟩ := e
  obtain ⟨_, h2, h3⟩ := h
  simp only at h2
  match ks, h2, h3, e with
  | [A, B], _, h3, e =>
    simp only [flats, List.append_nil] at e
    rw [ht] at e
    obtain ⟨h4, h5⟩ := flat_one T A dT d u B.flat hT (h3 A (by simp)) e
    subst h4
    exact ⟨B, h3 T (by simp), h3 B (by simp), h5, rfl⟩
  | [], h2, _, _ => simp at h2
  | [_], h2, _, _ => simp at h2
  | _ :: _ :: _ :: _, h2, _, _ => simp at h2; omega
theorem rep_size (a b : Int) (T : Tr) : (Tr.mk (rpX a b) [T]).size = T.size + 1 := by simp [Tr.size, Tr.flat, flats]
theorem cat_size (T U : Tr) : (Tr.mk ctX [T, U]).size = T.size + U.size + 1 := by simp [Tr.size, Tr.flat, flats]
theorem sp_rep (pts : List Int) (a b : Int) (T : Tr) (i j : Nat) : spT pts (.mk (rpX a b) [T]) i j ↔ Ag (spT pts T) a.toNat b i j := by
  rw [spT]
  simp only [rpX, show ¬ (4 : Int) = 0 by omega, show ¬ (4 : Int) = 1 by omega, show ¬ (4 : Int) = 2 by omega, show ¬ (4 : Int) = 3 by omega, if_false]
  have e : spHd pts [T] = spT pts T := by funext i j; rw [spHd]
  rw [e]
theorem sp_cat (pts : List Int) (T U : Tr) (i j : Nat) : spT pts (.mk ctX [T, U]) i j ↔ ∃ m, spT pts T i m ∧ spT pts U m j := by
  rw [spT]
  simp only [ctX, show ¬ (2 : Int) = 0 by omega, show ¬ (2 : Int) = 1 by omega, if_false, if_true]
  simp only [spCat]
  constructor
  · rintro ⟨m, h1, q, h2, rfl⟩; exact ⟨m, h1, h2⟩
  · rintro ⟨m, h1, h2⟩; exact ⟨m, h1, j, h2, rfl⟩
theorem ag_all {A : Nat → Nat → Prop} {i j : Nat} : Ag A 0 (-1) i j ↔ ∃ k, Pw A k i j := by
  unfold Ag
  constructor
  · rintro ⟨k, _, _, h⟩; exact ⟨k, h⟩
  · rintro ⟨k, h⟩; exact ⟨k, by omega, .inl (by omega), h⟩
theorem ag_just {A : Nat → Nat → Prop} {n : Nat} {i j : Nat} : Ag A n (n : Int) i j ↔ Pw A n i j := by
  unfold Ag
  constructor
  · rintro ⟨k, h1, h2, h⟩
    obtain rfl : k = n := by omega
    exact h
  · exact fun h => ⟨n, Nat.le_refl _, .inr (Int.le_refl _), h⟩
theorem pw_front {A : Nat → Nat → Prop} {k i j : Nat} : Pw A (k + 1) i j ↔ ∃ m, A i m ∧ Pw A k m j := by
  rw [show k + 1 = 1 + k by omega, Pw.add]
  constructor
  · rintro ⟨m, ⟨_, rfl, h1⟩, h2⟩; exact ⟨m, h1, h2⟩
  · rintro ⟨m, h1, h2⟩; exact ⟨m, ⟨i, rfl, h1⟩, h2⟩
theorem yes_eq {p q : Prop} (h : p ↔ q) : yes p = yes q := by rw [propext h]
/-- THE LAW TongueAgain. -/
theorem again_law {t : List Rx} {l : List Int} {n : Nat} (hl : l.length ≤ 8) (h1 : 1 ≤ n) (h2 : n ≤ 16) {a b c d : Bool × Int}
    (ha : BIn (rpX 0 (-1) :: t) l a) (hb : BIn (ctX :: (t ++ rpX 0 (-1) :: t)) l b) (hc : BIn (rpX n n :: t) l c) (hd : BIn (ctX :: (t ++ rpX ((n : Int) - 1) ((n : Int) - 1) :: t)) l d) :
    (a.2 = 0 ∨ a.2 = 8) ∧ (b.2 = 0 ∨ b.2 = 8) ∧ (c.2 = 0 ∨ c.2 = 8) ∧ (d.2 = 0 ∨ d.2 = 8) ∧
    (a.2 = 0 → b.2 = 0 → c.2 = 0 ∧ d.2 = 0 ∧ a.1 = (decide (l.length = 0) || b.1) ∧ c.1 = d.1 ∧ (c.1 = true → a.1 = true)) := by
  have code : ∀ {t r}, BIn t l r → r.2 = 0 ∨ r.2 = 8 := fun h => by
    rcases h with ⟨_, rfl⟩ | ⟨_, h, _⟩ | ⟨_, _, _, _, _, rfl⟩
    · exact .inr rfl
    · omega
    · exact .inl rfl
  refine ⟨code ha, code hb, code hc, code hd, fun a0 b0 => ?_⟩
  rcases ha with ⟨_, rfl⟩ | ⟨_, h, _⟩ | ⟨pa, _, S, hS, eS, rfl⟩
  · simp at a0
  · omega
  rcases hb with ⟨_, rfl⟩ | ⟨_, h, _⟩ | ⟨pb, _, P, hP, eP, rfl⟩
  · simp at b0
  · omega
  obtain ⟨T, hT, et, rfl⟩ := rep_tree hS eS
  obtain ⟨U, hT2, hU, eU, rfl⟩ := cat_tree hP eP hT et
  obtain ⟨T', hT', et', rfl⟩ := rep_tree hU eU
  obtain rfl := flat_inj hT hT' (et.symm.trans et')
  have s1 : T.size + 1 ≤ 64 := by have := pa.2.1; rw [eS] at this; rw [← rep_size 0 (-1) T]; exact this
  have s2 : T.size + (T.size + 1) + 1 ≤ 64 := by have := pb.2.1; rw [eP] at this; rw [← rep_size 0 (-1) T, ← cat_size]; exact this
  have n1 : (rpX (n : Int) n).One := rpX_one ⟨by omega, by omega⟩ (.inr ⟨by omega, by omega⟩)
  have n2 : (rpX ((n : Int) - 1) ((n : Int) - 1)).One := rpX_one ⟨by omega, by omega⟩ (.inr ⟨by omega, by omega⟩)
  have okc : (Tr.mk (rpX (n : Int) n) [T]).Ok 16 := ⟨n1, rfl, fun k hk => by simp at hk; subst hk; exact hT⟩
  have okl : (Tr.mk (rpX ((n : Int) - 1) ((n : Int) - 1)) [T]).Ok 15 := ⟨n2, rfl, fun k hk => by simp at hk; subst hk; exact hT'⟩
  have okd : (Tr.mk ctX [T, Tr.mk (rpX ((n : Int) - 1) ((n : Int) - 1)) [T]]).Ok 16 := ⟨ctX_one, rfl, fun k hk => by
    simp at hk
    rcases hk with rfl | rfl
    · exact hT2
    · exact okl⟩
  have ec : rpX (n : Int) n :: t = (Tr.mk (rpX (n : Int) n) [T]).flat := by simp [Tr.flat, flats, et]
  have ed : ctX :: (t ++ rpX ((n : Int) - 1) ((n : Int) - 1) :: t) = (Tr.mk ctX [T, Tr.mk (rpX ((n : Int) - 1) ((n : Int) - 1)) [T]]).flat := by simp [Tr.flat, flats, et]
  rcases hc with ⟨hn, _⟩ | ⟨_, h, _⟩ | ⟨_, _, C, hC, eC, rfl⟩
  · exact absurd (by rw [ec]; exact Pat.of_tree okc (by rw [rep_size]; exact s1)) hn
  · omega
  rcases hd with ⟨hn, _⟩ | ⟨_, h, _⟩ | ⟨_, _, D, hD, eD, rfl⟩
  · exact absurd (by rw [ed]; exact Pat.of_tree okd (by rw [cat_size, rep_size]; exact s2)) hn
  · omega
  obtain rfl := flat_inj hC okc (eC.symm.trans ec)
  obtain rfl := flat_inj hD okd (eD.symm.trans ed)
  refine ⟨rfl, rfl, ?_, ?_, fun hh => ?_⟩
  · simp only
    have e1 : spT l (.mk (rpX 0 (-1)) [T]) 0 l.length ↔ l.length = 0 ∨ spT l (.mk ctX [T, .mk (rpX 0 (-1)) [T]]) 0 l.length := by
      rw [sp_rep, sp_cat]
      simp only [sp_rep]
      show Ag (spT l T) 0 (-1) 0 l.length ↔ _
      rw [ag_all]
      constructor
      · rintro ⟨k, hk⟩
        cases k with
        | zero => exact .inl hk.symm
        | succ k =>
          obtain ⟨m, m1, m2⟩ := pw_front.1 hk
          exact .inr ⟨m, m1, ag_all.2 ⟨k, m2⟩⟩
      · rintro (h | ⟨m, m1, m2⟩)
        · exact ⟨0, h.symm⟩
        · obtain ⟨k, hk⟩ := ag_all.1 m2
          exact ⟨k + 1, pw_front.2 ⟨m, m1, hk⟩⟩
    rw [yes_eq e1]
    by_cases h3 : l.length = 0
    · rw [yes_t (.inl h3)]; simp [h3]
    · rw [yes_eq (or_iff_right h3)]; simp [h3]
  · simp only
    refine yes_eq ?_
    rw [sp_rep, sp_cat]
    simp only [sp_rep]
    obtain ⟨m, rfl⟩ : ∃ m, n = m + 1 := ⟨n - 1, by omega⟩
    have e2 : ((m + 1 : Nat) : Int) - 1 = (m : Int) := by omega
    rw [e2, Int.toNat_natCast, Int.toNat_natCast, ag_just, pw_front]
    simp only [ag_just]
  · have := of_yes hh
    rw [sp_rep] at this
    obtain ⟨k, _, _, hk⟩ := this
    refine yes_t ?_
    rw [sp_rep]
    exact ag_all.2 ⟨k, hk⟩
end Pv

namespace Pv
open Go Go.RowKit

section
variable {F : Nat → Nat → Prop} {A : Nat → Nat → Prop}
theorem Fs.stay (hs : ∀ k j, F (k + 1) j ↔ im A (F k) j) {k : Nat} (h : ∀ j, F (k + 1) j ↔ F k j) : ∀ d j, F (k + d) j ↔ F k j
  | 0, j => Iff.rfl
  | d + 1, j => by
    rw [← h j]
    show F (k + d + 1) j ↔ F (k + 1) j
    rw [hs, hs]
    constructor
    · rintro ⟨i, h1, h2⟩; exact ⟨i, (Fs.stay hs h d i).1 h1, h2⟩
    · rintro ⟨i, h1, h2⟩; exact ⟨i, (Fs.stay hs h d i).2 h1, h2⟩
theorem Fs.shut (hs : ∀ k j, F (k + 1) j ↔ im A (F k) j) {l c : Nat} (hlc : l ≤ c) (h : ∀ j, F (c + 1) j → ∃ k, l ≤ k ∧ k ≤ c ∧ F k j) : ∀ m j, l ≤ m → F m j → ∃ k, l ≤ k ∧ k ≤ c ∧ F k j
  | m, j, hl, hf => by
    by_cases hm : m ≤ c
    · exact ⟨m, hl, hm, hf⟩
    · match m, hl, hf, hm with
      | 0, _, _, hm => omega
      | m + 1, hl, hf, hm =>
        by_cases hml : l ≤ m
        · obtain ⟨i, h1, h2⟩ := (hs m j).1 hf
          obtain ⟨k, h3, h4, h5⟩ := Fs.shut hs hlc h m i hml h1
          have h6 : F (k + 1) j := (hs k j).2 ⟨i, h5, h2⟩
          by_cases hk : k + 1 ≤ c
          · exact ⟨k + 1, by omega, hk, h6⟩
          · obtain rfl : k = c := by omega
            exact h j h6
        · exfalso; omega
end
theorem im_pw {A : Nat → Nat → Prop} {S : Nat → Prop} (k j : Nat) : im (Pw A (k + 1)) S j ↔ im A (im (Pw A k) S) j := by
  constructor
  · rintro ⟨i, h1, m, h2, h3⟩; exact ⟨m, ⟨i, h1, h2⟩, h3⟩
  · rintro ⟨m, ⟨i, h1, h2⟩, h3⟩; exact ⟨i, h1, m, h2, h3⟩
theorem im_pw0 {A : Nat → Nat → Prop} {S : Nat → Prop} (j : Nat) : im (Pw A 0) S j ↔ S j := by
  constructor
  · rintro ⟨i, h1, h2⟩; simp only [Pw] at h2; subst h2; exact h1
  · intro h; exact ⟨j, h, rfl⟩
theorem im_ag {A : Nat → Nat → Prop} {S : Nat → Prop} {l : Nat} {m : Int} (j : Nat) : im (Ag A l m) S j ↔ ∃ k : Nat, l ≤ k ∧ (m < 0 ∨ (k : Int) ≤ m) ∧ im (Pw A k) S j := by
  constructor
  · rintro ⟨i, h1, k, h2, h3, h4⟩; exact ⟨k, h2, h3, i, h1, h4⟩
  · rintro ⟨k, h2, h3, i, h1, h4⟩; exact ⟨i, h1, k, h2, h3, h4⟩
/-- How many places of 0 .. n. -/
noncomputable def cnt (n : Nat) (S : Nat → Prop) : Nat := (List.range (n + 1)).countP fun i => yes (S i)
theorem cnt_le (n : Nat) (S : Nat → Prop) : cnt n S ≤ n + 1 := by
  have := List.countP_le_length (p := fun i => yes (S i)) (l := List.range (n + 1))
  simpa [cnt] using this
theorem countP_lt {S S' : Nat → Prop} (h : ∀ i, S i → S' i) : ∀ l : List Nat, (∃ i, i ∈ l ∧ S' i ∧ ¬ S i) → (l.countP fun i => yes (S i)) < l.countP fun i => yes (S' i)
  | [], ⟨i, hi, _⟩ => by simp at hi
  | x :: l, ⟨i, hi, h1, h2⟩ => by
    have hle : ∀ l : List Nat, (l.countP fun i => yes (S i)) ≤ l.countP fun i => yes (S' i) := fun l => List.countP_mono_left fun i _ hi => yes_t (h i (of_yes hi))
    rw [List.countP_cons, List.countP_cons]
    rcases List.mem_cons.1 hi with rfl | hi
    · rw [yes_t h1, yes_f h2]
      have := hle l
      simp; omega
    · have := countP_lt h l ⟨i, hi, h1, h2⟩
      by_cases hx : S x
      · rw [yes_t hx, yes_t (h x hx)]; simp; omega
      · rw [yes_f hx]; simp; omega
theorem cnt_lt {n : Nat} {S S' : Nat → Prop} (h : ∀ i, S i → S' i) {i : Nat} (hi : i ≤ n) (h1 : S' i) (h2 : ¬ S i) : cnt n S < cnt n S' := countP_lt h _ ⟨i, by simp; omega, h1, h2⟩
end Pv

namespace Pv
open Go Go.RowKit
theorem kids_at {t : List Rx} {ks : List Tr} {i : Nat} {r : List Rx} (hd : t.drop i = flats ks ++ r) (hk : ∀ k, k ∈ ks → k.Ok 16) :
    ∀ j, j ≤ ks.length → again (behind t 16) j i = some (i + sizes (ks.take j)) ∧ t.drop (i + sizes (ks.take j)) = flats (ks.drop j) ++ r
  | 0, _ => ⟨by simp [again, sizes, flats], by simpa [sizes, flats] using hd⟩
  | j + 1, hj => by
    obtain ⟨h1, h2⟩ := kids_at hd hk j (by omega)
    have hg : ks.drop j = ks[j] :: ks.drop (j + 1) := List.drop_eq_getElem_cons (by omega)
    rw [hg] at h2
    simp only [flats, List.append_assoc] at h2
    have h3 := tree_behind (hk ks[j] (List.getElem_mem _)) h2
    have h4 : sizes (ks.take (j + 1)) = sizes (ks.take j) + ks[j].size := by
      show (flats (ks.take (j + 1))).length = (flats (ks.take j)).length + ks[j].flat.length
      rw [List.take_succ_eq_append_getElem (by omega), flats_app, List.length_append]
      simp only [flats, List.append_nil]
    refine ⟨?_, ?_⟩
    · rw [again_snoc, h1]
      show behind t 16 _ = _
      rw [h3, h4]; congr 1; omega
    · rw [h4, ← Nat.add_assoc]
      exact drop_app h2
theorem sizes_le {t : List Rx} {ks : List Tr} {i : Nat} {r : List Rx} (hd : t.drop i = flats ks ++ r) (j : Nat) (hi : i ≤ t.length) : i + sizes (ks.take j) ≤ t.length := by
  have h1 := congrArg List.length hd
  simp only [List.length_drop, List.length_append] at h1
  have h2 : sizes (ks.take j) + sizes (ks.drop j) = sizes ks := by
    rw [sizes, sizes, sizes, ← List.length_append, ← flats_app, List.take_append_drop]
  have h3 : sizes ks = (flats ks).length := rfl
  omega
theorem sizes_take_le {ks : List Tr} (j : Nat) : sizes (ks.take j) ≤ sizes ks := by
  have h2 : sizes (ks.take j) + sizes (ks.drop j) = sizes ks := by
    rw [sizes, sizes, sizes, ← List.length_append, ← flats_app, List.take_append_drop]
  omega

end Pv

namespace Pv
open Go Go.RowKit

/-- How many edges. -/
def edgesN (a : Au) : Nat := (a.map List.length).sum
/-- No more than 65 edges for each state that comes. -/
structure EL (a b : Au) : Prop where
  e : edgesN b + 65 * a.length ≤ edgesN a + 65 * b.length
  l : a.length ≤ b.length
theorem EL.refl (a : Au) : EL a a := ⟨Nat.le_refl _, Nat.le_refl _⟩
theorem EL.trans {a b c : Au} (h : EL a b) (k : EL b c) : EL a c := ⟨by have := h.e; have := k.e; omega, Nat.le_trans h.l k.l⟩

/-- The document's way against the clean one. -/
structure LOk (c dep : Nat) (F : Au → Nat → Au × Nat) (a : Au) (s : Int) (r : Au × Int) : Prop where
  yes : 0 ≤ r.2 → 0 ≤ s ∧ r.1 = (F a s.toNat).1 ∧ r.2 = ((F a s.toNat).2 : Nat)
  no : r.2 < 0 → r.2 = -1 ∧ (s < 0 ∨ 256 < a.length + c)
  lt : r.2 < r.1.length
  el : EL a r.1
  len : r.1.length ≤ max a.length 257 + dep
  stop : 256 < a.length → r.1 = a
theorem LOk.ge {c dep : Nat} {F : Au → Nat → Au × Nat} {a : Au} {s : Int} {r : Au × Int} (h : LOk c dep F a s r) : -1 ≤ r.2 := by
  rcases Int.lt_or_le r.2 0 with h1 | h1
  · have := (h.no h1).1; omega
  · omega
/-- .. of several ends -/
structure AOk (c dep : Nat) (G : Au × List Nat) (a : Au) (s : Int) (q : Nat) (r : Au × List Int) : Prop where
  yes : (∀ e, e ∈ r.2 → 0 ≤ e) → r.1 = G.1 ∧ r.2 = G.2.map Int.ofNat
  no : (∃ e, e ∈ r.2 ∧ e < 0) → s < 0 ∨ 256 < a.length + c
  lt : ∀ e, e ∈ r.2 → -1 ≤ e ∧ e < r.1.length
  el : EL a r.1
  len : r.1.length ≤ max a.length 257 + dep
  few : r.2.length ≤ q
  stop : 256 < a.length → r.1 = a
theorem AOk.up {c dep dep' : Nat} {G : Au × List Nat} {a : Au} {s : Int} {q q' : Nat} {r : Au × List Int} (h : AOk c dep G a s q r) (hq : q ≤ q') (hd : dep ≤ dep') : AOk c dep' G a s q' r := ⟨h.yes, h.no, h.lt, h.el, by have := h.len; omega, Nat.le_trans h.few hq, h.stop⟩
theorem LOk.up {c dep dep' : Nat} {F : Au → Nat → Au × Nat} {a : Au} {s : Int} {r : Au × Int} (h : LOk c dep F a s r) (hd : dep ≤ dep') : LOk c dep' F a s r := ⟨h.yes, h.no, h.lt, h.el, by have := h.len; omega, h.stop⟩
end Pv

namespace Pv
open Go Go.RowKit

section
variable {x : Rx} {ks : List Tr} {a : Au} {s : Int}
end
end Pv
