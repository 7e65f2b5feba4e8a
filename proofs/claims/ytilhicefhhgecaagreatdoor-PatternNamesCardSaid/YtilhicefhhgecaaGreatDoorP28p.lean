/- A pattern's text is well-formed, and how long it is; it is read as the pattern. Nothing of a program stands here. -/
import Derived.Test.YtilhicefhhgecaaGreatDoorP7p
import Derived.Test.YtilhicefhhgecaaGreatDoorP20p
import Derived.Test.YtilhicefhhgecaaGreatDoorP21p
import Derived.Test.YtilhicefhhgecaaGreatDoorP6p
import Derived.Test.YtilhicefhhgecaaGreatDoorYkp
import Derived.Test.YtilhicefhhgecaaGreatDoorYe0p
namespace Pv
open Go Go.RowKit
/-- Ahead of whatever stands behind, these bytes are whole code points. -/
def VOk (l : Bs) : Prop := ∀ r, Lib.validD (l ++ r) = Lib.validD r
theorem VOk.nil : VOk [] := fun _ => rfl
theorem VOk.app {a b : Bs} (ha : VOk a) (hb : VOk b) : VOk (a ++ b) := fun r => by rw [List.append_assoc, ha, hb]
theorem VOk.valid {a : Bs} (h : VOk a) : Lib.validD a = true := by
  have := h []
  rw [List.append_nil] at this
  rw [this]
  rfl
theorem VOk.char {n : Nat} (h : isP n = true) : VOk (bytes8 n) := fun r => by
  have h1 := next_bytes h r
  have hne : bytes8 n ++ r ≠ [] := fun e => by rw [e, nextP_nil] at h1; cases h1
  rw [← ptsL_valid _ _ (Nat.le_refl _), ← ptsL_valid _ _ (Nat.le_refl _), ptsL_step hne, h1]
  simp only [Option.isSome_map]
  rw [List.drop_left]
theorem VOk.byte {b : UInt8} (h : b.toNat < 128) : VOk [b] := by
  have e : bytes8 b.toNat = [b] := by unfold bytes8; rw [bytesP_1 h]; simp
  rw [← e]
  exact VOk.char (by unfold isP; simp; omega)
theorem VOk.cons {b : UInt8} {l : Bs} (h : b.toNat < 128) (hl : VOk l) : VOk (b :: l) := VOk.app (VOk.byte h) hl
theorem VOk.asc : ∀ {l : Bs}, (∀ b, b ∈ l → b.toNat < 128) → VOk l
  | [], _ => VOk.nil
  | b :: l, h => VOk.cons (h b (by simp)) (VOk.asc fun c hc => h c (by simp [hc]))
theorem hexD_asc (n : Nat) : (hexD n).toNat < 128 := by
  unfold hexD
  rw [List.getD_eq_getElem?_getD]
  cases h : hexL[n]? with
  | none => decide
  | some b => exact (by decide : ∀ b ∈ hexL, b.toNat < 128) b (List.mem_of_getElem? h)
theorem hexN_asc : ∀ (k n : Nat) (b : UInt8), b ∈ hexN k n → b.toNat < 128
  | 0, _, b, h => by cases h
  | k + 1, n, b, h => by
    rw [hexN, List.mem_cons] at h
    rcases h with rfl | h
    · exact hexD_asc _
    · exact hexN_asc k n b h
theorem VOk.num (n : Nat) : VOk (numL n) := by
  unfold numL
  split
  · rename_i h
    have := isMark_lt h
    exact VOk.cons (by decide) (VOk.byte (by simp; omega))
  · split
    · rename_i h
      exact VOk.char h.2
    · exact VOk.cons (by decide) (VOk.cons (by decide) (VOk.asc (hexN_asc 6 n)))
theorem VOk.rng (x : Rng) : VOk (rngL x) := by
  unfold rngL
  refine VOk.app (VOk.num _) ?_
  split
  · exact VOk.nil
  · exact VOk.cons (by decide) (VOk.num _)
theorem VOk.flat {α : Type} {f : α → Bs} : ∀ {l : List α}, (∀ x, x ∈ l → VOk (f x)) → VOk (l.flatMap f)
  | [], _ => VOk.nil
  | x :: l, h => by
    rw [List.flatMap_cons]
    exact VOk.app (h x (by simp)) (VOk.flat fun y hy => h y (by simp [hy]))
theorem VOk.body (l : List Rng) : VOk (bodyL l) := VOk.cons (by decide) (VOk.app (VOk.flat fun x _ => VOk.rng x) (VOk.byte (by decide)))
theorem VOk.set (l : List Rng) : VOk (setL l) := by
  match l with
  | [x] =>
    simp only [setL]
    split
    · exact VOk.byte (by decide)
    · split
      · exact VOk.num _
      · exact VOk.body _
  | [] => exact VOk.body _
  | _ :: _ :: _ => exact VOk.body _
theorem digL_asc {n : Nat} (h : n ≤ 16) : VOk (digL n) := by
  unfold digL
  split
  · exact VOk.byte (by simp; omega)
  · exact VOk.cons (by decide) (VOk.byte (by simp; omega))
theorem VOk.oft {least most : Int} (h0 : least ≤ 16) (h1 : most ≤ 16) : VOk (oftL least most) := by
  have hl : VOk (digL least.toNat) := digL_asc (by omega)
  have hm : VOk (digL most.toNat) := digL_asc (by omega)
  unfold oftL
  repeat' split
  · exact VOk.byte (by decide)
  · exact VOk.byte (by decide)
  · exact VOk.byte (by decide)
  · exact VOk.cons (by decide) (VOk.app hl (VOk.cons (by decide) (VOk.byte (by decide))))
  · exact VOk.cons (by decide) (VOk.app hl (VOk.byte (by decide)))
  · exact VOk.cons (by decide) (VOk.app hl (VOk.cons (by decide) (VOk.app hm (VOk.byte (by decide)))))
theorem VOk.tail {sep : Bs} (hs : VOk sep) : ∀ {l : List Bs}, (∀ x, x ∈ l → VOk x) → VOk (Lib.joinTail sep l)
  | [], _ => VOk.nil
  | x :: l, h => by
    have : Lib.joinTail sep (x :: l) = (sep ++ x) ++ Lib.joinTail sep l := by simp [Lib.joinTail]
    rw [this]
    exact VOk.app (VOk.app hs (h x (by simp))) (VOk.tail hs fun y hy => h y (by simp [hy]))
theorem VOk.join {sep : Bs} (hs : VOk sep) {l : List Bs} (h : ∀ x, x ∈ l → VOk x) : VOk (Lib.join l sep) := by
  cases l with
  | nil => exact VOk.nil
  | cons x l =>
    rw [Lib.join_cons]
    exact VOk.app (h x (by simp)) (VOk.tail hs fun y hy => h y (by simp [hy]))
theorem VOk.br {b : Bool} {l : Bs} (h : VOk l) : VOk (brS b l) := by
  unfold brS
  split
  · exact VOk.cons (by decide) (VOk.app h (VOk.byte (by decide)))
  · exact h
theorem VOk.sep (o : Int) : VOk (sepK o) := by
  unfold sepK
  split
  · exact VOk.byte (by decide)
  · exact VOk.nil
mutual
theorem VOk.txt : ∀ (T : Tr) (d : Nat), T.Ok d → VOk T.txt
  | .mk x ks, d, h => by
    have h1 := h.one
    by_cases h0 : x.kind = 0
    · rw [txt_empty h0]; exact VOk.nil
    by_cases h2 : x.kind = 1
    · rw [txt_set h2]; exact VOk.set _
    · have hk : 1 < x.kind := by rcases h1 with h | h | h | h <;> omega
      rw [txt_in hk]
      refine VOk.app (VOk.join (VOk.sep _) (VOk.txts x.kind ks (d - 1) fun k hk => h.kid hk)) ?_
      split
      · exact VOk.oft (by rcases h1 with h | h | h | h <;> omega) (by rcases h1 with h | h | h | h <;> omega)
      · exact VOk.nil
theorem VOk.txts (o : Int) : ∀ (ks : List Tr) (d : Nat), (∀ k, k ∈ ks → k.Ok d) → ∀ x, x ∈ txts o ks → VOk x
  | [], _, _, x, hx => by rw [Pv.txts] at hx; cases hx
  | k :: ks, d, h, x, hx => by
    rw [Pv.txts, List.mem_cons] at hx
    rcases hx with rfl | hx
    · exact VOk.br (VOk.txt k d (h k (by simp)))
    · exact VOk.txts o ks d (fun k' hk => h k' (by simp [hk])) x hx
end
theorem set17 (l : List Rng) : (setL l).length ≤ 17 * l.length + 2 := by
  have hb : (bodyL l).length ≤ 17 * l.length + 2 := by have := flat_len l; simp only [bodyL, List.length_cons, List.length_append, List.length_nil]; omega
  match l, hb with
  | [x], hb =>
    have := numL_len x.lo.toNat
    simp only [setL]
    split
    · simp
    · split
      · simp only [List.length_singleton]; omega
      · exact hb
  | [], hb => exact hb
  | _ :: _ :: _, hb => exact hb
mutual
theorem txt17 : ∀ (T : Tr) (d : Nat), T.Ok d → T.txt.length + 3 ≤ 17 * sumS T.flat + 12 * T.flat.length
  | .mk x ks, d, h => by
    have h1 := h.one
    rw [Tr.flat, sumS_cons, List.length_cons]
    by_cases h0 : x.kind = 0
    · rw [txt_empty h0]; simp; omega
    by_cases h2 : x.kind = 1
    · rw [txt_set h2]
      have := set17 x.set
      omega
    · have hk : 1 < x.kind := by rcases h1 with h | h | h | h <;> omega
      rw [txt_in hk, List.length_append]
      have h3 := joinT_len (sepK x.kind) (sepK_len _) (txts x.kind ks)
      have h4 := txts17 x.kind ks (d - 1) (fun k hk => h.kid hk)
      have h5 : (if x.kind = 4 then oftL x.least x.most else []).length ≤ 7 := by
        split
        · exact oftL_len _ _
        · simp
      omega
theorem txts17 (o : Int) : ∀ (ks : List Tr) (d : Nat), (∀ k, k ∈ ks → k.Ok d) → ((txts o ks).map fun x => 1 + x.length).sum ≤ 17 * sumS (flats ks) + 12 * (flats ks).length
  | [], _, _ => by simp [txts, flats, sumS]
  | k :: ks, d, h => by
    have h1 := txt17 k d (h k (by simp))
    have h2 := txts17 o ks d (fun k' hk => h k' (by simp [hk]))
    have h3 := brS_len (inK o k.root.kind) k.txt
    rw [txts, flats, List.map_cons, List.sum_cons, sumS_app, List.length_append]
    omega
end
end Pv
namespace Go.Proofs.YtilhicefhhgecaaGreatDoor
open Go.RowKit Pv
theorem textL_tree {T : Tr} (h : T.Ok 16) (hs : T.flat.length ≤ 64) : textL T.flat = T.txt := by
  have hp : Pat T.flat := Pat.of_tree h hs
  obtain ⟨h1, h2⟩ := patT_is hp
  rw [textL_yes hp, ← flat_inj h h1 h2]
/-- A pattern's text tells that pattern. -/
theorem text_back {t : List Rx} (h : Pat t) (hl : (textL t).length ≤ 16384) : parseB (textL t) = (t, 0) := by
  obtain ⟨h1, h2⟩ := patT_is h
  rw [textL_yes h] at hl ⊢
  have hv := (VOk.txt _ _ h1).valid
  rw [parseB_ok (by rw [if_neg (by omega), hv]; rfl), text_read h1 false, ← h2]
  unfold endP
  have hq := h.2.1
  simp only [List.isEmpty_nil, Bool.true_eq_false, if_false, Bool.or_false]
  rw [if_neg (by simp; omega), if_pos (patB_yes h)]
theorem text_len {t : List Rx} (h : Pat t) : (textL t).length ≤ 17 * sumS t + 12 * t.length := by
  obtain ⟨h1, h2⟩ := patT_is h
  rw [textL_yes h]
  have := txt17 _ _ h1
  rw [← h2] at this
  omega
end Go.Proofs.YtilhicefhhgecaaGreatDoor

namespace Pv
open Go Go.RowKit
theorem bN_app (l s : Bs) {i : Nat} (h : i < l.length) : bN (l ++ s) i = bN l i := by
  simp [bN, List.getD_eq_getElem?_getD, List.getElem?_append_left h]
theorem numK_app (l s : Bs) (q : Nat) : ∀ k, k < l.length → numK (l ++ s) q k = numK l q k
  | 0, h => by rw [numK, numK, bN_app l s h]
  | k + 1, h => by rw [numK, numK, numK_app l s q k (by omega), bN_app l s h]
theorem good_app (l s : Bs) {j : Nat} (h : j ≤ l.length) (h0 : 0 < j) : goodP (l ++ s) j = goodP l j := by
  have hn : numP (l ++ s) j = numP l j := numK_app l s j (j - 1) (by omega)
  have hf : firstN (l ++ s) j = firstN l j := by unfold firstN; rw [List.take_append_of_le_length h]
  unfold goodP
  rw [hn, hf]
  have h1 : decide (j ≤ (l ++ s).length) = true := decide_eq_true (by rw [List.length_append]; omega)
  have h2 : decide (j ≤ l.length) = true := decide_eq_true h
  rw [h1, h2]
theorem num_app (l s : Bs) {j : Nat} (h : j ≤ l.length) (h0 : 0 < j) : numP (l ++ s) j = numP l j := numK_app l s j (j - 1) (by omega)
theorem good_len {l : Bs} {j : Nat} (h : goodP l j = true) : j ≤ l.length := ((good_iff l j).1 h).1
theorem next_app {l s : Bs} {n k : Nat} (h : nextP l = some (n, k)) : nextP (l ++ s) = some (n, k) := by
  unfold nextP at h ⊢
  by_cases g1 : goodP l 1 = true
  · have := good_len g1
    rw [if_pos g1] at h
    rw [good_app l s this (by omega), if_pos g1, num_app l s this (by omega)]
    exact h
  rw [if_neg g1] at h
  by_cases g2 : goodP l 2 = true
  · have := good_len g2
    rw [if_pos g2] at h
    rw [good_app l s (by omega) (by omega), if_neg g1, good_app l s this (by omega), if_pos g2, num_app l s this (by omega)]
    exact h
  rw [if_neg g2] at h
  by_cases g3 : goodP l 3 = true
  · have := good_len g3
    rw [if_pos g3] at h
    rw [good_app l s (by omega) (by omega), if_neg g1, good_app l s (by omega) (by omega), if_neg g2, good_app l s this (by omega), if_pos g3, num_app l s this (by omega)]
    exact h
  rw [if_neg g3] at h
  by_cases g4 : goodP l 4 = true
  · have := good_len g4
    rw [if_pos g4] at h
    rw [good_app l s (by omega) (by omega), if_neg g1, good_app l s (by omega) (by omega), if_neg g2, good_app l s (by omega) (by omega), if_neg g3, good_app l s this (by omega), if_pos g4, num_app l s this (by omega)]
    exact h
  · rw [if_neg g4] at h
    cases h
theorem bN_here (l : Bs) (c : UInt8) (r : Bs) : bN (l ++ c :: r) l.length = c.toNat := by
  simp [bN, List.getD_eq_getElem?_getD]
/-- What begins badly begins badly ahead of a byte below 128. -/
theorem next_none {l : Bs} (hl : l ≠ []) (h : nextP l = none) {c : UInt8} (hc : c.toNat < 128) (r : Bs) : nextP (l ++ c :: r) = none := by
  have hp : 0 < l.length := List.length_pos_iff.2 hl
  have hb := bN_here l c r
  have key : ∀ j, 0 < j → j ≤ 4 → goodP l j = false → goodP (l ++ c :: r) j = false := by
    intro j h0 h4 hg
    by_cases hj : j ≤ l.length
    · rw [good_app l _ hj h0, hg]
    · cases hh : goodP (l ++ c :: r) j with
      | false => rfl
      | true =>
        exfalso
        rcases (show j = 1 ∨ j = 2 ∨ j = 3 ∨ j = 4 by omega) with rfl | rfl | rfl | rfl
        · omega
        · have := (good_2 _).1 hh
          rw [show l.length = 1 by omega] at hb
          omega
        · have := (good_3 _).1 hh
          rcases (show l.length = 1 ∨ l.length = 2 by omega) with e | e <;> rw [e] at hb <;> omega
        · have := (good_4 _).1 hh
          rcases (show l.length = 1 ∨ l.length = 2 ∨ l.length = 3 by omega) with e | e | e <;> rw [e] at hb <;> omega
  have hg : goodP l 1 = false ∧ goodP l 2 = false ∧ goodP l 3 = false ∧ goodP l 4 = false := by
    unfold nextP at h
    repeat' split at h
    all_goals (try cases h)
    exact ⟨by simpa using ‹¬goodP l 1 = true›, by simpa using ‹¬goodP l 2 = true›, by simpa using ‹¬goodP l 3 = true›, by simpa using ‹¬goodP l 4 = true›⟩
  unfold nextP
  rw [key 1 (by omega) (by omega) hg.1, key 2 (by omega) (by omega) hg.2.1, key 3 (by omega) (by omega) hg.2.2.1, key 4 (by omega) (by omega) hg.2.2.2]
  rfl
theorem valid_step {l : Bs} (h : l ≠ []) : Lib.validD l = match nextP l with | none => false | some (_, k) => Lib.validD (l.drop k) := by
  rw [← ptsL_valid _ l (Nat.le_refl _), ptsL_step h]
  cases hx : nextP l with
  | none => rfl
  | some p => simp only [Option.isSome_map]; exact ptsL_valid _ _ (Nat.le_refl _)
theorem valid_app (c : UInt8) (hc : c.toNat < 128) (r : Bs) : ∀ (n : Nat) (l : Bs), l.length ≤ n → Lib.validD (l ++ c :: r) = (Lib.validD l && Lib.validD r)
  | 0, l, h => by
    obtain rfl : l = [] := List.eq_nil_of_length_eq_zero (by omega)
    exact VOk.byte hc r
  | n + 1, l, h => by
    by_cases hl : l = []
    · subst hl
      exact VOk.byte hc r
    · rw [valid_step hl, valid_step (l := l ++ c :: r) (by simp)]
      cases hx : nextP l with
      | none => rw [next_none hl hx hc]; rfl
      | some p =>
        obtain ⟨m, k⟩ := p
        have hs := nextP_size hx
        rw [next_app hx]
        simp only
        rw [List.drop_append_of_le_length (by omega)]
        exact valid_app c hc r n _ (by rw [List.length_drop]; omega)
/-- The texts side by side are well-formed just if both are. -/
theorem valid_rows (a b m : Bs) (hm : ∀ c, c ∈ m → c.toNat < 128) : Lib.validD (40 :: (a ++ (41 :: (m ++ (40 :: (b ++ [41])))))) = (Lib.validD a && Lib.validD b) := by
  have h1 := VOk.byte (b := 40) (by decide)
  have h2 := valid_app 41 (by decide) (m ++ (40 :: (b ++ [41]))) _ a (Nat.le_refl _)
  have h3 := VOk.asc hm (40 :: (b ++ [41]))
  have h4 := valid_app 41 (by decide) [] _ b (Nat.le_refl _)
  have e : Lib.validD (40 :: (a ++ (41 :: (m ++ (40 :: (b ++ [41])))))) = Lib.validD (a ++ (41 :: (m ++ (40 :: (b ++ [41]))))) := h1 _
  rw [e, h2, h3]
  have e2 : Lib.validD (40 :: (b ++ [41])) = Lib.validD (b ++ [41]) := h1 _
  rw [e2, h4]
  have : Lib.validD ([] : Bs) = true := rfl
  rw [this, Bool.and_true]
-- the reader, ahead of a bracket
section
variable {s : Bs}
theorem isB_app {c : UInt8} {l r : Bs} (h : isB c l = some r) : isB c (l ++ s) = some (r ++ s) := by
  have := isB_some h
  subst this
  unfold isB
  simp
theorem isB_no (hs : ∃ q, s = 41 :: q) {c : UInt8} (hc : c ≠ 41) {l : Bs} (h : isB c l = none) : isB c (l ++ s) = none := by
  obtain ⟨q, rfl⟩ := hs
  cases l with
  | nil => unfold isB; simp [Ne.symm hc]
  | cons b l =>
    have h' : (if b = c then some l else none) = none := h
    show (if b = c then some (l ++ 41 :: q) else none) = none
    by_cases hb : b = c
    · rw [if_pos hb] at h'; cases h'
    · rw [if_neg hb]
theorem takeB_app {no l r : Bs} {n : Nat} (h : takeB no l = some (n, r)) : takeB no (l ++ s) = some (n, r ++ s) := by
  unfold takeB at h ⊢
  cases hx : nextP l with
  | none => rw [hx] at h; cases h
  | some p =>
    obtain ⟨m, k⟩ := p
    have hz := nextP_size hx
    rw [hx] at h
    rw [next_app hx]
    simp only at h ⊢
    have e : (l ++ s).getD 0 0 = l.getD 0 0 := by
      cases l with
      | nil => simp at hz; omega
      | cons b l => rfl
    rw [e]
    split at h
    · cases h
    · rename_i hc
      rw [if_neg hc]
      obtain ⟨rfl, rfl⟩ := Prod.mk.inj (Option.some.inj h)
      rw [List.drop_append_of_le_length (by omega)]
theorem escB_app {l r : Bs} {x : List Rng} {q : Bool} (h : escB l = some (x, q, r)) : escB (l ++ s) = some (x, q, r ++ s) := by
  unfold escB at h ⊢
  cases ht : takeB [] l with
  | none => rw [ht] at h; cases h
  | some p =>
    obtain ⟨c, r1⟩ := p
    rw [ht] at h
    rw [takeB_app ht]
    simp only at h ⊢
    split at h
    · rename_i h117
      rw [if_pos h117]
      split at h
      · cases h
      · rename_i hc
        simp only [Bool.or_eq_true, decide_eq_true_eq, not_or] at hc
        have h6 : 6 ≤ r1.length := by omega
        have e1 : (r1 ++ s).take 6 = r1.take 6 := List.take_append_of_le_length h6
        have e2 : (r1 ++ s).drop 6 = r1.drop 6 ++ s := List.drop_append_of_le_length h6
        rw [e1, e2]
        simp only [Option.some.injEq, Prod.mk.injEq] at h
        obtain ⟨rfl, rfl, rfl⟩ := h
        rw [if_neg]
        simp only [Bool.or_eq_true, decide_eq_true_eq, not_or, List.length_append]
        exact ⟨⟨by omega, hc.1.2⟩, hc.2⟩
    · rename_i h117
      rw [if_neg h117]
      cases hs : escS c with
      | none => rw [hs] at h; cases h
      | some p =>
        rw [hs] at h
        simp only [Option.map_some, Option.some.injEq, Prod.mk.injEq] at h ⊢
        obtain ⟨rfl, rfl, rfl⟩ := h
        exact ⟨rfl, rfl, rfl⟩
theorem itemB_app (hs : ∃ q, s = 41 :: q) {l r : Bs} {x : List Rng} {q : Bool} (h : itemB l = some (x, q, r)) : itemB (l ++ s) = some (x, q, r ++ s) := by
  unfold itemB at h ⊢
  cases hi : isB 92 l with
  | some r1 =>
    rw [hi] at h
    rw [isB_app hi]
    exact escB_app h
  | none =>
    rw [hi] at h
    rw [isB_no hs (by decide) hi]
    simp only at h ⊢
    cases ht : takeB noneC l with
    | none => rw [ht] at h; cases h
    | some p =>
      obtain ⟨c, r1⟩ := p
      rw [ht] at h
      rw [takeB_app ht]
      simp only [Option.map_some, Option.some.injEq, Prod.mk.injEq] at h ⊢
      obtain ⟨rfl, rfl, rfl⟩ := h
      exact ⟨rfl, rfl, rfl⟩
theorem rngB_app (hs : ∃ q, s = 41 :: q) {l r : Bs} {x : List Rng} (h : rngB l = some (x, r)) : rngB (l ++ s) = some (x, r ++ s) := by
  unfold rngB at h ⊢
  cases hi : itemB l with
  | none => rw [hi] at h; cases h
  | some p =>
    obtain ⟨y, q, r1⟩ := p
    rw [hi] at h
    rw [itemB_app hs hi]
    simp only at h ⊢
    cases h2 : (if q then isB 45 r1 else none) with
    | none =>
      have e : (if q then isB 45 (r1 ++ s) else none) = none := by
        cases q with
        | false => rfl
        | true => exact isB_no hs (by decide) (by simpa using h2)
      rw [h2] at h
      rw [e]
      simp only [Option.some.injEq, Prod.mk.injEq] at h ⊢
      obtain ⟨rfl, rfl⟩ := h
      exact ⟨rfl, rfl⟩
    | some r2 =>
      have e : (if q then isB 45 (r1 ++ s) else none) = some (r2 ++ s) := by
        cases q with
        | false => cases h2
        | true => exact isB_app (by simpa using h2)
      rw [h2] at h
      rw [e]
      simp only at h ⊢
      cases h3 : itemB r2 with
      | none => rw [h3] at h; cases h
      | some p =>
        obtain ⟨m, also, r3⟩ := p
        rw [h3] at h
        rw [itemB_app hs h3]
        simp only at h ⊢
        split at h
        · cases h
        · rename_i hc
          rw [if_neg hc]
          simp only [Option.some.injEq, Prod.mk.injEq] at h ⊢
          obtain ⟨rfl, rfl⟩ := h
          exact ⟨rfl, rfl⟩
theorem clsB_app (hs : ∃ q, s = 41 :: q) : ∀ (f f' : Nat), f ≤ f' → ∀ {l r : Bs} {acc x : List Rng}, clsB f l acc = some (x, r) → clsB f' (l ++ s) acc = some (x, r ++ s)
  | 0, _, _, _, _, _, _, h => by cases h
  | f + 1, 0, hf, _, _, _, _, _ => by omega
  | f + 1, f' + 1, hf, l, r, acc, x, h => by
    unfold clsB at h ⊢
    cases h1 : isB 93 l with
    | some r1 =>
      rw [h1] at h
      rw [isB_app h1]
      simp only [Option.some.injEq, Prod.mk.injEq] at h ⊢
      obtain ⟨rfl, rfl⟩ := h
      exact ⟨rfl, rfl⟩
    | none =>
      rw [h1] at h
      rw [isB_no hs (by decide) h1]
      simp only at h ⊢
      cases h2 : rngB l with
      | none => rw [h2] at h; cases h
      | some p =>
        obtain ⟨y, r1⟩ := p
        rw [h2] at h
        rw [rngB_app hs h2]
        exact clsB_app hs f f' (by omega) h
theorem classB_app (hs : ∃ q, s = 41 :: q) {l r : Bs} {w w2 : Bool} {t : List Rx} (h : classB l w = some (t, r, w2)) : classB (l ++ s) w = some (t, r ++ s, w2) := by
  unfold classB at h ⊢
  cases hn : isB 94 l with
  | none =>
    rw [hn] at h
    rw [isB_no hs (by decide) hn]
    simp only at h ⊢
    cases hc : clsB (l.length + 1) l [] with
    | none => rw [hc] at h; cases h
    | some p =>
      obtain ⟨y, r1⟩ := p
      rw [hc] at h
      rw [clsB_app hs _ ((l ++ s).length + 1) (by rw [List.length_append]; omega) hc]
      simp only [Option.some.injEq, Prod.mk.injEq] at h ⊢
      obtain ⟨rfl, rfl, rfl⟩ := h
      exact ⟨rfl, rfl, rfl⟩
  | some r0 =>
    rw [hn] at h
    rw [isB_app hn]
    simp only at h ⊢
    cases hc : clsB (r0.length + 1) r0 [] with
    | none => rw [hc] at h; cases h
    | some p =>
      obtain ⟨y, r1⟩ := p
      rw [hc] at h
      rw [clsB_app hs _ ((r0 ++ s).length + 1) (by rw [List.length_append]; omega) hc]
      simp only [Option.some.injEq, Prod.mk.injEq] at h ⊢
      obtain ⟨rfl, rfl, rfl⟩ := h
      exact ⟨rfl, rfl, rfl⟩
/-- What the one reads, the other reads too, ahead of s. -/
def LeG (s : Bs) (g g' : Bs → Bool → Option PR) : Prop := ∀ l w t r w2, g l w = some (t, r, w2) → g' (l ++ s) w = some (t, r ++ s, w2)
theorem atomB_app (hs : ∃ q, s = 41 :: q) {g g' : Bs → Bool → Option PR} (hg : LeG s g g') {l r : Bs} {w w2 : Bool} {t : List Rx} (h : atomB g l w = some (t, r, w2)) : atomB g' (l ++ s) w = some (t, r ++ s, w2) := by
  unfold atomB at h ⊢
  cases h1 : isB 46 l with
  | some r1 =>
    rw [h1] at h
    rw [isB_app h1]
    simp only [Option.some.injEq, Prod.mk.injEq] at h ⊢
    obtain ⟨rfl, rfl, rfl⟩ := h
    exact ⟨rfl, rfl, rfl⟩
  | none =>
    rw [h1] at h
    rw [isB_no hs (by decide) h1]
    simp only at h ⊢
    cases h2 : isB 40 l with
    | some r1 =>
      rw [h2] at h
      rw [isB_app h2]
      simp only at h ⊢
      cases h3 : g r1 w with
      | none => rw [h3] at h; cases h
      | some p =>
        obtain ⟨u, r2, w3⟩ := p
        rw [h3] at h
        rw [hg _ _ _ _ _ h3]
        simp only at h ⊢
        cases h4 : isB 41 r2 with
        | none => rw [h4] at h; cases h
        | some r3 =>
          rw [h4] at h
          rw [isB_app h4]
          simp only [Option.map_some, Option.some.injEq, Prod.mk.injEq] at h ⊢
          obtain ⟨rfl, rfl, rfl⟩ := h
          exact ⟨rfl, rfl, rfl⟩
    | none =>
      rw [h2] at h
      rw [isB_no hs (by decide) h2]
      simp only at h ⊢
      cases h3 : isB 91 l with
      | some r1 =>
        rw [h3] at h
        rw [isB_app h3]
        exact classB_app hs h
      | none =>
        rw [h3] at h
        rw [isB_no hs (by decide) h3]
        simp only at h ⊢
        cases h4 : isB 92 l with
        | some r1 =>
          rw [h4] at h
          rw [isB_app h4]
          simp only at h ⊢
          cases h5 : escB r1 with
          | none => rw [h5] at h; cases h
          | some p =>
            obtain ⟨x, q, r2⟩ := p
            rw [h5] at h
            rw [escB_app h5]
            simp only [Option.map_some, Option.some.injEq, Prod.mk.injEq] at h ⊢
            obtain ⟨rfl, rfl, rfl⟩ := h
            exact ⟨rfl, rfl, rfl⟩
        | none =>
          rw [h4] at h
          rw [isB_no hs (by decide) h4]
          simp only at h ⊢
          cases h5 : takeB noneA l with
          | none => rw [h5] at h; cases h
          | some p =>
            obtain ⟨c, r2⟩ := p
            rw [h5] at h
            rw [takeB_app h5]
            simp only [Option.map_some, Option.some.injEq, Prod.mk.injEq] at h ⊢
            obtain ⟨rfl, rfl, rfl⟩ := h
            exact ⟨rfl, rfl, rfl⟩
theorem digs_app (hs : ∃ q, s = 41 :: q) (l : Bs) : digs (l ++ s) = digs l := by
  obtain ⟨q, rfl⟩ := hs
  unfold digs
  match l with
  | [] => cases q <;> rfl
  | [b] => simp [List.takeWhile_cons]
  | b :: c :: l => rfl
theorem digs_le (l : Bs) : (digs l).length ≤ l.length := by
  unfold digs
  exact Nat.le_trans (List.takeWhile_sublist _).length_le (List.length_take_le' _ _)
theorem countB_app (hs : ∃ q, s = 41 :: q) {l r : Bs} {n : Nat} (h : countB l = some (n, r)) : countB (l ++ s) = some (n, r ++ s) := by
  unfold countB at h ⊢
  rw [digs_app hs]
  split at h
  · cases h
  · rename_i hc
    rw [if_neg hc]
    simp only [Option.some.injEq, Prod.mk.injEq] at h ⊢
    obtain ⟨rfl, rfl⟩ := h
    exact ⟨rfl, List.drop_append_of_le_length (digs_le l)⟩
theorem oftB_app (hs : ∃ q, s = 41 :: q) {l r : Bs} {x : Option (Int × Int)} (h : oftB l = some (x, r)) : oftB (l ++ s) = some (x, r ++ s) := by
  have fin : ∀ {x' : Option (Int × Int)} {r' : Bs}, some (x', r') = some (x, r) → some (x', r' ++ s) = some (x, r ++ s) := by
    intro x' r' e
    obtain ⟨rfl, rfl⟩ := Prod.mk.inj (Option.some.inj e)
    rfl
  unfold oftB at h ⊢
  cases h1 : isB 42 l with
  | some r1 => rw [h1] at h; rw [isB_app h1]; exact fin h
  | none =>
    rw [h1] at h
    rw [isB_no hs (by decide) h1]
    simp only at h ⊢
    cases h2 : isB 43 l with
    | some r1 => rw [h2] at h; rw [isB_app h2]; exact fin h
    | none =>
      rw [h2] at h
      rw [isB_no hs (by decide) h2]
      simp only at h ⊢
      cases h3 : isB 63 l with
      | some r1 => rw [h3] at h; rw [isB_app h3]; exact fin h
      | none =>
        rw [h3] at h
        rw [isB_no hs (by decide) h3]
        simp only at h ⊢
        cases h4 : isB 123 l with
        | none =>
          rw [h4] at h
          rw [isB_no hs (by decide) h4]
          exact fin h
        | some r1 =>
          rw [h4] at h
          rw [isB_app h4]
          simp only at h ⊢
          cases h5 : countB r1 with
          | none => rw [h5] at h; cases h
          | some p =>
            obtain ⟨a, r2⟩ := p
            rw [h5] at h
            rw [countB_app hs h5]
            simp only at h ⊢
            cases h6 : isB 44 r2 with
            | none =>
              rw [h6] at h
              rw [isB_no hs (by decide) h6]
              simp only at h ⊢
              cases h7 : isB 125 r2 with
              | none => rw [h7] at h; cases h
              | some r3 =>
                rw [h7] at h
                rw [isB_app h7]
                exact fin h
            | some r3 =>
              rw [h6] at h
              rw [isB_app h6]
              simp only at h ⊢
              cases h7 : isB 125 r3 with
              | some r4 =>
                rw [h7] at h
                rw [isB_app h7]
                exact fin h
              | none =>
                rw [h7] at h
                rw [isB_no hs (by decide) h7]
                simp only at h ⊢
                cases h8 : countB r3 with
                | none => rw [h8] at h; cases h
                | some p =>
                  obtain ⟨b, r4⟩ := p
                  rw [h8] at h
                  rw [countB_app hs h8]
                  simp only at h ⊢
                  split at h
                  · cases h
                  · rename_i hab
                    rw [if_neg hab]
                    cases h9 : isB 125 r4 with
                    | none => rw [h9] at h; cases h
                    | some r5 =>
                      rw [h9] at h
                      rw [isB_app h9]
                      exact fin h
theorem pieceB_app (hs : ∃ q, s = 41 :: q) {g g' : Bs → Bool → Option PR} (hg : LeG s g g') {l r : Bs} {w w2 : Bool} {t : List Rx} (h : pieceB g l w = some (t, r, w2)) : pieceB g' (l ++ s) w = some (t, r ++ s, w2) := by
  unfold pieceB at h ⊢
  cases h1 : atomB g l w with
  | none => rw [h1] at h; cases h
  | some p =>
    obtain ⟨u, r1, w1⟩ := p
    rw [h1] at h
    rw [atomB_app hs hg h1]
    simp only at h ⊢
    cases h2 : oftB r1 with
    | none => rw [h2] at h; cases h
    | some p =>
      obtain ⟨x, r2⟩ := p
      rw [h2] at h
      rw [oftB_app hs h2]
      cases x with
      | none =>
        simp only [Option.some.injEq, Prod.mk.injEq] at h ⊢
        obtain ⟨rfl, rfl, rfl⟩ := h
        exact ⟨rfl, rfl, rfl⟩
      | some ab =>
        simp only [Option.some.injEq, Prod.mk.injEq] at h ⊢
        obtain ⟨rfl, rfl, rfl⟩ := h
        exact ⟨rfl, rfl, rfl⟩
theorem stop_app (hs : ∃ q, s = 41 :: q) (l : Bs) : stopB (l ++ s) = stopB l := by
  obtain ⟨q, rfl⟩ := hs
  cases l with
  | nil => rfl
  | cons b l => rfl
theorem piecesB_app (hs : ∃ q, s = 41 :: q) {g g' : Bs → Bool → Option PR} (hg : LeG s g g') : ∀ (f f' : Nat), f ≤ f' → ∀ {l r : Bs} {w w2 : Bool} {acc t : List (List Rx)}, piecesB g f l w acc = some (t, r, w2) → piecesB g' f' (l ++ s) w acc = some (t, r ++ s, w2)
  | 0, _, _, _, _, _, _, _, _, h => by cases h
  | f + 1, 0, hf, _, _, _, _, _, _, _ => by omega
  | f + 1, f' + 1, hf, l, r, w, w2, acc, t, h => by
    unfold piecesB at h ⊢
    rw [stop_app hs]
    split at h
    · rename_i hst
      rw [if_pos hst]
      simp only [Option.some.injEq, Prod.mk.injEq] at h ⊢
      obtain ⟨rfl, rfl, rfl⟩ := h
      exact ⟨rfl, rfl, rfl⟩
    · rename_i hst
      rw [if_neg hst]
      cases h1 : pieceB g l w with
      | none => rw [h1] at h; cases h
      | some p =>
        obtain ⟨u, r1, w1⟩ := p
        rw [h1] at h
        rw [pieceB_app hs hg h1]
        exact piecesB_app hs hg f f' (by omega) h
theorem altsB_app (hs : ∃ q, s = 41 :: q) {g g' : Bs → Bool → Option PR} (hg : LeG s g g') : ∀ (f f' : Nat), f ≤ f' → ∀ {l r : Bs} {w w2 : Bool} {acc : List (List Rx)} {t : List Rx}, altsB g f l w acc = some (t, r, w2) → altsB g' f' (l ++ s) w acc = some (t, r ++ s, w2)
  | 0, _, _, _, _, _, _, _, _, h => by cases h
  | f + 1, 0, hf, _, _, _, _, _, _, _ => by omega
  | f + 1, f' + 1, hf, l, r, w, w2, acc, t, h => by
    unfold altsB at h ⊢
    cases h1 : piecesB g (l.length + 1) l w [] with
    | none => rw [h1] at h; cases h
    | some p =>
      obtain ⟨ps, r1, w1⟩ := p
      rw [h1] at h
      rw [piecesB_app hs hg _ ((l ++ s).length + 1) (by rw [List.length_append]; omega) h1]
      simp only at h ⊢
      cases h2 : isB 124 r1 with
      | none =>
        rw [h2] at h
        rw [isB_no hs (by decide) h2]
        simp only [Option.some.injEq, Prod.mk.injEq] at h ⊢
        obtain ⟨rfl, rfl, rfl⟩ := h
        exact ⟨rfl, rfl, rfl⟩
      | some r2 =>
        rw [h2] at h
        rw [isB_app h2]
        exact altsB_app hs hg f f' (by omega) h
theorem rowsB_app (hs : ∃ q, s = 41 :: q) : ∀ (f f' : Nat), f ≤ f' → LeG s (rowsB f) (rowsB f')
  | 0, _, _ => fun _ _ _ _ _ h => by cases h
  | f + 1, 0, hf => by omega
  | f + 1, f' + 1, hf => fun l w t r w2 h => by
    unfold rowsB at h ⊢
    exact altsB_app hs (rowsB_app hs f f' (by omega)) _ _ (by rw [List.length_append]; omega) h
end
end Pv

namespace Pv
open Go Go.RowKit
/-- What parses: nothing wide. -/
theorem parse_rows {l : Bs} {t : List Rx} (h : parseB l = (t, 0)) : l.length ≤ 16384 ∧ Lib.validD l = true ∧ rowsB (l.length + 1) l false = some (t, [], false) ∧ Pat t := by
  obtain ⟨d, hd⟩ : ∃ d, (if 16384 < l.length then (4 : Int) else if Lib.validD l then 0 else 10) = d := ⟨_, rfl⟩
  by_cases h0 : d = 0
  · subst h0
    have hl : ¬ 16384 < l.length := fun hh => by rw [if_pos hh] at hd; cases hd
    have hv : Lib.validD l = true := by
      rw [if_neg hl] at hd
      cases hh : Lib.validD l with
      | true => rfl
      | false => rw [hh] at hd; cases hd
    rw [parseB_ok hd] at h
    cases hr : rowsB (l.length + 1) l false with
    | none => rw [hr] at h; exact absurd (Prod.mk.inj h).2 (by decide)
    | some p =>
      obtain ⟨u, r, w⟩ := p
      rw [hr] at h
      unfold endP at h
      simp only at h
      split at h
      · exact absurd (Prod.mk.inj h).2 (by decide)
      · rename_i hre
        split at h
        · exact absurd (Prod.mk.inj h).2 (by decide)
        · rename_i hw
          split at h
          · rename_i hp
            obtain ⟨rfl, _⟩ := Prod.mk.inj h
            simp only [Bool.or_eq_true, not_or, Bool.not_eq_true] at hw
            have e1 : r = [] := by cases r with | nil => rfl | cons a b => simp at hre
            exact ⟨by omega, hv, by rw [e1, hw.2], Pat.of hp⟩
          · exact absurd (Prod.mk.inj h).2 (by decide)
  · rw [parseB_bad hd h0] at h
    exact absurd (Prod.mk.inj h).2 h0
/-- One in brackets, with what stands behind. -/
theorem piece_in {t : List Rx} {a : Bs} {f f' : Nat} {w : Bool} (h : rowsB f a w = some (t, [], w)) (hf : f ≤ f') (q : Bs) (hq : oftB q = some (none, q)) : pieceB (rowsB f') (40 :: (a ++ 41 :: q)) w = some (t, q, w) := by
  have h1 := rowsB_app (s := 41 :: q) ⟨q, rfl⟩ f f' hf _ _ _ _ _ h
  rw [List.nil_append] at h1
  have h2 : atomB (rowsB f') (40 :: (a ++ 41 :: q)) w = some (t, q, w) := by
    unfold atomB
    have e1 : isB 46 (40 :: (a ++ 41 :: q)) = none := rfl
    have e2 : isB 40 (40 :: (a ++ 41 :: q)) = some (a ++ 41 :: q) := rfl
    have e3 : isB 41 (41 :: q) = some q := rfl
    rw [e1, e2]
    simp only [h1, e3, Option.map_some]
  unfold pieceB
  rw [h2]
  simp only [hq]
theorem oftP_par (q : Bs) : oftB (40 :: q) = some (none, 40 :: q) := rfl
theorem oft_bar (q : Bs) : oftB (124 :: q) = some (none, 124 :: q) := rfl
theorem oft_nil : oftB [] = some (none, []) := rfl
def catT (a b : Bs) : Bs := 40 :: (a ++ 41 :: (40 :: (b ++ [41])))
def altT (a b : Bs) : Bs := 40 :: (a ++ 41 :: (124 :: (40 :: (b ++ [41]))))
theorem rows_cat {a b : Bs} {t u : List Rx} (ha : rowsB (a.length + 1) a false = some (t, [], false)) (hb : rowsB (b.length + 1) b false = some (u, [], false)) :
    rowsB ((catT a b).length + 1) (catT a b) false = some (⟨2, [], 2, 0, 0⟩ :: (t ++ u), [], false) := by
  have hl : (catT a b).length = a.length + b.length + 4 := by simp [catT]; omega
  obtain ⟨f, hf⟩ : ∃ f, (catT a b).length = f := ⟨_, rfl⟩
  rw [hf] at hl ⊢
  have p1 := piece_in (f' := f) ha (by omega) (40 :: (b ++ [41])) (oftP_par _)
  have p2 := piece_in (f' := f) hb (by omega) [] oft_nil
  unfold rowsB
  rw [hf]
  unfold altsB
  rw [hf]
  have hp : piecesB (rowsB f) (f + 1) (catT a b) false [] = some ([t, u], [], false) := by
    obtain ⟨n, rfl⟩ : ∃ n, f = n + 2 := ⟨f - 2, by omega⟩
    unfold piecesB
    rw [if_neg (show ¬ stopB (catT a b) = true from by simp [stopB, catT]), show catT a b = 40 :: (a ++ 41 :: (40 :: (b ++ [41]))) from rfl, p1]
    simp only
    unfold piecesB
    rw [if_neg (show ¬ stopB (40 :: (b ++ [41])) = true from by simp [stopB]), p2]
    rfl
  rw [hp]
  simp [isB, putB]
theorem rows_alt {a b : Bs} {t u : List Rx} (ha : rowsB (a.length + 1) a false = some (t, [], false)) (hb : rowsB (b.length + 1) b false = some (u, [], false)) :
    rowsB ((altT a b).length + 1) (altT a b) false = some (⟨3, [], 2, 0, 0⟩ :: (t ++ u), [], false) := by
  have hl : (altT a b).length = a.length + b.length + 5 := by simp [altT]; omega
  obtain ⟨f, hf⟩ : ∃ f, (altT a b).length = f := ⟨_, rfl⟩
  rw [hf] at hl ⊢
  have p1 := piece_in (f' := f) ha (by omega) (124 :: (40 :: (b ++ [41]))) (oft_bar _)
  have p2 := piece_in (f' := f) hb (by omega) [] oft_nil
  unfold rowsB
  rw [hf]
  unfold altsB
  rw [hf]
  have hp : piecesB (rowsB f) (f + 1) (altT a b) false [] = some ([t], 124 :: (40 :: (b ++ [41])), false) := by
    obtain ⟨n, rfl⟩ : ∃ n, f = n + 2 := ⟨f - 2, by omega⟩
    unfold piecesB
    rw [if_neg (show ¬ stopB (altT a b) = true from by simp [stopB, altT]), show altT a b = 40 :: (a ++ 41 :: (124 :: (40 :: (b ++ [41])))) from rfl, p1]
    rfl
  have hq : ∀ n, 2 ≤ n → piecesB (rowsB f) n (40 :: (b ++ [41])) false [] = some ([u], [], false) := by
    intro n hn
    obtain ⟨n, rfl⟩ : ∃ m, n = m + 2 := ⟨n - 2, by omega⟩
    unfold piecesB
    rw [if_neg (show ¬ stopB (40 :: (b ++ [41])) = true from by simp [stopB]), p2]
    rfl
  rw [hp]
  have e : isB 124 (124 :: (40 :: (b ++ [41]))) = some (40 :: (b ++ [41])) := rfl
  simp only [e]
  obtain ⟨n, rfl⟩ : ∃ n, f = n + 1 := ⟨f - 1, by omega⟩
  unfold altsB
  rw [hq _ (by simp)]
  simp [isB, putB]
theorem pat_flip {k k' m : Int} (hk : k = 2 ∨ k = 3) (hk' : k' = 2 ∨ k' = 3) {l : List Rx} (h : Pat (⟨k, [], m, 0, 0⟩ :: l)) : Pat (⟨k', [], m, 0, 0⟩ :: l) := by
  obtain ⟨T, hT, hf⟩ := h.tree
  obtain ⟨x, ks⟩ := T
  rw [Tr.flat] at hf
  obtain ⟨rfl, rfl⟩ := List.cons.inj hf
  have hl : (⟨k, [], m, 0, 0⟩ :: flats ks : List Rx).length ≤ 64 := h.2.1
  have ho : (Tr.mk ⟨k', [], m, 0, 0⟩ ks).Ok 16 := by
    obtain ⟨h1, h2, h3⟩ := hT
    refine ⟨?_, h2, h3⟩
    have h4 : 2 ≤ m := by
      rcases h1 with q | q | q | q
      · have := q.1; simp only at this; omega
      · have := q.1; simp only at this; omega
      · exact q.2.2.2.2
      · have := q.1; simp only at this; omega
    exact .inr (.inr (.inl ⟨hk', rfl, rfl, rfl, h4⟩))
  exact Pat.of_tree ho hl
end Pv
