/- A pattern's text tells that pattern. Nothing of a program stands here. -/
import Derived.Test.YtilhicefhhgecaaGreatDoorP6p
import Derived.Test.YtilhicefhhgecaaGreatDoorYi0p
namespace Pv
open Go Go.RowKit

/-- Nothing that says how often stands first. -/
def NoOft (l : Bs) : Prop := isB 42 l = none ∧ isB 43 l = none ∧ isB 63 l = none ∧ isB 123 l = none
/-- What a piece's text begins with. -/
def HB (b : UInt8) : Prop := b = 40 ∨ b = 46 ∨ b = 91 ∨ b = 92 ∨ isMark b.toNat = false
theorem HB.no {b : UInt8} (h : HB b) (r : Bs) : NoOft (b :: r) ∧ stopB (b :: r) = false := by
  have key : ∀ c : UInt8, isMark c.toNat = true → c ≠ 40 → c ≠ 46 → c ≠ 91 → c ≠ 92 → b ≠ c := by
    rintro c h1 h2 h3 h4 h5 rfl
    rcases h with h | h | h | h | h
    · exact h2 h
    · exact h3 h
    · exact h4 h
    · exact h5 h
    · rw [h1] at h; cases h
  refine ⟨⟨isB_m _ (key 42 (by decide) (by decide) (by decide) (by decide) (by decide)), isB_m _ (key 43 (by decide) (by decide) (by decide) (by decide) (by decide)), isB_m _ (key 63 (by decide) (by decide) (by decide) (by decide) (by decide)), isB_m _ (key 123 (by decide) (by decide) (by decide) (by decide) (by decide))⟩, ?_⟩
  have h1 := key 124 (by decide) (by decide) (by decide) (by decide) (by decide)
  have h2 := key 41 (by decide) (by decide) (by decide) (by decide) (by decide)
  simp [stopB, h1, h2]
theorem stop_no {l : Bs} (h : stopB l = true) : NoOft l := by
  cases l with
  | nil => exact ⟨rfl, rfl, rfl, rfl⟩
  | cons b l =>
    simp only [stopB, Bool.or_eq_true, decide_eq_true_eq] at h
    rcases h with rfl | rfl
    · exact ⟨isB_m _ (by decide), isB_m _ (by decide), isB_m _ (by decide), isB_m _ (by decide)⟩
    · exact ⟨isB_m _ (by decide), isB_m _ (by decide), isB_m _ (by decide), isB_m _ (by decide)⟩
/-- The end of rows: nothing, or a round bracket. -/
def EndB (l : Bs) : Prop := l = [] ∨ ∃ r, l = 41 :: r
theorem EndB.stop {l : Bs} (h : EndB l) : stopB l = true ∧ isB 124 l = none := by
  rcases h with rfl | ⟨r, rfl⟩
  · exact ⟨rfl, rfl⟩
  · exact ⟨rfl, isB_m _ (by decide)⟩
theorem pieces_end {g : Bs → Bool → Option PR} {l : Bs} {w : Bool} {acc : List (List Rx)} (h : stopB l = true) (n : Nat) : piecesB g (n + 1) l w acc = some (acc, l, w) := by
  unfold piecesB
  rw [if_pos h]
theorem pieces_one {g : Bs → Bool → Option PR} {l r : Bs} {w w2 : Bool} {acc : List (List Rx)} {t : List Rx} (h : stopB l = false) (hp : pieceB g l w = some (t, r, w2)) (n : Nat) : piecesB g (n + 1) l w acc = piecesB g n r w2 (acc ++ [t]) := by
  conv => lhs; unfold piecesB
  rw [if_neg (by rw [h]; simp), hp]
theorem alts_end {g : Bs → Bool → Option PR} {l r : Bs} {w w2 : Bool} {acc ps : List (List Rx)} (h : piecesB g (l.length + 1) l w [] = some (ps, r, w2)) (hr : isB 124 r = none) (n : Nat) : altsB g (n + 1) l w acc = some (putB 3 (acc ++ [putB 2 ps]), r, w2) := by
  conv => lhs; unfold altsB
  rw [h]
  simp only [hr]
theorem alts_one {g : Bs → Bool → Option PR} {l r r2 : Bs} {w w2 : Bool} {acc ps : List (List Rx)} (h : piecesB g (l.length + 1) l w [] = some (ps, r, w2)) (hr : isB 124 r = some r2) (n : Nat) : altsB g (n + 1) l w acc = altsB g n r2 w2 (acc ++ [putB 2 ps]) := by
  conv => lhs; unfold altsB
  rw [h]
  simp only [hr]
/-- What an atom that is repeated reads as; a piece; a row; rows. -/
structure Reads (T : Tr) : Prop where
  atom : ∀ f w rest, (brS (inK 4 T.root.kind) T.txt ++ rest).length ≤ f → atomB (rowsB f) (brS (inK 4 T.root.kind) T.txt ++ rest) w = some (T.flat, rest, w)
  piece : ∀ f w rest, (brS (inK 2 T.root.kind) T.txt ++ rest).length ≤ f → NoOft rest → pieceB (rowsB f) (brS (inK 2 T.root.kind) T.txt ++ rest) w = some (T.flat, rest, w)
  row : ∀ f w rest, (brS (inK 3 T.root.kind) T.txt ++ rest).length ≤ f → stopB rest = true → ∀ n, (brS (inK 3 T.root.kind) T.txt ++ rest).length < n → ∃ ps, piecesB (rowsB f) n (brS (inK 3 T.root.kind) T.txt ++ rest) w [] = some (ps, rest, w) ∧ putB 2 ps = T.flat
  rows : ∀ f w rest, (T.txt ++ rest).length < f → EndB rest → rowsB f (T.txt ++ rest) w = some (T.flat, rest, w)
  ahead : ∃ b r, brS (inK 4 T.root.kind) T.txt = b :: r ∧ HB b
  head : ∃ b r, brS (inK 2 T.root.kind) T.txt = b :: r ∧ HB b
theorem group_read {l : List Rx} {txt : Bs} (hr : ∀ f w rest, (txt ++ rest).length < f → EndB rest → rowsB f (txt ++ rest) w = some (l, rest, w)) (f : Nat) (w : Bool) (rest : Bs) (hf : (brS true txt ++ rest).length ≤ f) : atomB (rowsB f) (brS true txt ++ rest) w = some (l, rest, w) := by
  have e : brS true txt ++ rest = 40 :: (txt ++ 41 :: rest) := by simp [brS]
  rw [e] at hf ⊢
  unfold atomB
  rw [isB_m (c := 46) _ (by decide), isB_h]
  simp only
  rw [hr f w (41 :: rest) (by simp only [List.length_cons] at hf; omega) (.inr ⟨rest, rfl⟩)]
  simp only [isB_h, Option.map_some]
theorem flats_map : ∀ ks : List Tr, flats ks = (ks.map Tr.flat).flatten
  | [] => rfl
  | k :: ks => by simp [flats, flats_map ks]
theorem joinTail_nil (l : List (List UInt8)) : Lib.joinTail [] l = l.flatten := by
  unfold Lib.joinTail
  congr 1
  exact (List.map_congr_left fun _ _ => List.nil_append _).trans (List.map_id _)
theorem join_flat (l : List (List UInt8)) : Lib.join l [] = l.flatten := by
  cases l with
  | nil => rfl
  | cons x l => rw [Lib.join_cons, joinTail_nil, List.flatten_cons]
theorem putB_many {kind : Int} {l : List (List Rx)} (h : 2 ≤ l.length) : putB kind l = ⟨kind, [], l.length, 0, 0⟩ :: l.flatten := by
  match l, h with
  | _ :: _ :: _, _ => rfl
/-- Pieces, one behind the other. -/
theorem pieces_all : ∀ (ks : List Tr) (f n : Nat) (w : Bool) (rest : Bs) (acc : List (List Rx)), (∀ k, k ∈ ks → Reads k) → ((txts 2 ks).flatten ++ rest).length ≤ f → stopB rest = true → ks.length < n → piecesB (rowsB f) n ((txts 2 ks).flatten ++ rest) w acc = some (acc ++ ks.map Tr.flat, rest, w)
  | [], f, n + 1, w, rest, acc, _, _, hs, _ => by
    rw [show (txts 2 []).flatten ++ rest = rest from rfl, pieces_end hs]
    simp
  | k :: ks, f, n + 1, w, rest, acc, hk, hf, hs, hn => by
    have e : (txts 2 (k :: ks)).flatten ++ rest = brS (inK 2 k.root.kind) k.txt ++ ((txts 2 ks).flatten ++ rest) := by rw [txts, List.flatten_cons, List.append_assoc]
    rw [e] at hf ⊢
    obtain ⟨b, r, e1, hb⟩ := (hk k (by simp)).head
    have hno : NoOft ((txts 2 ks).flatten ++ rest) := by
      cases ks with
      | nil => exact stop_no hs
      | cons k2 ks =>
        obtain ⟨b2, r2, e2, hb2⟩ := (hk k2 (by simp)).head
        rw [txts, List.flatten_cons, e2]
        exact (hb2.no _).1
    have hst : stopB (brS (inK 2 k.root.kind) k.txt ++ ((txts 2 ks).flatten ++ rest)) = false := by rw [e1]; exact (hb.no _).2
    rw [pieces_one hst ((hk k (by simp)).piece f w _ hf hno)]
    rw [pieces_all ks f n w rest (acc ++ [k.flat]) (fun j hj => hk j (by simp [hj])) (by simp only [List.length_append] at hf ⊢; omega) hs (by simp at hn; omega)]
    simp
theorem txts_long : ∀ ks : List Tr, (∀ k, k ∈ ks → Reads k) → ks.length ≤ (txts 2 ks).flatten.length
  | [], _ => by simp
  | k :: ks, h => by
    obtain ⟨b, r, e, _⟩ := (h k (by simp)).head
    have := txts_long ks fun j hj => h j (by simp [hj])
    rw [txts, List.flatten_cons, e]
    simp only [List.length_cons, List.length_append]
    omega
/-- Rows, side by side. -/
theorem alts_all : ∀ (k : Tr) (ks : List Tr) (f n : Nat) (w : Bool) (rest : Bs) (acc : List (List Rx)), (∀ j, j ∈ k :: ks → Reads j) → (Lib.join (txts 3 (k :: ks)) [124] ++ rest).length ≤ f → EndB rest → ks.length < n → altsB (rowsB f) n (Lib.join (txts 3 (k :: ks)) [124] ++ rest) w acc = some (putB 3 (acc ++ (k :: ks).map Tr.flat), rest, w)
  | k, [], f, n + 1, w, rest, acc, hk, hf, hs, _ => by
    have e : Lib.join (txts 3 [k]) [124] ++ rest = brS (inK 3 k.root.kind) k.txt ++ rest := by rw [txts, txts, Lib.join_one]
    rw [e] at hf ⊢
    obtain ⟨ps, h1, h2⟩ := (hk k (by simp)).row f w rest hf hs.stop.1 ((brS (inK 3 k.root.kind) k.txt ++ rest).length + 1) (by omega)
    rw [alts_end h1 hs.stop.2, h2]
    simp
  | k, k2 :: ks, f, n + 1, w, rest, acc, hk, hf, hs, hn => by
    have e : Lib.join (txts 3 (k :: k2 :: ks)) [124] ++ rest = brS (inK 3 k.root.kind) k.txt ++ 124 :: (Lib.join (txts 3 (k2 :: ks)) [124] ++ rest) := by
      rw [txts, Lib.join_cons, txts, Lib.join_cons]
      simp [Lib.joinTail]
    rw [e] at hf ⊢
    obtain ⟨ps, h1, h2⟩ := (hk k (by simp)).row f w (124 :: (Lib.join (txts 3 (k2 :: ks)) [124] ++ rest)) hf rfl _ (Nat.lt_succ_self _)
    rw [alts_one h1 (isB_h _ _), h2, alts_all k2 ks f n w rest (acc ++ [k.flat]) (fun j hj => hk j (List.mem_cons_of_mem _ hj)) (by simp only [List.length_append, List.length_cons] at hf ⊢; omega) hs (by simp at hn; omega)]
    simp
theorem txts_long3 : ∀ (k : Tr) (ks : List Tr), ks.length ≤ (Lib.join (txts 3 (k :: ks)) [124]).length
  | k, [] => by simp
  | k, k2 :: ks => by
    have h := txts_long3 k2 ks
    have e : Lib.join (txts 3 (k :: k2 :: ks)) [124] = brS (inK 3 k.root.kind) k.txt ++ 124 :: (Lib.join (txts 3 (k2 :: ks)) [124]) := by
      rw [txts, Lib.join_cons, txts, Lib.join_cons]
      simp [Lib.joinTail]
    rw [e]
    simp only [List.length_append, List.length_cons]
    omega
theorem inK_2 {k : Int} : inK 2 k = decide (k = 2 ∨ k = 3 ∨ k = 0) := by unfold inK; rw [if_neg (by omega), if_pos rfl]
theorem inK_3 {k : Int} : inK 3 k = decide (k = 3) := by unfold inK; rw [if_neg (by omega), if_neg (by omega)]
theorem inK_4 {k : Int} : inK 4 k = decide (k ≠ 1) := by unfold inK; rw [if_pos rfl]
theorem brS_no (l : Bs) : brS false l = l := rfl
theorem brS_head (l : Bs) : ∃ b r, brS true l = b :: r ∧ HB b := ⟨40, _, rfl, .inl rfl⟩
/-- One row of one piece. -/
theorem row_of_piece {T : Tr} (hp : ∀ f w rest, (brS (inK 2 T.root.kind) T.txt ++ rest).length ≤ f → NoOft rest → pieceB (rowsB f) (brS (inK 2 T.root.kind) T.txt ++ rest) w = some (T.flat, rest, w)) (hh : ∃ b r, brS (inK 2 T.root.kind) T.txt = b :: r ∧ HB b) (he : inK 3 T.root.kind = inK 2 T.root.kind) :
    ∀ f w rest, (brS (inK 3 T.root.kind) T.txt ++ rest).length ≤ f → stopB rest = true → ∀ n, (brS (inK 3 T.root.kind) T.txt ++ rest).length < n → ∃ ps, piecesB (rowsB f) n (brS (inK 3 T.root.kind) T.txt ++ rest) w [] = some (ps, rest, w) ∧ putB 2 ps = T.flat := by
  intro f w rest hf hs n hn
  rw [he] at hf hn ⊢
  obtain ⟨b, r, e1, hb⟩ := hh
  have hst : stopB (brS (inK 2 T.root.kind) T.txt ++ rest) = false := by rw [e1]; exact (hb.no _).2
  match n, hn with
  | 0, hn => omega
  | 1, hn => exfalso; rw [e1] at hn; simp at hn
  | n + 2, _ =>
    refine ⟨[T.flat], ?_, rfl⟩
    rw [pieces_one hst (hp f w rest hf (stop_no hs)), pieces_end hs]
    rfl
theorem Rx.kind0 {x : Rx} (h : x.One) (hk : x.kind = 0) : x = ⟨0, [], 0, 0, 0⟩ := by
  rcases h with h | h | h | h
  · obtain ⟨h1, h2, h3, h4, h5⟩ := h
    cases x
    simp at h1 h2 h3 h4 h5
    simp [h1, h2, h3, h4, h5]
  all_goals omega
theorem Rx.kind1 {x : Rx} (h : x.One) (hk : x.kind = 1) : x = setX x.set ∧ SetOk x.set := by
  rcases h with h | h | h | h
  · omega
  · obtain ⟨h1, h2, h3, h4, h5⟩ := h
    refine ⟨?_, h2⟩
    cases x
    simp at h1 h3 h4 h5
    simp [setX, h1, h3, h4, h5]
  all_goals omega
theorem Rx.kind23 {x : Rx} (h : x.One) (hk : x.kind = 2 ∨ x.kind = 3) : x = ⟨x.kind, [], x.many, 0, 0⟩ ∧ 2 ≤ x.many := by
  rcases h with h | h | h | h
  · omega
  · omega
  · obtain ⟨h1, h2, h3, h4, h5⟩ := h
    refine ⟨?_, h5⟩
    cases x
    simp at h2 h3 h4
    simp [h2, h3, h4]
  · omega
theorem Rx.kind4 {x : Rx} (h : x.One) (hk : x.kind = 4) : x = ⟨4, [], 1, x.least, x.most⟩ ∧ x.many = 1 ∧ 0 ≤ x.least ∧ x.least ≤ 16 ∧ (x.most = -1 ∨ x.least ≤ x.most) ∧ x.most ≤ 16 := by
  rcases h with h | h | h | h
  · omega
  · omega
  · omega
  · obtain ⟨h1, h2, h3, h4, h5, h6⟩ := h
    refine ⟨?_, h3, h4, h5, by omega, by omega⟩
    cases x
    simp at h1 h2 h3
    simp [h1, h2, h3]
theorem reads_of {x : Rx} {ks : List Tr} (ho : x.One) (hl : (ks.length : Int) = x.many) (hk : ∀ k, k ∈ ks → Reads k) : Reads (.mk x ks) := by
  have hkind : x.kind = 0 ∨ x.kind = 1 ∨ x.kind = 2 ∨ x.kind = 3 ∨ x.kind = 4 := by rcases ho with h | h | h | h <;> omega
  have hroot : (Tr.mk x ks).root = x := rfl
  -- from a row tto rows, where there is but one
  have one : x.kind ≠ 3 → (∀ f w rest, (brS (inK 3 x.kind) (Tr.mk x ks).txt ++ rest).length ≤ f → stopB rest = true → ∀ n, (brS (inK 3 x.kind) (Tr.mk x ks).txt ++ rest).length < n → ∃ ps, piecesB (rowsB f) n (brS (inK 3 x.kind) (Tr.mk x ks).txt ++ rest) w [] = some (ps, rest, w) ∧ putB 2 ps = (Tr.mk x ks).flat) →
      ∀ f w rest, ((Tr.mk x ks).txt ++ rest).length < f → EndB rest → rowsB f ((Tr.mk x ks).txt ++ rest) w = some ((Tr.mk x ks).flat, rest, w) := by
    intro h3 hr f w rest hf he
    match f, hf with
    | f + 1, hf =>
      have e3 : inK 3 x.kind = false := by rw [inK_3]; exact decide_eq_false h3
      rw [e3] at hr
      obtain ⟨ps, h1, h2⟩ := hr f w rest (by rw [brS_no]; omega) he.stop.1 (((Tr.mk x ks).txt ++ rest).length + 1) (by rw [brS_no]; omega)
      rw [brS_no] at h1
      unfold rowsB
      rw [alts_end h1 he.stop.2, h2]
      rfl
  rcases hkind with h | h | h | h | h
  · -- nothing
    have ex := Rx.kind0 ho h
    have hks : ks = [] := by
      have : (ks.length : Int) = 0 := by rw [hl, ex]
      exact List.eq_nil_of_length_eq_zero (by omega)
    subst hks
    have htx : (Tr.mk x []).txt = [] := txt_empty h
    have hfl : (Tr.mk x []).flat = [⟨0, [], 0, 0, 0⟩] := by rw [ex]; rfl
    have hrow : ∀ f w rest, (brS (inK 3 x.kind) (Tr.mk x []).txt ++ rest).length ≤ f → stopB rest = true → ∀ n, (brS (inK 3 x.kind) (Tr.mk x []).txt ++ rest).length < n → ∃ ps, piecesB (rowsB f) n (brS (inK 3 x.kind) (Tr.mk x []).txt ++ rest) w [] = some (ps, rest, w) ∧ putB 2 ps = (Tr.mk x []).flat := by
      intro f w rest hf hs n hn
      have e3 : inK 3 x.kind = false := by rw [inK_3]; exact decide_eq_false (by omega)
      rw [e3, htx] at hn ⊢
      match n, hn with
      | n + 1, _ => exact ⟨[], pieces_end hs n, hfl.symm⟩
    have hrows := one (by omega) hrow
    have e2 : inK 2 x.kind = true := by rw [inK_2]; exact decide_eq_true (by omega)
    have e4 : inK 4 x.kind = true := by rw [inK_4]; exact decide_eq_true (by omega)
    refine ⟨fun f w rest hf => ?_, fun f w rest hf hn => ?_, hrow, hrows, ?_, ?_⟩
    · rw [hroot, e4] at hf ⊢; exact group_read hrows f w rest hf
    · rw [hroot, e2] at hf ⊢
      unfold pieceB
      rw [group_read hrows f w rest hf]
      simp only [oft_none hn]
    · rw [hroot, e4]; exact brS_head _
    · rw [hroot, e2]; exact brS_head _
  · -- a set
    obtain ⟨ex, hset⟩ := Rx.kind1 ho h
    have hks : ks = [] := by
      have : (ks.length : Int) = 0 := by rw [hl, ex]; rfl
      exact List.eq_nil_of_length_eq_zero (by omega)
    subst hks
    have htx : (Tr.mk x []).txt = setL x.set := txt_set h
    have hfl : (Tr.mk x []).flat = [setX x.set] := by rw [Tr.flat, flats, ← ex]
    have e2 : inK 2 x.kind = false := by rw [inK_2]; exact decide_eq_false (by omega)
    have e4 : inK 4 x.kind = false := by rw [inK_4]; exact decide_eq_false (by omega)
    have e3 : inK 3 x.kind = false := by rw [inK_3]; exact decide_eq_false (by omega)
    have hat : ∀ f w rest, (brS (inK 4 x.kind) (Tr.mk x []).txt ++ rest).length ≤ f → atomB (rowsB f) (brS (inK 4 x.kind) (Tr.mk x []).txt ++ rest) w = some ((Tr.mk x []).flat, rest, w) := fun f w rest _ => by
      rw [e4, brS_no, htx, hfl]; exact atom_set hset w rest
    have hpc : ∀ f w rest, (brS (inK 2 x.kind) (Tr.mk x []).txt ++ rest).length ≤ f → NoOft rest → pieceB (rowsB f) (brS (inK 2 x.kind) (Tr.mk x []).txt ++ rest) w = some ((Tr.mk x []).flat, rest, w) := fun f w rest _ hn => by
      rw [e2, brS_no, htx, hfl]
      unfold pieceB
      rw [atom_set hset w rest]
      simp only [oft_none hn]
    have hhd : ∃ b r, setL x.set = b :: r ∧ HB b := by
      obtain ⟨b, r, e, hb⟩ := set_head x.set
      exact ⟨b, r, e, .inr hb⟩
    have hrow := row_of_piece (T := .mk x []) hpc (by rw [hroot, e2, brS_no, htx]; exact hhd) (by rw [hroot, e2, e3])
    exact ⟨hat, hpc, hrow, one (by omega) hrow, by rw [hroot, e4, brS_no, htx]; exact hhd, by rw [hroot, e2, brS_no, htx]; exact hhd⟩
  · -- one behind the other
    obtain ⟨ex, hm⟩ := Rx.kind23 ho (.inl h)
    have hlen : 2 ≤ ks.length := by omega
    have htx : (Tr.mk x ks).txt = (txts 2 ks).flatten := by
      rw [txt_in (by omega), h, if_neg (by omega), List.append_nil, show sepK 2 = [] from rfl, join_flat]
    have hfl : putB 2 (ks.map Tr.flat) = (Tr.mk x ks).flat := by
      rw [putB_many (by rw [List.length_map]; exact hlen), List.length_map, Tr.flat, flats_map, ex, h, hl]
    have e2 : inK 2 x.kind = true := by rw [inK_2]; exact decide_eq_true (by omega)
    have e4 : inK 4 x.kind = true := by rw [inK_4]; exact decide_eq_true (by omega)
    have e3 : inK 3 x.kind = false := by rw [inK_3]; exact decide_eq_false (by omega)
    have hrow : ∀ f w rest, (brS (inK 3 x.kind) (Tr.mk x ks).txt ++ rest).length ≤ f → stopB rest = true → ∀ n, (brS (inK 3 x.kind) (Tr.mk x ks).txt ++ rest).length < n → ∃ ps, piecesB (rowsB f) n (brS (inK 3 x.kind) (Tr.mk x ks).txt ++ rest) w [] = some (ps, rest, w) ∧ putB 2 ps = (Tr.mk x ks).flat := by
      intro f w rest hf hs n hn
      rw [e3, brS_no, htx] at hf hn ⊢
      have hlg := txts_long ks hk
      refine ⟨_, pieces_all ks f n w rest [] hk hf hs (by simp only [List.length_append] at hn; omega), ?_⟩
      rw [List.nil_append]
      exact hfl
    have hrows := one (by omega) hrow
    refine ⟨fun f w rest hf => ?_, fun f w rest hf hn => ?_, hrow, hrows, ?_, ?_⟩
    · rw [hroot, e4] at hf ⊢; exact group_read hrows f w rest hf
    · rw [hroot, e2] at hf ⊢
      unfold pieceB
      rw [group_read hrows f w rest hf]
      simp only [oft_none hn]
    · rw [hroot, e4]; exact brS_head _
    · rw [hroot, e2]; exact brS_head _
  · -- a choice
    obtain ⟨ex, hm⟩ := Rx.kind23 ho (.inr h)
    have hlen : 2 ≤ ks.length := by omega
    have htx : (Tr.mk x ks).txt = Lib.join (txts 3 ks) [124] := by
      rw [txt_in (by omega), h, if_neg (by omega), List.append_nil, show sepK 3 = [124] from rfl]
    have hfl : putB 3 (ks.map Tr.flat) = (Tr.mk x ks).flat := by
      rw [putB_many (by rw [List.length_map]; exact hlen), List.length_map, Tr.flat, flats_map, ex, h, hl]
    have e2 : inK 2 x.kind = true := by rw [inK_2]; exact decide_eq_true (by omega)
    have e4 : inK 4 x.kind = true := by rw [inK_4]; exact decide_eq_true (by omega)
    have e3 : inK 3 x.kind = true := by rw [inK_3]; exact decide_eq_true h
    have hrows : ∀ f w rest, ((Tr.mk x ks).txt ++ rest).length < f → EndB rest → rowsB f ((Tr.mk x ks).txt ++ rest) w = some ((Tr.mk x ks).flat, rest, w) := by
      intro f w rest hf he
      match f, hf with
      | f + 1, hf =>
        rw [htx] at hf ⊢
        match ks, hlen, hk, hfl with
        | k :: ks, _, hk, hfl =>
          have hlg := txts_long3 k ks
          unfold rowsB
          rw [alts_all k ks f _ w rest [] hk (by omega) he (by simp only [List.length_append] at hf ⊢; omega), List.nil_append, hfl]
    have hpc : ∀ f w rest, (brS (inK 2 x.kind) (Tr.mk x ks).txt ++ rest).length ≤ f → NoOft rest → pieceB (rowsB f) (brS (inK 2 x.kind) (Tr.mk x ks).txt ++ rest) w = some ((Tr.mk x ks).flat, rest, w) := fun f w rest hf hn => by
      rw [e2] at hf ⊢
      unfold pieceB
      rw [group_read hrows f w rest hf]
      simp only [oft_none hn]
    refine ⟨fun f w rest hf => ?_, hpc, row_of_piece (T := .mk x ks) hpc (by rw [hroot, e2]; exact brS_head _) (by rw [hroot, e2, e3]), hrows, ?_, ?_⟩
    · rw [hroot, e4] at hf ⊢; exact group_read hrows f w rest hf
    · rw [hroot, e4]; exact brS_head _
    · rw [hroot, e2]; exact brS_head _
  · -- repeated
    obtain ⟨ex, hm, h0, h1, h2, h3⟩ := Rx.kind4 ho h
    obtain ⟨k, rfl⟩ : ∃ k, ks = [k] := by
      match ks, hl with
      | [k], _ => exact ⟨k, rfl⟩
      | [], hl => rw [hm] at hl; simp at hl
      | _ :: _ :: _, hl => rw [hm] at hl; simp at hl; omega
    have hkr := hk k (by simp)
    have htx : (Tr.mk x [k]).txt = brS (inK 4 k.root.kind) k.txt ++ oftL x.least x.most := by
      rw [txt_in (by omega), h, if_pos rfl, show sepK 4 = [] from rfl, join_flat, txts, txts]
      simp
    have hfl : (Tr.mk x [k]).flat = ⟨4, [], 1, x.least, x.most⟩ :: k.flat := by rw [Tr.flat, flats, flats, List.append_nil, ← ex]
    have e2 : inK 2 x.kind = false := by rw [inK_2]; exact decide_eq_false (by omega)
    have e4 : inK 4 x.kind = true := by rw [inK_4]; exact decide_eq_true (by omega)
    have e3 : inK 3 x.kind = false := by rw [inK_3]; exact decide_eq_false (by omega)
    have hpc : ∀ f w rest, (brS (inK 2 x.kind) (Tr.mk x [k]).txt ++ rest).length ≤ f → NoOft rest → pieceB (rowsB f) (brS (inK 2 x.kind) (Tr.mk x [k]).txt ++ rest) w = some ((Tr.mk x [k]).flat, rest, w) := fun f w rest hf _ => by
      rw [e2, brS_no, htx, List.append_assoc] at hf ⊢
      unfold pieceB
      rw [hkr.atom f w _ hf]
      simp only [oft_read h0 h1 h2 h3, hfl]
    have hhd : ∃ b r, (Tr.mk x [k]).txt = b :: r ∧ HB b := by
      obtain ⟨b, r, e, hb⟩ := hkr.ahead
      exact ⟨b, _, by rw [htx, e]; rfl, hb⟩
    have hrow := row_of_piece (T := .mk x [k]) hpc (by rw [hroot, e2, brS_no]; exact hhd) (by rw [hroot, e2, e3])
    have hrows := one (by omega) hrow
    refine ⟨fun f w rest hf => ?_, hpc, hrow, hrows, ?_, by rw [hroot, e2, brS_no]; exact hhd⟩
    · rw [hroot, e4] at hf ⊢; exact group_read hrows f w rest hf
    · rw [hroot, e4]; exact brS_head _
theorem tree_reads : ∀ {d : Nat} {T : Tr}, T.Ok d → Reads T
  | 0, .mk x ks, h => by
    obtain ⟨h1, h2, rfl⟩ := h
    exact reads_of h1 (by rw [h2]; rfl) (by simp)
  | d + 1, .mk x ks, ⟨h1, h2, h3⟩ => reads_of h1 h2 fun k hk => tree_reads (h3 k hk)
/-- A pattern's text is read as it. -/
theorem text_read {d : Nat} {T : Tr} (h : T.Ok d) (w : Bool) : rowsB (T.txt.length + 1) T.txt w = some (T.flat, [], w) := by
  have := (tree_reads h).rows (T.txt.length + 1) w [] (by rw [List.append_nil]; omega) (.inl rfl)
  rwa [List.append_nil] at this
end Pv
