/- A fault's text, a response's, as data. Nothing of a program stands here. -/
import Derived.Test.YtjbfkceficokbaaDoorLd
import Derived.Lib.Join
namespace Pv
open Go Go.RowKit

/-- Texts with commas between. -/
def commaN (f : Nat → List UInt8) : Nat → List UInt8
  | 0 => []
  | n + 1 => commaN f n ++ (sepL n ++ f n)
theorem commaN_congr {f g : Nat → List UInt8} : ∀ {n : Nat}, (∀ i, i < n → f i = g i) → commaN f n = commaN g n
  | 0, _ => rfl
  | n + 1, h => by rw [commaN, commaN, commaN_congr fun i hi => h i (by omega), h n (by omega)]
theorem joinTail_snoc (sep : List UInt8) (r : List (List UInt8)) (x : List UInt8) : Lib.joinTail sep (r ++ [x]) = Lib.joinTail sep r ++ (sep ++ x) := by simp [Lib.joinTail]
theorem join_commaN : ∀ (n : Nat) (xs : List (List UInt8)), xs.length = n → Lib.join xs [44] = commaN (fun i => (xs[i]?).getD []) n
  | 0, xs, h => by
    have : xs = [] := List.eq_nil_of_length_eq_zero h
    subst this; rfl
  | n + 1, xs, h => by
    obtain ⟨ys, x, rfl⟩ : ∃ ys x, xs = ys ++ [x] := ⟨xs.take n, xs[n], by rw [← List.take_succ_eq_append_getElem (by omega), List.take_of_length_le (by omega)]⟩
    have hl : ys.length = n := by simp at h; exact h
    have ih := join_commaN n ys hl
    have e1 : commaN (fun i => ((ys ++ [x])[i]?).getD []) n = commaN (fun i => (ys[i]?).getD []) n := commaN_congr fun i hi => by rw [List.getElem?_append_left (by omega)]
    have e2 : (((ys ++ [x])[n]?).getD []) = x := by rw [List.getElem?_append_right (by omega), hl]; simp
    rw [commaN, e1, e2, ← ih]
    cases ys with
    | nil => subst hl; simp [Lib.join_one, Lib.join_nil, sepL]
    | cons y r =>
      have hn : 0 < n := by rw [← hl]; simp
      rw [List.cons_append, Lib.join_cons, Lib.join_cons, joinTail_snoc, sepL_s hn, List.append_assoc]
def stepS (s : St) : List UInt8 := if bsl s.name = [] then Lib.itoa s.at' else jq (bsl s.name)
def pathF (p : List St) (i : Nat) : List UInt8 := match p[i]? with
  | some s => stepS s
  | none => []
def pathS (p : List St) : List UInt8 := 91 :: (commaN (pathF p) p.length ++ [93])
def memS (name value : List UInt8) : List UInt8 := [44] ++ (jq name ++ ([58] ++ value))
def optS (is : Bool) (l : List UInt8) : List UInt8 := if is then l else []
def nPath : List UInt8 := [112, 97, 116, 104]
def nDir : List UInt8 := [100, 105, 114, 101, 99, 116, 105, 118, 101]
def nRule : List UInt8 := [114, 117, 108, 101]
def nLine : List UInt8 := [108, 105, 110, 101]
def nCol : List UInt8 := [99, 111, 108, 117, 109, 110]
/-- A fault's text, part by part. -/
def fa1 (x : Ft) : List UInt8 := [123, 34, 99, 111, 100, 101, 34, 58] ++ jq (bsl x.code)
def fa2 (x : Ft) : List UInt8 := fa1 x ++ optS (decide (0 < x.path.length)) (memS nPath (pathS x.path))
def fa3 (x : Ft) : List UInt8 := fa2 x ++ optS (decide (bsl x.dir ≠ [])) (memS nDir (jq (bsl x.dir)))
def fa4 (x : Ft) : List UInt8 := fa3 x ++ optS (decide (x.rule ≠ 0)) (memS nRule (Lib.itoa x.rule))
def fa5 (x : Ft) : List UInt8 := fa4 x ++ optS (decide (x.line ≠ 0)) (memS nLine (Lib.itoa x.line))
def fa6 (x : Ft) : List UInt8 := fa5 x ++ optS (decide (x.line ≠ 0)) (memS nCol (Lib.itoa x.col))
def faultS (x : Ft) : List UInt8 := fa6 x ++ [125]
theorem validD_asc : ∀ (l : List UInt8), (∀ b ∈ l, b.toNat < 128) → Lib.validD l = true
  | [], _ => Lib.validD_nil
  | b :: t, h => by rw [Lib.validD_cons b t (h b (by simp))]; exact validD_asc t fun c hc => h c (by simp [hc])
theorem jq_nPath : jq nPath = [34, 112, 97, 116, 104, 34] := by unfold jq; rw [if_pos (validD_asc _ (by decide))]; decide
theorem jq_nDir : jq nDir = [34, 100, 105, 114, 101, 99, 116, 105, 118, 101, 34] := by unfold jq; rw [if_pos (validD_asc _ (by decide))]; decide
theorem jq_nRule : jq nRule = [34, 114, 117, 108, 101, 34] := by unfold jq; rw [if_pos (validD_asc _ (by decide))]; decide
theorem jq_nLine : jq nLine = [34, 108, 105, 110, 101, 34] := by unfold jq; rw [if_pos (validD_asc _ (by decide))]; decide
theorem jq_nCol : jq nCol = [34, 99, 111, 108, 117, 109, 110, 34] := by unfold jq; rw [if_pos (validD_asc _ (by decide))]; decide

structure FtOk (x : Ft) : Prop where
  code : x.code.size ≤ 3000
  dir : x.dir.size ≤ 3000
  path : x.path.length ≤ 20
  name : ∀ (i : Nat) s, x.path[i]? = some s → s.name.size ≤ 3000
  at' : ∀ (i : Nat) s, x.path[i]? = some s → -9223372036854775808 ≤ s.at' ∧ s.at' ≤ 9223372036854775807
  rule : -9223372036854775808 ≤ x.rule ∧ x.rule ≤ 9223372036854775807
  line : -9223372036854775808 ≤ x.line ∧ x.line ≤ 9223372036854775807
  col : -9223372036854775808 ≤ x.col ∧ x.col ≤ 9223372036854775807
theorem stepS_len {s : St} (h : s.name.size ≤ 3000) (h' : -9223372036854775808 ≤ s.at' ∧ s.at' ≤ 9223372036854775807) : (stepS s).length ≤ 18002 := by
  unfold stepS
  split
  · have := itoa_len s.at' h'.1 h'.2; omega
  · have := jq_len (bsl s.name); rw [bsl_len] at this; omega
theorem pathF_len {x : Ft} (h : FtOk x) (i : Nat) : (pathF x.path i).length ≤ 18002 := by
  unfold pathF
  cases hs : x.path[i]? with
  | none => simp
  | some s => exact stepS_len (h.name i s hs) (h.at' i s hs)
theorem commaN_len {f : Nat → List UInt8} {K : Nat} (h : ∀ i, (f i).length ≤ K) : ∀ n, (commaN f n).length ≤ n * (K + 1)
  | 0 => by simp [commaN]
  | n + 1 => by
    have h1 := commaN_len h n
    have h2 := h n
    have h3 := sepL_len n
    simp only [commaN, List.length_append]
    rw [Nat.add_mul]
    omega
theorem pathS_len {x : Ft} (h : FtOk x) : (pathS x.path).length ≤ 400000 := by
  have h1 := commaN_len (pathF_len h) x.path.length
  have h2 := Nat.mul_le_mul_right (18002 + 1) h.path
  simp only [pathS, List.length_cons, List.length_append, List.length_nil]
  omega
theorem optS_len (b : Bool) (l : List UInt8) : (optS b l).length ≤ l.length := by unfold optS; split <;> simp
theorem memS_len (n v : List UInt8) : (memS n v).length = (jq n).length + v.length + 2 := by simp [memS]; omega
theorem fa_len {x : Ft} (h : FtOk x) : (fa1 x).length ≤ 20000 ∧ (fa2 x).length ≤ 430000 ∧ (fa3 x).length ≤ 450000 ∧ (fa4 x).length ≤ 451000 ∧ (fa5 x).length ≤ 452000 ∧ (fa6 x).length ≤ 453000 := by
  have c1 := jq_len (bsl x.code); rw [bsl_len] at c1
  have c2 := h.code
  have d1 := jq_len (bsl x.dir); rw [bsl_len] at d1
  have d2 := h.dir
  have p1 := pathS_len h
  have o2 := optS_len (decide (0 < x.path.length)) (memS nPath (pathS x.path))
  have o3 := optS_len (decide (bsl x.dir ≠ [])) (memS nDir (jq (bsl x.dir)))
  have o4 := optS_len (decide (x.rule ≠ 0)) (memS nRule (Lib.itoa x.rule))
  have o5 := optS_len (decide (x.line ≠ 0)) (memS nLine (Lib.itoa x.line))
  have o6 := optS_len (decide (x.line ≠ 0)) (memS nCol (Lib.itoa x.col))
  rw [memS_len, jq_nPath] at o2
  rw [memS_len, jq_nDir] at o3
  rw [memS_len, jq_nRule] at o4
  rw [memS_len, jq_nLine] at o5
  rw [memS_len, jq_nCol] at o6
  have i1 := itoa_len x.rule h.rule.1 h.rule.2
  have i2 := itoa_len x.line h.line.1 h.line.2
  have i3 := itoa_len x.col h.col.1 h.col.2
  simp only [List.length_cons, List.length_nil] at o2 o3 o4 o5 o6
  simp only [fa6, fa5, fa4, fa3, fa2, fa1, List.length_append, List.length_cons, List.length_nil]
  omega
/-- A response's text. -/
def faultsF (l : List Ft) (i : Nat) : List UInt8 := match l[i]? with
  | some x => faultS x
  | none => []
def errS (l : List Ft) : List UInt8 := [34, 101, 114, 114, 111, 114, 115, 34, 58] ++ ([91] ++ (commaN (faultsF l) l.length ++ [93]))
def writeS (v : List Cl) (l : List Ft) : List UInt8 :=
  [123] ++ (optS (decide (0 < l.length)) (errS l) ++ (optS (decide (0 < v.length)) (optS (decide (0 < l.length)) [44] ++ ([34, 100, 97, 116, 97, 34, 58] ++ (valF v v.length 0).1)) ++ [125]))
theorem faultS_len {x : Ft} (h : FtOk x) : (faultS x).length ≤ 460000 := by
  have := (fa_len h).2.2.2.2.2
  simp only [faultS, List.length_append, List.length_cons, List.length_nil]
  omega
theorem faultsF_len {l : List Ft} (h : ∀ (i : Nat) x, l[i]? = some x → FtOk x) (i : Nat) : (faultsF l i).length ≤ 460000 := by
  unfold faultsF
  cases hs : l[i]? with
  | none => simp
  | some x => exact faultS_len (h i x hs)
end Pv
