/- Values of cells as data: a cell, what stands behind a value, members, a value within. Nothing of a program stands here. -/
import Derived.Test.YtbdkedjgfihamaaGreatDoorOnu
import Derived.Lib.ValidU
namespace Pv
open Go Go.RowKit

structure Cel where
  kind : Int
  name : ByteArray
  text : ByteArray
  int : Int
  many : Int
deriving DecidableEq

/-- Is it a text? is it a name? -/
def chkL (l : List UInt8) : Int := if 16384 < l.length then 4 else if Lib.validD l then 0 else 10
def txtB (s : ByteArray) : Bool := decide (chkL s.data.toList = 0)
def letB (b : UInt8) : Bool := (97 ≤ b && b ≤ 122) || (65 ≤ b && b ≤ 90) || b == 95
def digB (b : UInt8) : Bool := 48 ≤ b && b ≤ 57
def namL (l : List UInt8) : Bool := match l with
  | [] => false
  | b :: r => letB b && r.all fun c => letB c || digB c
def namB (s : ByteArray) : Bool := namL s.data.toList
/-- May a cell be, by itself? -/
def oneCl (c : Cel) : Bool :=
  if c.kind = 0 then decide (c.text.size = 0) && decide (c.int = 0) && decide (c.many = 0)
  else if c.kind = 1 then decide (c.text.size = 0) && (decide (c.int = 0) || decide (c.int = 1)) && decide (c.many = 0)
  else if c.kind = 2 then decide (c.text.size = 0) && decide (c.many = 0)
  else if c.kind = 3 then txtB c.text && decide (c.int = 0) && decide (c.many = 0)
  else if c.kind = 4 ∨ c.kind = 5 then namB c.text && decide (c.int = 0) && decide (c.many = 0)
  else if c.kind = 6 ∨ c.kind = 7 then decide (c.text.size = 0) && decide (c.int = 0) && decide (0 ≤ c.many)
  else false
def nesB (k : Int) : Bool := decide (k = 6) || decide (k = 7)
/-- May a name stand there, behind others? -/
def kidB (obj : Bool) (ns : List ByteArray) (nm : ByteArray) : Bool := if obj then !decide (nm.size = 0) && !(ns.any fun x => decide (x = nm)) && txtB nm else decide (nm.size = 0)
abbrev KS := Nat × List ByteArray
/-- One item, or member; so many. -/
def stepK (g : Nat → Option Nat) (v : List Cel) (obj : Bool) (p : KS) : Option KS :=
  match v[p.1]? with
  | none => none
  | some k => if kidB obj p.2 k.name then (g p.1).map fun a => (a, p.2 ++ [k.name]) else none
def kidsN (g : Nat → Option Nat) (v : List Cel) (obj : Bool) : Nat → KS → Option KS
  | 0, p => some p
  | n + 1, p => (stepK g v obj p).bind (kidsN g v obj n)
theorem kidsN_snoc (g : Nat → Option Nat) (v : List Cel) (obj : Bool) : ∀ (n : Nat) (p : KS), kidsN g v obj (n + 1) p = (kidsN g v obj n p).bind (stepK g v obj)
  | 0, p => by show (stepK g v obj p).bind (kidsN g v obj 0) = stepK g v obj p; cases stepK g v obj p <;> rfl
  | n + 1, p => by
    show (stepK g v obj p).bind (kidsN g v obj (n + 1)) = ((stepK g v obj p).bind (kidsN g v obj n)).bind _
    cases stepK g v obj p with
    | none => rfl
    | some q => exact kidsN_snoc g v obj n q
theorem kidsN_more {g : Nat → Option Nat} {v : List Cel} {obj : Bool} {n : Nat} {p : KS} (h : kidsN g v obj n p = none) : ∀ m, n ≤ m → kidsN g v obj m p = none := by
  intro m hm
  induction m with
  | zero => obtain rfl : n = 0 := by omega
            exact h
  | succ m ih =>
    by_cases e : n = m + 1
    · rw [← e]; exact h
    · rw [kidsN_snoc, ih (by omega)]; rfl
/-- What stands behind the value that begins at a place. -/
def behS (v : List Cel) (g : Nat → Option Nat) (deep : Bool) (a : Nat) : Option Nat :=
  match v[a]? with
  | none => none
  | some c => if oneCl c then (if nesB c.kind then (if deep then (kidsN g v (decide (c.kind = 7)) c.many.toNat (a + 1, [])).map (·.1) else none) else some (a + 1)) else none
def behC (v : List Cel) : Nat → Nat → Option Nat
  | 0 => behS v (fun _ => none) false
  | d + 1 => behS v (behC v d) true
section
variable {v : List Cel} {g g' : Nat → Option Nat} {obj deep : Bool}
theorem behS_none {a : Nat} (h : v[a]? = none) : behS v g deep a = none := by unfold behS; rw [h]
theorem behS_bad {a : Nat} {c : Cel} (h : v[a]? = some c) (hc : oneCl c = false) : behS v g deep a = none := by unfold behS; rw [h]; simp [hc]
theorem behS_leaf {a : Nat} {c : Cel} (h : v[a]? = some c) (hc : oneCl c = true) (hn : nesB c.kind = false) : behS v g deep a = some (a + 1) := by unfold behS; rw [h]; simp [hc, hn]
theorem behS_deep {a : Nat} {c : Cel} (h : v[a]? = some c) (hn : nesB c.kind = true) : behS v g false a = none := by unfold behS; rw [h]; simp only [hn]; cases oneCl c <;> rfl
theorem behS_in {a : Nat} {c : Cel} (h : v[a]? = some c) (hc : oneCl c = true) (hn : nesB c.kind = true) : behS v g true a = (kidsN g v (decide (c.kind = 7)) c.many.toNat (a + 1, [])).map (·.1) := by unfold behS; rw [h]; simp [hc, hn]
theorem behC_none {a : Nat} (h : v[a]? = none) (d : Nat) : behC v d a = none := by cases d <;> exact behS_none h
theorem behC_bad {a : Nat} {c : Cel} (h : v[a]? = some c) (hc : oneCl c = false) (d : Nat) : behC v d a = none := by cases d <;> exact behS_bad h hc
theorem behC_leaf {a : Nat} {c : Cel} (h : v[a]? = some c) (hc : oneCl c = true) (hn : nesB c.kind = false) (d : Nat) : behC v d a = some (a + 1) := by cases d <;> exact behS_leaf h hc hn
theorem behC_deep {a : Nat} {c : Cel} (h : v[a]? = some c) (hn : nesB c.kind = true) : behC v 0 a = none := behS_deep h hn
theorem behC_in {a d : Nat} {c : Cel} (h : v[a]? = some c) (hc : oneCl c = true) (hn : nesB c.kind = true) : behC v (d + 1) a = (kidsN (behC v d) v (decide (c.kind = 7)) c.many.toNat (a + 1, [])).map (·.1) := behS_in h hc hn
/-- a cell that holds none has no Many: so all cells alike -/
theorem oneCl_many {c : Cel} (h : oneCl c = true) : 0 ≤ c.many ∧ (nesB c.kind = false → c.many = 0) := by
  unfold oneCl at h
  unfold nesB
  repeat' split at h
  all_goals simp_all
  all_goals omega
theorem behC_all {a d : Nat} {c : Cel} (h : v[a]? = some c) (hc : oneCl c = true) (hd : nesB c.kind = true → 0 < d) : behC v d a = (kidsN (behC v (d - 1)) v (decide (c.kind = 7)) c.many.toNat (a + 1, [])).map (·.1) := by
  cases hn : nesB c.kind with
  | false => rw [behC_leaf h hc hn, (oneCl_many hc).2 hn]; rfl
  | true =>
    obtain ⟨e, rfl⟩ : ∃ e, d = e + 1 := ⟨d - 1, by have := hd hn; omega⟩
    exact behC_in h hc hn
theorem stepK_some {p q : KS} (h : stepK g v obj p = some q) : ∃ k, v[p.1]? = some k ∧ kidB obj p.2 k.name = true ∧ g p.1 = some q.1 ∧ q.2 = p.2 ++ [k.name] := by
  unfold stepK at h
  split at h
  · cases h
  · rename_i k hk
    split at h
    · rename_i hb
      cases hg : g p.1 with
      | none => rw [hg] at h; cases h
      | some a =>
        rw [hg] at h
        obtain rfl := Option.some.inj h
        exact ⟨k, hk, hb, rfl, rfl⟩
    · cases h
theorem kidsN_lt (hg : ∀ a e, g a = some e → a < e ∧ e ≤ v.length) : ∀ (n : Nat) (p q : KS), p.1 ≤ v.length → kidsN g v obj n p = some q → p.1 + n ≤ q.1 ∧ q.1 ≤ v.length
  | 0, p, q, hp, h => by obtain rfl := Option.some.inj h; exact ⟨Nat.le_refl _, hp⟩
  | n + 1, p, q, hp, h => by
    cases hs : stepK g v obj p with
    | none => rw [show kidsN g v obj (n + 1) p = (stepK g v obj p).bind _ from rfl, hs] at h; cases h
    | some r =>
      rw [show kidsN g v obj (n + 1) p = (stepK g v obj p).bind _ from rfl, hs] at h
      obtain ⟨k, _, _, h1, _⟩ := stepK_some hs
      obtain ⟨h2, h3⟩ := hg _ _ h1
      obtain ⟨h4, h5⟩ := kidsN_lt hg n r q h3 h
      omega
theorem behS_lt (hg : ∀ a e, g a = some e → a < e ∧ e ≤ v.length) {a e : Nat} (h : behS v g deep a = some e) : a < e ∧ e ≤ v.length := by
  cases hx : v[a]? with
  | none => rw [behS_none hx] at h; cases h
  | some c =>
    have hlt := lt_of_get hx
    cases hc : oneCl c with
    | false => rw [behS_bad hx hc] at h; cases h
    | true =>
      cases hn : nesB c.kind with
      | false => rw [behS_leaf hx hc hn] at h; obtain rfl := Option.some.inj h; omega
      | true =>
        cases deep with
        | false => rw [behS_deep hx hn] at h; cases h
        | true =>
          rw [behS_in hx hc hn] at h
          cases hk : kidsN g v (decide (c.kind = 7)) c.many.toNat (a + 1, []) with
          | none => rw [hk] at h; cases h
          | some q =>
            rw [hk] at h
            obtain rfl := Option.some.inj h
            have := kidsN_lt hg _ _ _ (show (a + 1, ([] : List ByteArray)).1 ≤ v.length by simp only; omega) hk
            simp only at this ⊢
            omega
theorem behC_lt : ∀ (d : Nat) {a e : Nat}, behC v d a = some e → a < e ∧ e ≤ v.length
  | 0, _, _, h => behS_lt (fun _ _ h => by cases h) h
  | d + 1, _, _, h => behS_lt (fun _ _ h => behC_lt d h) h
theorem kidsN_up (hg : ∀ a e, g a = some e → g' a = some e) : ∀ (n : Nat) (p q : KS), kidsN g v obj n p = some q → kidsN g' v obj n p = some q
  | 0, _, _, h => h
  | n + 1, p, q, h => by
    cases hs : stepK g v obj p with
    | none => rw [show kidsN g v obj (n + 1) p = (stepK g v obj p).bind _ from rfl, hs] at h; cases h
    | some r =>
      rw [show kidsN g v obj (n + 1) p = (stepK g v obj p).bind _ from rfl, hs] at h
      obtain ⟨k, h1, h2, h3, h4⟩ := stepK_some hs
      have e : stepK g' v obj p = some r := by
        unfold stepK
        rw [h1]
        simp only [h2, if_true, hg _ _ h3, Option.map_some, ← h4]
      rw [show kidsN g' v obj (n + 1) p = (stepK g' v obj p).bind _ from rfl, e]
      exact kidsN_up hg n r q h
theorem behC_succ : ∀ (d : Nat) {a e : Nat}, behC v d a = some e → behC v (d + 1) a = some e
  | d, a, e, h => by
    cases hx : v[a]? with
    | none => rw [behC_none hx] at h; cases h
    | some c =>
      cases hc : oneCl c with
      | false => rw [behC_bad hx hc] at h; cases h
      | true =>
        cases hn : nesB c.kind with
        | false => rw [behC_leaf hx hc hn] at h; rw [behC_leaf hx hc hn]; exact h
        | true =>
          cases d with
          | zero => rw [behC_deep hx hn] at h; cases h
          | succ d =>
            rw [behC_in hx hc hn] at h ⊢
            cases hk : kidsN (behC v d) v (decide (c.kind = 7)) c.many.toNat (a + 1, []) with
            | none => rw [hk] at h; cases h
            | some q => rw [hk] at h; rw [kidsN_up (fun a e h => behC_succ d h) _ _ _ hk]; exact h
theorem behC_up {d : Nat} {a e : Nat} (h : behC v d a = some e) : ∀ {d' : Nat}, d ≤ d' → behC v d' a = some e
  | 0, hd => by obtain rfl : d = 0 := by omega
                exact h
  | d' + 1, hd => by
    by_cases e1 : d = d' + 1
    · rw [← e1]; exact h
    · exact behC_succ d' (behC_up h (by omega))
/-- every cell within begins a value that ends within -/
theorem kidsN_within (hg : ∀ a e, g a = some e → a < e ∧ e ≤ v.length) (hw : ∀ a e, g a = some e → ∀ j, a ≤ j → j < e → ∃ e', g' j = some e' ∧ e' ≤ e) : ∀ (n : Nat) (p q : KS), p.1 ≤ v.length → kidsN g v obj n p = some q → ∀ j, p.1 ≤ j → j < q.1 → ∃ e', g' j = some e' ∧ e' ≤ q.1
  | 0, p, q, _, h, j, h1, h2 => by obtain rfl := Option.some.inj h; omega
  | n + 1, p, q, hp, h, j, h1, h2 => by
    cases hs : stepK g v obj p with
    | none => rw [show kidsN g v obj (n + 1) p = (stepK g v obj p).bind _ from rfl, hs] at h; cases h
    | some r =>
      rw [show kidsN g v obj (n + 1) p = (stepK g v obj p).bind _ from rfl, hs] at h
      obtain ⟨k, k1, k2, k3, k4⟩ := stepK_some hs
      obtain ⟨l1, l2⟩ := hg _ _ k3
      have l3 := (kidsN_lt hg n r q l2 h).1
      by_cases hj : j < r.1
      · obtain ⟨e', m1, m2⟩ := hw _ _ k3 j h1 hj
        exact ⟨e', m1, by omega⟩
      · exact kidsN_within hg hw n r q l2 h j (by omega) h2
theorem behC_within : ∀ (d : Nat) {a e : Nat}, d ≤ 16 → behC v d a = some e → ∀ j, a ≤ j → j < e → ∃ e', behC v 16 j = some e' ∧ e' ≤ e
  | d, a, e, hd, h, j, h1, h2 => by
    by_cases hj : j = a
    · subst hj
      exact ⟨e, behC_up h hd, Nat.le_refl _⟩
    cases hx : v[a]? with
    | none => rw [behC_none hx] at h; cases h
    | some c =>
      cases hc : oneCl c with
      | false => rw [behC_bad hx hc] at h; cases h
      | true =>
        cases hn : nesB c.kind with
        | false => rw [behC_leaf hx hc hn] at h; obtain rfl := Option.some.inj h; omega
        | true =>
          cases d with
          | zero => rw [behC_deep hx hn] at h; cases h
          | succ d =>
            rw [behC_in hx hc hn] at h
            cases hk : kidsN (behC v d) v (decide (c.kind = 7)) c.many.toNat (a + 1, []) with
            | none => rw [hk] at h; cases h
            | some q =>
              rw [hk] at h
              obtain rfl := Option.some.inj h
              have hlt := lt_of_get hx
              exact kidsN_within (fun a e h => behC_lt d h) (fun a e h => behC_within d (by omega) h) _ _ _ (by simp only; omega) hk j (by simp only; omega) h2
end
/-- Are cells a value? -/
def mayV (v : List Cel) : Bool := decide (0 < v.length) && decide (v.length ≤ 2048) && decide ((v[0]?.map fun c => c.name.size) = some 0) && decide (behC v 16 0 = some v.length)
structure MayV (v : List Cel) : Prop where
  pos : 0 < v.length
  few : v.length ≤ 2048
  name : ∀ c, v[0]? = some c → c.name.size = 0
  all : behC v 16 0 = some v.length
theorem mayV_iff (v : List Cel) : mayV v = true ↔ MayV v := by
  unfold mayV
  simp only [Bool.and_eq_true, decide_eq_true_eq]
  constructor
  · rintro ⟨⟨⟨h1, h2⟩, h3⟩, h4⟩
    exact ⟨h1, h2, fun c hc => by rw [hc] at h3; exact Option.some.inj h3, h4⟩
  · rintro ⟨h1, h2, h3, h4⟩
    refine ⟨⟨⟨h1, h2⟩, ?_⟩, h4⟩
    have e : v[0]? = some (v[0]'h1) := List.getElem?_eq_getElem h1
    rw [e]
    simp [h3 _ e]
/-- Where the value at a place ends; where its items, or members, begin. -/
def endV (v : List Cel) (a : Nat) : Nat := (behC v 16 a).getD 0
theorem MayV.end_ {v : List Cel} (h : MayV v) {a : Nat} (ha : a < v.length) : behC v 16 a = some (endV v a) ∧ a < endV v a ∧ endV v a ≤ v.length := by
  obtain ⟨e, h1, _⟩ := behC_within 16 (Nat.le_refl _) h.all a (Nat.zero_le _) ha
  have h2 := behC_lt 16 h1
  unfold endV
  rw [h1]
  exact ⟨rfl, h2⟩
def kidsL (v : List Cel) : Nat → Nat → List Nat
  | 0, _ => []
  | n + 1, a => a :: kidsL v n (endV v a)
def underV (v : List Cel) (a : Nat) : List Nat := match v[a]? with
  | none => []
  | some c => kidsL v c.many.toNat (a + 1)
/-- The member of a name of the object at a place. -/
def memV (v : List Cel) (a : Nat) (name : ByteArray) : Option Nat := if (v[a]?.map (·.kind)) = some 7 then (underV v a).find? fun k => decide ((v[k]?.map (·.name)) = some name) else none
/-- The value at a place, without its name. -/
def cutV (v : List Cel) (a : Nat) : List Cel := match (v.drop a).take (endV v a - a) with
  | [] => []
  | c :: r => { c with name := ByteArray.empty } :: r
end Pv

namespace Pv
open Go Go.RowKit

structure Rec where
  id : ByteArray
  data : List Cel
deriving DecidableEq
structure Tab where
  name : ByteArray
  most : Int
  uniques : List ByteArray
  rows : List Rec
deriving DecidableEq

/-- A string ahead of another one. -/
def ltS (a b : ByteArray) : Bool := Op.bytesLess a.toList b.toList
theorem toList_inj {a b : ByteArray} (h : a.toList = b.toList) : a = b := by
  rw [ByteArray.toList_eq, ByteArray.toList_eq] at h
  exact ByteArray.ext (Array.toList_inj.1 h)
theorem bytesLess_dec : ∀ (x y : List UInt8), Op.bytesLess x y = decide (x < y)
  | [], [] => by simp [Op.bytesLess]
  | _ :: _, [] => by simp [Op.bytesLess]
  | [], _ :: _ => by simp [Op.bytesLess]
  | a :: x, b :: y => by
    rw [Op.bytesLess, bytesLess_dec x y]
    simp only [List.cons_lt_cons_iff]
    by_cases h1 : a < b <;> by_cases h2 : a = b <;> by_cases h3 : x < y <;> simp [h1, h2, h3]
theorem ltS_iff {a b : ByteArray} : ltS a b = true ↔ a.toList < b.toList := by unfold ltS; rw [bytesLess_dec]; simp
theorem ltS_irr (a : ByteArray) : ltS a a = false := by
  cases h : ltS a a with
  | false => rfl
  | true => exact absurd (ltS_iff.1 h) (List.lt_irrefl _)
theorem ltS_trans {a b c : ByteArray} (h : ltS a b = true) (k : ltS b c = true) : ltS a c = true := ltS_iff.2 (List.lt_trans (ltS_iff.1 h) (ltS_iff.1 k))
theorem ltS_asymm {a b : ByteArray} (h : ltS a b = true) : ltS b a = false := by
  cases k : ltS b a with
  | false => rfl
  | true => have := ltS_trans h k; rw [ltS_irr] at this; cases this
theorem ltS_total {a b : ByteArray} (h : ltS a b = false) (k : ltS b a = false) : a = b := by
  have h1 : ¬ a.toList < b.toList := fun e => by rw [ltS_iff.2 e] at h; cases h
  have h2 : ¬ b.toList < a.toList := fun e => by rw [ltS_iff.2 e] at k; cases k
  exact toList_inj (List.le_antisymm (List.not_lt.1 h2) (List.not_lt.1 h1))

def sId : ByteArray := ⟨#[105, 100]⟩
def hasVar (v : List Cel) : Bool := v.any fun c => decide (c.kind = 5)
/-- A member of a value that may be. -/
def askV (v : List Cel) (name : ByteArray) : Option Nat := if mayV v then memV v 0 name else none
def oneR (r : Rec) : Bool := mayV r.data && !hasVar r.data && (match askV r.data sId with
  | none => false
  | some a => match r.data[a]? with
    | none => false
    | some c => decide (c.kind = 3) && decide (c.text = r.id))
/-- What a record has of a name: nothing of a Null. -/
def valR (r : Rec) (name : ByteArray) : Option (List Cel) := match askV r.data name with
  | none => none
  | some a => if (r.data[a]?.map (·.kind)) = some 0 then none else some (cutV r.data a)
def twoB (x y : Option (List Cel)) : Bool := match x, y with
  | some x, some y => decide (x = y)
  | _, _ => false
theorem twoB_comm (x y : Option (List Cel)) : twoB x y = twoB y x := by
  cases x <;> cases y <;> simp [twoB, eq_comm]
def clB (names : List ByteArray) (a b : Rec) : Bool := names.any fun n => twoB (valR a n) (valR b n)
theorem clB_comm (names : List ByteArray) (a b : Rec) : clB names a b = clB names b a := by
  unfold clB; congr 1; funext n; exact twoB_comm _ _
/-- May a table be? -/
structure TabOk (t : Tab) : Prop where
  m1 : 1 ≤ t.most
  m2 : t.most ≤ 64
  few : (t.rows.length : Int) ≤ t.most
  uniq : t.uniques.Nodup
  one : ∀ r, r ∈ t.rows → oneR r = true
  rise : t.rows.Pairwise fun a b => ltS a.id b.id = true
  free : t.rows.Pairwise fun a b => clB t.uniques a b = false
def RiseR (l : List Rec) : Prop := l.Pairwise fun a b => ltS a.id b.id = true

def hasR (l : List Rec) (id : ByteArray) : Bool := l.any fun r => decide (r.id = id)
def atR : List Rec → ByteArray → Nat
  | [], _ => 0
  | r :: l, id => if ltS r.id id then atR l id + 1 else 0
def insR : List Rec → Rec → List Rec
  | [], x => [x]
  | r :: l, x => if ltS r.id x.id then r :: insR l x else x :: r :: l
def delR (l : List Rec) (id : ByteArray) : List Rec := l.filter fun r => !decide (r.id = id)
def setR (l : List Rec) (x : Rec) : List Rec := l.map fun r => if r.id = x.id then x else r
def clsR (names : List ByteArray) (l : List Rec) (x : Rec) : Bool := l.any fun r => !decide (r.id = x.id) && clB names r x

section
variable {l : List Rec} {x r : Rec} {id : ByteArray}
theorem RiseR.cons (h : RiseR (r :: l)) : (∀ y, y ∈ l → ltS r.id y.id = true) ∧ RiseR l := List.pairwise_cons.1 h
theorem atR_le (l : List Rec) (id : ByteArray) : atR l id ≤ l.length := by
  induction l with
  | nil => exact Nat.le_refl _
  | cons r l ih => unfold atR; split <;> simp <;> omega
theorem insR_eq (l : List Rec) (x : Rec) : insR l x = l.take (atR l x.id) ++ x :: l.drop (atR l x.id) := by
  induction l with
  | nil => rfl
  | cons r l ih => unfold insR atR; split <;> simp [ih]
theorem insR_mem {y : Rec} : y ∈ insR l x ↔ y = x ∨ y ∈ l := by
  induction l with
  | nil => simp [insR]
  | cons r l ih =>
    unfold insR
    split
    · simp only [List.mem_cons, ih]; constructor <;> (rintro (h | h | h) <;> simp [h])
    · simp
theorem insR_len (l : List Rec) (x : Rec) : (insR l x).length = l.length + 1 := by
  induction l with
  | nil => rfl
  | cons r l ih => unfold insR; split <;> simp [ih]
theorem hasR_iff : hasR l id = true ↔ ∃ r, r ∈ l ∧ r.id = id := by simp [hasR]
theorem hasR_no : hasR l id = false ↔ ∀ r, r ∈ l → r.id ≠ id := by
  unfold hasR; rw [List.any_eq_false]; simp
theorem insR_rise (h : RiseR l) (hn : hasR l x.id = false) : RiseR (insR l x) := by
  induction l with
  | nil => simp [insR, RiseR]
  | cons r l ih =>
    obtain ⟨h1, h2⟩ := h.cons
    unfold insR
    split
    · rename_i hlt
      refine List.pairwise_cons.2 ⟨fun y hy => ?_, ih h2 (hasR_no.2 fun y hy => hasR_no.1 hn y (by simp [hy]))⟩
      rcases insR_mem.1 hy with rfl | hy
      · exact hlt
      · exact h1 y hy
    · rename_i hlt
      have hxr : ltS x.id r.id = true := by
        cases e : ltS x.id r.id with
        | true => rfl
        | false => exact absurd (ltS_total (by simpa using hlt) e) (hasR_no.1 hn r (by simp))
      refine List.pairwise_cons.2 ⟨fun y hy => ?_, h⟩
      rcases List.mem_cons.1 hy with rfl | hy
      · exact hxr
      · exact ltS_trans hxr (h1 y hy)
theorem delR_ins (hn : hasR l x.id = false) : delR (insR l x) x.id = l := by
  have key : ∀ l : List Rec, hasR l x.id = false → delR l x.id = l := fun l h => List.filter_eq_self.2 fun y hy => by simpa using hasR_no.1 h y hy
  induction l with
  | nil => simp [insR, delR]
  | cons r l ih =>
    have h1 := hasR_no.1 hn r (by simp)
    have h2 : hasR l x.id = false := hasR_no.2 fun y hy => hasR_no.1 hn y (by simp [hy])
    unfold insR
    split
    · show List.filter _ _ = _
      rw [List.filter_cons, if_pos (by simpa using h1)]
      exact congrArg _ (ih h2)
    · show List.filter _ _ = _
      rw [List.filter_cons, if_neg (by simp)]
      exact key _ hn
theorem delR_none (h : hasR l id = false) : delR l id = l := List.filter_eq_self.2 fun y hy => by simpa using hasR_no.1 h y hy
theorem delR_has (l : List Rec) (id : ByteArray) : hasR (delR l id) id = false := hasR_no.2 fun y hy => by simpa using (List.mem_filter.1 hy).2
theorem delR_rise (h : RiseR l) (id : ByteArray) : RiseR (delR l id) := h.filter _
theorem delR_sub {y : Rec} (h : y ∈ delR l id) : y ∈ l := (List.mem_filter.1 h).1
/-- a record of the list dropped and put back -/
theorem ins_del (h : RiseR l) (hx : x ∈ l) : insR (delR l x.id) x = l := by
  induction l with
  | nil => simp at hx
  | cons r l ih =>
    obtain ⟨h1, h2⟩ := h.cons
    by_cases e : r.id = x.id
    · have e2 : x = r := by
        rcases List.mem_cons.1 hx with rfl | hx
        · rfl
        · have := h1 x hx; rw [e, ltS_irr] at this; cases this
      subst e2
      have e3 : delR (x :: l) x.id = l := by
        unfold delR
        rw [List.filter_cons, if_neg (by simp)]
        exact List.filter_eq_self.2 fun y hy => by
          have := h1 y hy
          simp only [Bool.not_eq_true', decide_eq_false_iff_not]
          intro e; rw [e, ltS_irr] at this; cases this
      rw [e3]
      cases l with
      | nil => rfl
      | cons y l => unfold insR; rw [if_neg (by rw [ltS_asymm (h1 y (by simp))]; simp)]
    · have hx2 : x ∈ l := by
        rcases List.mem_cons.1 hx with rfl | hx
        · exact absurd rfl e
        · exact hx
      have e3 : delR (r :: l) x.id = r :: delR l x.id := by
        unfold delR
        rw [List.filter_cons, if_pos (by simpa using e)]
      rw [e3]
      unfold insR
      rw [if_pos (h1 x hx2), ih h2 hx2]
/-- .. set: another one of its id in its place -/
theorem setR_eq (h : RiseR l) (hx : hasR l x.id = true) : setR l x = insR (delR l x.id) x := by
  induction l with
  | nil => simp [hasR] at hx
  | cons r l ih =>
    obtain ⟨h1, h2⟩ := h.cons
    by_cases e : r.id = x.id
    · have hne : ∀ y, y ∈ l → y.id ≠ x.id := fun y hy ey => by
        have := h1 y hy; rw [e, ey, ltS_irr] at this; cases this
      have e3 : delR (r :: l) x.id = l := by
        unfold delR
        rw [List.filter_cons, if_neg (by simp [e])]
        exact List.filter_eq_self.2 fun y hy => by simpa using hne y hy
      have e4 : setR (r :: l) x = x :: l := by
        unfold setR
        rw [List.map_cons, if_pos e]
        congr 1
        refine (List.map_congr_left fun y hy => ?_).trans (List.map_id l)
        rw [if_neg (hne y hy)]; rfl
      rw [e3, e4]
      cases l with
      | nil => rfl
      | cons y l => unfold insR; rw [if_neg (by have := h1 y (by simp); rw [e] at this; rw [ltS_asymm this]; simp)]
    · have hx2 : hasR l x.id = true := by
        obtain ⟨y, hy, ey⟩ := hasR_iff.1 hx
        rcases List.mem_cons.1 hy with rfl | hy
        · exact absurd ey e
        · exact hasR_iff.2 ⟨y, hy, ey⟩
      have e3 : delR (r :: l) x.id = r :: delR l x.id := by
        unfold delR
        rw [List.filter_cons, if_pos (by simpa using e)]
      obtain ⟨y, hy, ey⟩ := hasR_iff.1 hx2
      rw [e3]
      unfold insR
      rw [if_pos (ey ▸ h1 y hy), ← ih h2 hx2]
      unfold setR
      rw [List.map_cons, if_neg e]
theorem delR_set (l : List Rec) (x : Rec) : delR (setR l x) x.id = delR l x.id := by
  induction l with
  | nil => rfl
  | cons r l ih =>
    unfold setR delR at *
    rw [List.map_cons]
    by_cases e : r.id = x.id
    · rw [if_pos e, List.filter_cons, if_neg (by simp), List.filter_cons, if_neg (by simp [e])]
      exact ih
    · rw [if_neg e, List.filter_cons, if_pos (by simpa using e), List.filter_cons, if_pos (by simpa using e)]
      exact congrArg _ ih
/-- where an id is, or would be -/
theorem atR_get (h : RiseR l) : hasR l id = true ↔ ∃ r, l[atR l id]? = some r ∧ r.id = id := by
  induction l with
  | nil => simp [hasR]
  | cons r l ih =>
    obtain ⟨h1, h2⟩ := h.cons
    unfold atR
    split
    · rename_i hlt
      have hne : r.id ≠ id := fun e => by rw [e, ltS_irr] at hlt; cases hlt
      rw [List.getElem?_cons_succ, ← ih h2]
      simp [hasR, hne]
    · rename_i hlt
      constructor
      · intro hh
        obtain ⟨y, hy, ey⟩ := hasR_iff.1 hh
        rcases List.mem_cons.1 hy with rfl | hy
        · exact ⟨_, rfl, ey⟩
        · have := h1 y hy; rw [ey] at this; exact absurd this hlt
      · rintro ⟨y, e1, e2⟩
        simp at e1
        subst e1
        exact hasR_iff.2 ⟨_, by simp, e2⟩
theorem delR_eq (h : RiseR l) (hx : hasR l id = true) : delR l id = l.eraseIdx (atR l id) := by
  induction l with
  | nil => simp [hasR] at hx
  | cons r l ih =>
    obtain ⟨h1, h2⟩ := h.cons
    unfold atR
    split
    · rename_i hlt
      have hne : r.id ≠ id := fun e => by rw [e, ltS_irr] at hlt; cases hlt
      have hx2 : hasR l id = true := by
        obtain ⟨y, hy, ey⟩ := hasR_iff.1 hx
        rcases List.mem_cons.1 hy with rfl | hy
        · exact absurd ey hne
        · exact hasR_iff.2 ⟨y, hy, ey⟩
      rw [List.eraseIdx_cons_succ, ← ih h2 hx2]
      unfold delR
      rw [List.filter_cons, if_pos (by simpa using hne)]
    · rename_i hlt
      obtain ⟨y, e1, e2⟩ := (atR_get h).1 hx
      unfold atR at e1
      rw [if_neg hlt] at e1
      simp at e1
      subst e1
      rw [List.eraseIdx_cons_zero]
      unfold delR
      rw [List.filter_cons, if_neg (by simp [e2])]
      refine List.filter_eq_self.2 fun z hz => ?_
      have := h1 z hz
      simp only [Bool.not_eq_true', decide_eq_false_iff_not]
      intro e; rw [e, e2, ltS_irr] at this; cases this
end
/-- What putting, setting, dropping tells of a table that may be. -/
noncomputable def putE (t : Tab) (r : Rec) : Int := if yes (TabOk t) && oneR r then (if hasR t.rows r.id || clsR t.uniques t.rows r then 271 else if (t.rows.length : Int) = t.most then 272 else 0) else 8
def Tab.put (t : Tab) (r : Rec) : Tab := { t with rows := insR t.rows r }
def Tab.set (t : Tab) (r : Rec) : Tab := { t with rows := setR t.rows r }
def Tab.drop (t : Tab) (id : ByteArray) : Tab := { t with rows := delR t.rows id }
structure PutOk (t : Tab) (r : Rec) : Prop where
  ok : TabOk t
  one : oneR r = true
  new : hasR t.rows r.id = false
  cl : clsR t.uniques t.rows r = false
  few : (t.rows.length : Int) < t.most
theorem putE_iff {t : Tab} {r : Rec} : putE t r = 0 ↔ PutOk t r := by
  unfold putE
  constructor
  · intro h
    split at h
    · rename_i h1
      simp only [Bool.and_eq_true] at h1
      have hk := of_yes h1.1
      split at h
      · omega
      · rename_i h2
        simp only [Bool.or_eq_true, not_or, Bool.not_eq_true] at h2
        split at h
        · omega
        · rename_i h3
          have := hk.few
          exact ⟨hk, h1.2, h2.1, h2.2, by omega⟩
    · omega
  · rintro ⟨h1, h2, h3, h4, h5⟩
    rw [if_pos (by rw [yes_t h1, h2]; rfl), if_neg (by rw [h3, h4]; simp), if_neg (by omega)]
theorem clsR_no {names : List ByteArray} {l : List Rec} {x : Rec} : clsR names l x = false ↔ ∀ r, r ∈ l → r.id ≠ x.id → clB names r x = false := by
  unfold clsR
  rw [List.any_eq_false]
  simp
theorem insR_free {names : List ByteArray} {l : List Rec} {x : Rec} (h : l.Pairwise fun a b => clB names a b = false) (hc : ∀ r, r ∈ l → clB names r x = false) : (insR l x).Pairwise fun a b => clB names a b = false := by
  induction l with
  | nil => simp [insR]
  | cons r l ih =>
    obtain ⟨h1, h2⟩ := List.pairwise_cons.1 h
    unfold insR
    split
    · refine List.pairwise_cons.2 ⟨fun y hy => ?_, ih h2 fun r hr => hc r (by simp [hr])⟩
      rcases insR_mem.1 hy with rfl | hy
      · exact hc r (by simp)
      · exact h1 y hy
    · refine List.pairwise_cons.2 ⟨fun y hy => ?_, h⟩
      rw [clB_comm]
      exact hc y hy
theorem PutOk.tab {t : Tab} {r : Rec} (h : PutOk t r) : TabOk (t.put r) := by
  obtain ⟨⟨a1, a2, a3, a4, a5, a6, a7⟩, b, c, d, e⟩ := h
  refine ⟨a1, a2, by show ((insR t.rows r).length : Int) ≤ t.most; rw [insR_len]; omega, a4, fun y hy => ?_, insR_rise a6 c, insR_free a7 fun y hy => clsR_no.1 d y hy (hasR_no.1 c y hy)⟩
  rcases insR_mem.1 hy with rfl | hy
  · exact b
  · exact a5 y hy
theorem TabOk.drop {t : Tab} (h : TabOk t) (id : ByteArray) : TabOk (t.drop id) := by
  obtain ⟨a1, a2, a3, a4, a5, a6, a7⟩ := h
  refine ⟨a1, a2, ?_, a4, fun y hy => a5 y (delR_sub hy), delR_rise a6 id, a7.filter _⟩
  have := List.length_filter_le (fun r : Rec => !decide (r.id = id)) t.rows
  show ((List.filter _ _).length : Int) ≤ t.most
  omega
/-- A record that a table has may be put back. -/
theorem TabOk.back {t : Tab} (h : TabOk t) {r : Rec} (hr : r ∈ t.rows) : PutOk (t.drop r.id) r := by
  have hd := h.drop r.id
  obtain ⟨a1, a2, a3, a4, a5, a6, a7⟩ := h
  refine ⟨hd, a5 r hr, delR_has _ _, ?_, ?_⟩
  · rw [clsR_no]
    intro y hy hne
    have hy2 := delR_sub hy
    obtain ⟨i, hi, e1⟩ := List.mem_iff_getElem.1 hy2
    obtain ⟨j, hj, e2⟩ := List.mem_iff_getElem.1 hr
    have hp := List.pairwise_iff_getElem.1 a7
    rcases Nat.lt_trichotomy i j with hij | hij | hij
    · have := hp i j hi hj hij; rw [e1, e2] at this; exact this
    · subst hij; rw [e1] at e2; subst e2; exact absurd rfl hne
    · have := hp j i hj hi hij; rw [e1, e2] at this; rw [clB_comm]; exact this
  · show ((delR t.rows r.id).length : Int) < t.most
    have := insR_len (delR t.rows r.id) r
    rw [ins_del a6 hr] at this
    omega
theorem TabOk.drop_put {t : Tab} (h : TabOk t) {r : Rec} (hr : r ∈ t.rows) : (t.drop r.id).put r = t := by
  show ({ t with rows := insR (delR t.rows r.id) r } : Tab) = t
  rw [ins_del h.rise hr]
theorem PutOk.put_drop {t : Tab} {r : Rec} (h : PutOk t r) : (t.put r).drop r.id = t := by
  show ({ t with rows := delR (insR t.rows r) r.id } : Tab) = t
  rw [delR_ins h.new]
end Pv
