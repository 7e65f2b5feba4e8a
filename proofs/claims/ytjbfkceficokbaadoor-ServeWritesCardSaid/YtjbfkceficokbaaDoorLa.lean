/- Cells, steps, faults as data; what a response's text is. Nothing of a program stands here. -/
import Derived.Test.YtjbfkceficokbaaDoorKa
namespace Pv
open Go Go.RowKit

structure Cl where
  kind : Int
  name : ByteArray
  text : ByteArray
  int : Int
  many : Int
structure RCl (f : Nat → Value) (x : Cl) : Prop where
  kind : f 0 = .int .u8 x.kind ∧ 0 ≤ x.kind ∧ x.kind ≤ 255
  name : f 1 = .string x.name
  text : f 2 = .string x.text
  int : RI (f 3) x.int
  many : RI (f 4) x.many
structure St where
  name : ByteArray
  at' : Int
structure RSt (f : Nat → Value) (x : St) : Prop where
  name : f 0 = .string x.name
  at' : RI (f 1) x.at'
structure Ft where
  code : ByteArray
  path : List St
  dir : ByteArray
  rule : Int
  line : Int
  col : Int
structure RFt (w : World) (f : Nat → Value) (x : Ft) : Prop where
  code : f 0 = .string x.code
  path : SlK w 2 RSt (f 1) x.path
  dir : f 2 = .string x.dir
  rule : RI (f 3) x.rule
  line : RI (f 4) x.line
  col : RI (f 5) x.col
theorem RFt.keep {w w' : World} {f : Nat → Value} {x : Ft} (h : RFt w f x) (k : Keep w w') : RFt w' f x := ⟨h.1, h.2.keep k, h.3, h.4, h.5, h.6⟩

/-- What a list's items, an object's members are. -/
def sepL (i : Nat) : List UInt8 := if i = 0 then [] else [44]
def preL (v : List Cl) (obj : Bool) (at' : Nat) : List UInt8 := if obj then jq (bsl ((v[at']?.map (·.name)).getD ByteArray.empty)) ++ [58] else []
def kidsF (g : Nat → List UInt8 × Nat) (v : List Cl) (many : Int) (obj : Bool) : Nat → Nat → Nat → List UInt8 → List UInt8 × Nat
  | 0, _, a, acc => (acc, a)
  | n + 1, i, a, acc => if (i : Int) < many ∧ a < v.length then kidsF g v many obj n (i + 1) (g a).2 (acc ++ (sepL i ++ (preL v obj a ++ (g a).1))) else (acc, a)
def valC (g : Nat → List UInt8 × Nat) (v : List Cl) (a : Nat) (c : Cl) : List UInt8 × Nat :=
  if c.kind = 1 then ((if c.int = 0 then [102, 97, 108, 115, 101] else [116, 114, 117, 101]), a + 1)
  else if c.kind = 2 then (Lib.itoa c.int, a + 1)
  else if c.kind = 3 ∨ c.kind = 4 then (jq (bsl c.text), a + 1)
  else if c.kind = 6 then (91 :: ((kidsF g v c.many false v.length 0 (a + 1) []).1 ++ [93]), (kidsF g v c.many false v.length 0 (a + 1) []).2)
  else if c.kind = 7 then (123 :: ((kidsF g v c.many true v.length 0 (a + 1) []).1 ++ [125]), (kidsF g v c.many true v.length 0 (a + 1) []).2)
  else ([110, 117, 108, 108], a + 1)
def valF (v : List Cl) : Nat → Nat → List UInt8 × Nat
  | 0, a => ([], a)
  | d + 1, a => match v[a]? with
    | none => ([], a)
    | some c => valC (valF v d) v a c
theorem valF_step {v : List Cl} {d a : Nat} {c : Cl} (h : v[a]? = some c) : valF v (d + 1) a = valC (valF v d) v a c := by
  show (match v[a]? with | none => _ | some c => _) = _
  rw [h]
/-- Cells that are not too large. -/
structure ClsOk (v : List Cl) : Prop where
  len : v.length ≤ 100
  name : ∀ (i : Nat) c, v[i]? = some c → c.name.size ≤ 300
  text : ∀ (i : Nat) c, v[i]? = some c → c.text.size ≤ 3000
  int : ∀ (i : Nat) c, v[i]? = some c → -9223372036854775808 ≤ c.int ∧ c.int ≤ 9223372036854775807
theorem sepL_len (i : Nat) : (sepL i).length ≤ 1 := by unfold sepL; split <;> simp
theorem preL_len {v : List Cl} (h : ClsOk v) (obj : Bool) (a : Nat) : (preL v obj a).length ≤ 1803 := by
  unfold preL
  split
  · have : (bsl ((v[a]?.map (·.name)).getD ByteArray.empty)).length ≤ 300 := by
      rw [bsl_len]
      cases hx : v[a]? with
      | none => simp
      | some c => simpa using h.name a c hx
    have h2 := jq_len (bsl ((v[a]?.map (·.name)).getD ByteArray.empty))
    simp only [List.length_append, List.length_cons, List.length_nil]
    omega
  · simp
/-- How long a value's text is. -/
def ValB (v : List Cl) (a : Nat) (r : List UInt8 × Nat) : Prop := a < r.2 ∧ r.2 ≤ v.length ∧ r.1.length + 1998 ≤ 20000 * (r.2 - a)
theorem kidsF_b {g : Nat → List UInt8 × Nat} {v : List Cl} {many : Int} {obj : Bool} (hv : ClsOk v) (a0 : Nat) (hg : ∀ a, a0 ≤ a → a < v.length → ValB v a (g a)) : ∀ (n i a : Nat) (acc : List UInt8), a0 ≤ a → a ≤ v.length → acc.length ≤ 20000 * (a - a0) →
    a ≤ (kidsF g v many obj n i a acc).2 ∧ (kidsF g v many obj n i a acc).2 ≤ v.length ∧ (kidsF g v many obj n i a acc).1.length ≤ 20000 * ((kidsF g v many obj n i a acc).2 - a0)
  | 0, i, a, acc, h0, h1, h2 => ⟨Nat.le_refl _, h1, h2⟩
  | n + 1, i, a, acc, h0, h1, h2 => by
    unfold kidsF
    by_cases hc : (i : Int) < many ∧ a < v.length
    · rw [if_pos hc]
      obtain ⟨g1, g2, g3⟩ := hg a h0 hc.2
      have s1 := sepL_len i
      have s2 := preL_len hv obj a
      have ih := kidsF_b (many := many) (obj := obj) hv a0 hg n (i + 1) (g a).2 (acc ++ (sepL i ++ (preL v obj a ++ (g a).1))) (by omega) g2 (by simp only [List.length_append]; omega)
      exact ⟨by omega, ih.2⟩
    · rw [if_neg hc]
      exact ⟨Nat.le_refl _, h1, h2⟩
theorem valF_b {v : List Cl} (hv : ClsOk v) : ∀ (d a : Nat), a < v.length → v.length - a ≤ d → ValB v a (valF v d a)
  | 0, a, h, hd => by omega
  | d + 1, a, h, hd => by
    obtain ⟨c, hc⟩ : ∃ c, v[a]? = some c := ⟨v[a], List.getElem?_eq_getElem h⟩
    rw [valF_step hc]
    have hi := hv.int a c hc
    have ht := hv.text a c hc
    have hk := fun obj => kidsF_b (g := valF v d) (many := c.many) (obj := obj) hv (a + 1) (fun a' h1 h2 => valF_b hv d a' h2 (by omega)) v.length 0 (a + 1) [] (Nat.le_refl _) (by omega) (by simp)
    unfold valC ValB
    repeat' split
    · simp; omega
    · simp; omega
    · have := itoa_len c.int hi.1 hi.2
      simp only; omega
    · have := jq_len (bsl c.text)
      rw [bsl_len] at this
      simp only; omega
    · obtain ⟨h1, h2, h3⟩ := hk false
      simp only [List.length_cons, List.length_append, List.length_nil]
      omega
    · obtain ⟨h1, h2, h3⟩ := hk true
      simp only [List.length_cons, List.length_append, List.length_nil]
      omega
    · simp; omega
end Pv
