/- The document's reader, plain: digits to the base of 16, escapes. Nothing of a program stands here. -/
import Derived.Test.YtilhicefhhgecaaGreatDoorQ6q
import Derived.Test.YtilhicefhhgecaaGreatDoorP24q
import Derived.Test.YtilhicefhhgecaaGreatDoorYcq
import Derived.Test.YtilhicefhhgecaaGreatDoorP17q
import Derived.Test.YtilhicefhhgecaaGreatDoorRnq
import Derived.Test.YtilhicefhhgecaaGreatDoorRhq
namespace Pv
open Go Go.RowKit
/-- A digit's value to the base of 16, or -1. -/
def hexC (c : Int) : Int := if 48 ≤ c ∧ c ≤ 57 then c - 48 else if 97 ≤ c ∧ c ≤ 102 then c - 87 else if 65 ≤ c ∧ c ≤ 70 then c - 55 else -1
theorem hexC_bd (c : Int) : -1 ≤ hexC c ∧ hexC c < 16 := by unfold hexC; (repeat' split) <;> omega
theorem hexC_ge {c : Int} (h : 0 ≤ hexC c) : 48 ≤ c ∧ c < 128 := by unfold hexC at h; (repeat' split at h) <;> omega
theorem hexC_byte0 : ∀ n, n < 256 → hexC ((UInt8.ofNat n).toNat : Int) = if hexB.contains (UInt8.ofNat n) then (hexVB (UInt8.ofNat n) : Int) else -1 := by decide +kernel
theorem hexC_byte (b : UInt8) : hexC (b.toNat : Int) = if hexB.contains b then (hexVB b : Int) else -1 := by
  have h := hexC_byte0 b.toNat b.toNat_lt
  simpa using h
/-- What stands at a digit's place. -/
def hexK (k : Nat) : Int := if k < 10 then 48 + k else 87 + k
theorem hexC_is {c : Int} {k : Nat} (hk : k < 16) : hexC c = (k : Int) ↔ c = hexK k ∨ (9 < k ∧ c = hexK k - 32) := by
  unfold hexC hexK
  (repeat' split) <;> constructor <;> intro h <;> omega
theorem hexK_bd {k : Nat} (hk : k < 16) : 48 ≤ hexK k ∧ hexK k ≤ 102 := by unfold hexK; split <;> omega
theorem hexK_at : ∀ k : Nat, k < 16 → ∀ h : k < (⟨#[48, 49, 50, 51, 52, 53, 54, 55, 56, 57, 97, 98, 99, 100, 101, 102]⟩ : ByteArray).size, ((((⟨#[48, 49, 50, 51, 52, 53, 54, 55, 56, 57, 97, 98, 99, 100, 101, 102]⟩ : ByteArray)[k]'h).toNat : Int)) = hexK k
  | 0, _, _ | 1, _, _ | 2, _, _ | 3, _, _ | 4, _, _ | 5, _, _ | 6, _, _ | 7, _, _ | 8, _, _ | 9, _, _ | 10, _, _ | 11, _, _ | 12, _, _ | 13, _, _ | 14, _, _ | 15, _, _ => rfl
  | n + 16, h, _ => by omega
theorem hexK_wrap (k : Nat) (hk : k < 16) (h : k < (⟨#[48, 49, 50, 51, 52, 53, 54, 55, 56, 57, 97, 98, 99, 100, 101, 102]⟩ : ByteArray).size) : wrap64 ((((⟨#[48, 49, 50, 51, 52, 53, 54, 55, 56, 57, 97, 98, 99, 100, 101, 102]⟩ : ByteArray)[k]'h).toNat : Int)) = hexK k := by
  rw [hexK_at k hk h]
  have := hexK_bd hk
  unfold wrap64
  omega
/-- Six digits. -/
def sixB (l : Bs) : Option (Nat × Bs) := if decide (l.length < 6) || !((l.take 6).all fun b => hexB.contains b) || decide (1114111 < hexNB (l.take 6)) then none else some (hexNB (l.take 6), l.drop 6)
/-- What was read of six digits. -/
structure SixI (l : Bs) (i n : Nat) : Prop where
  le : i ≤ l.length
  all : ∀ b, b ∈ l.take i → b ∈ hexB
  val : n = hexNB (l.take i)
theorem SixI.zero (l : Bs) : SixI l 0 0 := ⟨by omega, by simp, rfl⟩
theorem SixI.lt {l : Bs} {i n : Nat} (h : SixI l i n) : n < 16 ^ i := by
  have h1 := Go.Proofs.YtilhicefhhgecaaGreatDoor.hexNB_lt (l.take i) h.all
  rw [List.length_take, Nat.min_eq_left h.le, ← h.val] at h1
  exact h1
theorem SixI.next {l : Bs} {i n : Nat} (h : SixI l i n) {d : Nat} (hd : hexC (lookZ (l.drop i)) = (d : Int)) : SixI l (i + 1) (16 * n + d) ∧ ∃ m, nextP (l.drop i) = some (m, 1) := by
  have hc := hexC_ge (c := lookZ (l.drop i)) (by omega)
  have hx : ∃ m k, nextP (l.drop i) = some (m, k) ∧ lookZ (l.drop i) = (m : Int) := by
    unfold lookZ at hc ⊢
    cases hx : nextP (l.drop i) with
    | none => rw [hx] at hc; simp only at hc; omega
    | some p => exact ⟨p.1, p.2, rfl, rfl⟩
  obtain ⟨m, k, hx, hm⟩ := hx
  obtain ⟨rfl, r, hr⟩ := next_small hx (by omega)
  have hi : l[i]? = some (UInt8.ofNat m) := by
    have := congrArg (fun z => z[0]?) hr
    simpa using this
  have hlt := lt_of_get hi
  have hb := hexC_byte (UInt8.ofNat m)
  have hmm : (UInt8.ofNat m).toNat = m := by simp; omega
  rw [hmm, ← hm, hd] at hb
  cases hcon : hexB.contains (UInt8.ofNat m) with
  | false => rw [hcon] at hb; simp at hb
  | true =>
    rw [hcon, if_pos rfl] at hb
    have hdv : d = hexVB (UInt8.ofNat m) := by omega
    refine ⟨⟨by omega, fun b hb => ?_, ?_⟩, m, hx⟩
    · rw [List.take_add_one, hi] at hb
      rcases List.mem_append.1 hb with hb | hb
      · exact h.all b hb
      · obtain rfl : b = UInt8.ofNat m := by simpa using hb
        simpa using hcon
    · rw [Go.Proofs.YtilhicefhhgecaaGreatDoor.hexNB_next l i _ hi, ← h.val, hdv]
theorem SixI.stop {l : Bs} {i n : Nat} (_h : SixI l i n) (hi : i < 6) (hd : hexC (lookZ (l.drop i)) < 0) : sixB l = none := by
  unfold sixB
  rw [if_pos]
  by_cases h6 : l.length < 6
  · simp [h6]
  · have hil : i < l.length := by omega
    have hget : l[i]? = some l[i] := List.getElem?_eq_getElem hil
    have hno : hexB.contains l[i] = false := by
      cases hcon : hexB.contains l[i] with
      | false => rfl
      | true =>
        have hb := hexC_byte l[i]
        rw [hcon, if_pos rfl] at hb
        have hg := hexC_ge (c := (l[i].toNat : Int)) (by omega)
        have hl : lookZ (l.drop i) = (l[i].toNat : Int) := by
          rw [List.drop_eq_getElem_cons hil]
          unfold lookZ
          rw [next_low (by omega)]
        rw [hl] at hd
        omega
    have hall : ((l.take 6).all fun b => hexB.contains b) = false := by
      cases hc : ((l.take 6).all fun b => hexB.contains b) with
      | false => rfl
      | true =>
        have := List.all_eq_true.1 hc l[i] (List.mem_of_getElem? (i := i) (by rw [List.getElem?_take_of_lt hi]; exact hget))
        simp only [hno] at this
        cases this
    rw [hall]
    simp
theorem SixI.end {l : Bs} {n : Nat} (h : SixI l 6 n) : sixB l = if 1114111 < n then none else some (n, l.drop 6) := by
  unfold sixB
  have hall : ((l.take 6).all fun b => hexB.contains b) = true := List.all_eq_true.2 fun b hb => by simpa using h.all b hb
  have h6 : ¬ l.length < 6 := by have := h.le; omega
  rw [← h.val, hall]
  simp only [h6, decide_false, Bool.not_true, Bool.or_false, Bool.false_or, decide_eq_true_eq]
theorem escB_u {l r : Bs} (h : takeB [] l = some (117, r)) : escB l = (sixB r).map fun p => (one1 p.1, true, p.2) := by
  unfold escB sixB
  rw [h]
  simp only [decide_true, if_true]
  split <;> rfl
theorem escB_c {l r : Bs} {c : Nat} (h : takeB [] l = some (c, r)) (hc : c ≠ 117) : escB l = (escS c).map fun p => (p.1, p.2, r) := by
  unfold escB
  rw [h]
  simp only [hc, decide_false, Bool.false_eq_true, if_false]
/-- Nothing of none: taken just where there is a code point. -/
theorem take_any {l : Bs} : takeB [] l = (nextP l).map fun p => (p.1, l.drop p.2) := by
  unfold takeB
  cases nextP l with
  | none => rfl
  | some p => simp
end Pv

namespace Pv
open Go Go.RowKit
/-- How many bytes code points take. -/
def sumB : List Int → Nat
  | [] => 0
  | n :: q => (bytesP n.toNat).length + sumB q
theorem ptsZ_len : ∀ (f : Nat) {l : Bs} {q : List Int}, l.length < f → ptsZ l = some q → sumB q = l.length
  | 0, _, _, h, _ => by omega
  | f + 1, l, q, hf, h => by
    by_cases hl : l = []
    · subst hl
      rw [ptsZ_nil] at h
      obtain rfl := Option.some.inj h
      rfl
    · obtain ⟨m, k, q', hx, rfl, hp⟩ := ptsZ_step hl h
      have hs := nextP_size hx
      have hn := nextP_len hx
      have ih := ptsZ_len f (by rw [List.length_drop]; omega) hp
      rw [List.length_drop] at ih
      simp only [sumB, Int.toNat_natCast, hn, ih]
      omega
end Pv
namespace Go.Proofs.YtilhicefhhgecaaGreatDoor
open Go.RowKit Pv
/-- What is left, and one more; nothing where it is bad. -/
def dLen (E : PEnv) (w : World) (R : Nat) : Nat := match w.cell? ⟨R, 2, none⟩, w.cell? ⟨R, 1, none⟩ with
  | some (.bool false), some (.int _ i) => 1 + sumB (E.P.drop i.toNat)
  | _, _ => 0
section
variable {w w' : World} {R b : Nat} {E : PEnv} {l : Bs} {wd : Bool} {v : Value} {t : List Rx} {s : List Rng}
theorem RdD.len (h : RdD w R E l wd) : dLen E w R = 1 + l.length := by
  obtain ⟨_, i, hb, _, hp⟩ := h
  unfold dLen
  rw [hb.cell 2, hb.cell 1]
  simp only [List.getElem?_toArray, List.getElem?_cons_zero, List.getElem?_cons_succ, Int.toNat_natCast]
  rw [ptsZ_len _ (Nat.lt_succ_self _) hp]
theorem RdX.len (h : RdX w R E) : dLen E w R = 0 := by
  obtain ⟨_, i, wd, hb, _⟩ := h
  unfold dLen
  rw [hb.cell 2, hb.cell 1]
  simp
theorem RdD.pts (h : RdD w R E l wd) : ∃ q, ptsZ l = some q := by obtain ⟨_, i, _, _, hp⟩ := h; exact ⟨_, hp⟩
/-- Where code points are, one stands next but at the end. -/
theorem RdD.next (h : RdD w R E l wd) : (l = [] ∧ nextP l = none ∧ lookZ l = -1) ∨ ∃ (m k : Nat), nextP l = some (m, k) ∧ lookZ l = (m : Int) ∧ m ≤ 1114111 := by
  obtain ⟨q, hq⟩ := h.pts
  by_cases hl : l = []
  · subst hl
    exact .inl ⟨rfl, nextP_nil, lookZ_nil⟩
  · obtain ⟨m, k, q', hx, _, _⟩ := ptsZ_step hl hq
    exact .inr ⟨m, k, hx, by unfold lookZ; rw [hx], (nextP_size hx).2.2.2⟩
/-- The reader, at what is left, or bad. -/
def RdE (w : World) (R : Nat) (E : PEnv) (o : Option (Bs × Bool)) : Prop := match o with
  | some (l, wd) => RdD w R E l wd
  | none => RdX w R E
theorem set_lits {w : World} {cs : Array Value} {n : Nat} (hr : RelK 2 RRng cs.toList s) (hl : s.length = n) (hs : cs.size = n * 2) (hn : n ≤ 1000) : OwnSet (w.alloc (.cells cs TRg)) w.heap.size (.slice (some ⟨w.heap.size, 0, none⟩) n n) s :=
  ⟨some ⟨w.heap.size, 0, none⟩, n, cs.toList, by rw [hl], by
    rw [hl]
    exact ⟨by rw [Array.length_toList, hs], .inr ⟨w.heap.size, n, cs, rfl, Nat.le_refl _, by show (w.heap.push _)[w.heap.size]? = _; simp, Nat.le_refl _, by simp only [maxLen]; omega, by rw [hs], by rw [List.take_of_length_le (by rw [Array.length_toList, hs]; exact Nat.le_refl _)]⟩⟩, hr⟩
theorem set_litsE {w : World} {cs : Array Value} {n g : Nat} (hg : w.heap.size = g) (hr : RelK 2 RRng cs.toList s) (hl : s.length = n) (hs : cs.size = n * 2) (hn : n ≤ 1000) : OwnSet (w.alloc (.cells cs TRg)) g (.slice (some ⟨g, 0, none⟩) n n) s := by
  subst hg
  exact set_lits hr hl hs hn
/-- What an escape, or one of a class, leaves. -/
def EsD (R : Nat) (E : PEnv) (w : World) (wd : Bool) (o : Option (List Rng × Bool × Bs)) (e : Ending) (w' : World) : Prop := ∃ (n : Int) (A : Option Addr) (m c : Nat), e = .returned (.tuple #[.int .i64 n, .slice A m c]) ∧ Only R w w' ∧ match o with
  | none => RdX w' R E ∧ m = 0 ∧ 0 ≤ n ∧ n < 16777216
  | some (s, true, r) => RdD w' R E r wd ∧ m = 0 ∧ 0 ≤ n ∧ n ≤ 1114111 ∧ s = [⟨n, n⟩]
  | some (s, false, r) => RdD w' R E r wd ∧ 0 < m ∧ n = 0 ∧ OwnSet w' w.heap.size (.slice A m c) s
theorem EsD.one {w1 : World} {n : Nat} {l : Bs} (h : RdD w1 R E l wd) (hn : n ≤ 1114111) (k : Only R w w1) : EsD R E w wd (some (one1 n, true, l)) (.returned (.tuple #[.int .i64 (n : Int), .slice none 0 0])) w1 :=
  ⟨n, none, 0, 0, rfl, k, h, rfl, by omega, by omega, rfl⟩
theorem EsD.bad {w1 : World} {n : Int} (h : RdX w1 R E) (hn : 0 ≤ n ∧ n < 16777216) (k : Only R w w1) : EsD R E w wd none (.returned (.tuple #[.int .i64 n, .slice none 0 0])) w1 :=
  ⟨n, none, 0, 0, rfl, k, h, rfl, hn⟩
theorem EsD.set {w1 : World} {n c : Nat} {A : Option Addr} (h : RdD w1 R E l wd) (hs : OwnSet w1 w.heap.size (.slice A n c) s) (hn : 0 < n) (k : Only R w w1) : EsD R E w wd (some (s, false, l)) (.returned (.tuple #[.int .i64 0, .slice A n c])) w1 :=
  ⟨0, A, n, c, rfl, k, h, hn, rfl, hs⟩
theorem EsD.from {w1 : World} {o : Option (List Rng × Bool × Bs)} {e : Ending} (h : EsD R E w1 wd o e w') (k : Only R w w1) : EsD R E w wd o e w' := by
  obtain ⟨n, A, m, c, he, h1, h2⟩ := h
  refine ⟨n, A, m, c, he, k.step h1, ?_⟩
  match o, h2 with
  | none, h2 => exact h2
  | some (s, true, r), h2 => exact h2
  | some (s, false, r), ⟨h3, h4, h5, h6⟩ => exact ⟨h3, h4, h5, OwnK.lower h6 k.size⟩
end
end Go.Proofs.YtilhicefhhgecaaGreatDoor

namespace Go.Proofs.YtilhicefhhgecaaGreatDoor
open Go.RowKit Pv
/-- A digit met among the first ones. -/
def metH (z : Int) (k : Nat) : Int := if z < (k : Int) then z else -1
theorem metH_0 {z : Int} (h : -1 ≤ z) : metH z 0 = -1 := by unfold metH; split <;> omega
theorem metH_16 {z : Int} (h : z < 16) : metH z 16 = z := by unfold metH; split <;> omega
theorem metH_hit {z : Int} {k : Nat} (h : z = (k : Int)) : metH z (k + 1) = (k : Int) := by unfold metH; split <;> omega
theorem metH_no {z : Int} {k : Nat} (h : z ≠ (k : Int)) : metH z (k + 1) = metH z k := by unfold metH; (repeat' split) <;> omega
/-- What six digits leave. -/
def SixD (R : Nat) (E : PEnv) (w : World) (wd : Bool) (o : Option (Nat × Bs)) (e : Ending) (w' : World) : Prop := ∃ n : Int, e = .returned (.int .i64 n) ∧ 0 ≤ n ∧ n < 16777216 ∧ Only R w w' ∧ match o with
  | none => RdX w' R E
  | some (m, r) => RdD w' R E r wd ∧ n = (m : Int) ∧ m ≤ 1114111
set_option maxHeartbeats 4000000 in
set_option maxRecDepth 100000 in
theorem rd7_six (R : Nat) (E : PEnv) (l : Bs) (wd : Bool) (w : World) (h : RdD w R E l wd) :
    Calls Tryz.prog 210 #[.pointer (some ⟨R, 0, none⟩)] w (SixD R E w wd (sixB l)) := by
  have HD := Lib.hid h
  have HS0 := Lib.hid (SixI.zero l)
  obtain ⟨X, hX⟩ : ∃ X, sixB l = X := ⟨_, rfl⟩
  have HX := Lib.hid hX
  rw [hX]
  clear h hX
  go_enter Tryz.func210, Tryz.ntmps210
  go_wp2
  go_loopw [3, 4] (fun nv iv W => ∃ i n : Nat, nv = .int .i64 (n : Int) ∧ iv = .int .i64 i ∧ i ≤ 6 ∧ (n : Int) < 16777216 ∧ Hid (SixI l i n) ∧ Hid (RdD W R E (l.drop i) wd) ∧ Hid (Only R w W)) (fun _ iv _ => 6 - (intOf iv).toNat)
  case atStart => exact ⟨0, 0, rfl, rfl, by omega, by omega, HS0, Lib.hid (by rw [List.drop_zero]; exact HD.out), Lib.hid (Only.refl R w)⟩
  case round =>
    clear HS0 HD
    obtain ⟨i, n, rfl, rfl, hi, hn, HS, HD, HO⟩ := hrel
    by_cases hlt : i < 6
    · have HLK := Lib.hid (rd7_look R E _ wd wr HD.out)
      obtain ⟨c, hc⟩ : ∃ c, lookZ (l.drop i) = c := ⟨_, rfl⟩
      have HC := Lib.hid hc
      rw [hc] at HLK
      obtain ⟨z, hz⟩ : ∃ z, hexC c = z := ⟨_, rfl⟩
      have hzb := hexC_bd c
      rw [hz] at hzb
      have HZ := Lib.hid hz
      have i1 : (i : Int) < 6 := by omega
      clear hc hz
      go_wp2_with fail
      refine HLK.out.mono ?_
      rintro e w1 ⟨rfl, hb⟩
      have HB := Lib.hid hb
      clear hb
      go_wp2
      go_loopw [5, 7] (fun dv kv W => ∃ k : Nat, dv = .int .i64 (metH z k) ∧ kv = .int .i64 k ∧ k ≤ 16 ∧ Hid (W = w1)) (fun _ kv _ => 16 - (intOf kv).toNat)
      case atStart => exact ⟨0, by rw [metH_0 hzb.1], rfl, by omega, Lib.hid rfl⟩
      case round =>
        obtain ⟨k, rfl, rfl, hk, HW⟩ := hrel
        obtain rfl := HW.out
        by_cases hlt2 : k < 16
        · have hks : k < (⟨#[48, 49, 50, 51, 52, 53, 54, 55, 56, 57, 97, 98, 99, 100, 101, 102]⟩ : ByteArray).size := hlt2
          have hv := hexK_wrap k hlt2 hks
          have hkb := hexK_bd hlt2
          have hcl := hexC_is (c := c) hlt2
          rw [HZ.out] at hcl
          generalize hexK k = y at hv hkb hcl
          have k1 : (k : Int) < 16 := by omega
          obtain ⟨d, hd⟩ : ∃ d, metH z k = d := ⟨_, rfl⟩
          have HDD := Lib.hid hd
          rw [hd]
          clear hd
          by_cases h1 : c = y
          · have hzk : Hid (z = (k : Int)) := Lib.hid (hcl.2 (.inl h1))
            subst h1
            clear hcl
            go_wp2
            go_roundw
            case rel => exact ⟨k + 1, by rw [metH_hit hzk.out], by go_num, by omega, by first | exact Lib.hid rfl | exact Lib.hid trivial⟩
            case measure => simp [intOf]; omega
          · by_cases h9 : 9 < k
            · have h9' : (9 : Int) < (k : Int) := by omega
              by_cases h2 : c = y - 32
              · have hzk : Hid (z = (k : Int)) := Lib.hid (hcl.2 (.inr ⟨h9, h2⟩))
                have e1 : (c == y) = false := by simpa using h1
                have e2 : (c == y - 32) = true := by simpa using h2
                clear hcl h2
                go_wp2
                go_roundw
                case rel => exact ⟨k + 1, by rw [metH_hit hzk.out], by go_num, by omega, by first | exact Lib.hid rfl | exact Lib.hid trivial⟩
                case measure => simp [intOf]; omega
              · have hzk : Hid (z ≠ (k : Int)) := Lib.hid (fun hh => by rcases hcl.1 hh with h | h; exact h1 h; exact h2 h.2)
                have e1 : (c == y) = false := by simpa using h1
                have e2 : (c == y - 32) = false := by simpa using h2
                clear hcl
                go_wp2
                go_roundw
                case rel => exact ⟨k + 1, by rw [metH_no hzk.out, HDD.out], by go_num, by omega, by first | exact Lib.hid rfl | exact Lib.hid trivial⟩
                case measure => simp [intOf]; omega
            · have h9' : ¬ (9 : Int) < (k : Int) := by omega
              have hzk : Hid (z ≠ (k : Int)) := Lib.hid (fun hh => by rcases hcl.1 hh with h | h; exact h1 h; exact h9 h.1)
              have e1 : (c == y) = false := by simpa using h1
              clear hcl
              go_wp2
              go_roundw
              case rel => exact ⟨k + 1, by rw [metH_no hzk.out, HDD.out], by go_num, by omega, by first | exact Lib.hid rfl | exact Lib.hid trivial⟩
              case measure => simp [intOf]; omega
        · obtain rfl : k = 16 := by omega
          rw [metH_16 hzb.2]
          obtain ⟨j, H1, hR, hj, c1, f1, c2, f2, HN, HB2, _⟩ := (HD.out.below HB.out).cells
          have HO1 := Lib.hid (HO.out.then HB.out)
          by_cases hneg : z < 0
          · have HXE : Hid (X = none) := Lib.hid (HX.out.symm.trans (HS.out.stop hlt (by rw [HC.out, HZ.out]; exact hneg)))
            go_wp2
            go_ret
            refine ⟨0, rfl, by omega, by omega, HO1.out.set 2 _, ?_⟩
            rw [HXE.out]
            exact HB2.out
          · obtain ⟨d, rfl⟩ : ∃ d : Nat, z = (d : Int) := ⟨z.toNat, by omega⟩
            obtain ⟨hs2, m, hm⟩ := HS.out.next (d := d) (by rw [HC.out, HZ.out])
            have HS2 := Lib.hid hs2
            have HR2 : Hid (RdD (wr.setCell ⟨R, 1, none⟩ (.int .i64 ((j : Int) + 1))) R E (l.drop (i + 1)) wd) := Lib.hid (by
              have := HN.out m 1 hm
              rw [List.drop_drop] at this
              exact this)
            have h16 : ((16 * n + d : Nat) : Int) < 16777216 := by
              have h1 := hs2.lt
              have h2 : 16 ^ (i + 1) ≤ 16 ^ 6 := Nat.pow_le_pow_right (by omega) (by omega)
              omega
            clear hs2 hm
            go_wp2
            go_roundw
            case rel => exact ⟨i + 1, 16 * n + d, by congr 1, by go_num, by omega, h16, HS2, HR2, Lib.hid (HO1.out.set 1 _)⟩
            case measure => simp [intOf]; omega
    · obtain rfl : i = 6 := by omega
      have HE := Lib.hid (HX.out.symm.trans HS.out.end)
      obtain ⟨j, H1, hR, hj, c1, f1, c2, f2, HN, HB2, _⟩ := HD.out.cells
      by_cases hbig : 1114111 < n
      · have hb1 : (1114111 : Int) < (n : Int) := by omega
        go_wp2
        go_ret
        refine ⟨n, rfl, by omega, hn, HO.out.set 2 _, ?_⟩
        rw [HE.out, if_pos hbig]
        exact HB2.out
      · have hb1 : ¬ (1114111 : Int) < (n : Int) := by omega
        go_wp2
        go_ret
        refine ⟨n, rfl, by omega, hn, HO.out, ?_⟩
        rw [HE.out, if_neg hbig]
        exact ⟨HD.out, rfl, by omega⟩
end Go.Proofs.YtilhicefhhgecaaGreatDoor

namespace Pv
open Go Go.RowKit
theorem mark_lt {n : Nat} (h : isMark n = true) : n < 128 := by
  obtain ⟨k, hk, rfl⟩ := (isMark_iff n).1 h
  have : ∀ k, k < 14 → (marksL.getD k 0).toNat < 128 := by decide
  exact this k hk
theorem escS_mark {n : Nat} (h : isMark n = true) : escS n = some (one1 n, true) := by
  have h1 := mark_lt h
  rw [mark_low n h1] at h
  unfold escS
  rw [if_pos (by simp only [h1, decide_true, h, Bool.and_self])]
theorem escS_else {n : Nat} (h : isMark n = false) (h110 : n ≠ 110) (h114 : n ≠ 114) (h116 : n ≠ 116) (h100 : n ≠ 100) (h119 : n ≠ 119) (h115 : n ≠ 115) : escS n = none := by
  have hb : (decide (n < 128) && marksB.contains (UInt8.ofNat n)) = false := by
    by_cases h1 : n < 128
    · rw [mark_low n h1] at h
      rw [h, Bool.and_false]
    · rw [decide_eq_false h1, Bool.false_and]
  unfold escS
  rw [hb, if_neg (by simp), if_neg h110, if_neg h114, if_neg h116, if_neg h100, if_neg h119, if_neg h115]
theorem rng_sets4 {a b c d e f g h : Int} (h1 : 0 ≤ a ∧ a ≤ 200) (h2 : 0 ≤ b ∧ b ≤ 200) (h3 : 0 ≤ c ∧ c ≤ 200) (h4 : 0 ≤ d ∧ d ≤ 200) (h5 : 0 ≤ e ∧ e ≤ 200) (h6 : 0 ≤ f ∧ f ≤ 200) (h7 : 0 ≤ g ∧ g ≤ 200) (h8 : 0 ≤ h ∧ h ≤ 200) :
    RelK 2 RRng (#[.int .i64 a, .int .i64 b, .int .i64 c, .int .i64 d, .int .i64 e, .int .i64 f, .int .i64 g, .int .i64 h] : Array Value).toList [⟨a, b⟩, ⟨c, d⟩, ⟨e, f⟩, ⟨g, h⟩] :=
  (rel_rng (lo := a) (hi := b) (by omega) (by omega)).app ((rel_rng (lo := c) (hi := d) (by omega) (by omega)).app ((rel_rng (lo := e) (hi := f) (by omega) (by omega)).app (rel_rng (lo := g) (hi := h) (by omega) (by omega))))
theorem rng_sets3 {a b c d e f : Int} (h1 : 0 ≤ a ∧ a ≤ 200) (h2 : 0 ≤ b ∧ b ≤ 200) (h3 : 0 ≤ c ∧ c ≤ 200) (h4 : 0 ≤ d ∧ d ≤ 200) (h5 : 0 ≤ e ∧ e ≤ 200) (h6 : 0 ≤ f ∧ f ≤ 200) :
    RelK 2 RRng (#[.int .i64 a, .int .i64 b, .int .i64 c, .int .i64 d, .int .i64 e, .int .i64 f] : Array Value).toList [⟨a, b⟩, ⟨c, d⟩, ⟨e, f⟩] :=
  (rel_rng (lo := a) (hi := b) (by omega) (by omega)).app ((rel_rng (lo := c) (hi := d) (by omega) (by omega)).app (rel_rng (lo := e) (hi := f) (by omega) (by omega)))
end Pv
namespace Go.Proofs.YtilhicefhhgecaaGreatDoor
open Go.RowKit Pv
theorem six_es {R : Nat} {E : PEnv} {w w' : World} {wd : Bool} {r : Bs} {n : Int} (h0 : 0 ≤ n) (h1 : n < 16777216) (ho : Only R w w') (h : match sixB r with
    | none => RdX w' R E
    | some (m, r') => RdD w' R E r' wd ∧ n = (m : Int) ∧ m ≤ 1114111) : EsD R E w wd ((sixB r).map fun p => (one1 p.1, true, p.2)) (.returned (.tuple #[.int .i64 n, .slice none 0 0])) w' := by
  cases hs : sixB r with
  | none => rw [hs] at h; exact EsD.bad h ⟨h0, h1⟩ ho
  | some p =>
    obtain ⟨m, r'⟩ := p
    rw [hs] at h
    obtain ⟨h2, rfl, h3⟩ := h
    exact EsD.one h2 h3 ho

set_option maxHeartbeats 1000000 in
set_option maxRecDepth 100000 in
theorem esd_end (R : Nat) (E : PEnv) (l : Bs) (wd : Bool) (w : World) (h : RdD w R E l wd) (hx : nextP l = none) (hl : lookZ l = -1) :
    Calls Tryz.prog 187 #[.pointer (some ⟨R, 0, none⟩)] w (EsD R E w wd (escB l)) := by
  have HD := Lib.hid h
  have HLK := rd7_look R E l wd w h
  rw [hl] at HLK
  have HLK := Lib.hid HLK
  have he : escB l = none := by unfold escB; rw [take_any, hx]; rfl
  rw [he]
  clear h hx hl he
  go_enter Tryz.func187, Tryz.ntmps187
  go_wp2_with fail
  refine HLK.out.mono ?_
  rintro e w1 ⟨rfl, hb⟩
  have HO := Lib.hid (Only.of (R := R) hb)
  obtain ⟨i, H1, hR, hi, c1, f1, c2, f2, HN, _, HB2⟩ := (HD.out.below hb).cells
  clear hb
  go_wp2
  go_ret2
  exact EsD.bad HB2.out ⟨by omega, by omega⟩ ((HO.out.set 1 _).set 2 _)

set_option maxHeartbeats 1000000 in
set_option maxRecDepth 100000 in
theorem esd_mark (R : Nat) (E : PEnv) (l : Bs) (wd : Bool) (w : World) (h : RdD w R E l wd) (m k : Nat) (hx : nextP l = some (m, k)) (hl : lookZ l = (m : Int)) (hm : m ≤ 1114111) (hk : isMark m = true) :
    Calls Tryz.prog 187 #[.pointer (some ⟨R, 0, none⟩)] w (EsD R E w wd (escB l)) := by
  have HD := Lib.hid h
  have HLK := rd7_look R E l wd w h
  rw [hl] at HLK
  have HLK := Lib.hid HLK
  have HE : Hid (escB l = some (one1 m, true, l.drop k)) := Lib.hid (by rw [escB_c (c := m) (r := l.drop k) (by rw [take_any, hx]; rfl) (fun e => by rw [e] at hk; cases hk), escS_mark hk]; rfl)
  have HMK := Lib.hid (fun W => ref07_mark m W (by omega))
  rw [hk] at HMK
  have HX := Lib.hid hx
  have i0 : 0 ≤ (m : Int) := by omega
  clear h hx hl hk
  go_enter Tryz.func187, Tryz.ntmps187
  go_wp2_with fail
  refine HLK.out.mono ?_
  rintro e w1 ⟨rfl, hb⟩
  have HO := Lib.hid (Only.of (R := R) hb)
  obtain ⟨i, H1, hR, hi, c1, f1, c2, f2, HN, _, HB2⟩ := (HD.out.below hb).cells
  clear hb
  go_wp2_with fail
  refine (HMK.out _).mono ?_
  rintro e w2 ⟨rfl, rfl⟩
  go_wp2
  go_ret2
  rw [HE.out]
  exact EsD.one (HN.out _ _ HX.out) hm (HO.out.set 1 _)

set_option maxHeartbeats 1000000 in
set_option maxRecDepth 100000 in
theorem esd_110 (R : Nat) (E : PEnv) (l : Bs) (wd : Bool) (w : World) (h : RdD w R E l wd) (k : Nat) (hx : nextP l = some (110, k)) (hl : lookZ l = 110) :
    Calls Tryz.prog 187 #[.pointer (some ⟨R, 0, none⟩)] w (EsD R E w wd (escB l)) := by
  have HD := Lib.hid h
  have HLK := rd7_look R E l wd w h
  rw [hl] at HLK
  have HLK := Lib.hid HLK
  have HE : Hid (escB l = some (one1 10, true, l.drop k)) := Lib.hid (by rw [escB_c (c := 110) (by rw [take_any, hx]; rfl) (by omega)]; rfl)
  have HMK := Lib.hid (fun W => ref07_mark 110 W (by omega))
  rw [show isMark 110 = false from by decide] at HMK
  simp only [Int.cast_ofNat_Int] at HMK
  have HX := Lib.hid hx
  clear h hx hl
  go_enter Tryz.func187, Tryz.ntmps187
  go_wp2_with fail
  refine HLK.out.mono ?_
  rintro e w1 ⟨rfl, hb⟩
  have HO := Lib.hid (Only.of (R := R) hb)
  obtain ⟨i, H1, hR, hi, c1, f1, c2, f2, HN, _, HB2⟩ := (HD.out.below hb).cells
  clear hb
  go_wp2_with fail
  refine (HMK.out _).mono ?_
  rintro e w2 ⟨rfl, rfl⟩
  go_wp2
  go_ret2
  rw [HE.out]
  exact EsD.one (n := 10) (HN.out _ _ HX.out) (by omega) (HO.out.set 1 _)

set_option maxHeartbeats 1000000 in
set_option maxRecDepth 100000 in
theorem esd_114 (R : Nat) (E : PEnv) (l : Bs) (wd : Bool) (w : World) (h : RdD w R E l wd) (k : Nat) (hx : nextP l = some (114, k)) (hl : lookZ l = 114) :
    Calls Tryz.prog 187 #[.pointer (some ⟨R, 0, none⟩)] w (EsD R E w wd (escB l)) := by
  have HD := Lib.hid h
  have HLK := rd7_look R E l wd w h
  rw [hl] at HLK
  have HLK := Lib.hid HLK
  have HE : Hid (escB l = some (one1 13, true, l.drop k)) := Lib.hid (by rw [escB_c (c := 114) (by rw [take_any, hx]; rfl) (by omega)]; rfl)
  have HMK := Lib.hid (fun W => ref07_mark 114 W (by omega))
  rw [show isMark 114 = false from by decide] at HMK
  simp only [Int.cast_ofNat_Int] at HMK
  have HX := Lib.hid hx
  clear h hx hl
  go_enter Tryz.func187, Tryz.ntmps187
  go_wp2_with fail
  refine HLK.out.mono ?_
  rintro e w1 ⟨rfl, hb⟩
  have HO := Lib.hid (Only.of (R := R) hb)
  obtain ⟨i, H1, hR, hi, c1, f1, c2, f2, HN, _, HB2⟩ := (HD.out.below hb).cells
  clear hb
  go_wp2_with fail
  refine (HMK.out _).mono ?_
  rintro e w2 ⟨rfl, rfl⟩
  go_wp2
  go_ret2
  rw [HE.out]
  exact EsD.one (n := 13) (HN.out _ _ HX.out) (by omega) (HO.out.set 1 _)

set_option maxHeartbeats 1000000 in
set_option maxRecDepth 100000 in
theorem esd_116 (R : Nat) (E : PEnv) (l : Bs) (wd : Bool) (w : World) (h : RdD w R E l wd) (k : Nat) (hx : nextP l = some (116, k)) (hl : lookZ l = 116) :
    Calls Tryz.prog 187 #[.pointer (some ⟨R, 0, none⟩)] w (EsD R E w wd (escB l)) := by
  have HD := Lib.hid h
  have HLK := rd7_look R E l wd w h
  rw [hl] at HLK
  have HLK := Lib.hid HLK
  have HE : Hid (escB l = some (one1 9, true, l.drop k)) := Lib.hid (by rw [escB_c (c := 116) (by rw [take_any, hx]; rfl) (by omega)]; rfl)
  have HMK := Lib.hid (fun W => ref07_mark 116 W (by omega))
  rw [show isMark 116 = false from by decide] at HMK
  simp only [Int.cast_ofNat_Int] at HMK
  have HX := Lib.hid hx
  clear h hx hl
  go_enter Tryz.func187, Tryz.ntmps187
  go_wp2_with fail
  refine HLK.out.mono ?_
  rintro e w1 ⟨rfl, hb⟩
  have HO := Lib.hid (Only.of (R := R) hb)
  obtain ⟨i, H1, hR, hi, c1, f1, c2, f2, HN, _, HB2⟩ := (HD.out.below hb).cells
  clear hb
  go_wp2_with fail
  refine (HMK.out _).mono ?_
  rintro e w2 ⟨rfl, rfl⟩
  go_wp2
  go_ret2
  rw [HE.out]
  exact EsD.one (n := 9) (HN.out _ _ HX.out) (by omega) (HO.out.set 1 _)

set_option maxHeartbeats 1000000 in
set_option maxRecDepth 100000 in
theorem esd_117 (R : Nat) (E : PEnv) (l : Bs) (wd : Bool) (w : World) (h : RdD w R E l wd) (k : Nat) (hx : nextP l = some (117, k)) (hl : lookZ l = 117) :
    Calls Tryz.prog 187 #[.pointer (some ⟨R, 0, none⟩)] w (EsD R E w wd (escB l)) := by
  have HD := Lib.hid h
  have HLK := rd7_look R E l wd w h
  rw [hl] at HLK
  have HLK := Lib.hid HLK
  have HE : Hid (escB l = (sixB (l.drop k)).map fun p => (one1 p.1, true, p.2)) := Lib.hid (escB_u (by rw [take_any, hx]; rfl))
  have HMK := Lib.hid (fun W => ref07_mark 117 W (by omega))
  rw [show isMark 117 = false from by decide] at HMK
  simp only [Int.cast_ofNat_Int] at HMK
  have HX := Lib.hid hx
  clear h hx hl
  go_enter Tryz.func187, Tryz.ntmps187
  go_wp2_with fail
  refine HLK.out.mono ?_
  rintro e w1 ⟨rfl, hb⟩
  have HO := Lib.hid (Only.of (R := R) hb)
  obtain ⟨i, H1, hR, hi, c1, f1, c2, f2, HN, _, HB2⟩ := (HD.out.below hb).cells
  clear hb
  have HSX := Lib.hid (rd7_six R E _ wd _ (HN.out _ _ HX.out))
  go_wp2_with fail
  refine (HMK.out _).mono ?_
  rintro e w2 ⟨rfl, rfl⟩
  go_wp2_with fail
  refine HSX.out.mono ?_
  rintro e w3 ⟨n, rfl, h0, h1, ho, hm⟩
  have HO2 := Lib.hid ho; have HM := Lib.hid hm
  clear ho hm
  go_wp2
  go_ret2
  rw [HE.out]
  exact six_es h0 h1 ((HO.out.set 1 _).step HO2.out) HM.out

set_option maxHeartbeats 1000000 in
set_option maxRecDepth 100000 in
theorem esd_100 (R : Nat) (E : PEnv) (l : Bs) (wd : Bool) (w : World) (h : RdD w R E l wd) (k : Nat) (hx : nextP l = some (100, k)) (hl : lookZ l = 100) :
    Calls Tryz.prog 187 #[.pointer (some ⟨R, 0, none⟩)] w (EsD R E w wd (escB l)) := by
  have HD := Lib.hid h
  have HLK := rd7_look R E l wd w h
  rw [hl] at HLK
  have HLK := Lib.hid HLK
  have HE : Hid (escB l = some ([⟨48, 57⟩], false, l.drop k)) := Lib.hid (by rw [escB_c (c := 100) (by rw [take_any, hx]; rfl) (by omega)]; rfl)
  have HMK := Lib.hid (fun W => ref07_mark 100 W (by omega))
  rw [show isMark 100 = false from by decide] at HMK
  simp only [Int.cast_ofNat_Int] at HMK
  have HX := Lib.hid hx
  have HSP := Lib.hid (fun W => ref07_span 48 57 W)
  clear h hx hl
  go_enter Tryz.func187, Tryz.ntmps187
  go_wp2_with fail
  refine HLK.out.mono ?_
  rintro e w1 ⟨rfl, hb⟩
  have HO := Lib.hid (Only.of (R := R) hb)
  obtain ⟨i, H1, hR, hi, c1, f1, c2, f2, HN, _, HB2⟩ := (HD.out.below hb).cells
  clear hb
  go_wp2_with fail
  refine (HMK.out _).mono ?_
  rintro e w2 ⟨rfl, rfl⟩
  go_wp2_with fail
  refine (HSP.out _).mono ?_
  rintro e w3 ⟨rfl, rfl⟩
  go_wp2
  go_ret2
  rw [HE.out]
  have HR := Lib.hid (HN.out _ _ HX.out)
  refine EsD.set (n := 1) (HR.out.below ((Below.refl _ _).alloc (Nat.le_refl _) _)) (OwnK.lower (set_litsE (by simp) (cs := #[.int .i64 48, .int .i64 57]) (rel_rng (by omega) (by omega)) rfl rfl (by decide)) ?_) (by omega) ((HO.out.set 1 _).alloc _)
  exact HO.out.size

set_option maxHeartbeats 1000000 in
set_option maxRecDepth 100000 in
theorem esd_119 (R : Nat) (E : PEnv) (l : Bs) (wd : Bool) (w : World) (h : RdD w R E l wd) (k : Nat) (hx : nextP l = some (119, k)) (hl : lookZ l = 119) :
    Calls Tryz.prog 187 #[.pointer (some ⟨R, 0, none⟩)] w (EsD R E w wd (escB l)) := by
  have HD := Lib.hid h
  have HLK := rd7_look R E l wd w h
  rw [hl] at HLK
  have HLK := Lib.hid HLK
  have HE : Hid (escB l = some ([⟨48, 57⟩, ⟨65, 90⟩, ⟨95, 95⟩, ⟨97, 122⟩], false, l.drop k)) := Lib.hid (by rw [escB_c (c := 119) (by rw [take_any, hx]; rfl) (by omega)]; rfl)
  have HMK := Lib.hid (fun W => ref07_mark 119 W (by omega))
  rw [show isMark 119 = false from by decide] at HMK
  simp only [Int.cast_ofNat_Int] at HMK
  have HX := Lib.hid hx
  clear h hx hl
  go_enter Tryz.func187, Tryz.ntmps187
  go_wp2_with fail
  refine HLK.out.mono ?_
  rintro e w1 ⟨rfl, hb⟩
  have HO := Lib.hid (Only.of (R := R) hb)
  obtain ⟨i, H1, hR, hi, c1, f1, c2, f2, HN, _, HB2⟩ := (HD.out.below hb).cells
  clear hb
  go_wp2_with fail
  refine (HMK.out _).mono ?_
  rintro e w2 ⟨rfl, rfl⟩
  go_wp2
  go_ret2
  rw [HE.out]
  have HR := Lib.hid (HN.out _ _ HX.out)
  refine EsD.set (n := 4) (HR.out.below ((Below.refl _ _).alloc (Nat.le_refl _) _)) (OwnK.lower (set_litsE (by simp) (rng_sets4 (a := 48) (b := 57) (c := 65) (d := 90) (e := 95) (f := 95) (g := 97) (h := 122) (by omega) (by omega) (by omega) (by omega) (by omega) (by omega) (by omega) (by omega)) rfl rfl (by decide)) ?_) (by omega) ((HO.out.set 1 _).alloc _)
  exact HO.out.size

set_option maxHeartbeats 1000000 in
set_option maxRecDepth 100000 in
theorem esd_115 (R : Nat) (E : PEnv) (l : Bs) (wd : Bool) (w : World) (h : RdD w R E l wd) (k : Nat) (hx : nextP l = some (115, k)) (hl : lookZ l = 115) :
    Calls Tryz.prog 187 #[.pointer (some ⟨R, 0, none⟩)] w (EsD R E w wd (escB l)) := by
  have HD := Lib.hid h
  have HLK := rd7_look R E l wd w h
  rw [hl] at HLK
  have HLK := Lib.hid HLK
  have HE : Hid (escB l = some ([⟨9, 10⟩, ⟨13, 13⟩, ⟨32, 32⟩], false, l.drop k)) := Lib.hid (by rw [escB_c (c := 115) (by rw [take_any, hx]; rfl) (by omega)]; rfl)
  have HMK := Lib.hid (fun W => ref07_mark 115 W (by omega))
  rw [show isMark 115 = false from by decide] at HMK
  simp only [Int.cast_ofNat_Int] at HMK
  have HX := Lib.hid hx
  clear h hx hl
  go_enter Tryz.func187, Tryz.ntmps187
  go_wp2_with fail
  refine HLK.out.mono ?_
  rintro e w1 ⟨rfl, hb⟩
  have HO := Lib.hid (Only.of (R := R) hb)
  obtain ⟨i, H1, hR, hi, c1, f1, c2, f2, HN, _, HB2⟩ := (HD.out.below hb).cells
  clear hb
  go_wp2_with fail
  refine (HMK.out _).mono ?_
  rintro e w2 ⟨rfl, rfl⟩
  go_wp2
  go_ret2
  rw [HE.out]
  have HR := Lib.hid (HN.out _ _ HX.out)
  refine EsD.set (n := 3) (HR.out.below ((Below.refl _ _).alloc (Nat.le_refl _) _)) (OwnK.lower (set_litsE (by simp) (rng_sets3 (a := 9) (b := 10) (c := 13) (d := 13) (e := 32) (f := 32) (by omega) (by omega) (by omega) (by omega) (by omega) (by omega)) rfl rfl (by decide)) ?_) (by omega) ((HO.out.set 1 _).alloc _)
  exact HO.out.size

set_option maxHeartbeats 1000000 in
set_option maxRecDepth 100000 in
theorem esd_none (R : Nat) (E : PEnv) (l : Bs) (wd : Bool) (w : World) (h : RdD w R E l wd) (m k : Nat) (hx : nextP l = some (m, k)) (hl : lookZ l = (m : Int)) (hm : m ≤ 1114111) (hk : isMark m = false) (h110 : m ≠ 110) (h114 : m ≠ 114) (h116 : m ≠ 116) (h117 : m ≠ 117) (h100 : m ≠ 100) (h119 : m ≠ 119) (h115 : m ≠ 115) :
    Calls Tryz.prog 187 #[.pointer (some ⟨R, 0, none⟩)] w (EsD R E w wd (escB l)) := by
  have HD := Lib.hid h
  have HLK := rd7_look R E l wd w h
  rw [hl] at HLK
  have HLK := Lib.hid HLK
  have HE : Hid (escB l = none) := Lib.hid (by rw [escB_c (c := m) (r := l.drop k) (by rw [take_any, hx]; rfl) h117, escS_else hk h110 h114 h116 h100 h119 h115]; rfl)
  have HMK := Lib.hid (fun W => ref07_mark m W (by omega))
  rw [hk] at HMK
  have e110 : ((m : Int) == 110) = false := by simp; omega
  have e114 : ((m : Int) == 114) = false := by simp; omega
  have e116 : ((m : Int) == 116) = false := by simp; omega
  have e117 : ((m : Int) == 117) = false := by simp; omega
  have e100 : ((m : Int) == 100) = false := by simp; omega
  have e119 : ((m : Int) == 119) = false := by simp; omega
  have e115 : ((m : Int) == 115) = false := by simp; omega
  have i0 : 0 ≤ (m : Int) := by omega
  clear h hx hl hk h110 h114 h116 h117 h100 h119 h115
  go_enter Tryz.func187, Tryz.ntmps187
  go_wp2_with fail
  refine HLK.out.mono ?_
  rintro e w1 ⟨rfl, hb⟩
  have HO := Lib.hid (Only.of (R := R) hb)
  obtain ⟨i, H1, hR, hi, c1, f1, c2, f2, HN, _, HB2⟩ := (HD.out.below hb).cells
  clear hb
  go_wp2_with fail
  refine (HMK.out _).mono ?_
  rintro e w2 ⟨rfl, rfl⟩
  go_wp2
  go_ret2
  rw [HE.out]
  exact EsD.bad HB2.out ⟨by omega, by omega⟩ ((HO.out.set 1 _).set 2 _)
/-- What stands behind a backslash. -/
theorem rd7_escape (R : Nat) (E : PEnv) (l : Bs) (wd : Bool) (w : World) (h : RdD w R E l wd) :
    Calls Tryz.prog 187 #[.pointer (some ⟨R, 0, none⟩)] w (EsD R E w wd (escB l)) := by
  rcases h.next with ⟨_, hx, hl⟩ | ⟨m, k, hx, hl, hm⟩
  · exact esd_end R E l wd w h hx hl
  · cases hk : isMark m with
    | true => exact esd_mark R E l wd w h m k hx hl hm hk
    | false =>
      by_cases h110 : m = 110
      · subst h110
        exact esd_110 R E l wd w h k hx hl
      by_cases h114 : m = 114
      · subst h114
        exact esd_114 R E l wd w h k hx hl
      by_cases h116 : m = 116
      · subst h116
        exact esd_116 R E l wd w h k hx hl
      by_cases h117 : m = 117
      · subst h117
        exact esd_117 R E l wd w h k hx hl
      by_cases h100 : m = 100
      · subst h100
        exact esd_100 R E l wd w h k hx hl
      by_cases h119 : m = 119
      · subst h119
        exact esd_119 R E l wd w h k hx hl
      by_cases h115 : m = 115
      · subst h115
        exact esd_115 R E l wd w h k hx hl
      exact esd_none R E l wd w h m k hx hl hm hk h110 h114 h116 h117 h100 h119 h115

set_option maxHeartbeats 1000000 in
set_option maxRecDepth 100000 in
theorem num_end (R : Nat) (E : PEnv) (l : Bs) (wd : Bool) (w : World) (h : RdD w R E l wd) (hl : lookZ l = -1) (he : itemB l = none) :
    Calls Tryz.prog 207 #[.pointer (some ⟨R, 0, none⟩)] w (EsD R E w wd (itemB l)) := by
  have HD := Lib.hid h
  have HLK := rd7_look R E l wd w h
  rw [hl] at HLK
  have HLK := Lib.hid HLK
  rw [he]
  clear h hl he
  go_enter Tryz.func207, Tryz.ntmps207
  go_wp2_with fail
  refine HLK.out.mono ?_
  rintro e w1 ⟨rfl, hb⟩
  have HO := Lib.hid (Only.of (R := R) hb)
  obtain ⟨i, H1, hR, hi, c1, f1, c2, f2, HN, HB2, _⟩ := (HD.out.below hb).cells
  clear hb
  go_wp2
  go_ret2
  exact EsD.bad HB2.out ⟨by omega, by omega⟩ (HO.out.set 2 _)

set_option maxHeartbeats 1000000 in
set_option maxRecDepth 100000 in
theorem num_93 (R : Nat) (E : PEnv) (l : Bs) (wd : Bool) (w : World) (h : RdD w R E l wd) (hl : lookZ l = 93) (he : itemB l = none) :
    Calls Tryz.prog 207 #[.pointer (some ⟨R, 0, none⟩)] w (EsD R E w wd (itemB l)) := by
  have HD := Lib.hid h
  have HLK := rd7_look R E l wd w h
  rw [hl] at HLK
  have HLK := Lib.hid HLK
  rw [he]
  clear h hl he
  go_enter Tryz.func207, Tryz.ntmps207
  go_wp2_with fail
  refine HLK.out.mono ?_
  rintro e w1 ⟨rfl, hb⟩
  have HO := Lib.hid (Only.of (R := R) hb)
  obtain ⟨i, H1, hR, hi, c1, f1, c2, f2, HN, HB2, _⟩ := (HD.out.below hb).cells
  clear hb
  go_wp2
  go_ret2
  exact EsD.bad HB2.out ⟨by omega, by omega⟩ (HO.out.set 2 _)

set_option maxHeartbeats 1000000 in
set_option maxRecDepth 100000 in
theorem num_45 (R : Nat) (E : PEnv) (l : Bs) (wd : Bool) (w : World) (h : RdD w R E l wd) (hl : lookZ l = 45) (he : itemB l = none) :
    Calls Tryz.prog 207 #[.pointer (some ⟨R, 0, none⟩)] w (EsD R E w wd (itemB l)) := by
  have HD := Lib.hid h
  have HLK := rd7_look R E l wd w h
  rw [hl] at HLK
  have HLK := Lib.hid HLK
  rw [he]
  clear h hl he
  go_enter Tryz.func207, Tryz.ntmps207
  go_wp2_with fail
  refine HLK.out.mono ?_
  rintro e w1 ⟨rfl, hb⟩
  have HO := Lib.hid (Only.of (R := R) hb)
  obtain ⟨i, H1, hR, hi, c1, f1, c2, f2, HN, HB2, _⟩ := (HD.out.below hb).cells
  clear hb
  go_wp2
  go_ret2
  exact EsD.bad HB2.out ⟨by omega, by omega⟩ (HO.out.set 2 _)

set_option maxHeartbeats 1000000 in
set_option maxRecDepth 100000 in
theorem num_94 (R : Nat) (E : PEnv) (l : Bs) (wd : Bool) (w : World) (h : RdD w R E l wd) (hl : lookZ l = 94) (he : itemB l = none) :
    Calls Tryz.prog 207 #[.pointer (some ⟨R, 0, none⟩)] w (EsD R E w wd (itemB l)) := by
  have HD := Lib.hid h
  have HLK := rd7_look R E l wd w h
  rw [hl] at HLK
  have HLK := Lib.hid HLK
  rw [he]
  clear h hl he
  go_enter Tryz.func207, Tryz.ntmps207
  go_wp2_with fail
  refine HLK.out.mono ?_
  rintro e w1 ⟨rfl, hb⟩
  have HO := Lib.hid (Only.of (R := R) hb)
  obtain ⟨i, H1, hR, hi, c1, f1, c2, f2, HN, HB2, _⟩ := (HD.out.below hb).cells
  clear hb
  go_wp2
  go_ret2
  exact EsD.bad HB2.out ⟨by omega, by omega⟩ (HO.out.set 2 _)

set_option maxHeartbeats 1000000 in
set_option maxRecDepth 100000 in
theorem num_91 (R : Nat) (E : PEnv) (l : Bs) (wd : Bool) (w : World) (h : RdD w R E l wd) (hl : lookZ l = 91) (he : itemB l = none) :
    Calls Tryz.prog 207 #[.pointer (some ⟨R, 0, none⟩)] w (EsD R E w wd (itemB l)) := by
  have HD := Lib.hid h
  have HLK := rd7_look R E l wd w h
  rw [hl] at HLK
  have HLK := Lib.hid HLK
  rw [he]
  clear h hl he
  go_enter Tryz.func207, Tryz.ntmps207
  go_wp2_with fail
  refine HLK.out.mono ?_
  rintro e w1 ⟨rfl, hb⟩
  have HO := Lib.hid (Only.of (R := R) hb)
  obtain ⟨i, H1, hR, hi, c1, f1, c2, f2, HN, HB2, _⟩ := (HD.out.below hb).cells
  clear hb
  go_wp2
  go_ret2
  exact EsD.bad HB2.out ⟨by omega, by omega⟩ (HO.out.set 2 _)

set_option maxHeartbeats 1000000 in
set_option maxRecDepth 100000 in
theorem num_92 (R : Nat) (E : PEnv) (l : Bs) (wd : Bool) (w : World) (h : RdD w R E l wd) (r : Bs) (hi : isB 92 l = some r) :
    Calls Tryz.prog 207 #[.pointer (some ⟨R, 0, none⟩)] w (EsD R E w wd (itemB l)) := by
  have HD := Lib.hid h
  have HLK := rd7_look R E l wd w h
  obtain ⟨hl, hx, hr⟩ := look_is (c := 92) (by decide) hi
  rw [hl] at HLK
  have HLK := Lib.hid HLK
  have HE : Hid (itemB l = escB r) := Lib.hid (by unfold itemB; rw [hi])
  have HX := Lib.hid hx
  have HXR := Lib.hid hr
  clear h hi hl hx hr
  go_enter Tryz.func207, Tryz.ntmps207
  go_wp2_with fail
  refine HLK.out.mono ?_
  rintro e w1 ⟨rfl, hb⟩
  have HO := Lib.hid (Only.of (R := R) hb)
  obtain ⟨i, H1, hR, hi, c1, f1, c2, f2, HN, HB2, _⟩ := (HD.out.below hb).cells
  clear hb
  have HES := Lib.hid (rd7_escape R E r wd _ (by have := HN.out _ _ HX.out; rw [← HXR.out] at this; exact this))
  go_wp2_with fail
  refine HES.out.mono ?_
  intro e w2 hp
  have hq := hp.from (HO.out.set 1 _)
  rw [← HE.out] at hq
  obtain ⟨n, A, m, c, he, _⟩ := id hp
  subst he
  have HQ := Lib.hid hq
  clear hp hq
  go_wp2
  go_ret2
  exact HQ.out

set_option maxHeartbeats 1000000 in
set_option maxRecDepth 100000 in
theorem num_one (R : Nat) (E : PEnv) (l : Bs) (wd : Bool) (w : World) (h : RdD w R E l wd) (m k : Nat) (hx : nextP l = some (m, k)) (hl : lookZ l = (m : Int)) (hm : m ≤ 1114111) (he : itemB l = some (one1 m, true, l.drop k)) (h93 : m ≠ 93) (h45 : m ≠ 45) (h94 : m ≠ 94) (h91 : m ≠ 91) (h92 : m ≠ 92) :
    Calls Tryz.prog 207 #[.pointer (some ⟨R, 0, none⟩)] w (EsD R E w wd (itemB l)) := by
  have HD := Lib.hid h
  have HLK := rd7_look R E l wd w h
  rw [hl] at HLK
  have HLK := Lib.hid HLK
  have HE := Lib.hid he
  have e93 : ((m : Int) == 93) = false := by simp; omega
  have e45 : ((m : Int) == 45) = false := by simp; omega
  have e94 : ((m : Int) == 94) = false := by simp; omega
  have e91 : ((m : Int) == 91) = false := by simp; omega
  have e92 : ((m : Int) == 92) = false := by simp; omega
  have i0 : ¬ (m : Int) < 0 := by omega
  have HX := Lib.hid hx
  clear h hx hl he h93 h45 h94 h91 h92
  go_enter Tryz.func207, Tryz.ntmps207
  go_wp2_with fail
  refine HLK.out.mono ?_
  rintro e w1 ⟨rfl, hb⟩
  have HO := Lib.hid (Only.of (R := R) hb)
  obtain ⟨i, H1, hR, hi, c1, f1, c2, f2, HN, HB2, _⟩ := (HD.out.below hb).cells
  clear hb
  go_wp2
  go_ret2
  rw [HE.out]
  exact EsD.one (HN.out _ _ HX.out) hm (HO.out.set 1 _)
/-- One of a class, or a set. -/
theorem rd7_number (R : Nat) (E : PEnv) (l : Bs) (wd : Bool) (w : World) (h : RdD w R E l wd) :
    Calls Tryz.prog 207 #[.pointer (some ⟨R, 0, none⟩)] w (EsD R E w wd (itemB l)) := by
  rcases h.next with ⟨rfl, hx, hl⟩ | ⟨m, k, hx, hl, hm⟩
  · exact num_end R E [] wd w h hl rfl
  · cases hi : isB 92 l with
    | some r => exact num_92 R E l wd w h r hi
    | none =>
      have hit : itemB l = (takeB noneC l).map fun p => (one1 p.1, true, p.2) := by unfold itemB; rw [hi]
      have bad : ∀ c : UInt8, c.toNat < 128 → noneC.contains c = true → m = c.toNat → itemB l = none := by
        intro c hc hcon e
        obtain ⟨rfl, r, rfl⟩ := next_small hx (by omega)
        rw [hit]
        unfold takeB
        rw [hx]
        have : UInt8.ofNat m = c := by rw [e]; simp
        simp [this]
        simpa using hcon
      by_cases h93 : m = 93
      · exact num_93 R E l wd w h (by rw [hl, h93]; rfl) (bad 93 (by decide) (by decide) h93)
      by_cases h45 : m = 45
      · exact num_45 R E l wd w h (by rw [hl, h45]; rfl) (bad 45 (by decide) (by decide) h45)
      by_cases h94 : m = 94
      · exact num_94 R E l wd w h (by rw [hl, h94]; rfl) (bad 94 (by decide) (by decide) h94)
      by_cases h91 : m = 91
      · exact num_91 R E l wd w h (by rw [hl, h91]; rfl) (bad 91 (by decide) (by decide) h91)
      have h92 : m ≠ 92 := fun e => look_isn (c := 92) (by decide) hi (by rw [hl, e]; rfl)
      refine num_one R E l wd w h m k hx hl hm ?_ h93 h45 h94 h91 h92
      rw [hit]
      unfold takeB
      rw [hx]
      have hno : (decide (k = 1) && noneC.contains (l.getD 0 0)) = false := by
        by_cases hk : k = 1
        · by_cases hm2 : m < 128
          · obtain ⟨_, r, rfl⟩ := next_small hx hm2
            simp only [List.getD_cons_zero, hk, decide_true, Bool.true_and]
            cases hcon : noneC.contains (UInt8.ofNat m) with
            | false => rfl
            | true =>
              have key : ∀ n, n < 128 → noneC.contains (UInt8.ofNat n) = true → n = 93 ∨ n = 45 ∨ n = 94 ∨ n = 91 := by decide
              rcases key m hm2 hcon with e | e | e | e
              · exact absurd e h93
              · exact absurd e h45
              · exact absurd e h94
              · exact absurd e h91
          · have := nextP_len hx
            rw [hk] at this
            unfold bytesP at this
            (repeat' split at this) <;> simp at this
            omega
        · simp [hk]
      simp only [hno, Bool.false_eq_true, if_false, Option.map_some]
end Go.Proofs.YtilhicefhhgecaaGreatDoor

namespace Pv
open Go Go.RowKit
def dgB (b : UInt8) : Bool := decide (48 ≤ b.toNat) && decide (b.toNat ≤ 57)
theorem digs_0 : digs [] = [] := rfl
theorem digs_1 (b : UInt8) : digs [b] = if dgB b then [b] else [] := by
  unfold digs dgB
  simp only [List.take_succ_cons, List.take_nil, List.takeWhile]
  cases (decide (48 ≤ b.toNat) && decide (b.toNat ≤ 57)) <;> rfl
theorem digs_2 (b c : UInt8) (r : Bs) : digs (b :: c :: r) = if dgB b then (if dgB c then [b, c] else [b]) else [] := by
  unfold digs dgB
  simp only [List.take_succ_cons, List.take_zero, List.takeWhile]
  cases (decide (48 ≤ b.toNat) && decide (b.toNat ≤ 57)) <;> cases (decide (48 ≤ c.toNat) && decide (c.toNat ≤ 57)) <;> rfl
/-- One digit more, or none. -/
theorem dig_at (l : Bs) (i : Nat) (hi : i < 2) (hd : i ≤ (digs l).length) :
    (i < (digs l).length ∧ ∃ b r, l.drop i = b :: r ∧ dgB b = true ∧ decN ((digs l).take (i + 1)) = 10 * decN ((digs l).take i) + (b.toNat - 48)) ∨ (i = (digs l).length ∧ (l.drop i = [] ∨ ∃ b r, l.drop i = b :: r ∧ dgB b = false)) := by
  rcases (show i = 0 ∨ i = 1 by omega) with rfl | rfl
  · match l with
    | [] => exact .inr ⟨rfl, .inl rfl⟩
    | [b] =>
      rw [digs_1]
      cases hb : dgB b with
      | true => exact .inl ⟨by simp, b, [], rfl, hb, by simp [decN]⟩
      | false => exact .inr ⟨by simp, .inr ⟨b, [], rfl, hb⟩⟩
    | b :: c :: r =>
      rw [digs_2]
      cases hb : dgB b with
      | true =>
        refine .inl ⟨?_, b, c :: r, rfl, hb, ?_⟩
        · cases dgB c <;> simp
        · cases dgB c <;> simp [decN]
      | false => exact .inr ⟨by simp, .inr ⟨b, _, rfl, hb⟩⟩
  · match l with
    | [] => simp [digs_0] at hd
    | [b] =>
      rw [digs_1] at hd ⊢
      cases hb : dgB b with
      | true => exact .inr ⟨by simp, .inl rfl⟩
      | false => rw [hb] at hd; simp at hd
    | b :: c :: r =>
      rw [digs_2] at hd ⊢
      cases hb : dgB b with
      | true =>
        cases hc : dgB c with
        | true => exact .inl ⟨by simp, c, r, rfl, hc, by simp [decN]⟩
        | false => exact .inr ⟨by simp, .inr ⟨c, r, rfl, hc⟩⟩
      | false => rw [hb] at hd; simp at hd
theorem look_dig {l r : Bs} {b : UInt8} (h : l = b :: r) (hb : dgB b = true) : lookZ l = (b.toNat : Int) ∧ nextP l = some (b.toNat, 1) ∧ 48 ≤ b.toNat ∧ b.toNat ≤ 57 := by
  unfold dgB at hb
  simp only [Bool.and_eq_true, decide_eq_true_eq] at hb
  have h1 := nextP_asc (b := b) (r := r) (by omega)
  subst h
  exact ⟨by unfold lookZ; rw [h1], h1, hb.1, hb.2⟩
theorem look_nodig {l : Bs} (h : l = [] ∨ ∃ b r, l = b :: r ∧ dgB b = false) : ¬ (48 ≤ lookZ l ∧ lookZ l ≤ 57) := by
  rcases h with rfl | ⟨b, r, rfl, hb⟩
  · rw [lookZ_nil]; omega
  · intro hh
    unfold lookZ at hh
    cases hx : nextP (b :: r) with
    | none => rw [hx] at hh; simp only at hh; omega
    | some p =>
      obtain ⟨m, k⟩ := p
      rw [hx] at hh
      simp only at hh
      obtain ⟨_, r', hr⟩ := next_small hx (by omega)
      injection hr with e1 e2
      subst e1
      have : (UInt8.ofNat m).toNat = m := by simp; omega
      unfold dgB at hb
      rw [this] at hb
      simp at hb
      omega
/-- The number under way. -/
def cntZ (l : Bs) (i : Nat) : Int := if i = 0 then -1 else (decN ((digs l).take i) : Int)
theorem cntZ_next {l : Bs} {i v : Nat} (h : decN ((digs l).take (i + 1)) = 10 * decN ((digs l).take i) + (v - 48)) (hv : 48 ≤ v) (hi : i < 2) : 10 * max (cntZ l i) 0 + (v : Int) - 48 = cntZ l (i + 1) := by
  unfold cntZ
  rw [if_neg (show ¬ i + 1 = 0 by omega), h]
  split
  · rename_i h0
    subst h0
    simp [decN]
    omega
  · omega
theorem decN_bd (l : Bs) (i : Nat) (hi : i ≤ (digs l).length) : decN ((digs l).take i) ≤ 99 := by
  have key : ∀ i, i ≤ 2 → i ≤ (digs l).length → decN ((digs l).take i) + 1 ≤ 10 ^ i := by
    intro i
    induction i with
    | zero => intro _ _; simp [decN]
    | succ i ih =>
      intro h2 hd
      rcases dig_at l i (by omega) (by omega) with ⟨_, b, r, _, hb, he⟩ | ⟨he, _⟩
      · rw [he]
        unfold dgB at hb
        simp only [Bool.and_eq_true, decide_eq_true_eq] at hb
        have := ih (by omega) (by omega)
        rw [Nat.pow_succ]
        omega
      · omega
  have h2 := digs_len l
  have h3 := key i (by omega) hi
  have h4 : 10 ^ i ≤ 10 ^ 2 := Nat.pow_le_pow_right (by omega) (by omega)
  omega
theorem cntZ_bd (l : Bs) (i : Nat) (hi : i ≤ (digs l).length) : -1 ≤ cntZ l i ∧ cntZ l i ≤ 99 := by
  have := decN_bd l i hi
  unfold cntZ
  split <;> omega
theorem count_no (l : Bs) (h : cntZ l (digs l).length < 0 ∨ 16 < cntZ l (digs l).length) : countB l = none := by
  unfold countB
  rw [if_pos]
  unfold cntZ at h
  cases hd : digs l with
  | nil => simp
  | cons b r =>
    rw [hd] at h
    simp only [List.length_cons, Nat.add_one_ne_zero, if_false] at h
    rw [List.take_of_length_le (by simp)] at h
    simp only [Bool.or_eq_true, decide_eq_true_eq]
    omega
theorem count_ok (l : Bs) (h : ¬ (cntZ l (digs l).length < 0 ∨ 16 < cntZ l (digs l).length)) : ∃ m, countB l = some (m, l.drop (digs l).length) ∧ cntZ l (digs l).length = (m : Int) := by
  unfold countB
  unfold cntZ at h ⊢
  cases hd : digs l with
  | nil => rw [hd] at h; simp at h
  | cons b r =>
    rw [hd] at h
    simp only [List.length_cons, Nat.add_one_ne_zero, if_false] at h ⊢
    rw [List.take_of_length_le (by simp)] at h ⊢
    refine ⟨_, if_neg ?_, rfl⟩
    simp only [List.isEmpty_cons, Bool.false_or, decide_eq_true_eq]
    omega
end Pv
namespace Go.Proofs.YtilhicefhhgecaaGreatDoor
open Go.RowKit Pv
/-- What a number leaves. -/
def CntD (R : Nat) (E : PEnv) (w : World) (wd : Bool) (o : Option (Nat × Bs)) (e : Ending) (w' : World) : Prop := ∃ n : Int, e = .returned (.int .i64 n) ∧ -1 ≤ n ∧ n ≤ 99 ∧ Only R w w' ∧ match o with
  | none => RdX w' R E
  | some (m, r) => RdD w' R E r wd ∧ n = (m : Int)
set_option maxHeartbeats 4000000 in
set_option maxRecDepth 100000 in
theorem rd7_count (R : Nat) (E : PEnv) (l : Bs) (wd : Bool) (w : World) (h : RdD w R E l wd) :
    Calls Tryz.prog 189 #[.pointer (some ⟨R, 0, none⟩)] w (CntD R E w wd (countB l)) := by
  have HD := Lib.hid h
  obtain ⟨k, hk⟩ : ∃ k, (digs l).length = k := ⟨_, rfl⟩
  have hk2 : k ≤ 2 := by have := digs_len l; omega
  have HCS := Lib.hid (And.intro (count_ok l) (count_no l))
  rw [hk] at HCS
  have HAT := Lib.hid (dig_at l)
  rw [hk] at HAT
  have HBD := Lib.hid (cntZ_bd l)
  rw [hk] at HBD
  clear h hk
  go_enter Tryz.func189, Tryz.ntmps189
  go_wp2
  go_loopw [3, 4] (fun nv iv W => ∃ i : Nat, nv = .int .i64 (cntZ l i) ∧ iv = .int .i64 i ∧ i ≤ k ∧ Hid (RdD W R E (l.drop i) wd) ∧ Hid (Only R w W)) (fun _ iv _ => 2 - (intOf iv).toNat)
  case atStart => exact ⟨0, rfl, rfl, by omega, Lib.hid (by rw [List.drop_zero]; exact HD.out), Lib.hid (Only.refl R w)⟩
  case round =>
    clear HD
    obtain ⟨i, rfl, rfl, hi, HD, HO⟩ := hrel
    have hb := HBD.out i hi
    have HLK := Lib.hid (fun W (h : RdD W R E (l.drop i) wd) => rd7_look R E _ wd W h)
    by_cases hgo : i < k
    · rcases HAT.out i (by omega) hi with ⟨_, b, r, hdr, hdg, he⟩ | ⟨he, _⟩
      · obtain ⟨hl, hx, h48, h57⟩ := look_dig hdr hdg
        rw [hl] at HLK
        have hnx := cntZ_next he h48 (by omega)
        obtain ⟨v, hv⟩ : ∃ v : Int, (b.toNat : Int) = v := ⟨_, rfl⟩
        rw [hv] at HLK hnx
        have v1 : 48 ≤ v := by omega
        have v2 : v ≤ 57 := by omega
        have i1 : (i : Int) < 2 := by omega
        have HX := Lib.hid hx
        have HDR := Lib.hid (show l.drop (i + 1) = (l.drop i).drop 1 by rw [List.drop_drop])
        obtain ⟨y, hy⟩ : ∃ y, cntZ l i = y := ⟨_, rfl⟩
        rw [hy] at hb hnx ⊢
        have HNX := Lib.hid hnx
        clear hdr hdg he hl hx hv h48 h57 hy hnx
        have HL1 := Lib.hid (HLK.out _ HD.out)
        go_wp2_with fail
        refine HL1.out.mono ?_
        rintro e w1 ⟨rfl, k1⟩
        have HD1 := Lib.hid (HD.out.below k1); have HO1 := Lib.hid (HO.out.then k1)
        have HL2 := Lib.hid (HLK.out _ HD1.out)
        clear k1
        go_wp2_with fail
        refine HL2.out.mono ?_
        rintro e w2 ⟨rfl, k1⟩
        have HD2 := Lib.hid (HD1.out.below k1); have HO2 := Lib.hid (HO1.out.then k1)
        have HL3 := Lib.hid (HLK.out _ HD2.out)
        clear k1
        go_wp2_with fail
        refine HL3.out.mono ?_
        rintro e w3 ⟨rfl, k1⟩
        have HO3 := Lib.hid (HO2.out.then k1)
        obtain ⟨j, H1, hR, hj, c1, f1, _, _, HN, _, _⟩ := (HD2.out.below k1).cells
        have HRN := Lib.hid (HN.out _ _ HX.out)
        rw [← HDR.out] at HRN
        clear k1
        go_wp2
        go_roundw
        case rel => exact ⟨i + 1, by rw [← HNX.out], by go_num, by omega, HRN, Lib.hid (HO3.out.set 1 _)⟩
        case measure => simp [intOf]; omega
      · omega
    · obtain rfl : i = k := by omega
      have HOK := Lib.hid (fun (h3 : ¬ (cntZ l i < 0 ∨ 16 < cntZ l i)) => HCS.out.1 h3)
      have HNO := Lib.hid (fun (h3 : cntZ l i < 0 ∨ 16 < cntZ l i) => HCS.out.2 h3)
      obtain ⟨y, hy⟩ : ∃ y, cntZ l i = y := ⟨_, rfl⟩
      rw [hy] at hb HOK HNO ⊢
      clear hy
      have hy : y < 0 ∨ 16 < y ∨ 0 ≤ y ∧ y ≤ 16 := by omega
      by_cases h2 : i = 2
      · subst h2
        have HT := HD; have HOT := HO
        obtain ⟨j, H1, hR, hj, _, _, c2, f2, _, HB2, _⟩ := HT.out.cells
        rcases hy with hy | hy | hy
        · go_wp2
          go_ret
          refine ⟨y, rfl, hb.1, hb.2, HOT.out.set 2 _, ?_⟩
          rw [HNO.out (.inl hy)]
          exact HB2.out
        · have hy0 : ¬ y < 0 := by omega
          go_wp2
          go_ret
          refine ⟨y, rfl, hb.1, hb.2, HOT.out.set 2 _, ?_⟩
          rw [HNO.out (.inr hy)]
          exact HB2.out
        · have hy0 : ¬ y < 0 := by omega
          have hy1 : ¬ 16 < y := by omega
          obtain ⟨m, hm1, hm2⟩ := HOK.out (by omega)
          have HM1 := Lib.hid hm1; have HM2 := Lib.hid hm2
          clear hm1 hm2
          go_wp2
          go_ret
          refine ⟨y, rfl, hb.1, hb.2, HOT.out, ?_⟩
          rw [HM1.out]
          exact ⟨HT.out, HM2.out⟩
      · have i1 : (i : Int) < 2 := by omega
        rcases HAT.out i (by omega) hi with ⟨he, _⟩ | ⟨_, hz⟩
        · omega
        · have hno := look_nodig hz
          obtain ⟨z, hz2⟩ : ∃ z, lookZ (l.drop i) = z := ⟨_, rfl⟩
          rw [hz2] at hno HLK
          have HL1 := Lib.hid (HLK.out _ HD.out)
          clear hz hz2
          by_cases h48 : 48 ≤ z
          · have h57 : ¬ z ≤ 57 := by omega
            go_wp2_with fail
            refine HL1.out.mono ?_
            rintro e w1 ⟨rfl, k1⟩
            have HD1 := Lib.hid (HD.out.below k1); have HO1 := Lib.hid (HO.out.then k1)
            have HL2 := Lib.hid (HLK.out _ HD1.out)
            clear k1
            go_wp2_with fail
            refine HL2.out.mono ?_
            rintro e wt ⟨rfl, k1⟩
            have HT := Lib.hid (HD1.out.below k1); have HOT := Lib.hid (HO1.out.then k1)
            clear k1
            obtain ⟨j, H1, hR, hj, _, _, c2, f2, _, HB2, _⟩ := HT.out.cells
            rcases hy with hy | hy | hy
            · go_wp2
              go_ret
              refine ⟨y, rfl, hb.1, hb.2, HOT.out.set 2 _, ?_⟩
              rw [HNO.out (.inl hy)]
              exact HB2.out
            · have hy0 : ¬ y < 0 := by omega
              go_wp2
              go_ret
              refine ⟨y, rfl, hb.1, hb.2, HOT.out.set 2 _, ?_⟩
              rw [HNO.out (.inr hy)]
              exact HB2.out
            · have hy0 : ¬ y < 0 := by omega
              have hy1 : ¬ 16 < y := by omega
              obtain ⟨m, hm1, hm2⟩ := HOK.out (by omega)
              have HM1 := Lib.hid hm1; have HM2 := Lib.hid hm2
              clear hm1 hm2
              go_wp2
              go_ret
              refine ⟨y, rfl, hb.1, hb.2, HOT.out, ?_⟩
              rw [HM1.out]
              exact ⟨HT.out, HM2.out⟩
          · go_wp2_with fail
            refine HL1.out.mono ?_
            rintro e wt ⟨rfl, k1⟩
            have HT := Lib.hid (HD.out.below k1); have HOT := Lib.hid (HO.out.then k1)
            clear k1
            obtain ⟨j, H1, hR, hj, _, _, c2, f2, _, HB2, _⟩ := HT.out.cells
            rcases hy with hy | hy | hy
            · go_wp2
              go_ret
              refine ⟨y, rfl, hb.1, hb.2, HOT.out.set 2 _, ?_⟩
              rw [HNO.out (.inl hy)]
              exact HB2.out
            · have hy0 : ¬ y < 0 := by omega
              go_wp2
              go_ret
              refine ⟨y, rfl, hb.1, hb.2, HOT.out.set 2 _, ?_⟩
              rw [HNO.out (.inr hy)]
              exact HB2.out
            · have hy0 : ¬ y < 0 := by omega
              have hy1 : ¬ 16 < y := by omega
              obtain ⟨m, hm1, hm2⟩ := HOK.out (by omega)
              have HM1 := Lib.hid hm1; have HM2 := Lib.hid hm2
              clear hm1 hm2
              go_wp2
              go_ret
              refine ⟨y, rfl, hb.1, hb.2, HOT.out, ?_⟩
              rw [HM1.out]
              exact ⟨HT.out, HM2.out⟩
end Go.Proofs.YtilhicefhhgecaaGreatDoor

namespace Pv
open Go Go.RowKit
theorem class_is (l : Bs) (wd : Bool) : ∃ neg l0, classB l wd = resC neg wd (clsB (l0.length + 1) l0 []) ∧ (isB 94 l).isSome = neg ∧ (isB 94 l).getD l = l0 ∧ l0.length ≤ l.length := by
  cases h : isB 94 l with
  | none => exact ⟨false, l, class_0 h wd, rfl, rfl, Nat.le_refl _⟩
  | some r => exact ⟨true, r, class_1 h wd, rfl, rfl, by rw [isB_some h]; simp⟩
theorem joinS_nil : joinS [] = [] := rfl
theorem joinS_len (l : List Rng) : (joinS l).length ≤ l.length := join_len l
/-- What a class comes to. -/
def clsS (neg : Bool) (acc : List Rng) : List Rng := if neg then othR (joinS acc) else joinS acc
theorem resC_some (neg wd : Bool) (s : List Rng) (r : Bs) : resC neg wd (some (s, r)) = some ([setX (clsS neg s)], r, wd || decide (256 < (clsS neg s).length)) := by
  unfold resC clsS joinS
  cases neg <;> rfl
end Pv
namespace Go.Proofs.YtilhicefhhgecaaGreatDoor
open Go.RowKit Pv
section
variable {w w' : World} {R b : Nat} {E : PEnv} {l : Bs} {wd : Bool} {v : Value} {t : List Rx} {s acc : List Rng}
theorem RdD.cell3 (h : RdD w R E l wd) : w.cell? ⟨R, 3, none⟩ = some (.bool wd) ∧ w.frozen? ⟨R, 3, none⟩ = false ∧ Hid (∀ b, RdD (w.setCell ⟨R, 3, none⟩ (.bool b)) R E l b) ∧ Hid (RdD (w.setCell ⟨R, 2, none⟩ (.bool false)) R E l wd) := by
  have h' := h
  obtain ⟨h0, i, hb, hi, hp⟩ := h
  exact ⟨hb.cell 3, hb.frozen 3, Lib.hid fun b => ⟨h'.set 3 _, i, hb.set 3 _, hi, hp⟩, Lib.hid ⟨h'.set 2 _, i, hb.set 2 _, hi, hp⟩⟩
theorem own_at {n c : Nat} {A : Option Addr} (h : OwnSet w b (.slice A n c) s) (hn : n ≤ 100000) : AtSet w A s ∧ Hid (s.length = n) ∧ n ≤ c := by
  obtain ⟨A', c', us, hv, ho, hr⟩ := h
  injection hv with e1 e2 e3
  subst e1; subst e3
  rw [← e2] at ho
  obtain ⟨hc, hat⟩ := AtK.of_own ho hr e2 (by omega)
  exact ⟨hat, Lib.hid e2.symm, hc⟩
theorem own_len {n c : Nat} {A : Option Addr} (h : OwnSet w b (.slice A n c) s) : s.length = n := by
  obtain ⟨A', c', us, hv, _, _⟩ := h
  injection hv with e1 e2 e3
  exact e2.symm
theorem union_step {A B : Option Addr} {n c m d b1 b2 : Nat} (h1 : OwnSet w b1 (.slice A n c) (joinS acc)) (h2 : OwnSet w b2 (.slice B m d) s) (ha : RngsOk acc) (hs : RngsOk s) (hn : acc.length ≤ 10000) (hm : s.length ≤ 10000) :
    Calls Tryz.prog 208 #[.slice A n c, .slice B m d] w fun e w' => ∃ A' n' c', e = .returned (.slice A' n' c') ∧ OwnSet w' w.heap.size (.slice A' n' c') (joinS (acc ++ s)) ∧ Below w.heap.size w w' := by
  have e1 := own_len h1
  have e2 := own_len h2
  have e3 := joinS_len acc
  obtain ⟨k1, k2, k3⟩ := own_at h1 (by omega)
  obtain ⟨k4, k5, k6⟩ := own_at h2 (by omega)
  exact ref06_Union A B c d n m acc s w k1 k2 k3 k4 k5 k6 ha hs (by omega) (by omega)
theorem other_step {A : Option Addr} {n c b1 : Nat} (h1 : OwnSet w b1 (.slice A n c) (joinS acc)) (ha : RngsOk acc) (hn : acc.length ≤ 10000) :
    Calls Tryz.prog 209 #[.slice A n c] w fun e w' => ∃ A' n' c', e = .returned (.slice A' n' c') ∧ OwnSet w' w.heap.size (.slice A' n' c') (othR (joinS acc)) ∧ Below w.heap.size w w' := by
  have e1 := own_len h1
  have e3 := joinS_len acc
  obtain ⟨k1, k2, k3⟩ := own_at h1 (by omega)
  exact ref06_Other A c n acc w k1 k2 k3 ha (by omega)
end
theorem span_ownE {w : World} {a b : Int} {g : Nat} (hg : w.heap.size = g) (ha : -9223372036854775808 ≤ a ∧ a ≤ 9223372036854775807) (hb : -9223372036854775808 ≤ b ∧ b ≤ 9223372036854775807) : OwnSet (w.alloc (.cells #[.int .i64 a, .int .i64 b] TRg)) g (.slice (some ⟨g, 0, none⟩) 1 1) [⟨a, b⟩] := by
  subst hg
  exact span_own ha hb
/-- Where the reader of a class stands. -/
def ClsSt (R : Nat) (E : PEnv) (wd : Bool) (L : Nat) (X : Option (List Rng × Bs)) (W : World) (acc : List Rng) : Prop :=
  (∃ cur f', RdD W R E cur wd ∧ cur.length < f' ∧ clsB f' cur acc = X ∧ acc.length + 4 * cur.length ≤ 4 * L) ∨ (RdX W R E ∧ X = none ∧ acc.length ≤ 4 * L)
/-- What a class leaves. -/
def ClsD (R : Nat) (E : PEnv) (w : World) (o : Option PR) (e : Ending) (w' : World) : Prop := ∃ A n c s, e = .returned (.slice A n c) ∧ OwnSet w' w.heap.size (.slice A n c) s ∧ Only R w w' ∧ match o with
  | none => RdX w' R E
  | some (t, r, wd') => t = [setX s] ∧ RdD w' R E r wd'

set_option maxHeartbeats 16000000 in
set_option maxRecDepth 100000 in
theorem rd7_class (R : Nat) (E : PEnv) (l : Bs) (wd : Bool) (w : World) (h : RdD w R E l wd) (hl : l.length ≤ 1000) :
    Calls Tryz.prog 186 #[.pointer (some ⟨R, 0, none⟩)] w (ClsD R E w (classB l wd)) := by
  obtain ⟨neg, l0, hc, hn, hg, hl0⟩ := class_is l wd
  rw [hc]
  have HI := rd7_is R E l wd 94 w (by decide) h
  rw [hn, hg] at HI
  have HI := Lib.hid HI
  obtain ⟨X, hX⟩ : ∃ X, clsB (l0.length + 1) l0 [] = X := ⟨_, rfl⟩
  have HX0 := Lib.hid hX
  rw [hX]
  have hll : l0.length ≤ 1000 := by omega
  simp only [show ((94 : UInt8).toNat : Int) = 94 from rfl] at HI
  clear h hc hn hg hX hl0
  go_enter Tryz.func186, Tryz.ntmps186
  go_wp2_with fail
  refine HI.out.mono ?_
  rintro e w0 ⟨rfl, h1, h2⟩
  have HRD := Lib.hid h1; have HON := Lib.hid h2
  clear h1 h2
  go_wp2
  go_loopw [4] (fun lv W => ∃ (acc : List Rng) (n c : Nat) (A : Option Addr), lv = .slice A n c ∧ Hid (OwnSet W w.heap.size (.slice A n c) (joinS acc)) ∧ Hid (RngsOk acc) ∧ Hid (Only R w W) ∧ Hid (ClsSt R E wd l0.length X W acc)) (fun _ W => dLen E W R)
  case atStart => exact ⟨[], 0, 0, none, rfl, Lib.hid (by rw [joinS_nil]; exact OwnK.nil), Lib.hid (fun x hx => by simp at hx), HON, Lib.hid (.inl ⟨l0, _, HRD.out, Nat.lt_succ_self _, HX0.out, by simp⟩)⟩
  case round =>
    clear HRD HON HX0
    obtain ⟨acc, n, c, A, rfl, HALL, HAOK, HON, HST⟩ := hrel
    rcases HST.out with ⟨cur, f', hrd, hf, hcx, hb⟩ | ⟨hrx, hxn, hb⟩
    · obtain ⟨f2, rfl⟩ : ∃ f2, f' = f2 + 1 := ⟨f' - 1, by omega⟩
      have HRD := Lib.hid hrd; have HCX := Lib.hid hcx
      have hal : acc.length ≤ 10000 := by omega
      obtain ⟨_, _, hR, _, _, _, c2, f2', _⟩ := hrd.cells
      have HLK := rd7_look R E cur wd wr hrd
      clear HST hrd hcx
      cases hi : isB 93 cur with
      | some r' =>
        rw [(look_is (c := 93) (by decide) hi).1] at HLK
        simp only [show ((93 : UInt8).toNat : Int) = 93 from rfl] at HLK
        have HLK := Lib.hid HLK
        have HXE : Hid (X = some (acc, r')) := Lib.hid (by rw [← HCX.out]; exact cls_end hi)
        obtain rfl := HXE.out
        have HII := Lib.hid hi
        clear hi
        go_wp2_with fail
        refine HLK.out.mono ?_
        rintro e w1 ⟨rfl, k1⟩
        have HIS := rd7_is R E cur wd 93 w1 (by decide) (HRD.out.below k1)
        rw [HII.out] at HIS
        simp only [show ((93 : UInt8).toNat : Int) = 93 from rfl, Option.getD_some, Option.isSome_some] at HIS
        have HIS := Lib.hid HIS
        have HO1 := Lib.hid (HON.out.then k1)
        have HA1 := Lib.hid (OwnK.below HALL.out k1)
        have H1IS := Lib.hid (HRD.out.below k1).is
        clear k1
        go_wp2_with fail
        refine HIS.out.mono ?_
        rintro e wt ⟨rfl, k1, k2⟩
        have HRT := Lib.hid k1
        have HOT := Lib.hid (HO1.out.step k2)
        have HALLT := Lib.hid (keepD_set k2 H1IS.out HA1.out)
        clear k1 k2
        have HOTH := Lib.hid (other_step HALLT.out HAOK.out hal)
        cases neg
        · have HS5 := Lib.hid (show OwnSet wt w.heap.size (.slice A n c) (clsS false acc) from HALLT.out)
          have HO5 := HOT
          have HR5 := HRT
          have HL5 := Lib.hid (own_len HS5.out)
          obtain ⟨c3, f3, HW5, _⟩ := HR5.out.cell3
          have hR5 := HR5.out.lt
          have HRES := Lib.hid (resC_some false wd acc r')
          rw [HL5.out] at HRES
          by_cases hbig : 256 < n
          · have hb1 : (256 : Int) < (n : Int) := by omega
            rw [decide_eq_true hbig, Bool.or_true] at HRES
            cases wd
            all_goals
              go_wp2
              go_ret
              rw [HRES.out]
              exact ⟨_, _, _, _, rfl, keepD_set ((Only.refl R _).set 3 _) HR5.out.is HS5.out, HO5.out.set 3 _, rfl, HW5.out true⟩
          · have hb1 : ¬ (256 : Int) < (n : Int) := by omega
            rw [decide_eq_false hbig, Bool.or_false] at HRES
            have hb2 : (n : Int) ≤ 256 := by omega
            have hb3 : decide ((256 : Int) < (n : Int)) = false := decide_eq_false hb1
            cases wd
            all_goals
              go_wp2
              go_ret
              rw [HRES.out]
              exact ⟨_, _, _, _, rfl, keepD_set ((Only.refl R _).set 3 _) HR5.out.is HS5.out, HO5.out.set 3 _, rfl, HW5.out _⟩
        · go_wp2_with fail
          refine HOTH.out.mono ?_
          rintro e w5 ⟨A5, n5, c5, rfl, k1, k2⟩
          have HS5 := Lib.hid (show OwnSet w5 w.heap.size (.slice A5 n5 c5) (clsS true acc) from OwnK.lower k1 HOT.out.size)
          have HO5 := Lib.hid (HOT.out.thenB (k2.mono HOT.out.size))
          have HR5 := Lib.hid (HRT.out.below k2)
          clear k1 k2
          have HL5 := Lib.hid (own_len HS5.out)
          obtain ⟨c3, f3, HW5, _⟩ := HR5.out.cell3
          have hR5 := HR5.out.lt
          have HRES := Lib.hid (resC_some true wd acc r')
          rw [HL5.out] at HRES
          by_cases hbig : 256 < n5
          · have hb1 : (256 : Int) < (n5 : Int) := by omega
            rw [decide_eq_true hbig, Bool.or_true] at HRES
            cases wd
            all_goals
              go_wp2
              go_ret
              rw [HRES.out]
              exact ⟨_, _, _, _, rfl, keepD_set ((Only.refl R _).set 3 _) HR5.out.is HS5.out, HO5.out.set 3 _, rfl, HW5.out true⟩
          · have hb1 : ¬ (256 : Int) < (n5 : Int) := by omega
            rw [decide_eq_false hbig, Bool.or_false] at HRES
            have hb2 : (n5 : Int) ≤ 256 := by omega
            have hb3 : decide ((256 : Int) < (n5 : Int)) = false := decide_eq_false hb1
            cases wd
            all_goals
              go_wp2
              go_ret
              rw [HRES.out]
              exact ⟨_, _, _, _, rfl, keepD_set ((Only.refl R _).set 3 _) HR5.out.is HS5.out, HO5.out.set 3 _, rfl, HW5.out _⟩
      | none =>
        have hlk := look_isn (c := 93) (by decide) hi
        simp only [show ((93 : UInt8).toNat : Int) = 93 from rfl] at hlk
        obtain ⟨z, hz⟩ : ∃ z, lookZ cur = z := ⟨_, rfl⟩
        rw [hz] at HLK hlk
        have hne : (z != 93) = true := by simpa using hlk
        have HLK := Lib.hid HLK
        have HII := Lib.hid hi
        clear hi hz hlk
        go_wp2_with fail
        refine HLK.out.mono ?_
        rintro e w1 ⟨rfl, k1⟩
        have HR1 := Lib.hid (HRD.out.below k1)
        have HNM := Lib.hid (rd7_number R E cur wd w1 HR1.out)
        have HO1 := Lib.hid (HON.out.then k1)
        have HA1 := Lib.hid (OwnK.below HALL.out k1)
        clear k1
        go_wp2_with fail
        refine HNM.out.mono ?_
        rintro e w2 ⟨z1, B2, m2, d2, rfl, k1, k2⟩
        have HO2 := Lib.hid (HO1.out.step k1)
        have HA2 := Lib.hid (keepD_set k1 HR1.out.is HA1.out)
        clear k1
        cases hit : itemB cur with
        | none =>
          rw [hit] at k2
          obtain ⟨k3, rfl, z0, z1'⟩ := k2
          have HXN : Hid (X = none) := Lib.hid (by rw [← HCX.out]; exact cls_no HII.out hit)
          have HR2 := Lib.hid k3
          have HIX := Lib.hid (rd7_isX R E 45 w2 (by omega) k3)
          have HSP := Lib.hid (fun W => ref07_span z1 z1 W)
          clear k3 hit
          go_wp2_with fail
          refine HIX.out.mono ?_
          rintro e w3 ⟨rfl, k3, k4⟩
          have HR3 := Lib.hid k3; have HO3 := Lib.hid (HO2.out.then k4); have HA3 := Lib.hid (OwnK.below HA2.out k4)
          clear k3 k4
          go_wp2_with fail
          refine (HSP.out _).mono ?_
          rintro e wt ⟨rfl, he⟩
          have hbl : Below w3.heap.size w3 wt := by rw [he]; exact (Below.refl _ _).alloc (Nat.le_refl _) _
          have HXT := Lib.hid (HR3.out.below hbl); have HOT := Lib.hid (HO3.out.then hbl); have HALLT := Lib.hid (OwnK.below HA3.out hbl)
          clear hbl he
          obtain ⟨_, _, _, hRT, c2T, f2T, _⟩ := HXT.out.cells
          go_wp2
          go_roundw
          case rel => exact ⟨acc, n, c, A, rfl, HALLT, HAOK, HOT, Lib.hid (.inr ⟨HXT.out, HXN.out, by omega⟩)⟩
          case measure =>
            show dLen E _ R < dLen E _ R
            rw [HXT.out.len, HRD.out.len]
            omega
        | some p =>
          obtain ⟨s, q, r⟩ := p
          rw [hit] at k2
          have hd := itemB_d hit
          have hsf := hd.few
          have hdl := hd.len
          have HSOK := Lib.hid hd.ok
          clear hd
          cases q with
          | false =>
            obtain ⟨k3, hm2, rfl, k4⟩ := k2
            have HNX : Hid (clsB f2 r (acc ++ s) = X) := Lib.hid (by rw [← HCX.out]; exact (cls_set HII.out hit).symm)
            have hml := own_len k4
            have hm0 : ¬ (m2 : Int) = 0 := by omega
            have hm1 : ((m2 : Int) == 0) = false := by simp; omega
            obtain ⟨wt, rfl⟩ : ∃ wt, wt = w2 := ⟨_, rfl⟩
            have HRT := Lib.hid k3; have HST := Lib.hid k4; have HOT := HO2; have HALLT := HA2
            clear k3 k4 hit
            have HU := Lib.hid (union_step HALLT.out HST.out HAOK.out HSOK.out hal (by omega))
            obtain ⟨_, _, hRT, _, _, _, c2T, f2T, _⟩ := HRT.out.cells
            go_wp2_with fail
            refine HU.out.mono ?_
            rintro e w6 ⟨A6, n6, c6, rfl, k1, k2⟩
            have HA6 := Lib.hid (OwnK.lower k1 HOT.out.size)
            have HO6 := Lib.hid (HOT.out.thenB (k2.mono HOT.out.size))
            have HR6 := Lib.hid (HRT.out.below k2)
            clear k1 k2
            go_wp2
            go_roundw
            case rel => exact ⟨_, n6, c6, A6, rfl, HA6, Lib.hid (HAOK.out.app HSOK.out), HO6, Lib.hid (.inl ⟨_, f2, HR6.out, by omega, HNX.out, by rw [List.length_append]; omega⟩)⟩
            case measure =>
              show dLen E _ R < dLen E _ R
              rw [HR6.out.len, HRD.out.len]
              omega
          | true =>
            obtain ⟨k3, rfl, z0, z1', rfl⟩ := k2
            have HR2 := Lib.hid k3
            have HI2 := rd7_is R E r wd 45 w2 (by decide) k3
            simp only [show ((45 : UInt8).toNat : Int) = 45 from rfl] at HI2
            clear k3
            cases hi2 : isB 45 r with
            | none =>
              rw [hi2] at HI2
              simp only [Option.isSome_none, Option.getD_none] at HI2
              have HI2 := Lib.hid HI2
              have HNX : Hid (clsB f2 r (acc ++ [⟨z1, z1⟩]) = X) := Lib.hid (by rw [← HCX.out]; exact (cls_one HII.out hit hi2).symm)
              have HSP := Lib.hid (fun W => ref07_span z1 z1 W)
              clear hi2 hit
              go_wp2_with fail
              refine HI2.out.mono ?_
              rintro e w3 ⟨rfl, k3, k4⟩
              have HR3 := Lib.hid k3; have HO3 := Lib.hid (HO2.out.step k4); have HA3 := Lib.hid (keepD_set k4 HR2.out.is HA2.out)
              clear k3 k4
              go_wp2_with fail
              refine (HSP.out _).mono ?_
              rintro e wt ⟨rfl, he⟩
              have hbl : Below w3.heap.size w3 wt := by rw [he]; exact (Below.refl _ _).alloc (Nat.le_refl _) _
              have HST : Hid (OwnSet wt w3.heap.size (.slice (some ⟨w3.heap.size, 0, none⟩) 1 1) [⟨z1, z1⟩]) := Lib.hid (by rw [he]; exact span_own (by omega) (by omega))
              have HRT := Lib.hid (HR3.out.below hbl); have HOT := Lib.hid (HO3.out.then hbl); have HALLT := Lib.hid (OwnK.below HA3.out hbl)
              clear hbl he
              have hml := own_len HST.out
              have HU := Lib.hid (union_step HALLT.out HST.out HAOK.out HSOK.out hal (by omega))
              obtain ⟨_, _, hRT, _, _, _, c2T, f2T, _⟩ := HRT.out.cells
              go_wp2_with fail
              refine HU.out.mono ?_
              rintro e w6 ⟨A6, n6, c6, rfl, k1, k2⟩
              have HA6 := Lib.hid (OwnK.lower k1 HOT.out.size)
              have HO6 := Lib.hid (HOT.out.thenB (k2.mono HOT.out.size))
              have HR6 := Lib.hid (HRT.out.below k2)
              clear k1 k2
              go_wp2
              go_roundw
              case rel => exact ⟨_, n6, c6, A6, rfl, HA6, Lib.hid (HAOK.out.app HSOK.out), HO6, Lib.hid (.inl ⟨_, f2, HR6.out, by omega, HNX.out, by rw [List.length_append]; omega⟩)⟩
              case measure =>
                show dLen E _ R < dLen E _ R
                rw [HR6.out.len, HRD.out.len]
                omega
            | some r2 =>
              rw [hi2] at HI2
              simp only [Option.isSome_some, Option.getD_some] at HI2
              have HI2 := Lib.hid HI2
              have hr2 : r2.length + 1 = r.length := by rw [isB_some hi2]; rfl
              have HN2 := Lib.hid (fun W (h : RdD W R E r2 wd) => rd7_number R E r2 wd W h)
              go_wp2_with fail
              refine HI2.out.mono ?_
              rintro e w3 ⟨rfl, k3, k4⟩
              have HR3 := Lib.hid k3; have HO3 := Lib.hid (HO2.out.step k4); have HA3 := Lib.hid (keepD_set k4 HR2.out.is HA2.out)
              clear k3 k4
              have HN3 := Lib.hid (HN2.out w3 HR3.out)
              go_wp2_with fail
              refine HN3.out.mono ?_
              rintro e w4 ⟨z2, B4, m4, d4, rfl, k1, k2⟩
              have HO4 := Lib.hid (HO3.out.step k1)
              have HA4 := Lib.hid (keepD_set k1 HR3.out.is HA3.out)
              have HSP := Lib.hid (fun W => ref07_span z1 z2 W)
              clear k1
              cases hit2 : itemB r2 with
              | none =>
                rw [hit2] at k2
                obtain ⟨k3, rfl, y0, y1⟩ := k2
                have HXN : Hid (X = none) := Lib.hid (by rw [← HCX.out]; exact cls_no2 HII.out hit hi2 hit2)
                obtain ⟨_, _, HR4, hR4, c4, f4, _, _, HX4, _⟩ := k3.cells
                clear k3 hit2 hit hi2
                go_wp2_with fail
                refine (HSP.out _).mono ?_
                rintro e wt ⟨rfl, he⟩
                have HXT := Lib.hid (show RdX wt R E by rw [he]; exact HX4.out.below ((Below.refl _ _).alloc (Nat.le_refl _) _))
                have HOT := Lib.hid (show Only R w wt by rw [he]; exact (HO4.out.set 2 _).alloc _)
                have HALLT := Lib.hid (show OwnSet wt w.heap.size (.slice A n c) (joinS acc) by
                  rw [he]; exact OwnK.below (keepD_set ((Only.refl R _).set 2 _) HR4.out.is HA4.out) ((Below.refl _ _).alloc (Nat.le_refl _) _))
                clear he
                obtain ⟨_, _, _, hRT, c2T, f2T, _⟩ := HXT.out.cells
                go_wp2
                go_roundw
                case rel => exact ⟨acc, n, c, A, rfl, HALLT, HAOK, HOT, Lib.hid (.inr ⟨HXT.out, HXN.out, by omega⟩)⟩
                case measure =>
                  show dLen E _ R < dLen E _ R
                  rw [HXT.out.len, HRD.out.len]
                  omega
              | some p2 =>
                obtain ⟨s2, q2, r3⟩ := p2
                rw [hit2] at k2
                have hd2 := (itemB_d hit2).len
                cases q2 with
                | false =>
                  obtain ⟨k3, hm4, rfl, k4⟩ := k2
                  have HXN : Hid (X = none) := Lib.hid (by rw [← HCX.out]; exact cls_no3 HII.out hit hi2 hit2 rfl)
                  obtain ⟨_, HR4, hR4, _, _, _, c4, f4, _, HX4, _⟩ := k3.cells
                  have hm0 : (0 : Int) < (m4 : Int) := by omega
                  clear k3 k4 hit2 hit hi2
                  go_wp2_with fail
                  refine (HSP.out _).mono ?_
                  rintro e wt ⟨rfl, he⟩
                  have HXT := Lib.hid (show RdX wt R E by rw [he]; exact HX4.out.below ((Below.refl _ _).alloc (Nat.le_refl _) _))
                  have HOT := Lib.hid (show Only R w wt by rw [he]; exact (HO4.out.set 2 _).alloc _)
                  have HALLT := Lib.hid (show OwnSet wt w.heap.size (.slice A n c) (joinS acc) by
                    rw [he]; exact OwnK.below (keepD_set ((Only.refl R _).set 2 _) HR4.out.is HA4.out) ((Below.refl _ _).alloc (Nat.le_refl _) _))
                  clear he
                  obtain ⟨_, _, _, hRT, c2T, f2T, _⟩ := HXT.out.cells
                  go_wp2
                  go_roundw
                  case rel => exact ⟨acc, n, c, A, rfl, HALLT, HAOK, HOT, Lib.hid (.inr ⟨HXT.out, HXN.out, by omega⟩)⟩
                  case measure =>
                    show dLen E _ R < dLen E _ R
                    rw [HXT.out.len, HRD.out.len]
                    omega
                | true =>
                  obtain ⟨k3, rfl, y0, y1, rfl⟩ := k2
                  obtain ⟨_, HR4, hR4, _, _, _, c4, f4, _, HX4, _⟩ := k3.cells
                  have HF4 := k3.cell3.2.2.2
                  clear k3
                  by_cases hlt : z2 < z1
                  · have HXN : Hid (X = none) := Lib.hid (by rw [← HCX.out]; exact cls_no3 HII.out hit hi2 hit2 (by simpa using hlt))
                    clear hit2 hit hi2
                    go_wp2_with fail
                    refine (HSP.out _).mono ?_
                    rintro e wt ⟨rfl, he⟩
                    have HXT := Lib.hid (show RdX wt R E by rw [he]; exact HX4.out.below ((Below.refl _ _).alloc (Nat.le_refl _) _))
                    have HOT := Lib.hid (show Only R w wt by rw [he]; exact (HO4.out.set 2 _).alloc _)
                    have HALLT := Lib.hid (show OwnSet wt w.heap.size (.slice A n c) (joinS acc) by
                      rw [he]; exact OwnK.below (keepD_set ((Only.refl R _).set 2 _) HR4.out.is HA4.out) ((Below.refl _ _).alloc (Nat.le_refl _) _))
                    clear he
                    obtain ⟨_, _, _, hRT, c2T, f2T, _⟩ := HXT.out.cells
                    go_wp2
                    go_roundw
                    case rel => exact ⟨acc, n, c, A, rfl, HALLT, HAOK, HOT, Lib.hid (.inr ⟨HXT.out, HXN.out, by omega⟩)⟩
                    case measure =>
                      show dLen E _ R < dLen E _ R
                      rw [HXT.out.len, HRD.out.len]
                      omega
                  · have hlt3 : decide (z2 < z1) = false := decide_eq_false hlt
                    have HNX : Hid (clsB f2 r3 (acc ++ [⟨z1, z2⟩]) = X) := Lib.hid (by rw [← HCX.out]; exact (cls_two HII.out hit hi2 hit2 hlt).symm)
                    clear hit2 hit hi2
                    go_wp2_with fail
                    refine (HSP.out _).mono ?_
                    rintro e wt ⟨rfl, he⟩
                    have HRT := Lib.hid (show RdD wt R E r3 wd by rw [he]; exact HF4.out.below ((Below.refl _ _).alloc (Nat.le_refl _) _))
                    have HOT := Lib.hid (show Only R w wt by rw [he]; exact (HO4.out.set 2 _).alloc _)
                    have HALLT := Lib.hid (show OwnSet wt w.heap.size (.slice A n c) (joinS acc) by
                      rw [he]; exact OwnK.below (keepD_set ((Only.refl R _).set 2 _) HR4.out.is HA4.out) ((Below.refl _ _).alloc (Nat.le_refl _) _))
                    have HST := Lib.hid (show OwnSet wt w4.heap.size (.slice (some ⟨w4.heap.size, 0, none⟩) 1 1) [⟨z1, z2⟩] by
                      rw [he]; exact span_ownE (by simp) (by omega) (by omega))
                    have HSOK : Hid (RngsOk [⟨z1, z2⟩]) := Lib.hid (fun x hx => by obtain rfl := List.mem_singleton.1 hx; simp only; omega)
                    clear he
                    have hml := own_len HST.out
                    have HU := Lib.hid (union_step HALLT.out HST.out HAOK.out HSOK.out hal (by omega))
                    obtain ⟨_, _, hRT, _, _, _, c2T, f2T, _⟩ := HRT.out.cells
                    go_wp2_with fail
                    refine HU.out.mono ?_
                    rintro e w6 ⟨A6, n6, c6, rfl, k1, k2⟩
                    have HA6 := Lib.hid (OwnK.lower k1 HOT.out.size)
                    have HO6 := Lib.hid (HOT.out.thenB (k2.mono HOT.out.size))
                    have HR6 := Lib.hid (HRT.out.below k2)
                    clear k1 k2
                    go_wp2
                    go_roundw
                    case rel => exact ⟨_, n6, c6, A6, rfl, HA6, Lib.hid (HAOK.out.app HSOK.out), HO6, Lib.hid (.inl ⟨_, f2, HR6.out, by omega, HNX.out, by rw [List.length_append]; omega⟩)⟩
                    case measure =>
                      show dLen E _ R < dLen E _ R
                      rw [HR6.out.len, HRD.out.len]
                      omega
    · have HR0 := Lib.hid hrx
      obtain rfl := hxn
      have hal : acc.length ≤ 10000 := by omega
      obtain ⟨_, _, _, hR, c2, f2', _⟩ := hrx.cells
      have HIX := Lib.hid (rd7_isX R E 93 wr (by omega) hrx)
      clear HST hrx
      go_wp2_with fail
      refine HIX.out.mono ?_
      rintro e wt ⟨rfl, k1, k2⟩
      have HRT := Lib.hid k1; have HOT := Lib.hid (HON.out.then k2); have HALLT := Lib.hid (OwnK.below HALL.out k2)
      clear k1 k2
      have HOTH := Lib.hid (other_step HALLT.out HAOK.out hal)
      cases neg
      · have HS5 := Lib.hid (show OwnSet wt w.heap.size (.slice A n c) (clsS false acc) from HALLT.out)
        have HO5 := HOT
        have HR5 := HRT
        have HL5 := Lib.hid (own_len HS5.out)
        obtain ⟨i5, wd5, _, hR5, _, _, c3, f3, _, HW5⟩ := HR5.out.cells
        by_cases hbig : 256 < n
        · have hb1 : (256 : Int) < (n : Int) := by omega
          cases wd5
          all_goals
            go_wp2
            go_ret
            exact ⟨_, _, _, _, rfl, keepD_set ((Only.refl R _).set 3 _) HR5.out.is HS5.out, HO5.out.set 3 _, HW5.out _⟩
        · have hb1 : ¬ (256 : Int) < (n : Int) := by omega
          cases wd5
          all_goals
            go_wp2
            go_ret
            exact ⟨_, _, _, _, rfl, keepD_set ((Only.refl R _).set 3 _) HR5.out.is HS5.out, HO5.out.set 3 _, HW5.out _⟩
      · go_wp2_with fail
        refine HOTH.out.mono ?_
        rintro e w5 ⟨A5, n5, c5, rfl, k1, k2⟩
        have HS5 := Lib.hid (show OwnSet w5 w.heap.size (.slice A5 n5 c5) (clsS true acc) from OwnK.lower k1 HOT.out.size)
        have HO5 := Lib.hid (HOT.out.thenB (k2.mono HOT.out.size))
        have HR5 := Lib.hid (HRT.out.below k2)
        clear k1 k2
        have HL5 := Lib.hid (own_len HS5.out)
        obtain ⟨i5, wd5, _, hR5, _, _, c3, f3, _, HW5⟩ := HR5.out.cells
        by_cases hbig : 256 < n5
        · have hb1 : (256 : Int) < (n5 : Int) := by omega
          cases wd5
          all_goals
            go_wp2
            go_ret
            exact ⟨_, _, _, _, rfl, keepD_set ((Only.refl R _).set 3 _) HR5.out.is HS5.out, HO5.out.set 3 _, HW5.out _⟩
        · have hb1 : ¬ (256 : Int) < (n5 : Int) := by omega
          cases wd5
          all_goals
            go_wp2
            go_ret
            exact ⟨_, _, _, _, rfl, keepD_set ((Only.refl R _).set 3 _) HR5.out.is HS5.out, HO5.out.set 3 _, HW5.out _⟩
end Go.Proofs.YtilhicefhhgecaaGreatDoor

namespace Go.Proofs.YtilhicefhhgecaaGreatDoor
open Go.RowKit Pv
section
variable {w W W' : World} {R X Y : Nat} {E : PEnv} {l : Bs} {wd : Bool} {o : Option (Bs × Bool)} {a b : Int}
theorem RdE.far {cs : Array Value} (h : RdE W R E o) (hb : Blk W X TNx cs) (hne : X ≠ R) (j : Nat) (u : Value) : RdE (W.setCell ⟨X, j, none⟩ u) R E o := by
  match o, h with
  | some (l, wd), ⟨h0, i, hk, hi, hp⟩ => exact ⟨⟨ownsRow_setFar h0.own hb (by decide) j u, h0.few, h0.bd⟩, i, hk.far (fun e => hne e.symm) _, hi, hp⟩
  | none, ⟨h0, i, wd, hk, hi⟩ => exact ⟨⟨ownsRow_setFar h0.own hb (by decide) j u, h0.few, h0.bd⟩, i, wd, hk.far (fun e => hne e.symm) _, hi⟩
theorem RdE.below (h : RdE W R E o) (k : Below W.heap.size W W') : RdE W' R E o := by
  match o, h with
  | some (l, wd), h => exact RdD.below h k
  | none, h => exact RdX.below h k
/-- A repeat under way: the node in its box, the result's box. -/
structure RepIn (w W : World) (R X Y : Nat) (E : PEnv) (o : Option (Bs × Bool)) (a b : Int) : Prop where
  rd : RdE W R E o
  on : Only R w W
  box : Blk W X TNx #[.int .u8 4, .slice none 0 0, .int .i64 1, .int .i64 a, .int .i64 b]
  res : Blk W Y TNx #[.int .u8 0, .slice none 0 0, .int .i64 0, .int .i64 0, .int .i64 0]
  nx : X ≠ R
  ny : Y ≠ R
  xy : Y ≠ X
  lo : w.heap.size ≤ X
  loy : w.heap.size ≤ Y
theorem RepIn.start (h : RdE w R E o) (hR : R < w.heap.size) : RepIn w ((w.alloc (.cells #[.int .u8 0, .slice none 0 0, .int .i64 0, .int .i64 0, .int .i64 0] TNx)).alloc (.cells #[.int .u8 4, .slice none 0 0, .int .i64 1, .int .i64 0, .int .i64 (-1)] TNx)) R (w.heap.size + 1) w.heap.size E o 0 (-1) :=
  ⟨(h.below ((Below.refl _ _).alloc (Nat.le_refl _) _)).below ((Below.refl _ _).alloc (Nat.le_refl _) _), ((Only.refl R w).alloc _).alloc _, blk_new2 w _ _ _ _, (Blk.new w _ _).alloc _, by omega, by omega, by omega, by omega, by omega⟩
theorem RepIn.only {o' : Option (Bs × Bool)} (h : RepIn w W R X Y E o a b) (k : Only R W W') (hr : RdE W' R E o') : RepIn w W' R X Y E o' a b :=
  ⟨hr, h.on.step k, k.blk h.box h.nx, k.blk h.res h.ny, h.nx, h.ny, h.xy, h.lo, h.loy⟩
theorem RepIn.least (h : RepIn w W R X Y E o a b) (x : Int) : RepIn w (W.setCell ⟨X, 3, none⟩ (.int .i64 x)) R X Y E o x b :=
  ⟨h.rd.far h.box h.nx _ _, h.on.setNew h.lo _ _, h.box.set 3 _, h.res.far h.xy _, h.nx, h.ny, h.xy, h.lo, h.loy⟩
theorem RepIn.most (h : RepIn w W R X Y E o a b) (x : Int) : RepIn w (W.setCell ⟨X, 4, none⟩ (.int .i64 x)) R X Y E o a x :=
  ⟨h.rd.far h.box h.nx _ _, h.on.setNew h.lo _ _, h.box.set 4 _, h.res.far h.xy _, h.nx, h.ny, h.xy, h.lo, h.loy⟩
theorem RepIn.cells (h : RepIn w W R X Y E o a b) : W.cell? ⟨X, 0, none⟩ = some (.int .u8 4) ∧ W.cell? ⟨X, 1, none⟩ = some (.slice none 0 0) ∧ W.cell? ⟨X, 2, none⟩ = some (.int .i64 1) ∧ W.cell? ⟨X, 3, none⟩ = some (.int .i64 a) ∧ W.cell? ⟨X, 4, none⟩ = some (.int .i64 b) ∧ W.frozen? ⟨X, 3, none⟩ = false ∧ W.frozen? ⟨X, 4, none⟩ = false ∧ X < W.heap.size ∧ Y < W.heap.size :=
  ⟨h.box.cell 0, h.box.cell 1, h.box.cell 2, h.box.cell 3, h.box.cell 4, h.box.frozen 3, h.box.frozen 4, h.box.lt, h.res.lt⟩
theorem RepIn.ycells (h : RepIn w W R X Y E o a b) : W.cell? ⟨Y, 0, none⟩ = some (.int .u8 0) ∧ W.cell? ⟨Y, 1, none⟩ = some (.slice none 0 0) ∧ W.cell? ⟨Y, 2, none⟩ = some (.int .i64 0) ∧ W.cell? ⟨Y, 3, none⟩ = some (.int .i64 0) ∧ W.cell? ⟨Y, 4, none⟩ = some (.int .i64 0) ∧ W.frozen? ⟨Y, 0, none⟩ = false ∧ W.frozen? ⟨Y, 1, none⟩ = false ∧ W.frozen? ⟨Y, 2, none⟩ = false ∧ W.frozen? ⟨Y, 3, none⟩ = false ∧ W.frozen? ⟨Y, 4, none⟩ = false :=
  ⟨h.res.cell 0, h.res.cell 1, h.res.cell 2, h.res.cell 3, h.res.cell 4, h.res.frozen 0, h.res.frozen 1, h.res.frozen 2, h.res.frozen 3, h.res.frozen 4⟩
theorem RepIn.rcells (h : RepIn w W R X Y E (some (l, wd)) a b) : R < W.heap.size ∧ W.cell? ⟨R, 2, none⟩ = some (.bool false) ∧ W.frozen? ⟨R, 2, none⟩ = false := by
  obtain ⟨_, _, h1, _, _, _, h2, h3, _⟩ := RdD.cells h.rd
  exact ⟨h1, h2, h3⟩
theorem RepIn.xcells (h : RepIn w W R X Y E none a b) : R < W.heap.size ∧ W.cell? ⟨R, 2, none⟩ = some (.bool true) ∧ W.frozen? ⟨R, 2, none⟩ = false := by
  obtain ⟨_, _, _, h1, h2, h3, _⟩ := RdX.cells h.rd
  exact ⟨h1, h2, h3⟩
theorem RepIn.bad (h : RepIn w W R X Y E (some (l, wd)) a b) : RepIn w (W.setCell ⟨R, 2, none⟩ (.bool true)) R X Y E none a b := by
  obtain ⟨_, _, _, _, _, _, _, _, _, h1, _⟩ := RdD.cells h.rd
  exact h.only ((Only.refl R W).set 2 _) h1.out
theorem RepIn.good (h : RepIn w W R X Y E (some (l, wd)) a b) : RepIn w (W.setCell ⟨R, 2, none⟩ (.bool false)) R X Y E (some (l, wd)) a b := by
  have h1 := (RdD.cell3 h.rd).2.2.2
  exact h.only ((Only.refl R W).set 2 _) h1.out
theorem RepIn.worse (h : RepIn w W R X Y E none a b) : RepIn w (W.setCell ⟨R, 2, none⟩ (.bool true)) R X Y E none a b := by
  obtain ⟨_, _, _, _, _, _, _, _, h1, _⟩ := RdX.cells h.rd
  exact h.only ((Only.refl R W).set 2 _) h1.out
/-- The result's box, written. -/
theorem RepIn.put (h : RepIn w W R X Y E o a b) (v0 v1 v2 v3 v4 : Value) : Only R w (((((W.setCell ⟨Y, 0, none⟩ v0).setCell ⟨Y, 1, none⟩ v1).setCell ⟨Y, 2, none⟩ v2).setCell ⟨Y, 3, none⟩ v3).setCell ⟨Y, 4, none⟩ v4) ∧ RdE (((((W.setCell ⟨Y, 0, none⟩ v0).setCell ⟨Y, 1, none⟩ v1).setCell ⟨Y, 2, none⟩ v2).setCell ⟨Y, 3, none⟩ v3).setCell ⟨Y, 4, none⟩ v4) R E o :=
  ⟨((((h.on.setNew h.loy _ _).setNew h.loy _ _).setNew h.loy _ _).setNew h.loy _ _).setNew h.loy _ _,
   ((((h.rd.far h.res h.ny _ _).far (h.res.set 0 _) h.ny _ _).far ((h.res.set 0 _).set 1 _) h.ny _ _).far (((h.res.set 0 _).set 1 _).set 2 _) h.ny _ _).far ((((h.res.set 0 _).set 1 _).set 2 _).set 3 _) h.ny _ _⟩
end
/-- What a repeat leaves. -/
def RepD (R : Nat) (E : PEnv) (w : World) (wd : Bool) (o : Option (Option (Int × Int) × Bs)) (e : Ending) (w' : World) : Prop := ∃ (a b : Int) (q : Bool), e = .returned (.tuple #[.agg #[.int .u8 4, .slice none 0 0, .int .i64 1, .int .i64 a, .int .i64 b], .bool q]) ∧ Only R w w' ∧ -9223372036854775808 ≤ a ∧ a ≤ 9223372036854775807 ∧ -9223372036854775808 ≤ b ∧ b ≤ 9223372036854775807 ∧ match o with
  | none => RdX w' R E
  | some (none, r) => RdD w' R E r wd ∧ q = false
  | some (some (a', b'), r) => RdD w' R E r wd ∧ q = true ∧ a' = a ∧ b' = b

set_option maxHeartbeats 4000000 in
set_option maxRecDepth 100000 in
theorem rep_star (R : Nat) (E : PEnv) (l : Bs) (wd : Bool) (w : World) (h : RdD w R E l wd) (r : Bs) (h1 : isB 42 l = some r) :
    Calls Tryz.prog 150 #[.pointer (some ⟨R, 0, none⟩)] w (RepD R E w wd (some (some (0, -1), r))) := by
  have P0 := Lib.hid (RepIn.start (o := some (l, wd)) h h.lt)
  clear h
  have H1 := Lib.hid h1
  clear h1
  go_enter Tryz.func150, Tryz.ntmps150
  have HI1 := rd7_is R E _ wd 42 _ (by decide) P0.out.rd
  rw [H1.out] at HI1
  simp only [show ((42 : UInt8).toNat : Int) = 42 from rfl, Option.isSome_some, Option.getD_some] at HI1
  have HI1 := Lib.hid HI1
  go_wp2_with fail
  refine HI1.out.mono ?_
  rintro e w1 ⟨rfl, k1, k2⟩
  have P1 := Lib.hid (P0.out.only (o' := some (_, wd)) k2 k1)
  clear k1 k2 HI1 P0
  obtain ⟨x0, x1, x2, x3, x4, gx3, gx4, hx, hy⟩ := P1.out.cells
  obtain ⟨xx0, xx1, xx2, xx3, xx4, _, _, _, _⟩ := P1.out.cells
  obtain ⟨y0', y1', y2', y3', y4', g0, g1, g2, g3, g4⟩ := P1.out.ycells
  have HNX := P1.out.xy
  have FIN := Lib.hid (fun v0 v1 v2 v3 v4 => P1.out.put v0 v1 v2 v3 v4)
  go_wp2
  refine bodyPost_ret (v := .tuple #[.agg #[.int .u8 4, .slice none 0 0, .int .i64 1, .int .i64 (0), .int .i64 (-1)], .bool true]) (by simp [results, Tryz.results150, go_sem, y0', y1', y2', y3', y4']) rfl ?_
  obtain ⟨f1, f2⟩ := FIN.out _ _ _ _ _
  exact ⟨_, _, _, rfl, f1, by omega, by omega, by omega, by omega, f2, rfl, rfl, rfl⟩

set_option maxHeartbeats 4000000 in
set_option maxRecDepth 100000 in
theorem rep_plus (R : Nat) (E : PEnv) (l : Bs) (wd : Bool) (w : World) (h : RdD w R E l wd) (h1 : isB 42 l = none) (r : Bs) (h2 : isB 43 l = some r) :
    Calls Tryz.prog 150 #[.pointer (some ⟨R, 0, none⟩)] w (RepD R E w wd (some (some (1, -1), r))) := by
  have P0 := Lib.hid (RepIn.start (o := some (l, wd)) h h.lt)
  clear h
  have H1 := Lib.hid h1
  have H2 := Lib.hid h2
  clear h1 h2
  go_enter Tryz.func150, Tryz.ntmps150
  have HI1 := rd7_is R E _ wd 42 _ (by decide) P0.out.rd
  rw [H1.out] at HI1
  simp only [show ((42 : UInt8).toNat : Int) = 42 from rfl, Option.isSome_none, Option.getD_none] at HI1
  have HI1 := Lib.hid HI1
  go_wp2_with fail
  refine HI1.out.mono ?_
  rintro e w1 ⟨rfl, k1, k2⟩
  have P1 := Lib.hid (P0.out.only (o' := some (_, wd)) k2 k1)
  clear k1 k2 HI1 P0
  have HI2 := rd7_is R E _ wd 43 _ (by decide) P1.out.rd
  rw [H2.out] at HI2
  simp only [show ((43 : UInt8).toNat : Int) = 43 from rfl, Option.isSome_some, Option.getD_some] at HI2
  have HI2 := Lib.hid HI2
  go_wp2_with fail
  refine HI2.out.mono ?_
  rintro e w2 ⟨rfl, k1, k2⟩
  have P2 := Lib.hid (P1.out.only (o' := some (_, wd)) k2 k1)
  clear k1 k2 HI2 P1
  obtain ⟨x0, x1, x2, x3, x4, gx3, gx4, hx, hy⟩ := P2.out.cells
  have Q1 := Lib.hid (P2.out.least (1))
  clear P2
  obtain ⟨xx0, xx1, xx2, xx3, xx4, _, _, _, _⟩ := Q1.out.cells
  obtain ⟨y0', y1', y2', y3', y4', g0, g1, g2, g3, g4⟩ := Q1.out.ycells
  have HNX := Q1.out.xy
  have FIN := Lib.hid (fun v0 v1 v2 v3 v4 => Q1.out.put v0 v1 v2 v3 v4)
  go_wp2
  refine bodyPost_ret (v := .tuple #[.agg #[.int .u8 4, .slice none 0 0, .int .i64 1, .int .i64 (1), .int .i64 (-1)], .bool true]) (by simp [results, Tryz.results150, go_sem, y0', y1', y2', y3', y4']) rfl ?_
  obtain ⟨f1, f2⟩ := FIN.out _ _ _ _ _
  exact ⟨_, _, _, rfl, f1, by omega, by omega, by omega, by omega, f2, rfl, rfl, rfl⟩

set_option maxHeartbeats 4000000 in
set_option maxRecDepth 100000 in
theorem rep_opt (R : Nat) (E : PEnv) (l : Bs) (wd : Bool) (w : World) (h : RdD w R E l wd) (h1 : isB 42 l = none) (h2 : isB 43 l = none) (r : Bs) (h3 : isB 63 l = some r) :
    Calls Tryz.prog 150 #[.pointer (some ⟨R, 0, none⟩)] w (RepD R E w wd (some (some (0, 1), r))) := by
  have P0 := Lib.hid (RepIn.start (o := some (l, wd)) h h.lt)
  clear h
  have H1 := Lib.hid h1
  have H2 := Lib.hid h2
  have H3 := Lib.hid h3
  clear h1 h2 h3
  go_enter Tryz.func150, Tryz.ntmps150
  have HI1 := rd7_is R E _ wd 42 _ (by decide) P0.out.rd
  rw [H1.out] at HI1
  simp only [show ((42 : UInt8).toNat : Int) = 42 from rfl, Option.isSome_none, Option.getD_none] at HI1
  have HI1 := Lib.hid HI1
  go_wp2_with fail
  refine HI1.out.mono ?_
  rintro e w1 ⟨rfl, k1, k2⟩
  have P1 := Lib.hid (P0.out.only (o' := some (_, wd)) k2 k1)
  clear k1 k2 HI1 P0
  have HI2 := rd7_is R E _ wd 43 _ (by decide) P1.out.rd
  rw [H2.out] at HI2
  simp only [show ((43 : UInt8).toNat : Int) = 43 from rfl, Option.isSome_none, Option.getD_none] at HI2
  have HI2 := Lib.hid HI2
  go_wp2_with fail
  refine HI2.out.mono ?_
  rintro e w2 ⟨rfl, k1, k2⟩
  have P2 := Lib.hid (P1.out.only (o' := some (_, wd)) k2 k1)
  clear k1 k2 HI2 P1
  have HI3 := rd7_is R E _ wd 63 _ (by decide) P2.out.rd
  rw [H3.out] at HI3
  simp only [show ((63 : UInt8).toNat : Int) = 63 from rfl, Option.isSome_some, Option.getD_some] at HI3
  have HI3 := Lib.hid HI3
  go_wp2_with fail
  refine HI3.out.mono ?_
  rintro e w3 ⟨rfl, k1, k2⟩
  have P3 := Lib.hid (P2.out.only (o' := some (_, wd)) k2 k1)
  clear k1 k2 HI3 P2
  obtain ⟨x0, x1, x2, x3, x4, gx3, gx4, hx, hy⟩ := P3.out.cells
  have Q1 := Lib.hid (P3.out.most (1))
  clear P3
  obtain ⟨xx0, xx1, xx2, xx3, xx4, _, _, _, _⟩ := Q1.out.cells
  obtain ⟨y0', y1', y2', y3', y4', g0, g1, g2, g3, g4⟩ := Q1.out.ycells
  have HNX := Q1.out.xy
  have FIN := Lib.hid (fun v0 v1 v2 v3 v4 => Q1.out.put v0 v1 v2 v3 v4)
  go_wp2
  refine bodyPost_ret (v := .tuple #[.agg #[.int .u8 4, .slice none 0 0, .int .i64 1, .int .i64 (0), .int .i64 (1)], .bool true]) (by simp [results, Tryz.results150, go_sem, y0', y1', y2', y3', y4']) rfl ?_
  obtain ⟨f1, f2⟩ := FIN.out _ _ _ _ _
  exact ⟨_, _, _, rfl, f1, by omega, by omega, by omega, by omega, f2, rfl, rfl, rfl⟩

set_option maxHeartbeats 4000000 in
set_option maxRecDepth 100000 in
theorem rep_none (R : Nat) (E : PEnv) (l : Bs) (wd : Bool) (w : World) (h : RdD w R E l wd) (h1 : isB 42 l = none) (h2 : isB 43 l = none) (h3 : isB 63 l = none) (h4 : isB 123 l = none) :
    Calls Tryz.prog 150 #[.pointer (some ⟨R, 0, none⟩)] w (RepD R E w wd (some (none, l))) := by
  have P0 := Lib.hid (RepIn.start (o := some (l, wd)) h h.lt)
  clear h
  have H1 := Lib.hid h1
  have H2 := Lib.hid h2
  have H3 := Lib.hid h3
  have H4 := Lib.hid h4
  clear h1 h2 h3 h4
  go_enter Tryz.func150, Tryz.ntmps150
  have HI1 := rd7_is R E _ wd 42 _ (by decide) P0.out.rd
  rw [H1.out] at HI1
  simp only [show ((42 : UInt8).toNat : Int) = 42 from rfl, Option.isSome_none, Option.getD_none] at HI1
  have HI1 := Lib.hid HI1
  go_wp2_with fail
  refine HI1.out.mono ?_
  rintro e w1 ⟨rfl, k1, k2⟩
  have P1 := Lib.hid (P0.out.only (o' := some (_, wd)) k2 k1)
  clear k1 k2 HI1 P0
  have HI2 := rd7_is R E _ wd 43 _ (by decide) P1.out.rd
  rw [H2.out] at HI2
  simp only [show ((43 : UInt8).toNat : Int) = 43 from rfl, Option.isSome_none, Option.getD_none] at HI2
  have HI2 := Lib.hid HI2
  go_wp2_with fail
  refine HI2.out.mono ?_
  rintro e w2 ⟨rfl, k1, k2⟩
  have P2 := Lib.hid (P1.out.only (o' := some (_, wd)) k2 k1)
  clear k1 k2 HI2 P1
  have HI3 := rd7_is R E _ wd 63 _ (by decide) P2.out.rd
  rw [H3.out] at HI3
  simp only [show ((63 : UInt8).toNat : Int) = 63 from rfl, Option.isSome_none, Option.getD_none] at HI3
  have HI3 := Lib.hid HI3
  go_wp2_with fail
  refine HI3.out.mono ?_
  rintro e w3 ⟨rfl, k1, k2⟩
  have P3 := Lib.hid (P2.out.only (o' := some (_, wd)) k2 k1)
  clear k1 k2 HI3 P2
  have HI4 := rd7_is R E _ wd 123 _ (by decide) P3.out.rd
  rw [H4.out] at HI4
  simp only [show ((123 : UInt8).toNat : Int) = 123 from rfl, Option.isSome_none, Option.getD_none] at HI4
  have HI4 := Lib.hid HI4
  go_wp2_with fail
  refine HI4.out.mono ?_
  rintro e w4 ⟨rfl, k1, k2⟩
  have P4 := Lib.hid (P3.out.only (o' := some (_, wd)) k2 k1)
  clear k1 k2 HI4 P3
  obtain ⟨x0, x1, x2, x3, x4, gx3, gx4, hx, hy⟩ := P4.out.cells
  obtain ⟨xx0, xx1, xx2, xx3, xx4, _, _, _, _⟩ := P4.out.cells
  obtain ⟨y0', y1', y2', y3', y4', g0, g1, g2, g3, g4⟩ := P4.out.ycells
  have HNX := P4.out.xy
  have FIN := Lib.hid (fun v0 v1 v2 v3 v4 => P4.out.put v0 v1 v2 v3 v4)
  go_wp2
  refine bodyPost_ret (v := .tuple #[.agg #[.int .u8 4, .slice none 0 0, .int .i64 1, .int .i64 (0), .int .i64 (-1)], .bool false]) (by simp [results, Tryz.results150, go_sem, y0', y1', y2', y3', y4']) rfl ?_
  obtain ⟨f1, f2⟩ := FIN.out _ _ _ _ _
  exact ⟨_, _, _, rfl, f1, by omega, by omega, by omega, by omega, f2, rfl⟩

set_option maxHeartbeats 4000000 in
set_option maxRecDepth 100000 in
theorem rep_X (R : Nat) (E : PEnv) (_l : Bs) (wd : Bool) (w : World) (h : RdX w R E) :
    Calls Tryz.prog 150 #[.pointer (some ⟨R, 0, none⟩)] w (RepD R E w wd none) := by
  have P0 := Lib.hid (RepIn.start (o := none) h h.lt)
  clear h
  go_enter Tryz.func150, Tryz.ntmps150
  have HI1 := Lib.hid (rd7_isX R E 42 _ (by omega) P0.out.rd)
  go_wp2_with fail
  refine HI1.out.mono ?_
  rintro e w1 ⟨rfl, k1, k2⟩
  have P1 := Lib.hid (P0.out.only (o' := none) (Only.of k2) k1)
  clear k1 k2 HI1 P0
  have HI2 := Lib.hid (rd7_isX R E 43 _ (by omega) P1.out.rd)
  go_wp2_with fail
  refine HI2.out.mono ?_
  rintro e w2 ⟨rfl, k1, k2⟩
  have P2 := Lib.hid (P1.out.only (o' := none) (Only.of k2) k1)
  clear k1 k2 HI2 P1
  have HI3 := Lib.hid (rd7_isX R E 63 _ (by omega) P2.out.rd)
  go_wp2_with fail
  refine HI3.out.mono ?_
  rintro e w3 ⟨rfl, k1, k2⟩
  have P3 := Lib.hid (P2.out.only (o' := none) (Only.of k2) k1)
  clear k1 k2 HI3 P2
  have HI4 := Lib.hid (rd7_isX R E 123 _ (by omega) P3.out.rd)
  go_wp2_with fail
  refine HI4.out.mono ?_
  rintro e w4 ⟨rfl, k1, k2⟩
  have P4 := Lib.hid (P3.out.only (o' := none) (Only.of k2) k1)
  clear k1 k2 HI4 P3
  obtain ⟨x0, x1, x2, x3, x4, gx3, gx4, hx, hy⟩ := P4.out.cells
  obtain ⟨xx0, xx1, xx2, xx3, xx4, _, _, _, _⟩ := P4.out.cells
  obtain ⟨y0', y1', y2', y3', y4', g0, g1, g2, g3, g4⟩ := P4.out.ycells
  have HNX := P4.out.xy
  have FIN := Lib.hid (fun v0 v1 v2 v3 v4 => P4.out.put v0 v1 v2 v3 v4)
  go_wp2
  refine bodyPost_ret (v := .tuple #[.agg #[.int .u8 4, .slice none 0 0, .int .i64 1, .int .i64 (0), .int .i64 (-1)], .bool false]) (by simp [results, Tryz.results150, go_sem, y0', y1', y2', y3', y4']) rfl ?_
  obtain ⟨f1, f2⟩ := FIN.out _ _ _ _ _
  exact ⟨_, _, _, rfl, f1, by omega, by omega, by omega, by omega, f2⟩

set_option maxHeartbeats 4000000 in
set_option maxRecDepth 100000 in
theorem rep_n1 (R : Nat) (E : PEnv) (l : Bs) (wd : Bool) (w : World) (h : RdD w R E l wd) (h1 : isB 42 l = none) (h2 : isB 43 l = none) (h3 : isB 63 l = none) (r : Bs) (h4 : isB 123 l = some r) (h5 : countB r = none) :
    Calls Tryz.prog 150 #[.pointer (some ⟨R, 0, none⟩)] w (RepD R E w wd none) := by
  have P0 := Lib.hid (RepIn.start (o := some (l, wd)) h h.lt)
  clear h
  have H1 := Lib.hid h1
  have H2 := Lib.hid h2
  have H3 := Lib.hid h3
  have H4 := Lib.hid h4
  have H5 := Lib.hid h5
  clear h1 h2 h3 h4 h5
  go_enter Tryz.func150, Tryz.ntmps150
  have HI1 := rd7_is R E _ wd 42 _ (by decide) P0.out.rd
  rw [H1.out] at HI1
  simp only [show ((42 : UInt8).toNat : Int) = 42 from rfl, Option.isSome_none, Option.getD_none] at HI1
  have HI1 := Lib.hid HI1
  go_wp2_with fail
  refine HI1.out.mono ?_
  rintro e w1 ⟨rfl, k1, k2⟩
  have P1 := Lib.hid (P0.out.only (o' := some (_, wd)) k2 k1)
  clear k1 k2 HI1 P0
  have HI2 := rd7_is R E _ wd 43 _ (by decide) P1.out.rd
  rw [H2.out] at HI2
  simp only [show ((43 : UInt8).toNat : Int) = 43 from rfl, Option.isSome_none, Option.getD_none] at HI2
  have HI2 := Lib.hid HI2
  go_wp2_with fail
  refine HI2.out.mono ?_
  rintro e w2 ⟨rfl, k1, k2⟩
  have P2 := Lib.hid (P1.out.only (o' := some (_, wd)) k2 k1)
  clear k1 k2 HI2 P1
  have HI3 := rd7_is R E _ wd 63 _ (by decide) P2.out.rd
  rw [H3.out] at HI3
  simp only [show ((63 : UInt8).toNat : Int) = 63 from rfl, Option.isSome_none, Option.getD_none] at HI3
  have HI3 := Lib.hid HI3
  go_wp2_with fail
  refine HI3.out.mono ?_
  rintro e w3 ⟨rfl, k1, k2⟩
  have P3 := Lib.hid (P2.out.only (o' := some (_, wd)) k2 k1)
  clear k1 k2 HI3 P2
  have HI4 := rd7_is R E _ wd 123 _ (by decide) P3.out.rd
  rw [H4.out] at HI4
  simp only [show ((123 : UInt8).toNat : Int) = 123 from rfl, Option.isSome_some, Option.getD_some] at HI4
  have HI4 := Lib.hid HI4
  go_wp2_with fail
  refine HI4.out.mono ?_
  rintro e w4 ⟨rfl, k1, k2⟩
  have P4 := Lib.hid (P3.out.only (o' := some (_, wd)) k2 k1)
  clear k1 k2 HI4 P3
  have HI5 := rd7_count R E _ wd _ P4.out.rd
  rw [H5.out] at HI5
  have HI5 := Lib.hid HI5
  go_wp2_with fail
  refine HI5.out.mono ?_
  rintro e w5 ⟨y, rfl, y0, y1, k1, k2⟩
  have P5 := Lib.hid (P4.out.only (o' := none) k1 k2)
  clear k1 k2 HI5 P4
  obtain ⟨x0, x1, x2, x3, x4, gx3, gx4, hx, hy⟩ := P5.out.cells
  have Q9 := Lib.hid (P5.out.least y)
  clear P5
  have Q8 := Lib.hid (Q9.out.most y)
  clear Q9
  have HI6 := Lib.hid (rd7_isX R E 44 _ (by omega) Q8.out.rd)
  go_wp2_with fail
  refine HI6.out.mono ?_
  rintro e w6 ⟨rfl, k1, k2⟩
  have P6 := Lib.hid (Q8.out.only (o' := none) (Only.of k2) k1)
  clear k1 k2 HI6 Q8
  clear x0 x1 x2 x3 x4 gx3 gx4 hx hy
  obtain ⟨hr, r2c, r2f⟩ := P6.out.xcells
  obtain ⟨x0, x1, x2, x3, x4, gx3, gx4, hx, hy⟩ := P6.out.cells
  have Q1 := Lib.hid (P6.out.worse)
  clear P6
  obtain ⟨xx0, xx1, xx2, xx3, xx4, _, _, _, _⟩ := Q1.out.cells
  obtain ⟨y0', y1', y2', y3', y4', g0, g1, g2, g3, g4⟩ := Q1.out.ycells
  have HNX := Q1.out.xy
  have FIN := Lib.hid (fun v0 v1 v2 v3 v4 => Q1.out.put v0 v1 v2 v3 v4)
  go_wp2
  refine bodyPost_ret (v := .tuple #[.agg #[.int .u8 4, .slice none 0 0, .int .i64 1, .int .i64 (y), .int .i64 (y)], .bool true]) (by simp [results, Tryz.results150, go_sem, y0', y1', y2', y3', y4']) rfl ?_
  obtain ⟨f1, f2⟩ := FIN.out _ _ _ _ _
  exact ⟨_, _, _, rfl, f1, by omega, by omega, by omega, by omega, f2⟩

set_option maxHeartbeats 4000000 in
set_option maxRecDepth 100000 in
theorem rep_exact (R : Nat) (E : PEnv) (l : Bs) (wd : Bool) (w : World) (h : RdD w R E l wd) (h1 : isB 42 l = none) (h2 : isB 43 l = none) (h3 : isB 63 l = none) (r : Bs) (h4 : isB 123 l = some r) (a : Nat) (r2 : Bs) (h5 : countB r = some (a, r2)) (h6 : isB 44 r2 = none) (r3 : Bs) (h7 : isB 125 r2 = some r3) :
    Calls Tryz.prog 150 #[.pointer (some ⟨R, 0, none⟩)] w (RepD R E w wd (some (some ((a : Int), (a : Int)), r3))) := by
  have P0 := Lib.hid (RepIn.start (o := some (l, wd)) h h.lt)
  clear h
  have H1 := Lib.hid h1
  have H2 := Lib.hid h2
  have H3 := Lib.hid h3
  have H4 := Lib.hid h4
  have H5 := Lib.hid h5
  have H6 := Lib.hid h6
  have H7 := Lib.hid h7
  clear h1 h2 h3 h4 h5 h6 h7
  go_enter Tryz.func150, Tryz.ntmps150
  have HI1 := rd7_is R E _ wd 42 _ (by decide) P0.out.rd
  rw [H1.out] at HI1
  simp only [show ((42 : UInt8).toNat : Int) = 42 from rfl, Option.isSome_none, Option.getD_none] at HI1
  have HI1 := Lib.hid HI1
  go_wp2_with fail
  refine HI1.out.mono ?_
  rintro e w1 ⟨rfl, k1, k2⟩
  have P1 := Lib.hid (P0.out.only (o' := some (_, wd)) k2 k1)
  clear k1 k2 HI1 P0
  have HI2 := rd7_is R E _ wd 43 _ (by decide) P1.out.rd
  rw [H2.out] at HI2
  simp only [show ((43 : UInt8).toNat : Int) = 43 from rfl, Option.isSome_none, Option.getD_none] at HI2
  have HI2 := Lib.hid HI2
  go_wp2_with fail
  refine HI2.out.mono ?_
  rintro e w2 ⟨rfl, k1, k2⟩
  have P2 := Lib.hid (P1.out.only (o' := some (_, wd)) k2 k1)
  clear k1 k2 HI2 P1
  have HI3 := rd7_is R E _ wd 63 _ (by decide) P2.out.rd
  rw [H3.out] at HI3
  simp only [show ((63 : UInt8).toNat : Int) = 63 from rfl, Option.isSome_none, Option.getD_none] at HI3
  have HI3 := Lib.hid HI3
  go_wp2_with fail
  refine HI3.out.mono ?_
  rintro e w3 ⟨rfl, k1, k2⟩
  have P3 := Lib.hid (P2.out.only (o' := some (_, wd)) k2 k1)
  clear k1 k2 HI3 P2
  have HI4 := rd7_is R E _ wd 123 _ (by decide) P3.out.rd
  rw [H4.out] at HI4
  simp only [show ((123 : UInt8).toNat : Int) = 123 from rfl, Option.isSome_some, Option.getD_some] at HI4
  have HI4 := Lib.hid HI4
  go_wp2_with fail
  refine HI4.out.mono ?_
  rintro e w4 ⟨rfl, k1, k2⟩
  have P4 := Lib.hid (P3.out.only (o' := some (_, wd)) k2 k1)
  clear k1 k2 HI4 P3
  have HI5 := rd7_count R E _ wd _ P4.out.rd
  rw [H5.out] at HI5
  have HI5 := Lib.hid HI5
  go_wp2_with fail
  refine HI5.out.mono ?_
  rintro e w5 ⟨y, rfl, y0, y1, k1, k2, ye⟩
  have P5 := Lib.hid (P4.out.only (o' := some (_, wd)) k1 k2)
  have YE := Lib.hid ye
  clear k1 k2 ye HI5 P4
  obtain ⟨x0, x1, x2, x3, x4, gx3, gx4, hx, hy⟩ := P5.out.cells
  have Q9 := Lib.hid (P5.out.least y)
  clear P5
  have Q8 := Lib.hid (Q9.out.most y)
  clear Q9
  have HI6 := rd7_is R E _ wd 44 _ (by decide) Q8.out.rd
  rw [H6.out] at HI6
  simp only [show ((44 : UInt8).toNat : Int) = 44 from rfl, Option.isSome_none, Option.getD_none] at HI6
  have HI6 := Lib.hid HI6
  go_wp2_with fail
  refine HI6.out.mono ?_
  rintro e w6 ⟨rfl, k1, k2⟩
  have P6 := Lib.hid (Q8.out.only (o' := some (_, wd)) k2 k1)
  clear k1 k2 HI6 Q8
  clear x0 x1 x2 x3 x4 gx3 gx4 hx hy
  obtain ⟨hr, r2c, r2f⟩ := P6.out.rcells
  have HI7 := rd7_is R E _ wd 125 _ (by decide) P6.out.rd
  rw [H7.out] at HI7
  simp only [show ((125 : UInt8).toNat : Int) = 125 from rfl, Option.isSome_some, Option.getD_some] at HI7
  have HI7 := Lib.hid HI7
  go_wp2_with fail
  refine HI7.out.mono ?_
  rintro e w7 ⟨rfl, k1, k2⟩
  have P7 := Lib.hid (P6.out.only (o' := some (_, wd)) k2 k1)
  clear k1 k2 HI7 P6
  clear hr r2c r2f
  obtain ⟨hr, r2c, r2f⟩ := P7.out.rcells
  obtain ⟨x0, x1, x2, x3, x4, gx3, gx4, hx, hy⟩ := P7.out.cells
  have Q1 := Lib.hid (P7.out.good)
  clear P7
  obtain ⟨xx0, xx1, xx2, xx3, xx4, _, _, _, _⟩ := Q1.out.cells
  obtain ⟨y0', y1', y2', y3', y4', g0, g1, g2, g3, g4⟩ := Q1.out.ycells
  have HNX := Q1.out.xy
  have FIN := Lib.hid (fun v0 v1 v2 v3 v4 => Q1.out.put v0 v1 v2 v3 v4)
  go_wp2
  refine bodyPost_ret (v := .tuple #[.agg #[.int .u8 4, .slice none 0 0, .int .i64 1, .int .i64 (y), .int .i64 (y)], .bool true]) (by simp [results, Tryz.results150, go_sem, y0', y1', y2', y3', y4']) rfl ?_
  obtain ⟨f1, f2⟩ := FIN.out _ _ _ _ _
  exact ⟨_, _, _, rfl, f1, by omega, by omega, by omega, by omega, f2, rfl, YE.out.symm, YE.out.symm⟩

set_option maxHeartbeats 4000000 in
set_option maxRecDepth 100000 in
theorem rep_n2 (R : Nat) (E : PEnv) (l : Bs) (wd : Bool) (w : World) (h : RdD w R E l wd) (h1 : isB 42 l = none) (h2 : isB 43 l = none) (h3 : isB 63 l = none) (r : Bs) (h4 : isB 123 l = some r) (a : Nat) (r2 : Bs) (h5 : countB r = some (a, r2)) (h6 : isB 44 r2 = none) (h7 : isB 125 r2 = none) :
    Calls Tryz.prog 150 #[.pointer (some ⟨R, 0, none⟩)] w (RepD R E w wd none) := by
  have P0 := Lib.hid (RepIn.start (o := some (l, wd)) h h.lt)
  clear h
  have H1 := Lib.hid h1
  have H2 := Lib.hid h2
  have H3 := Lib.hid h3
  have H4 := Lib.hid h4
  have H5 := Lib.hid h5
  have H6 := Lib.hid h6
  have H7 := Lib.hid h7
  clear h1 h2 h3 h4 h5 h6 h7
  go_enter Tryz.func150, Tryz.ntmps150
  have HI1 := rd7_is R E _ wd 42 _ (by decide) P0.out.rd
  rw [H1.out] at HI1
  simp only [show ((42 : UInt8).toNat : Int) = 42 from rfl, Option.isSome_none, Option.getD_none] at HI1
  have HI1 := Lib.hid HI1
  go_wp2_with fail
  refine HI1.out.mono ?_
  rintro e w1 ⟨rfl, k1, k2⟩
  have P1 := Lib.hid (P0.out.only (o' := some (_, wd)) k2 k1)
  clear k1 k2 HI1 P0
  have HI2 := rd7_is R E _ wd 43 _ (by decide) P1.out.rd
  rw [H2.out] at HI2
  simp only [show ((43 : UInt8).toNat : Int) = 43 from rfl, Option.isSome_none, Option.getD_none] at HI2
  have HI2 := Lib.hid HI2
  go_wp2_with fail
  refine HI2.out.mono ?_
  rintro e w2 ⟨rfl, k1, k2⟩
  have P2 := Lib.hid (P1.out.only (o' := some (_, wd)) k2 k1)
  clear k1 k2 HI2 P1
  have HI3 := rd7_is R E _ wd 63 _ (by decide) P2.out.rd
  rw [H3.out] at HI3
  simp only [show ((63 : UInt8).toNat : Int) = 63 from rfl, Option.isSome_none, Option.getD_none] at HI3
  have HI3 := Lib.hid HI3
  go_wp2_with fail
  refine HI3.out.mono ?_
  rintro e w3 ⟨rfl, k1, k2⟩
  have P3 := Lib.hid (P2.out.only (o' := some (_, wd)) k2 k1)
  clear k1 k2 HI3 P2
  have HI4 := rd7_is R E _ wd 123 _ (by decide) P3.out.rd
  rw [H4.out] at HI4
  simp only [show ((123 : UInt8).toNat : Int) = 123 from rfl, Option.isSome_some, Option.getD_some] at HI4
  have HI4 := Lib.hid HI4
  go_wp2_with fail
  refine HI4.out.mono ?_
  rintro e w4 ⟨rfl, k1, k2⟩
  have P4 := Lib.hid (P3.out.only (o' := some (_, wd)) k2 k1)
  clear k1 k2 HI4 P3
  have HI5 := rd7_count R E _ wd _ P4.out.rd
  rw [H5.out] at HI5
  have HI5 := Lib.hid HI5
  go_wp2_with fail
  refine HI5.out.mono ?_
  rintro e w5 ⟨y, rfl, y0, y1, k1, k2, ye⟩
  have P5 := Lib.hid (P4.out.only (o' := some (_, wd)) k1 k2)
  have YE := Lib.hid ye
  clear k1 k2 ye HI5 P4
  obtain ⟨x0, x1, x2, x3, x4, gx3, gx4, hx, hy⟩ := P5.out.cells
  have Q9 := Lib.hid (P5.out.least y)
  clear P5
  have Q8 := Lib.hid (Q9.out.most y)
  clear Q9
  have HI6 := rd7_is R E _ wd 44 _ (by decide) Q8.out.rd
  rw [H6.out] at HI6
  simp only [show ((44 : UInt8).toNat : Int) = 44 from rfl, Option.isSome_none, Option.getD_none] at HI6
  have HI6 := Lib.hid HI6
  go_wp2_with fail
  refine HI6.out.mono ?_
  rintro e w6 ⟨rfl, k1, k2⟩
  have P6 := Lib.hid (Q8.out.only (o' := some (_, wd)) k2 k1)
  clear k1 k2 HI6 Q8
  clear x0 x1 x2 x3 x4 gx3 gx4 hx hy
  obtain ⟨hr, r2c, r2f⟩ := P6.out.rcells
  have HI7 := rd7_is R E _ wd 125 _ (by decide) P6.out.rd
  rw [H7.out] at HI7
  simp only [show ((125 : UInt8).toNat : Int) = 125 from rfl, Option.isSome_none, Option.getD_none] at HI7
  have HI7 := Lib.hid HI7
  go_wp2_with fail
  refine HI7.out.mono ?_
  rintro e w7 ⟨rfl, k1, k2⟩
  have P7 := Lib.hid (P6.out.only (o' := some (_, wd)) k2 k1)
  clear k1 k2 HI7 P6
  clear hr r2c r2f
  obtain ⟨hr, r2c, r2f⟩ := P7.out.rcells
  obtain ⟨x0, x1, x2, x3, x4, gx3, gx4, hx, hy⟩ := P7.out.cells
  have Q1 := Lib.hid (P7.out.bad)
  clear P7
  obtain ⟨xx0, xx1, xx2, xx3, xx4, _, _, _, _⟩ := Q1.out.cells
  obtain ⟨y0', y1', y2', y3', y4', g0, g1, g2, g3, g4⟩ := Q1.out.ycells
  have HNX := Q1.out.xy
  have FIN := Lib.hid (fun v0 v1 v2 v3 v4 => Q1.out.put v0 v1 v2 v3 v4)
  go_wp2
  refine bodyPost_ret (v := .tuple #[.agg #[.int .u8 4, .slice none 0 0, .int .i64 1, .int .i64 (y), .int .i64 (y)], .bool true]) (by simp [results, Tryz.results150, go_sem, y0', y1', y2', y3', y4']) rfl ?_
  obtain ⟨f1, f2⟩ := FIN.out _ _ _ _ _
  exact ⟨_, _, _, rfl, f1, by omega, by omega, by omega, by omega, f2⟩

set_option maxHeartbeats 4000000 in
set_option maxRecDepth 100000 in
theorem rep_open (R : Nat) (E : PEnv) (l : Bs) (wd : Bool) (w : World) (h : RdD w R E l wd) (h1 : isB 42 l = none) (h2 : isB 43 l = none) (h3 : isB 63 l = none) (r : Bs) (h4 : isB 123 l = some r) (a : Nat) (r2 : Bs) (h5 : countB r = some (a, r2)) (r3 : Bs) (h6 : isB 44 r2 = some r3) (r4 : Bs) (h7 : isB 125 r3 = some r4) :
    Calls Tryz.prog 150 #[.pointer (some ⟨R, 0, none⟩)] w (RepD R E w wd (some (some ((a : Int), -1), r4))) := by
  have P0 := Lib.hid (RepIn.start (o := some (l, wd)) h h.lt)
  clear h
  have H1 := Lib.hid h1
  have H2 := Lib.hid h2
  have H3 := Lib.hid h3
  have H4 := Lib.hid h4
  have H5 := Lib.hid h5
  have H6 := Lib.hid h6
  have H7 := Lib.hid h7
  clear h1 h2 h3 h4 h5 h6 h7
  go_enter Tryz.func150, Tryz.ntmps150
  have HI1 := rd7_is R E _ wd 42 _ (by decide) P0.out.rd
  rw [H1.out] at HI1
  simp only [show ((42 : UInt8).toNat : Int) = 42 from rfl, Option.isSome_none, Option.getD_none] at HI1
  have HI1 := Lib.hid HI1
  go_wp2_with fail
  refine HI1.out.mono ?_
  rintro e w1 ⟨rfl, k1, k2⟩
  have P1 := Lib.hid (P0.out.only (o' := some (_, wd)) k2 k1)
  clear k1 k2 HI1 P0
  have HI2 := rd7_is R E _ wd 43 _ (by decide) P1.out.rd
  rw [H2.out] at HI2
  simp only [show ((43 : UInt8).toNat : Int) = 43 from rfl, Option.isSome_none, Option.getD_none] at HI2
  have HI2 := Lib.hid HI2
  go_wp2_with fail
  refine HI2.out.mono ?_
  rintro e w2 ⟨rfl, k1, k2⟩
  have P2 := Lib.hid (P1.out.only (o' := some (_, wd)) k2 k1)
  clear k1 k2 HI2 P1
  have HI3 := rd7_is R E _ wd 63 _ (by decide) P2.out.rd
  rw [H3.out] at HI3
  simp only [show ((63 : UInt8).toNat : Int) = 63 from rfl, Option.isSome_none, Option.getD_none] at HI3
  have HI3 := Lib.hid HI3
  go_wp2_with fail
  refine HI3.out.mono ?_
  rintro e w3 ⟨rfl, k1, k2⟩
  have P3 := Lib.hid (P2.out.only (o' := some (_, wd)) k2 k1)
  clear k1 k2 HI3 P2
  have HI4 := rd7_is R E _ wd 123 _ (by decide) P3.out.rd
  rw [H4.out] at HI4
  simp only [show ((123 : UInt8).toNat : Int) = 123 from rfl, Option.isSome_some, Option.getD_some] at HI4
  have HI4 := Lib.hid HI4
  go_wp2_with fail
  refine HI4.out.mono ?_
  rintro e w4 ⟨rfl, k1, k2⟩
  have P4 := Lib.hid (P3.out.only (o' := some (_, wd)) k2 k1)
  clear k1 k2 HI4 P3
  have HI5 := rd7_count R E _ wd _ P4.out.rd
  rw [H5.out] at HI5
  have HI5 := Lib.hid HI5
  go_wp2_with fail
  refine HI5.out.mono ?_
  rintro e w5 ⟨y, rfl, y0, y1, k1, k2, ye⟩
  have P5 := Lib.hid (P4.out.only (o' := some (_, wd)) k1 k2)
  have YE := Lib.hid ye
  clear k1 k2 ye HI5 P4
  obtain ⟨x0, x1, x2, x3, x4, gx3, gx4, hx, hy⟩ := P5.out.cells
  have Q9 := Lib.hid (P5.out.least y)
  clear P5
  have Q8 := Lib.hid (Q9.out.most y)
  clear Q9
  have HI6 := rd7_is R E _ wd 44 _ (by decide) Q8.out.rd
  rw [H6.out] at HI6
  simp only [show ((44 : UInt8).toNat : Int) = 44 from rfl, Option.isSome_some, Option.getD_some] at HI6
  have HI6 := Lib.hid HI6
  go_wp2_with fail
  refine HI6.out.mono ?_
  rintro e w6 ⟨rfl, k1, k2⟩
  have P6 := Lib.hid (Q8.out.only (o' := some (_, wd)) k2 k1)
  clear k1 k2 HI6 Q8
  clear x0 x1 x2 x3 x4 gx3 gx4 hx hy
  obtain ⟨x0, x1, x2, x3, x4, gx3, gx4, hx, hy⟩ := P6.out.cells
  have Q7 := Lib.hid (P6.out.most (-1))
  clear P6
  have HI7 := rd7_look R E _ wd _ Q7.out.rd
  rw [(look_is (c := 125) (by decide) H7.out).1] at HI7
  simp only [show ((125 : UInt8).toNat : Int) = 125 from rfl] at HI7
  have HI7 := Lib.hid HI7
  go_wp2_with fail
  refine HI7.out.mono ?_
  rintro e w7 ⟨rfl, k1⟩
  have P7 := Lib.hid (Q7.out.only (Only.of k1) (RdE.below Q7.out.rd k1))
  clear k1 HI7 Q7
  clear x0 x1 x2 x3 x4 gx3 gx4 hx hy
  obtain ⟨hr, r2c, r2f⟩ := P7.out.rcells
  have HI8 := rd7_is R E _ wd 125 _ (by decide) P7.out.rd
  rw [H7.out] at HI8
  simp only [show ((125 : UInt8).toNat : Int) = 125 from rfl, Option.isSome_some, Option.getD_some] at HI8
  have HI8 := Lib.hid HI8
  go_wp2_with fail
  refine HI8.out.mono ?_
  rintro e w8 ⟨rfl, k1, k2⟩
  have P8 := Lib.hid (P7.out.only (o' := some (_, wd)) k2 k1)
  clear k1 k2 HI8 P7
  clear hr r2c r2f
  obtain ⟨hr, r2c, r2f⟩ := P8.out.rcells
  obtain ⟨x0, x1, x2, x3, x4, gx3, gx4, hx, hy⟩ := P8.out.cells
  have Q1 := Lib.hid (P8.out.good)
  clear P8
  obtain ⟨xx0, xx1, xx2, xx3, xx4, _, _, _, _⟩ := Q1.out.cells
  obtain ⟨y0', y1', y2', y3', y4', g0, g1, g2, g3, g4⟩ := Q1.out.ycells
  have HNX := Q1.out.xy
  have FIN := Lib.hid (fun v0 v1 v2 v3 v4 => Q1.out.put v0 v1 v2 v3 v4)
  go_wp2
  refine bodyPost_ret (v := .tuple #[.agg #[.int .u8 4, .slice none 0 0, .int .i64 1, .int .i64 (y), .int .i64 (-1)], .bool true]) (by simp [results, Tryz.results150, go_sem, y0', y1', y2', y3', y4']) rfl ?_
  obtain ⟨f1, f2⟩ := FIN.out _ _ _ _ _
  exact ⟨_, _, _, rfl, f1, by omega, by omega, by omega, by omega, f2, rfl, YE.out.symm, rfl⟩

set_option maxHeartbeats 4000000 in
set_option maxRecDepth 100000 in
theorem rep_n3 (R : Nat) (E : PEnv) (l : Bs) (wd : Bool) (w : World) (h : RdD w R E l wd) (h1 : isB 42 l = none) (h2 : isB 43 l = none) (h3 : isB 63 l = none) (r : Bs) (h4 : isB 123 l = some r) (a : Nat) (r2 : Bs) (h5 : countB r = some (a, r2)) (r3 : Bs) (h6 : isB 44 r2 = some r3) (h7 : isB 125 r3 = none) (h8 : countB r3 = none) :
    Calls Tryz.prog 150 #[.pointer (some ⟨R, 0, none⟩)] w (RepD R E w wd none) := by
  have P0 := Lib.hid (RepIn.start (o := some (l, wd)) h h.lt)
  clear h
  have H1 := Lib.hid h1
  have H2 := Lib.hid h2
  have H3 := Lib.hid h3
  have H4 := Lib.hid h4
  have H5 := Lib.hid h5
  have H6 := Lib.hid h6
  have H7 := Lib.hid h7
  have H8 := Lib.hid h8
  clear h1 h2 h3 h4 h5 h6 h7 h8
  go_enter Tryz.func150, Tryz.ntmps150
  have HI1 := rd7_is R E _ wd 42 _ (by decide) P0.out.rd
  rw [H1.out] at HI1
  simp only [show ((42 : UInt8).toNat : Int) = 42 from rfl, Option.isSome_none, Option.getD_none] at HI1
  have HI1 := Lib.hid HI1
  go_wp2_with fail
  refine HI1.out.mono ?_
  rintro e w1 ⟨rfl, k1, k2⟩
  have P1 := Lib.hid (P0.out.only (o' := some (_, wd)) k2 k1)
  clear k1 k2 HI1 P0
  have HI2 := rd7_is R E _ wd 43 _ (by decide) P1.out.rd
  rw [H2.out] at HI2
  simp only [show ((43 : UInt8).toNat : Int) = 43 from rfl, Option.isSome_none, Option.getD_none] at HI2
  have HI2 := Lib.hid HI2
  go_wp2_with fail
  refine HI2.out.mono ?_
  rintro e w2 ⟨rfl, k1, k2⟩
  have P2 := Lib.hid (P1.out.only (o' := some (_, wd)) k2 k1)
  clear k1 k2 HI2 P1
  have HI3 := rd7_is R E _ wd 63 _ (by decide) P2.out.rd
  rw [H3.out] at HI3
  simp only [show ((63 : UInt8).toNat : Int) = 63 from rfl, Option.isSome_none, Option.getD_none] at HI3
  have HI3 := Lib.hid HI3
  go_wp2_with fail
  refine HI3.out.mono ?_
  rintro e w3 ⟨rfl, k1, k2⟩
  have P3 := Lib.hid (P2.out.only (o' := some (_, wd)) k2 k1)
  clear k1 k2 HI3 P2
  have HI4 := rd7_is R E _ wd 123 _ (by decide) P3.out.rd
  rw [H4.out] at HI4
  simp only [show ((123 : UInt8).toNat : Int) = 123 from rfl, Option.isSome_some, Option.getD_some] at HI4
  have HI4 := Lib.hid HI4
  go_wp2_with fail
  refine HI4.out.mono ?_
  rintro e w4 ⟨rfl, k1, k2⟩
  have P4 := Lib.hid (P3.out.only (o' := some (_, wd)) k2 k1)
  clear k1 k2 HI4 P3
  have HI5 := rd7_count R E _ wd _ P4.out.rd
  rw [H5.out] at HI5
  have HI5 := Lib.hid HI5
  go_wp2_with fail
  refine HI5.out.mono ?_
  rintro e w5 ⟨y, rfl, y0, y1, k1, k2, ye⟩
  have P5 := Lib.hid (P4.out.only (o' := some (_, wd)) k1 k2)
  have YE := Lib.hid ye
  clear k1 k2 ye HI5 P4
  obtain ⟨x0, x1, x2, x3, x4, gx3, gx4, hx, hy⟩ := P5.out.cells
  have Q9 := Lib.hid (P5.out.least y)
  clear P5
  have Q8 := Lib.hid (Q9.out.most y)
  clear Q9
  have HI6 := rd7_is R E _ wd 44 _ (by decide) Q8.out.rd
  rw [H6.out] at HI6
  simp only [show ((44 : UInt8).toNat : Int) = 44 from rfl, Option.isSome_some, Option.getD_some] at HI6
  have HI6 := Lib.hid HI6
  go_wp2_with fail
  refine HI6.out.mono ?_
  rintro e w6 ⟨rfl, k1, k2⟩
  have P6 := Lib.hid (Q8.out.only (o' := some (_, wd)) k2 k1)
  clear k1 k2 HI6 Q8
  clear x0 x1 x2 x3 x4 gx3 gx4 hx hy
  obtain ⟨x0, x1, x2, x3, x4, gx3, gx4, hx, hy⟩ := P6.out.cells
  have Q7 := Lib.hid (P6.out.most (-1))
  clear P6
  have HI7 := rd7_look R E _ wd _ Q7.out.rd
  obtain ⟨z, hz⟩ : ∃ z, lookZ r3 = z := ⟨_, rfl⟩
  have hzn := look_isn (c := 125) (by decide) H7.out
  rw [hz] at HI7 hzn
  simp only [show ((125 : UInt8).toNat : Int) = 125 from rfl] at hzn
  have hz1 : (z != 125) = true := by simpa using hzn
  have HI7 := Lib.hid HI7
  clear hz hzn
  go_wp2_with fail
  refine HI7.out.mono ?_
  rintro e w7 ⟨rfl, k1⟩
  have P7 := Lib.hid (Q7.out.only (Only.of k1) (RdE.below Q7.out.rd k1))
  clear k1 HI7 Q7
  clear x0 x1 x2 x3 x4 gx3 gx4 hx hy
  have HI8 := rd7_count R E _ wd _ P7.out.rd
  rw [H8.out] at HI8
  have HI8 := Lib.hid HI8
  go_wp2_with fail
  refine HI8.out.mono ?_
  rintro e w8 ⟨u, rfl, u0, u1, k1, k2⟩
  have P8 := Lib.hid (P7.out.only (o' := none) k1 k2)
  clear k1 k2 HI8 P7
  obtain ⟨x0, x1, x2, x3, x4, gx3, gx4, hx, hy⟩ := P8.out.cells
  obtain ⟨hr, r2c, r2f⟩ := P8.out.xcells
  have Q6 := Lib.hid (P8.out.most u)
  clear P8
  have Q5 := Lib.hid Q6.out.worse
  clear Q6
  have Q4 := Lib.hid Q5.out.worse
  clear Q5
  obtain ⟨xx0, xx1, xx2, xx3, xx4, _, _, _, _⟩ := Q4.out.cells
  obtain ⟨y0', y1', y2', y3', y4', g0, g1, g2, g3, g4⟩ := Q4.out.ycells
  have HNX := Q4.out.xy
  have FIN := Lib.hid (fun v0 v1 v2 v3 v4 => Q4.out.put v0 v1 v2 v3 v4)
  go_wp2
  refine bodyPost_ret (v := .tuple #[.agg #[.int .u8 4, .slice none 0 0, .int .i64 1, .int .i64 (y), .int .i64 (u)], .bool true]) (by simp [results, Tryz.results150, go_sem, y0', y1', y2', y3', y4']) rfl ?_
  obtain ⟨f1, f2⟩ := FIN.out _ _ _ _ _
  exact ⟨_, _, _, rfl, f1, by omega, by omega, by omega, by omega, f2⟩

set_option maxHeartbeats 4000000 in
set_option maxRecDepth 100000 in
theorem rep_n4 (R : Nat) (E : PEnv) (l : Bs) (wd : Bool) (w : World) (h : RdD w R E l wd) (h1 : isB 42 l = none) (h2 : isB 43 l = none) (h3 : isB 63 l = none) (r : Bs) (h4 : isB 123 l = some r) (a : Nat) (r2 : Bs) (h5 : countB r = some (a, r2)) (r3 : Bs) (h6 : isB 44 r2 = some r3) (h7 : isB 125 r3 = none) (b : Nat) (r4 : Bs) (h8 : countB r3 = some (b, r4)) (h9 : b < a) :
    Calls Tryz.prog 150 #[.pointer (some ⟨R, 0, none⟩)] w (RepD R E w wd none) := by
  have P0 := Lib.hid (RepIn.start (o := some (l, wd)) h h.lt)
  clear h
  have H1 := Lib.hid h1
  have H2 := Lib.hid h2
  have H3 := Lib.hid h3
  have H4 := Lib.hid h4
  have H5 := Lib.hid h5
  have H6 := Lib.hid h6
  have H7 := Lib.hid h7
  have H8 := Lib.hid h8
  clear h1 h2 h3 h4 h5 h6 h7 h8
  go_enter Tryz.func150, Tryz.ntmps150
  have HI1 := rd7_is R E _ wd 42 _ (by decide) P0.out.rd
  rw [H1.out] at HI1
  simp only [show ((42 : UInt8).toNat : Int) = 42 from rfl, Option.isSome_none, Option.getD_none] at HI1
  have HI1 := Lib.hid HI1
  go_wp2_with fail
  refine HI1.out.mono ?_
  rintro e w1 ⟨rfl, k1, k2⟩
  have P1 := Lib.hid (P0.out.only (o' := some (_, wd)) k2 k1)
  clear k1 k2 HI1 P0
  have HI2 := rd7_is R E _ wd 43 _ (by decide) P1.out.rd
  rw [H2.out] at HI2
  simp only [show ((43 : UInt8).toNat : Int) = 43 from rfl, Option.isSome_none, Option.getD_none] at HI2
  have HI2 := Lib.hid HI2
  go_wp2_with fail
  refine HI2.out.mono ?_
  rintro e w2 ⟨rfl, k1, k2⟩
  have P2 := Lib.hid (P1.out.only (o' := some (_, wd)) k2 k1)
  clear k1 k2 HI2 P1
  have HI3 := rd7_is R E _ wd 63 _ (by decide) P2.out.rd
  rw [H3.out] at HI3
  simp only [show ((63 : UInt8).toNat : Int) = 63 from rfl, Option.isSome_none, Option.getD_none] at HI3
  have HI3 := Lib.hid HI3
  go_wp2_with fail
  refine HI3.out.mono ?_
  rintro e w3 ⟨rfl, k1, k2⟩
  have P3 := Lib.hid (P2.out.only (o' := some (_, wd)) k2 k1)
  clear k1 k2 HI3 P2
  have HI4 := rd7_is R E _ wd 123 _ (by decide) P3.out.rd
  rw [H4.out] at HI4
  simp only [show ((123 : UInt8).toNat : Int) = 123 from rfl, Option.isSome_some, Option.getD_some] at HI4
  have HI4 := Lib.hid HI4
  go_wp2_with fail
  refine HI4.out.mono ?_
  rintro e w4 ⟨rfl, k1, k2⟩
  have P4 := Lib.hid (P3.out.only (o' := some (_, wd)) k2 k1)
  clear k1 k2 HI4 P3
  have HI5 := rd7_count R E _ wd _ P4.out.rd
  rw [H5.out] at HI5
  have HI5 := Lib.hid HI5
  go_wp2_with fail
  refine HI5.out.mono ?_
  rintro e w5 ⟨y, rfl, y0, y1, k1, k2, ye⟩
  have P5 := Lib.hid (P4.out.only (o' := some (_, wd)) k1 k2)
  have YE := Lib.hid ye
  clear k1 k2 ye HI5 P4
  obtain ⟨x0, x1, x2, x3, x4, gx3, gx4, hx, hy⟩ := P5.out.cells
  have Q9 := Lib.hid (P5.out.least y)
  clear P5
  have Q8 := Lib.hid (Q9.out.most y)
  clear Q9
  have HI6 := rd7_is R E _ wd 44 _ (by decide) Q8.out.rd
  rw [H6.out] at HI6
  simp only [show ((44 : UInt8).toNat : Int) = 44 from rfl, Option.isSome_some, Option.getD_some] at HI6
  have HI6 := Lib.hid HI6
  go_wp2_with fail
  refine HI6.out.mono ?_
  rintro e w6 ⟨rfl, k1, k2⟩
  have P6 := Lib.hid (Q8.out.only (o' := some (_, wd)) k2 k1)
  clear k1 k2 HI6 Q8
  clear x0 x1 x2 x3 x4 gx3 gx4 hx hy
  obtain ⟨x0, x1, x2, x3, x4, gx3, gx4, hx, hy⟩ := P6.out.cells
  have Q7 := Lib.hid (P6.out.most (-1))
  clear P6
  have HI7 := rd7_look R E _ wd _ Q7.out.rd
  obtain ⟨z, hz⟩ : ∃ z, lookZ r3 = z := ⟨_, rfl⟩
  have hzn := look_isn (c := 125) (by decide) H7.out
  rw [hz] at HI7 hzn
  simp only [show ((125 : UInt8).toNat : Int) = 125 from rfl] at hzn
  have hz1 : (z != 125) = true := by simpa using hzn
  have HI7 := Lib.hid HI7
  clear hz hzn
  go_wp2_with fail
  refine HI7.out.mono ?_
  rintro e w7 ⟨rfl, k1⟩
  have P7 := Lib.hid (Q7.out.only (Only.of k1) (RdE.below Q7.out.rd k1))
  clear k1 HI7 Q7
  clear x0 x1 x2 x3 x4 gx3 gx4 hx hy
  have HI8 := rd7_count R E _ wd _ P7.out.rd
  rw [H8.out] at HI8
  have HI8 := Lib.hid HI8
  go_wp2_with fail
  refine HI8.out.mono ?_
  rintro e w8 ⟨u, rfl, u0, u1, k1, k2, ue⟩
  have P8 := Lib.hid (P7.out.only (o' := some (_, wd)) k1 k2)
  have UE := Lib.hid ue
  clear k1 k2 ue HI8 P7
  obtain ⟨x0, x1, x2, x3, x4, gx3, gx4, hx, hy⟩ := P8.out.cells
  obtain ⟨hr, r2c, r2f⟩ := P8.out.rcells
  have Q6 := Lib.hid (P8.out.most u)
  clear P8
  have hlt : u < y := by have := YE.out; have := UE.out; omega
  have Q5 := Lib.hid Q6.out.bad
  clear Q6
  have Q4 := Lib.hid Q5.out.worse
  clear Q5
  obtain ⟨xx0, xx1, xx2, xx3, xx4, _, _, _, _⟩ := Q4.out.cells
  obtain ⟨y0', y1', y2', y3', y4', g0, g1, g2, g3, g4⟩ := Q4.out.ycells
  have HNX := Q4.out.xy
  have FIN := Lib.hid (fun v0 v1 v2 v3 v4 => Q4.out.put v0 v1 v2 v3 v4)
  go_wp2
  refine bodyPost_ret (v := .tuple #[.agg #[.int .u8 4, .slice none 0 0, .int .i64 1, .int .i64 (y), .int .i64 (u)], .bool true]) (by simp [results, Tryz.results150, go_sem, y0', y1', y2', y3', y4']) rfl ?_
  obtain ⟨f1, f2⟩ := FIN.out _ _ _ _ _
  exact ⟨_, _, _, rfl, f1, by omega, by omega, by omega, by omega, f2⟩

set_option maxHeartbeats 4000000 in
set_option maxRecDepth 100000 in
theorem rep_range (R : Nat) (E : PEnv) (l : Bs) (wd : Bool) (w : World) (h : RdD w R E l wd) (h1 : isB 42 l = none) (h2 : isB 43 l = none) (h3 : isB 63 l = none) (r : Bs) (h4 : isB 123 l = some r) (a : Nat) (r2 : Bs) (h5 : countB r = some (a, r2)) (r3 : Bs) (h6 : isB 44 r2 = some r3) (h7 : isB 125 r3 = none) (b : Nat) (r4 : Bs) (h8 : countB r3 = some (b, r4)) (h9 : ¬ b < a) (r5 : Bs) (h10 : isB 125 r4 = some r5) :
    Calls Tryz.prog 150 #[.pointer (some ⟨R, 0, none⟩)] w (RepD R E w wd (some (some ((a : Int), (b : Int)), r5))) := by
  have P0 := Lib.hid (RepIn.start (o := some (l, wd)) h h.lt)
  clear h
  have H1 := Lib.hid h1
  have H2 := Lib.hid h2
  have H3 := Lib.hid h3
  have H4 := Lib.hid h4
  have H5 := Lib.hid h5
  have H6 := Lib.hid h6
  have H7 := Lib.hid h7
  have H8 := Lib.hid h8
  have H10 := Lib.hid h10
  clear h1 h2 h3 h4 h5 h6 h7 h8 h10
  go_enter Tryz.func150, Tryz.ntmps150
  have HI1 := rd7_is R E _ wd 42 _ (by decide) P0.out.rd
  rw [H1.out] at HI1
  simp only [show ((42 : UInt8).toNat : Int) = 42 from rfl, Option.isSome_none, Option.getD_none] at HI1
  have HI1 := Lib.hid HI1
  go_wp2_with fail
  refine HI1.out.mono ?_
  rintro e w1 ⟨rfl, k1, k2⟩
  have P1 := Lib.hid (P0.out.only (o' := some (_, wd)) k2 k1)
  clear k1 k2 HI1 P0
  have HI2 := rd7_is R E _ wd 43 _ (by decide) P1.out.rd
  rw [H2.out] at HI2
  simp only [show ((43 : UInt8).toNat : Int) = 43 from rfl, Option.isSome_none, Option.getD_none] at HI2
  have HI2 := Lib.hid HI2
  go_wp2_with fail
  refine HI2.out.mono ?_
  rintro e w2 ⟨rfl, k1, k2⟩
  have P2 := Lib.hid (P1.out.only (o' := some (_, wd)) k2 k1)
  clear k1 k2 HI2 P1
  have HI3 := rd7_is R E _ wd 63 _ (by decide) P2.out.rd
  rw [H3.out] at HI3
  simp only [show ((63 : UInt8).toNat : Int) = 63 from rfl, Option.isSome_none, Option.getD_none] at HI3
  have HI3 := Lib.hid HI3
  go_wp2_with fail
  refine HI3.out.mono ?_
  rintro e w3 ⟨rfl, k1, k2⟩
  have P3 := Lib.hid (P2.out.only (o' := some (_, wd)) k2 k1)
  clear k1 k2 HI3 P2
  have HI4 := rd7_is R E _ wd 123 _ (by decide) P3.out.rd
  rw [H4.out] at HI4
  simp only [show ((123 : UInt8).toNat : Int) = 123 from rfl, Option.isSome_some, Option.getD_some] at HI4
  have HI4 := Lib.hid HI4
  go_wp2_with fail
  refine HI4.out.mono ?_
  rintro e w4 ⟨rfl, k1, k2⟩
  have P4 := Lib.hid (P3.out.only (o' := some (_, wd)) k2 k1)
  clear k1 k2 HI4 P3
  have HI5 := rd7_count R E _ wd _ P4.out.rd
  rw [H5.out] at HI5
  have HI5 := Lib.hid HI5
  go_wp2_with fail
  refine HI5.out.mono ?_
  rintro e w5 ⟨y, rfl, y0, y1, k1, k2, ye⟩
  have P5 := Lib.hid (P4.out.only (o' := some (_, wd)) k1 k2)
  have YE := Lib.hid ye
  clear k1 k2 ye HI5 P4
  obtain ⟨x0, x1, x2, x3, x4, gx3, gx4, hx, hy⟩ := P5.out.cells
  have Q9 := Lib.hid (P5.out.least y)
  clear P5
  have Q8 := Lib.hid (Q9.out.most y)
  clear Q9
  have HI6 := rd7_is R E _ wd 44 _ (by decide) Q8.out.rd
  rw [H6.out] at HI6
  simp only [show ((44 : UInt8).toNat : Int) = 44 from rfl, Option.isSome_some, Option.getD_some] at HI6
  have HI6 := Lib.hid HI6
  go_wp2_with fail
  refine HI6.out.mono ?_
  rintro e w6 ⟨rfl, k1, k2⟩
  have P6 := Lib.hid (Q8.out.only (o' := some (_, wd)) k2 k1)
  clear k1 k2 HI6 Q8
  clear x0 x1 x2 x3 x4 gx3 gx4 hx hy
  obtain ⟨x0, x1, x2, x3, x4, gx3, gx4, hx, hy⟩ := P6.out.cells
  have Q7 := Lib.hid (P6.out.most (-1))
  clear P6
  have HI7 := rd7_look R E _ wd _ Q7.out.rd
  obtain ⟨z, hz⟩ : ∃ z, lookZ r3 = z := ⟨_, rfl⟩
  have hzn := look_isn (c := 125) (by decide) H7.out
  rw [hz] at HI7 hzn
  simp only [show ((125 : UInt8).toNat : Int) = 125 from rfl] at hzn
  have hz1 : (z != 125) = true := by simpa using hzn
  have HI7 := Lib.hid HI7
  clear hz hzn
  go_wp2_with fail
  refine HI7.out.mono ?_
  rintro e w7 ⟨rfl, k1⟩
  have P7 := Lib.hid (Q7.out.only (Only.of k1) (RdE.below Q7.out.rd k1))
  clear k1 HI7 Q7
  clear x0 x1 x2 x3 x4 gx3 gx4 hx hy
  have HI8 := rd7_count R E _ wd _ P7.out.rd
  rw [H8.out] at HI8
  have HI8 := Lib.hid HI8
  go_wp2_with fail
  refine HI8.out.mono ?_
  rintro e w8 ⟨u, rfl, u0, u1, k1, k2, ue⟩
  have P8 := Lib.hid (P7.out.only (o' := some (_, wd)) k1 k2)
  have UE := Lib.hid ue
  clear k1 k2 ue HI8 P7
  obtain ⟨x0, x1, x2, x3, x4, gx3, gx4, hx, hy⟩ := P8.out.cells
  obtain ⟨hr, r2c, r2f⟩ := P8.out.rcells
  have Q6 := Lib.hid (P8.out.most u)
  clear P8
  have hlt : ¬ u < y := by have := YE.out; have := UE.out; omega
  have hlt3 : decide (u < y) = false := decide_eq_false hlt
  have Q5 := Lib.hid Q6.out.good
  clear Q6
  have HI9 := rd7_is R E _ wd 125 _ (by decide) Q5.out.rd
  rw [H10.out] at HI9
  simp only [show ((125 : UInt8).toNat : Int) = 125 from rfl, Option.isSome_some, Option.getD_some] at HI9
  have HI9 := Lib.hid HI9
  go_wp2_with fail
  refine HI9.out.mono ?_
  rintro e w9 ⟨rfl, k1, k2⟩
  have P9 := Lib.hid (Q5.out.only (o' := some (_, wd)) k2 k1)
  clear k1 k2 HI9 Q5
  clear x0 x1 x2 x3 x4 gx3 gx4 hx hy
  clear hr r2c r2f
  obtain ⟨hr, r2c, r2f⟩ := P9.out.rcells
  obtain ⟨x0, x1, x2, x3, x4, gx3, gx4, hx, hy⟩ := P9.out.cells
  have Q1 := Lib.hid (P9.out.good)
  clear P9
  obtain ⟨xx0, xx1, xx2, xx3, xx4, _, _, _, _⟩ := Q1.out.cells
  obtain ⟨y0', y1', y2', y3', y4', g0, g1, g2, g3, g4⟩ := Q1.out.ycells
  have HNX := Q1.out.xy
  have FIN := Lib.hid (fun v0 v1 v2 v3 v4 => Q1.out.put v0 v1 v2 v3 v4)
  go_wp2
  refine bodyPost_ret (v := .tuple #[.agg #[.int .u8 4, .slice none 0 0, .int .i64 1, .int .i64 (y), .int .i64 (u)], .bool true]) (by simp [results, Tryz.results150, go_sem, y0', y1', y2', y3', y4']) rfl ?_
  obtain ⟨f1, f2⟩ := FIN.out _ _ _ _ _
  exact ⟨_, _, _, rfl, f1, by omega, by omega, by omega, by omega, f2, rfl, YE.out.symm, UE.out.symm⟩

set_option maxHeartbeats 4000000 in
set_option maxRecDepth 100000 in
theorem rep_n5 (R : Nat) (E : PEnv) (l : Bs) (wd : Bool) (w : World) (h : RdD w R E l wd) (h1 : isB 42 l = none) (h2 : isB 43 l = none) (h3 : isB 63 l = none) (r : Bs) (h4 : isB 123 l = some r) (a : Nat) (r2 : Bs) (h5 : countB r = some (a, r2)) (r3 : Bs) (h6 : isB 44 r2 = some r3) (h7 : isB 125 r3 = none) (b : Nat) (r4 : Bs) (h8 : countB r3 = some (b, r4)) (h9 : ¬ b < a) (h10 : isB 125 r4 = none) :
    Calls Tryz.prog 150 #[.pointer (some ⟨R, 0, none⟩)] w (RepD R E w wd none) := by
  have P0 := Lib.hid (RepIn.start (o := some (l, wd)) h h.lt)
  clear h
  have H1 := Lib.hid h1
  have H2 := Lib.hid h2
  have H3 := Lib.hid h3
  have H4 := Lib.hid h4
  have H5 := Lib.hid h5
  have H6 := Lib.hid h6
  have H7 := Lib.hid h7
  have H8 := Lib.hid h8
  have H10 := Lib.hid h10
  clear h1 h2 h3 h4 h5 h6 h7 h8 h10
  go_enter Tryz.func150, Tryz.ntmps150
  have HI1 := rd7_is R E _ wd 42 _ (by decide) P0.out.rd
  rw [H1.out] at HI1
  simp only [show ((42 : UInt8).toNat : Int) = 42 from rfl, Option.isSome_none, Option.getD_none] at HI1
  have HI1 := Lib.hid HI1
  go_wp2_with fail
  refine HI1.out.mono ?_
  rintro e w1 ⟨rfl, k1, k2⟩
  have P1 := Lib.hid (P0.out.only (o' := some (_, wd)) k2 k1)
  clear k1 k2 HI1 P0
  have HI2 := rd7_is R E _ wd 43 _ (by decide) P1.out.rd
  rw [H2.out] at HI2
  simp only [show ((43 : UInt8).toNat : Int) = 43 from rfl, Option.isSome_none, Option.getD_none] at HI2
  have HI2 := Lib.hid HI2
  go_wp2_with fail
  refine HI2.out.mono ?_
  rintro e w2 ⟨rfl, k1, k2⟩
  have P2 := Lib.hid (P1.out.only (o' := some (_, wd)) k2 k1)
  clear k1 k2 HI2 P1
  have HI3 := rd7_is R E _ wd 63 _ (by decide) P2.out.rd
  rw [H3.out] at HI3
  simp only [show ((63 : UInt8).toNat : Int) = 63 from rfl, Option.isSome_none, Option.getD_none] at HI3
  have HI3 := Lib.hid HI3
  go_wp2_with fail
  refine HI3.out.mono ?_
  rintro e w3 ⟨rfl, k1, k2⟩
  have P3 := Lib.hid (P2.out.only (o' := some (_, wd)) k2 k1)
  clear k1 k2 HI3 P2
  have HI4 := rd7_is R E _ wd 123 _ (by decide) P3.out.rd
  rw [H4.out] at HI4
  simp only [show ((123 : UInt8).toNat : Int) = 123 from rfl, Option.isSome_some, Option.getD_some] at HI4
  have HI4 := Lib.hid HI4
  go_wp2_with fail
  refine HI4.out.mono ?_
  rintro e w4 ⟨rfl, k1, k2⟩
  have P4 := Lib.hid (P3.out.only (o' := some (_, wd)) k2 k1)
  clear k1 k2 HI4 P3
  have HI5 := rd7_count R E _ wd _ P4.out.rd
  rw [H5.out] at HI5
  have HI5 := Lib.hid HI5
  go_wp2_with fail
  refine HI5.out.mono ?_
  rintro e w5 ⟨y, rfl, y0, y1, k1, k2, ye⟩
  have P5 := Lib.hid (P4.out.only (o' := some (_, wd)) k1 k2)
  have YE := Lib.hid ye
  clear k1 k2 ye HI5 P4
  obtain ⟨x0, x1, x2, x3, x4, gx3, gx4, hx, hy⟩ := P5.out.cells
  have Q9 := Lib.hid (P5.out.least y)
  clear P5
  have Q8 := Lib.hid (Q9.out.most y)
  clear Q9
  have HI6 := rd7_is R E _ wd 44 _ (by decide) Q8.out.rd
  rw [H6.out] at HI6
  simp only [show ((44 : UInt8).toNat : Int) = 44 from rfl, Option.isSome_some, Option.getD_some] at HI6
  have HI6 := Lib.hid HI6
  go_wp2_with fail
  refine HI6.out.mono ?_
  rintro e w6 ⟨rfl, k1, k2⟩
  have P6 := Lib.hid (Q8.out.only (o' := some (_, wd)) k2 k1)
  clear k1 k2 HI6 Q8
  clear x0 x1 x2 x3 x4 gx3 gx4 hx hy
  obtain ⟨x0, x1, x2, x3, x4, gx3, gx4, hx, hy⟩ := P6.out.cells
  have Q7 := Lib.hid (P6.out.most (-1))
  clear P6
  have HI7 := rd7_look R E _ wd _ Q7.out.rd
  obtain ⟨z, hz⟩ : ∃ z, lookZ r3 = z := ⟨_, rfl⟩
  have hzn := look_isn (c := 125) (by decide) H7.out
  rw [hz] at HI7 hzn
  simp only [show ((125 : UInt8).toNat : Int) = 125 from rfl] at hzn
  have hz1 : (z != 125) = true := by simpa using hzn
  have HI7 := Lib.hid HI7
  clear hz hzn
  go_wp2_with fail
  refine HI7.out.mono ?_
  rintro e w7 ⟨rfl, k1⟩
  have P7 := Lib.hid (Q7.out.only (Only.of k1) (RdE.below Q7.out.rd k1))
  clear k1 HI7 Q7
  clear x0 x1 x2 x3 x4 gx3 gx4 hx hy
  have HI8 := rd7_count R E _ wd _ P7.out.rd
  rw [H8.out] at HI8
  have HI8 := Lib.hid HI8
  go_wp2_with fail
  refine HI8.out.mono ?_
  rintro e w8 ⟨u, rfl, u0, u1, k1, k2, ue⟩
  have P8 := Lib.hid (P7.out.only (o' := some (_, wd)) k1 k2)
  have UE := Lib.hid ue
  clear k1 k2 ue HI8 P7
  obtain ⟨x0, x1, x2, x3, x4, gx3, gx4, hx, hy⟩ := P8.out.cells
  obtain ⟨hr, r2c, r2f⟩ := P8.out.rcells
  have Q6 := Lib.hid (P8.out.most u)
  clear P8
  have hlt : ¬ u < y := by have := YE.out; have := UE.out; omega
  have hlt3 : decide (u < y) = false := decide_eq_false hlt
  have Q5 := Lib.hid Q6.out.good
  clear Q6
  have HI9 := rd7_is R E _ wd 125 _ (by decide) Q5.out.rd
  rw [H10.out] at HI9
  simp only [show ((125 : UInt8).toNat : Int) = 125 from rfl, Option.isSome_none, Option.getD_none] at HI9
  have HI9 := Lib.hid HI9
  go_wp2_with fail
  refine HI9.out.mono ?_
  rintro e w9 ⟨rfl, k1, k2⟩
  have P9 := Lib.hid (Q5.out.only (o' := some (_, wd)) k2 k1)
  clear k1 k2 HI9 Q5
  clear x0 x1 x2 x3 x4 gx3 gx4 hx hy
  clear hr r2c r2f
  obtain ⟨hr, r2c, r2f⟩ := P9.out.rcells
  obtain ⟨x0, x1, x2, x3, x4, gx3, gx4, hx, hy⟩ := P9.out.cells
  have Q1 := Lib.hid (P9.out.bad)
  clear P9
  obtain ⟨xx0, xx1, xx2, xx3, xx4, _, _, _, _⟩ := Q1.out.cells
  obtain ⟨y0', y1', y2', y3', y4', g0, g1, g2, g3, g4⟩ := Q1.out.ycells
  have HNX := Q1.out.xy
  have FIN := Lib.hid (fun v0 v1 v2 v3 v4 => Q1.out.put v0 v1 v2 v3 v4)
  go_wp2
  refine bodyPost_ret (v := .tuple #[.agg #[.int .u8 4, .slice none 0 0, .int .i64 1, .int .i64 (y), .int .i64 (u)], .bool true]) (by simp [results, Tryz.results150, go_sem, y0', y1', y2', y3', y4']) rfl ?_
  obtain ⟨f1, f2⟩ := FIN.out _ _ _ _ _
  exact ⟨_, _, _, rfl, f1, by omega, by omega, by omega, by omega, f2⟩

/-- What stands behind an atom. -/
theorem rd7_repeat (R : Nat) (E : PEnv) (l : Bs) (wd : Bool) (w : World) (h : RdD w R E l wd) :
    Calls Tryz.prog 150 #[.pointer (some ⟨R, 0, none⟩)] w (RepD R E w wd (oftB l)) := by
  unfold oftB
  cases h1 : isB 42 l with
  | some r => exact rep_star R E l wd w h r h1
  | none =>
  cases h2 : isB 43 l with
  | some r => exact rep_plus R E l wd w h h1 r h2
  | none =>
  cases h3 : isB 63 l with
  | some r => exact rep_opt R E l wd w h h1 h2 r h3
  | none =>
  cases h4 : isB 123 l with
  | none => exact rep_none R E l wd w h h1 h2 h3 h4
  | some r =>
  simp only
  cases h5 : countB r with
  | none => exact rep_n1 R E l wd w h h1 h2 h3 r h4 h5
  | some p =>
  obtain ⟨a, r2⟩ := p
  simp only
  cases h6 : isB 44 r2 with
  | none =>
    simp only
    cases h7 : isB 125 r2 with
    | none => exact rep_n2 R E l wd w h h1 h2 h3 r h4 a r2 h5 h6 h7
    | some r3 => exact rep_exact R E l wd w h h1 h2 h3 r h4 a r2 h5 h6 r3 h7
  | some r3 =>
  simp only
  cases h7 : isB 125 r3 with
  | some r4 => exact rep_open R E l wd w h h1 h2 h3 r h4 a r2 h5 r3 h6 r4 h7
  | none =>
  simp only
  cases h8 : countB r3 with
  | none => exact rep_n3 R E l wd w h h1 h2 h3 r h4 a r2 h5 r3 h6 h7 h8
  | some p =>
  obtain ⟨b, r4⟩ := p
  simp only
  by_cases h9 : b < a
  · rw [if_pos h9]
    exact rep_n4 R E l wd w h h1 h2 h3 r h4 a r2 h5 r3 h6 h7 b r4 h8 h9
  · rw [if_neg h9]
    cases h10 : isB 125 r4 with
    | none => exact rep_n5 R E l wd w h h1 h2 h3 r h4 a r2 h5 r3 h6 h7 b r4 h8 h9 h10
    | some r5 => exact rep_range R E l wd w h h1 h2 h3 r h4 a r2 h5 r3 h6 h7 b r4 h8 h9 r5 h10
end Go.Proofs.YtilhicefhhgecaaGreatDoor

namespace Pv
open Go Go.RowKit
theorem isB_next {l : Bs} {m k : Nat} {c : UInt8} (hx : nextP l = some (m, k)) (hm : m ≠ c.toNat) (hc : c.toNat < 128) : isB c l = none := by
  cases hi : isB c l with
  | none => rfl
  | some r =>
    have := (look_is hc hi).2.1
    rw [hx] at this
    exact absurd (Prod.mk.inj (Option.some.inj this)).1 hm
theorem isB_here {l : Bs} {m k : Nat} {c : UInt8} (hx : nextP l = some (m, k)) (hm : m = c.toNat) (hc : c.toNat < 128) : isB c l = some (l.drop 1) ∧ k = 1 := by
  subst hm
  obtain ⟨rfl, r, rfl⟩ := next_small hx hc
  refine ⟨?_, rfl⟩
  have : UInt8.ofNat c.toNat = c := by simp
  rw [this, isB_hit]
  rfl
theorem atom_point {g : Bs → Bool → Option PR} {l r : Bs} (wd : Bool) (h : isB 46 l = some r) : atomB g l wd = some ([setX [⟨0, 1114111⟩]], r, wd) := by unfold atomB; rw [h]
theorem atom_class {g : Bs → Bool → Option PR} {l r : Bs} (wd : Bool) (h : isB 91 l = some r) : atomB g l wd = classB r wd := by
  have e := isB_some h
  subst e
  unfold atomB
  rw [isB_miss _ (by decide), isB_miss _ (by decide), isB_hit]
theorem atom_esc {g : Bs → Bool → Option PR} {l r : Bs} (wd : Bool) (h : isB 92 l = some r) : atomB g l wd = (escB r).map fun p => ([setX p.1], p.2.2, wd) := by
  have e := isB_some h
  subst e
  unfold atomB
  rw [isB_miss _ (by decide), isB_miss _ (by decide), isB_miss _ (by decide), isB_hit]
theorem atom_else {g : Bs → Bool → Option PR} {l : Bs} (wd : Bool) (h1 : isB 46 l = none) (h2 : isB 40 l = none) (h3 : isB 91 l = none) (h4 : isB 92 l = none) : atomB g l wd = (takeB noneA l).map fun p => ([setX (one1 p.1)], p.2, wd) := by
  unfold atomB
  rw [h1, h2, h3, h4]
theorem mark_noneA : ∀ n, n < 128 → n ≠ 46 → n ≠ 40 → n ≠ 91 → n ≠ 92 → (noneA.contains (UInt8.ofNat n) = (isMark n && decide (n ≠ 45) && decide (n ≠ 94))) := by decide
theorem take_noneA {l : Bs} {m k : Nat} (hx : nextP l = some (m, k)) (h46 : m ≠ 46) (h40 : m ≠ 40) (h91 : m ≠ 91) (h92 : m ≠ 92) : takeB noneA l = if isMark m = true ∧ m ≠ 45 ∧ m ≠ 94 then none else some (m, l.drop k) := by
  unfold takeB
  rw [hx]
  simp only
  by_cases hm : m < 128
  · obtain ⟨rfl, r, rfl⟩ := next_small hx hm
    rw [List.getD_cons_zero, mark_noneA m hm h46 h40 h91 h92]
    by_cases h : isMark m = true ∧ m ≠ 45 ∧ m ≠ 94
    · rw [if_pos h, if_pos]
      simp [h.1, h.2.1, h.2.2]
    · rw [if_neg h, if_neg]
      intro hh
      simp only [decide_true, Bool.true_and, Bool.and_eq_true, decide_eq_true_eq] at hh
      exact h ⟨hh.1.1, hh.1.2, hh.2⟩
  · have hk : k ≠ 1 := fun e => by
      have := nextP_len hx
      rw [e] at this
      unfold bytesP at this
      (repeat' split at this) <;> simp at this
      omega
    rw [if_neg (by simp [hk]), if_neg]
    intro h
    exact hm (mark_lt h.1)
end Pv
namespace Go.Proofs.YtilhicefhhgecaaGreatDoor
open Go.RowKit Pv
/-- What a method that reads nodes leaves. -/
def DoD (R : Nat) (E : PEnv) (w : World) (M : Nat) (o : Option PR) (e : Ending) (w' : World) : Prop := ∃ A n c t, e = .returned (.slice A n c) ∧ OwnRx w' (R + 1) (.slice A n c) t ∧ Only R w w' ∧ 1 ≤ t.length ∧ match o with
  | none => RdX w' R E ∧ t.length ≤ M
  | some (t', r, wd) => t' = t ∧ RdD w' R E r wd
/-- What stands of the document's rows. -/
def RowsD (g : Bs → Bool → Option PR) (F R : Nat) (E : PEnv) : Prop := ∀ (l : Bs) (wd : Bool) (w : World), l.length < F → l.length ≤ 1000 → RdD w R E l wd → Calls Tryz.prog 66 #[.pointer (some ⟨R, 0, none⟩)] w (DoD R E w (5 * l.length + 3) (g l wd))
section
variable {w w' : World} {R : Nat} {E : PEnv} {l r : Bs} {wd : Bool} {s : List Rng} {v : Value} {M : Nat}
/-- One set as nodes. -/
theorem DoD.one {W : World} {n : Nat} (hR : R < w.heap.size) (h : OwnSet W w.heap.size v s) (ho : Only R w W) (hn : W.heap.size = n) (hr : RdD W R E r wd) : DoD R E w M (some ([setX s], r, wd)) (.returned (.slice (some ⟨n, 0, none⟩) 1 1)) (W.alloc (.cells #[.int .u8 1, v, .int .i64 0, .int .i64 0, .int .i64 0] 52)) :=
  ⟨_, _, _, _, rfl, rx_lower (own_self hn (by have := ho.size; omega) h) (by omega), ho.alloc _, by simp, rfl, hr.below ((Below.refl _ _).alloc (Nat.le_refl _) _)⟩
theorem DoD.oneX {W : World} {n : Nat} (hR : R < w.heap.size) (h : OwnSet W w.heap.size v s) (ho : Only R w W) (hn : W.heap.size = n) (hr : RdX W R E) (hM : 1 ≤ M) : DoD R E w M none (.returned (.slice (some ⟨n, 0, none⟩) 1 1)) (W.alloc (.cells #[.int .u8 1, v, .int .i64 0, .int .i64 0, .int .i64 0] 52)) :=
  ⟨_, _, _, _, rfl, rx_lower (own_self hn (by have := ho.size; omega) h) (by omega), ho.alloc _, by simp, hr.below ((Below.refl _ _).alloc (Nat.le_refl _) _), by simpa using hM⟩
theorem span_at {W W' : World} {a b : Int} {g : Nat} (hg : W.heap.size = g) (hW : w.heap.size ≤ W.heap.size) (he : W' = W.alloc (.cells #[.int .i64 a, .int .i64 b] TRg)) (ha : -9223372036854775808 ≤ a ∧ a ≤ 9223372036854775807) (hb : -9223372036854775808 ≤ b ∧ b ≤ 9223372036854775807) : Below W.heap.size W W' ∧ OwnSet W' w.heap.size (.slice (some ⟨g, 0, none⟩) 1 1) [⟨a, b⟩] := by
  subst he
  subst hg
  exact ⟨(Below.refl _ _).alloc (Nat.le_refl _) _, OwnK.lower (span_own ha hb) hW⟩
end

set_option maxHeartbeats 4000000 in
set_option maxRecDepth 100000 in
theorem atd_46 {g : Bs → Bool → Option PR} (R : Nat) (E : PEnv) (l : Bs) (wd : Bool) (w : World) (h : RdD w R E l wd) (_hM : 1 ≤ 5 * l.length - 1) (r : Bs) (hi : isB 46 l = some r) :
    Calls Tryz.prog 149 #[.pointer (some ⟨R, 0, none⟩)] w (DoD R E w (5 * l.length - 1) (atomB g l wd)) := by
  have HD := Lib.hid h
  have hR0 := h.lt
  have HLK := rd7_look R E l wd w h
  rw [atom_point wd hi]
  obtain ⟨hl, hx, rfl⟩ := look_is (c := 46) (by decide) hi
  rw [hl] at HLK
  simp only [show ((46 : UInt8).toNat : Int) = 46 from rfl] at HLK
  have HLK := Lib.hid HLK
  have HX := Lib.hid hx
  have HSP := Lib.hid (fun W => ref07_span 0 1114111 W)
  clear h hi hl hx
  go_enter Tryz.func149, Tryz.ntmps149
  go_wp2_with fail
  refine HLK.out.mono ?_
  rintro e w1 ⟨rfl, hb⟩
  have HO := Lib.hid (Only.of (R := R) hb)
  have hw1 := hb.size
  obtain ⟨i, H1, hR, hi, c1, f1, c2, f2, HN, _, HB2⟩ := (HD.out.below hb).cells
  clear hb
  have HRN := Lib.hid (HN.out _ _ HX.out)
  go_wp2_with fail
  refine (HSP.out _).mono ?_
  rintro e w2 ⟨rfl, he⟩
  obtain ⟨k1, k2⟩ := span_at (w := w) (g := w1.heap.size) (by simp) (by simpa using hw1) he (by omega) (by omega)
  have HO2 := Lib.hid (((HO.out.set 1 _)).then k1); have HS2 := Lib.hid k2; have HR2 := Lib.hid (HRN.out.below k1)
  clear k1 k2 he
  go_wp2
  go_ret
  exact DoD.one hR0 HS2.out HO2.out rfl HR2.out

set_option maxHeartbeats 4000000 in
set_option maxRecDepth 100000 in
theorem atd_91 {g : Bs → Bool → Option PR} (R : Nat) (E : PEnv) (l : Bs) (wd : Bool) (w : World) (h : RdD w R E l wd) (hM : 1 ≤ 5 * l.length - 1) (r : Bs) (hi : isB 91 l = some r) (hll : l.length ≤ 1000) :
    Calls Tryz.prog 149 #[.pointer (some ⟨R, 0, none⟩)] w (DoD R E w (5 * l.length - 1) (atomB g l wd)) := by
  have HD := Lib.hid h
  have hR0 := h.lt
  have HLK := rd7_look R E l wd w h
  rw [atom_class wd hi]
  obtain ⟨hl, hx, rfl⟩ := look_is (c := 91) (by decide) hi
  rw [hl] at HLK
  simp only [show ((91 : UInt8).toNat : Int) = 91 from rfl] at HLK
  have HLK := Lib.hid HLK
  have HX := Lib.hid hx
  have hl1 : (l.drop 1).length ≤ 1000 := by rw [List.length_drop]; omega
  obtain ⟨X, hX⟩ : ∃ X, classB (l.drop 1) wd = X := ⟨_, rfl⟩
  rw [hX]
  have HXX := Lib.hid hX
  clear h hi hl hx hll hX
  go_enter Tryz.func149, Tryz.ntmps149
  go_wp2_with fail
  refine HLK.out.mono ?_
  rintro e w1 ⟨rfl, hb⟩
  have HO := Lib.hid (Only.of (R := R) hb)
  have hw1 := hb.size
  obtain ⟨i, H1, hR, hi, c1, f1, c2, f2, HN, _, HB2⟩ := (HD.out.below hb).cells
  clear hb
  have HCL := rd7_class R E _ wd _ (HN.out _ _ HX.out) hl1
  rw [HXX.out] at HCL
  have HCL := Lib.hid HCL
  have hsz : w.heap.size ≤ (w1.setCell ⟨R, 1, none⟩ (.int .i64 ((i : Int) + 1))).heap.size := by simpa using hw1
  have HSZ := Lib.hid hsz
  clear hsz
  go_wp2_with fail
  refine HCL.out.mono ?_
  rintro e w2 ⟨A, n, c, s, rfl, k1, k2, k3⟩
  have HS2 := Lib.hid (OwnK.lower k1 HSZ.out); have HO2 := Lib.hid ((HO.out.set 1 _).step k2); have K3 := Lib.hid k3
  clear k1 k2 k3
  go_wp2
  go_ret
  cases X with
  | none => exact DoD.oneX hR0 HS2.out HO2.out rfl K3.out hM
  | some p =>
    obtain ⟨t, r, w3⟩ := p
    obtain ⟨rfl, k4⟩ := K3.out
    exact DoD.one hR0 HS2.out HO2.out rfl k4

set_option maxHeartbeats 4000000 in
set_option maxRecDepth 100000 in
theorem atd_92 {g : Bs → Bool → Option PR} (R : Nat) (E : PEnv) (l : Bs) (wd : Bool) (w : World) (h : RdD w R E l wd) (hM : 1 ≤ 5 * l.length - 1) (r : Bs) (hi : isB 92 l = some r) :
    Calls Tryz.prog 149 #[.pointer (some ⟨R, 0, none⟩)] w (DoD R E w (5 * l.length - 1) (atomB g l wd)) := by
  have HD := Lib.hid h
  have hR0 := h.lt
  have HLK := rd7_look R E l wd w h
  rw [atom_esc wd hi]
  obtain ⟨hl, hx, rfl⟩ := look_is (c := 92) (by decide) hi
  rw [hl] at HLK
  simp only [show ((92 : UInt8).toNat : Int) = 92 from rfl] at HLK
  have HLK := Lib.hid HLK
  have HX := Lib.hid hx
  obtain ⟨X, hX⟩ : ∃ X, escB (l.drop 1) = X := ⟨_, rfl⟩
  rw [hX]
  have HXX := Lib.hid hX
  clear h hi hl hx hX
  go_enter Tryz.func149, Tryz.ntmps149
  go_wp2_with fail
  refine HLK.out.mono ?_
  rintro e w1 ⟨rfl, hb⟩
  have HO := Lib.hid (Only.of (R := R) hb)
  have hw1 := hb.size
  obtain ⟨i, H1, hR, hi, c1, f1, c2, f2, HN, _, HB2⟩ := (HD.out.below hb).cells
  clear hb
  have HES := rd7_escape R E _ wd _ (HN.out _ _ HX.out)
  rw [HXX.out] at HES
  have HES := Lib.hid HES
  have HSZ : Hid (w.heap.size ≤ (w1.setCell ⟨R, 1, none⟩ (.int .i64 ((i : Int) + 1))).heap.size) := Lib.hid (by simpa using hw1)
  clear HXX
  go_wp2_with fail
  refine HES.out.mono ?_
  rintro e w2 ⟨z, A, n, c, rfl, k2, k3⟩
  have HO2 := Lib.hid ((HO.out.set 1 _).step k2)
  have hsz2 : w.heap.size ≤ w2.heap.size := HO2.out.size
  have HSP := Lib.hid (fun W => ref07_span z z W)
  clear k2
  rcases hX2 : X with _ | ⟨s, q, r⟩
  · rw [hX2] at k3
    obtain ⟨k4, hn, z0, z1⟩ := k3
    subst hn
    have HR2 := Lib.hid k4
    clear k4
    go_wp2_with fail
    refine (HSP.out _).mono ?_
    rintro e w3 ⟨rfl, he⟩
    obtain ⟨k1, k2⟩ := span_at (w := w) rfl hsz2 he (by omega) (by omega)
    have HO3 := Lib.hid (HO2.out.then k1); have HS3 := Lib.hid k2; have HR3 := Lib.hid (HR2.out.below k1)
    clear k1 k2 he
    go_wp2
    go_ret
    rw [hX2]
    exact DoD.oneX hR0 HS3.out HO3.out rfl HR3.out hM
  rw [hX2] at k3
  cases q with
  | true =>
    obtain ⟨k4, hn, z0, z1, hs⟩ := k3
    subst hn; subst hs
    have HR2 := Lib.hid k4
    clear k4
    go_wp2_with fail
    refine (HSP.out _).mono ?_
    rintro e w3 ⟨rfl, he⟩
    obtain ⟨k1, k2⟩ := span_at (w := w) rfl hsz2 he (by omega) (by omega)
    have HO3 := Lib.hid (HO2.out.then k1); have HS3 := Lib.hid k2; have HR3 := Lib.hid (HR2.out.below k1)
    clear k1 k2 he
    go_wp2
    go_ret
    rw [hX2]
    exact DoD.one hR0 HS3.out HO3.out rfl HR3.out
  | false =>
    obtain ⟨k4, hn, hz, k5⟩ := k3
    have HR2 := Lib.hid k4; have HS2 := Lib.hid (OwnK.lower k5 HSZ.out)
    have hn1 : ((n : Int) == 0) = false := by simp; omega
    have hn2 : ¬ (n : Int) = 0 := by omega
    clear k4 k5
    go_wp2
    go_ret
    rw [hX2]
    exact DoD.one hR0 HS2.out HO2.out rfl HR2.out

set_option maxHeartbeats 4000000 in
set_option maxRecDepth 100000 in
theorem atd_40 {g : Bs → Bool → Option PR} (R : Nat) (E : PEnv) (l : Bs) (wd : Bool) (w : World) (h : RdD w R E l wd) (_hM : 1 ≤ 5 * l.length - 1) (F : Nat) (r : Bs) (hi : isB 40 l = some r) (hll : l.length ≤ 1000) (hF : l.length ≤ F) (hg : RowsD g F R E) (hf : FewG g) :
    Calls Tryz.prog 149 #[.pointer (some ⟨R, 0, none⟩)] w (DoD R E w (5 * l.length - 1) (atomB g l wd)) := by
  have HD := Lib.hid h
  have hR0 := h.lt
  have HLK := rd7_look R E l wd w h
  rw [isB_some hi, atom_grp]
  obtain ⟨hl, hx, rfl⟩ := look_is (c := 40) (by decide) hi
  rw [hl] at HLK
  simp only [show ((40 : UInt8).toNat : Int) = 40 from rfl] at HLK
  have HLK := Lib.hid HLK
  have HX := Lib.hid hx
  have hl0 : 0 < l.length := by rw [isB_some hi]; simp
  have hl1 : (l.drop 1).length ≤ 1000 := by rw [List.length_drop]; omega
  have hl2 : (l.drop 1).length < F := by rw [List.length_drop]; omega
  have hl3 : (40 :: l.drop 1).length = (l.drop 1).length + 1 := rfl
  have HG := Lib.hid hg
  have HF := Lib.hid (hf (l.drop 1) wd)
  have HLL := Lib.hid (show l.length = (l.drop 1).length + 1 by rw [List.length_drop]; omega)
  obtain ⟨X, hX⟩ : ∃ X, g (l.drop 1) wd = X := ⟨_, rfl⟩
  rw [hX]
  have HXX := Lib.hid hX
  clear h hi hl hx hll hF hg hf hX
  go_enter Tryz.func149, Tryz.ntmps149
  go_wp2_with fail
  refine HLK.out.mono ?_
  rintro e w1 ⟨rfl, hb⟩
  have HO := Lib.hid (Only.of (R := R) hb)
  have hw1 := hb.size
  obtain ⟨i, H1, hR, hi, c1, f1, c2, f2, HN, _, HB2⟩ := (HD.out.below hb).cells
  clear hb
  have HRW := HG.out (l.drop 1) wd _ hl2 hl1 (HN.out _ _ HX.out)
  rw [HXX.out] at HRW
  have HRW := Lib.hid HRW
  have HSZ : Hid (w.heap.size ≤ (w1.setCell ⟨R, 1, none⟩ (.int .i64 ((i : Int) + 1))).heap.size) := Lib.hid (by simpa using hw1)
  go_wp2_with fail
  refine HRW.out.mono ?_
  rintro e w2 ⟨A, n, c, t, rfl, k1, k2, k3, k4⟩
  have HT2 := Lib.hid k1; have HO2 := Lib.hid ((HO.out.set 1 _).step k2); have HT1 := Lib.hid k3
  clear k1 k2 k3
  match X, HXX, k4 with
  | none, HXX, ⟨k5, k6⟩ =>
    obtain ⟨_, _, HRX, hR2, d2, e2, _, _, HB, _⟩ := k5.cells
    clear k5
    go_wp2
    go_ret
    exact ⟨A, n, c, t, rfl, keepD_rx ((Only.refl R _).set 2 _) HRX.out.is HT2.out, HO2.out.set 2 _, HT1.out, HB.out, by have := HLL.out; omega⟩
  | some (t', r, w3), HXX, ⟨k5, k6⟩ =>
    subst k5
    have HR2 := Lib.hid k6
    have HTF := Lib.hid ((HF.out _ _ _ HXX.out).2)
    obtain ⟨_, _, hR2, _, _, _, d2, e2, _⟩ := k6.cells
    have HIS := rd7_is R E r w3 41 w2 (by decide) k6
    simp only [show ((41 : UInt8).toNat : Int) = 41 from rfl] at HIS
    clear k6
    cases hi2 : isB 41 r with
    | none =>
      rw [hi2] at HIS
      simp only [Option.isSome_none, Option.getD_none] at HIS
      have HIS := Lib.hid HIS
      have HE : Hid (grpX (some (t', r, w3)) = none) := Lib.hid (by unfold grpX; simp only [hi2]; rfl)
      clear hi2
      go_wp2_with fail
      refine HIS.out.mono ?_
      rintro e w4 ⟨rfl, k1, k2⟩
      obtain ⟨_, HR4, hR4, _, _, _, d4, e4, _, HB, _⟩ := k1.cells
      have HO4 := Lib.hid (HO2.out.step k2); have HT4 := Lib.hid (keepD_rx k2 HR2.out.is HT2.out)
      clear k1 k2
      go_wp2
      go_ret
      rw [HE.out]
      exact ⟨A, n, c, t', rfl, keepD_rx ((Only.refl R _).set 2 _) HR4.out.is HT4.out, HO4.out.set 2 _, HT1.out, HB.out, by have := HTF.out; have := HLL.out; omega⟩
    | some r2 =>
      rw [hi2] at HIS
      simp only [Option.isSome_some, Option.getD_some] at HIS
      have HIS := Lib.hid HIS
      have HE : Hid (grpX (some (t', r, w3)) = some (t', r2, w3)) := Lib.hid (by unfold grpX; simp only [hi2]; rfl)
      clear hi2
      go_wp2_with fail
      refine HIS.out.mono ?_
      rintro e w4 ⟨rfl, k1, k2⟩
      have HR4 := Lib.hid k1
      obtain ⟨_, _, hR4, _, _, _, d4, e4, _⟩ := k1.cells
      have HFF := k1.cell3.2.2.2
      have HO4 := Lib.hid (HO2.out.step k2); have HT4 := Lib.hid (keepD_rx k2 HR2.out.is HT2.out)
      clear k1 k2
      go_wp2
      go_ret
      rw [HE.out]
      exact ⟨A, n, c, t', rfl, keepD_rx ((Only.refl R _).set 2 _) HR4.out.is HT4.out, HO4.out.set 2 _, HT1.out, rfl, HFF.out⟩

set_option maxHeartbeats 4000000 in
set_option maxRecDepth 100000 in
theorem atd_free {g : Bs → Bool → Option PR} (R : Nat) (E : PEnv) (l : Bs) (wd : Bool) (w : World) (h : RdD w R E l wd) (_hM : 1 ≤ 5 * l.length - 1) (m k : Nat) (hx : nextP l = some (m, k)) (hl : lookZ l = (m : Int)) (hm : m ≤ 1114111) (h46 : m ≠ 46) (h40 : m ≠ 40) (h91 : m ≠ 91) (h92 : m ≠ 92) (hk : isMark m = false) :
    Calls Tryz.prog 149 #[.pointer (some ⟨R, 0, none⟩)] w (DoD R E w (5 * l.length - 1) (atomB g l wd)) := by
  have HD := Lib.hid h
  have hR0 := h.lt
  have HLK := rd7_look R E l wd w h
  rw [hl] at HLK
  have HLK := Lib.hid HLK
  have HE : Hid (atomB g l wd = some ([setX (one1 m)], l.drop k, wd)) := Lib.hid (by
    rw [atom_else wd (isB_next hx h46 (by decide)) (isB_next hx h40 (by decide)) (isB_next hx h91 (by decide)) (isB_next hx h92 (by decide)), take_noneA hx h46 h40 h91 h92, if_neg (fun hh => by rw [hh.1] at hk; cases hk)]
    rfl)
  have HMK := Lib.hid (fun W => ref07_mark m W (by omega))
  rw [show isMark m = false from hk] at HMK
  have HSP := Lib.hid (fun W => ref07_span m m W)
  have HX := Lib.hid hx
  have e46 : ((m : Int) == 46) = false := by simp; omega
  have e40 : ((m : Int) == 40) = false := by simp; omega
  have e91 : ((m : Int) == 91) = false := by simp; omega
  have e92 : ((m : Int) == 92) = false := by simp; omega
  have i0 : ¬ (m : Int) < 0 := by omega
  clear h hx hl h46 h40 h91 h92 hk
  go_enter Tryz.func149, Tryz.ntmps149
  go_wp2_with fail
  refine HLK.out.mono ?_
  rintro e w1 ⟨rfl, hb⟩
  have HO := Lib.hid (Only.of (R := R) hb)
  have hw1 := hb.size
  obtain ⟨i, H1, hR, hi, c1, f1, c2, f2, HN, _, HB2⟩ := (HD.out.below hb).cells
  clear hb
  have HRN := Lib.hid (HN.out _ _ HX.out)
  have HSZ : Hid (w.heap.size ≤ (w1.setCell ⟨R, 1, none⟩ (.int .i64 ((i : Int) + 1))).heap.size) := Lib.hid (by simpa using hw1)
  have HSY : Hid (w.heap.size ≤ ((w1.setCell ⟨R, 1, none⟩ (.int .i64 ((i : Int) + 1))).setCell ⟨R, 2, none⟩ (.bool true)).heap.size) := Lib.hid (by simpa using hw1)
  go_wp2_with fail
  refine (HMK.out _).mono ?_
  rintro e w2 ⟨rfl, rfl⟩
  go_wp2_with fail
  refine (HSP.out _).mono ?_
  rintro e w3 ⟨rfl, he⟩
  obtain ⟨k1, k2⟩ := span_at (w := w) (g := w1.heap.size) (by simp) HSZ.out he (by omega) (by omega)
  have HO2 := Lib.hid ((HO.out.set 1 _).then k1); have HS2 := Lib.hid k2; have HR2 := Lib.hid (HRN.out.below k1)
  clear k1 k2 he
  go_wp2
  go_ret
  rw [HE.out]
  exact DoD.one hR0 HS2.out HO2.out rfl HR2.out

set_option maxHeartbeats 4000000 in
set_option maxRecDepth 100000 in
theorem atd_45 {g : Bs → Bool → Option PR} (R : Nat) (E : PEnv) (l : Bs) (wd : Bool) (w : World) (h : RdD w R E l wd) (_hM : 1 ≤ 5 * l.length - 1) (m k : Nat) (hx : nextP l = some (m, k)) (hl : lookZ l = (m : Int)) (hm : m ≤ 1114111) (h46 : m ≠ 46) (h40 : m ≠ 40) (h91 : m ≠ 91) (h92 : m ≠ 92) (hc : m = 45) :
    Calls Tryz.prog 149 #[.pointer (some ⟨R, 0, none⟩)] w (DoD R E w (5 * l.length - 1) (atomB g l wd)) := by
  have HD := Lib.hid h
  have hR0 := h.lt
  have HLK := rd7_look R E l wd w h
  rw [hl] at HLK
  have HLK := Lib.hid HLK
  have HE : Hid (atomB g l wd = some ([setX (one1 m)], l.drop k, wd)) := Lib.hid (by
    rw [atom_else wd (isB_next hx h46 (by decide)) (isB_next hx h40 (by decide)) (isB_next hx h91 (by decide)) (isB_next hx h92 (by decide)), take_noneA hx h46 h40 h91 h92, if_neg (fun hh => by exact hh.2.1 hc)]
    rfl)
  have HMK := Lib.hid (fun W => ref07_mark m W (by omega))
  rw [show isMark m = true from by rw [hc]; decide] at HMK
  have HSP := Lib.hid (fun W => ref07_span m m W)
  have HX := Lib.hid hx
  have e46 : ((m : Int) == 46) = false := by simp; omega
  have e40 : ((m : Int) == 40) = false := by simp; omega
  have e91 : ((m : Int) == 91) = false := by simp; omega
  have e92 : ((m : Int) == 92) = false := by simp; omega
  have e45 : ((m : Int) != 45) = false := by simp; omega
  have i0 : ¬ (m : Int) < 0 := by omega
  clear h hx hl h46 h40 h91 h92 hc
  go_enter Tryz.func149, Tryz.ntmps149
  go_wp2_with fail
  refine HLK.out.mono ?_
  rintro e w1 ⟨rfl, hb⟩
  have HO := Lib.hid (Only.of (R := R) hb)
  have hw1 := hb.size
  obtain ⟨i, H1, hR, hi, c1, f1, c2, f2, HN, _, HB2⟩ := (HD.out.below hb).cells
  clear hb
  have HRN := Lib.hid (HN.out _ _ HX.out)
  have HSZ : Hid (w.heap.size ≤ (w1.setCell ⟨R, 1, none⟩ (.int .i64 ((i : Int) + 1))).heap.size) := Lib.hid (by simpa using hw1)
  have HSY : Hid (w.heap.size ≤ ((w1.setCell ⟨R, 1, none⟩ (.int .i64 ((i : Int) + 1))).setCell ⟨R, 2, none⟩ (.bool true)).heap.size) := Lib.hid (by simpa using hw1)
  go_wp2_with fail
  refine (HMK.out _).mono ?_
  rintro e w2 ⟨rfl, rfl⟩
  go_wp2_with fail
  refine (HSP.out _).mono ?_
  rintro e w3 ⟨rfl, he⟩
  obtain ⟨k1, k2⟩ := span_at (w := w) (g := w1.heap.size) (by simp) HSZ.out he (by omega) (by omega)
  have HO2 := Lib.hid ((HO.out.set 1 _).then k1); have HS2 := Lib.hid k2; have HR2 := Lib.hid (HRN.out.below k1)
  clear k1 k2 he
  go_wp2
  go_ret
  rw [HE.out]
  exact DoD.one hR0 HS2.out HO2.out rfl HR2.out

set_option maxHeartbeats 4000000 in
set_option maxRecDepth 100000 in
theorem atd_94 {g : Bs → Bool → Option PR} (R : Nat) (E : PEnv) (l : Bs) (wd : Bool) (w : World) (h : RdD w R E l wd) (_hM : 1 ≤ 5 * l.length - 1) (m k : Nat) (hx : nextP l = some (m, k)) (hl : lookZ l = (m : Int)) (hm : m ≤ 1114111) (h46 : m ≠ 46) (h40 : m ≠ 40) (h91 : m ≠ 91) (h92 : m ≠ 92) (hc : m = 94) :
    Calls Tryz.prog 149 #[.pointer (some ⟨R, 0, none⟩)] w (DoD R E w (5 * l.length - 1) (atomB g l wd)) := by
  have HD := Lib.hid h
  have hR0 := h.lt
  have HLK := rd7_look R E l wd w h
  rw [hl] at HLK
  have HLK := Lib.hid HLK
  have HE : Hid (atomB g l wd = some ([setX (one1 m)], l.drop k, wd)) := Lib.hid (by
    rw [atom_else wd (isB_next hx h46 (by decide)) (isB_next hx h40 (by decide)) (isB_next hx h91 (by decide)) (isB_next hx h92 (by decide)), take_noneA hx h46 h40 h91 h92, if_neg (fun hh => by exact hh.2.2 hc)]
    rfl)
  have HMK := Lib.hid (fun W => ref07_mark m W (by omega))
  rw [show isMark m = true from by rw [hc]; decide] at HMK
  have HSP := Lib.hid (fun W => ref07_span m m W)
  have HX := Lib.hid hx
  have e46 : ((m : Int) == 46) = false := by simp; omega
  have e40 : ((m : Int) == 40) = false := by simp; omega
  have e91 : ((m : Int) == 91) = false := by simp; omega
  have e92 : ((m : Int) == 92) = false := by simp; omega
  have e94 : ((m : Int) != 94) = false := by simp; omega
  have e45 : ((m : Int) != 45) = true := by simp; omega
  have i0 : ¬ (m : Int) < 0 := by omega
  clear h hx hl h46 h40 h91 h92 hc
  go_enter Tryz.func149, Tryz.ntmps149
  go_wp2_with fail
  refine HLK.out.mono ?_
  rintro e w1 ⟨rfl, hb⟩
  have HO := Lib.hid (Only.of (R := R) hb)
  have hw1 := hb.size
  obtain ⟨i, H1, hR, hi, c1, f1, c2, f2, HN, _, HB2⟩ := (HD.out.below hb).cells
  clear hb
  have HRN := Lib.hid (HN.out _ _ HX.out)
  have HSZ : Hid (w.heap.size ≤ (w1.setCell ⟨R, 1, none⟩ (.int .i64 ((i : Int) + 1))).heap.size) := Lib.hid (by simpa using hw1)
  have HSY : Hid (w.heap.size ≤ ((w1.setCell ⟨R, 1, none⟩ (.int .i64 ((i : Int) + 1))).setCell ⟨R, 2, none⟩ (.bool true)).heap.size) := Lib.hid (by simpa using hw1)
  go_wp2_with fail
  refine (HMK.out _).mono ?_
  rintro e w2 ⟨rfl, rfl⟩
  go_wp2_with fail
  refine (HSP.out _).mono ?_
  rintro e w3 ⟨rfl, he⟩
  obtain ⟨k1, k2⟩ := span_at (w := w) (g := w1.heap.size) (by simp) HSZ.out he (by omega) (by omega)
  have HO2 := Lib.hid ((HO.out.set 1 _).then k1); have HS2 := Lib.hid k2; have HR2 := Lib.hid (HRN.out.below k1)
  clear k1 k2 he
  go_wp2
  go_ret
  rw [HE.out]
  exact DoD.one hR0 HS2.out HO2.out rfl HR2.out

set_option maxHeartbeats 4000000 in
set_option maxRecDepth 100000 in
theorem atd_mark {g : Bs → Bool → Option PR} (R : Nat) (E : PEnv) (l : Bs) (wd : Bool) (w : World) (h : RdD w R E l wd) (hM : 1 ≤ 5 * l.length - 1) (m k : Nat) (hx : nextP l = some (m, k)) (hl : lookZ l = (m : Int)) (hm : m ≤ 1114111) (h46 : m ≠ 46) (h40 : m ≠ 40) (h91 : m ≠ 91) (h92 : m ≠ 92) (hk : isMark m = true) (h45 : m ≠ 45) (h94 : m ≠ 94) :
    Calls Tryz.prog 149 #[.pointer (some ⟨R, 0, none⟩)] w (DoD R E w (5 * l.length - 1) (atomB g l wd)) := by
  have HD := Lib.hid h
  have hR0 := h.lt
  have HLK := rd7_look R E l wd w h
  rw [hl] at HLK
  have HLK := Lib.hid HLK
  have HE : Hid (atomB g l wd = none) := Lib.hid (by
    rw [atom_else wd (isB_next hx h46 (by decide)) (isB_next hx h40 (by decide)) (isB_next hx h91 (by decide)) (isB_next hx h92 (by decide)), take_noneA hx h46 h40 h91 h92, if_pos ⟨hk, h45, h94⟩]
    rfl)
  have HMK := Lib.hid (fun W => ref07_mark m W (by omega))
  rw [show isMark m = true from hk] at HMK
  have HSP := Lib.hid (fun W => ref07_span m m W)
  have HX := Lib.hid hx
  have e46 : ((m : Int) == 46) = false := by simp; omega
  have e40 : ((m : Int) == 40) = false := by simp; omega
  have e91 : ((m : Int) == 91) = false := by simp; omega
  have e92 : ((m : Int) == 92) = false := by simp; omega
  have e45 : ((m : Int) != 45) = true := by simp; omega
  have e94 : ((m : Int) != 94) = true := by simp; omega
  have i0 : ¬ (m : Int) < 0 := by omega
  clear h hx hl h46 h40 h91 h92 hk h45 h94
  go_enter Tryz.func149, Tryz.ntmps149
  go_wp2_with fail
  refine HLK.out.mono ?_
  rintro e w1 ⟨rfl, hb⟩
  have HO := Lib.hid (Only.of (R := R) hb)
  have hw1 := hb.size
  obtain ⟨i, H1, hR, hi, c1, f1, c2, f2, HN, _, HB2⟩ := (HD.out.below hb).cells
  clear hb
  have HRN := Lib.hid (HN.out _ _ HX.out)
  have HSZ : Hid (w.heap.size ≤ (w1.setCell ⟨R, 1, none⟩ (.int .i64 ((i : Int) + 1))).heap.size) := Lib.hid (by simpa using hw1)
  have HSY : Hid (w.heap.size ≤ ((w1.setCell ⟨R, 1, none⟩ (.int .i64 ((i : Int) + 1))).setCell ⟨R, 2, none⟩ (.bool true)).heap.size) := Lib.hid (by simpa using hw1)
  go_wp2_with fail
  refine (HMK.out _).mono ?_
  rintro e w2 ⟨rfl, rfl⟩
  go_wp2_with fail
  refine (HSP.out _).mono ?_
  rintro e w3 ⟨rfl, he⟩
  obtain ⟨k1, k2⟩ := span_at (w := w) (g := w1.heap.size) (by simp) HSY.out he (by omega) (by omega)
  have HO2 := Lib.hid (((HO.out.set 1 _).set 2 _).then k1); have HS2 := Lib.hid k2; have HR2 := Lib.hid (HB2.out.below k1)
  clear k1 k2 he
  go_wp2
  go_ret
  rw [HE.out]
  exact DoD.oneX hR0 HS2.out HO2.out rfl HR2.out hM
/-- An atom. -/
theorem rd7_atom {g : Bs → Bool → Option PR} {F R : Nat} {E : PEnv} {l : Bs} {wd : Bool} {w : World} (h : RdD w R E l wd) (h0 : l ≠ []) (hl : l.length ≤ 1000) (hF : l.length ≤ F) (hg : RowsD g F R E) (hf : FewG g) :
    Calls Tryz.prog 149 #[.pointer (some ⟨R, 0, none⟩)] w (DoD R E w (5 * l.length - 1) (atomB g l wd)) := by
  have hM : 1 ≤ 5 * l.length - 1 := by have := List.length_pos_iff.2 h0; omega
  rcases h.next with ⟨rfl, hx, hz⟩ | ⟨m, k, hx, hz, hm⟩
  · exact absurd rfl h0
  · by_cases h46 : m = 46
    · exact atd_46 R E l wd w h hM _ (isB_here (c := 46) hx h46 (by decide)).1
    by_cases h40 : m = 40
    · exact atd_40 R E l wd w h hM F _ (isB_here (c := 40) hx h40 (by decide)).1 hl hF hg hf
    by_cases h91 : m = 91
    · exact atd_91 R E l wd w h hM _ (isB_here (c := 91) hx h91 (by decide)).1 hl
    by_cases h92 : m = 92
    · exact atd_92 R E l wd w h hM _ (isB_here (c := 92) hx h92 (by decide)).1
    cases hk : isMark m with
    | false => exact atd_free R E l wd w h hM m k hx hz hm h46 h40 h91 h92 hk
    | true =>
      by_cases h45 : m = 45
      · exact atd_45 R E l wd w h hM m k hx hz hm h46 h40 h91 h92 h45
      by_cases h94 : m = 94
      · exact atd_94 R E l wd w h hM m k hx hz hm h46 h40 h91 h92 h94
      exact atd_mark R E l wd w h hM m k hx hz hm h46 h40 h91 h92 hk h45 h94
end Go.Proofs.YtilhicefhhgecaaGreatDoor

namespace Pv
open Go Go.RowKit
theorem flat_take {α : Type} {ll : List (List α)} {i : Nat} {t : List α} (h : ll[i]? = some t) : (ll.take (i + 1)).flatten = (ll.take i).flatten ++ t := by
  rw [take_snoc h, List.flatten_append]
  simp
theorem flat_take_le {α : Type} (ll : List (List α)) (i : Nat) : (ll.take i).flatten.length ≤ ll.flatten.length := by
  conv => rhs; rw [← List.take_append_drop i ll, List.flatten_append, List.length_append]
  omega
end Pv
namespace Go.Proofs.YtilhicefhhgecaaGreatDoor
open Go.RowKit Pv
set_option maxHeartbeats 1000000 in
set_option maxRecDepth 100000 in
theorem rd7_put0 (k : Int) (A : Option Addr) (c b : Nat) (w : World) (hb : b ≤ w.heap.size) : Calls Tryz.prog 106 #[.int .u8 k, .slice A 0 c] w (RxP w b [⟨0, [], 0, 0, 0⟩]) := by
  have HB := Lib.hid hb
  clear hb
  go_enter Tryz.func106, Tryz.ntmps106
  go_wp2
  go_ret
  exact ⟨_, _, _, rfl, ⟨_, _, _, rfl, own_five w b _ _ _ _ _ _ HB.out, rx_node OwnK.nil (by omega) (by omega) (by omega) (by omega)⟩, (Below.refl _ _).alloc (Nat.le_refl _) _⟩

set_option maxHeartbeats 1000000 in
set_option maxRecDepth 100000 in
theorem rd7_put1 (k : Int) (v : Value) (B b : Nat) (t : List Rx) (w : World) (h : OwnRows w B b v [t]) : Calls Tryz.prog 106 #[.int .u8 k, v] w (RxP w b t) := by
  obtain ⟨g, n, c, u, rfl, hn, hg, hc, hu⟩ := rows_get (k := 0) h rfl
  simp only [List.length_singleton] at hn
  subst hn
  have hu2 := hu
  obtain ⟨A', c', us, rfl, _, _⟩ := hu2
  have HU := Lib.hid hu
  clear hu h
  go_enter Tryz.func106, Tryz.ntmps106
  go_wp2
  go_ret
  exact ⟨_, _, _, rfl, HU.out, Below.refl _ _⟩

set_option maxHeartbeats 4000000 in
set_option maxRecDepth 100000 in
theorem rd7_put2 (k : Int) (A : Option Addr) (c n B b : Nat) (ll : List (List Rx)) (w : World) (h : OwnRows w B b (.slice A n c) ll) (HL : Hid (ll.length = n)) (HM : Hid (ll.flatten.length ≤ 20000)) (hb : b ≤ w.heap.size) (hn : 2 ≤ n) (h3 : n ≤ 20000) (hk : 0 ≤ k ∧ k ≤ 255) :
    Calls Tryz.prog 106 #[.int .u8 k, .slice A n c] w (RxP w b (⟨k, [], n, 0, 0⟩ :: ll.flatten)) := by
  obtain ⟨i0, hi0, hz0, hs0, hb0⟩ := info_parts info_rx
  have e0 : ((n : Int) == 0) = false := by simp; omega
  have e1 : ((n : Int) == 1) = false := by simp; omega
  have HB := Lib.hid hb; have HK := Lib.hid hk; have HR := Lib.hid h
  have HO0 := Lib.hid (own_five w w.heap.size TNx (.int .u8 k) (.slice none 0 0) (.int .i64 n) (.int .i64 0) (.int .i64 0) (Nat.le_refl _))
  have HB0 := Lib.hid ((Below.refl w.heap.size w).alloc (Nat.le_refl _) (.cells #[.int .u8 k, .slice none 0 0, .int .i64 n, .int .i64 0, .int .i64 0] TNx))
  clear h hb hk
  go_enter Tryz.func106, Tryz.ntmps106
  go_wp2
  go_loopw [5, 6] (fun ov iv W => ∃ (i m d : Nat) (C : Option Addr) (us : List Value), ov = .slice C m d ∧ iv = .int .i64 i ∧ i ≤ n ∧ m ≤ 20001 ∧ Hid (m = 1 + (ll.take i).flatten.length) ∧ Hid (W.ownsRow w.heap.size TNx 5 (.slice C m d) m us) ∧ Hid (RelK 5 (ORx W b) us (⟨k, [], n, 0, 0⟩ :: (ll.take i).flatten)) ∧ Hid (Below w.heap.size w W)) (fun _ iv _ => n - (intOf iv).toNat)
  case atStart => exact ⟨0, 1, 1, _, _, rfl, rfl, by omega, by omega, Lib.hid rfl, HO0, Lib.hid (rx_node OwnK.nil HK.out (by omega) (by omega) (by omega)), HB0⟩
  case round =>
    clear HO0 HB0
    obtain ⟨i, m, d, C, us, rfl, rfl, hi, hm, HMM, HO, HRL, HW⟩ := hrel
    by_cases hlt : i < n
    · obtain ⟨t, ht⟩ : ∃ t, ll[i]? = some t := ⟨_, List.getElem?_eq_getElem (by rw [HL.out]; exact hlt)⟩
      obtain ⟨g, n', c', u, hv, hn', hg, hc, hu⟩ := rows_get (k := i) (rows_below HR.out HW.out) ht
      injection hv with v1 v2 v3
      subst v1; subst v3
      clear v2 hn'
      obtain ⟨A2, c2, vs0, rfl, ho2, hr2⟩ := id hu
      obtain ⟨_, hat⟩ := AtK.of_own ho2 hr2 rfl (by have h1 := flat_take_le ll (i + 1); rw [flat_take ht, List.length_append] at h1; have := HM.out; omega)
      obtain ⟨vs, hrv, hsrc⟩ := AtK.src hat (fun _ _ h => h.one)
      have HFT := Lib.hid (flat_take ht)
      have hle := flat_take_le ll (i + 1)
      rw [HFT.out, List.length_append] at hle
      obtain ⟨q, hq⟩ : ∃ q, t.length = q := ⟨_, rfl⟩
      have HQ := Lib.hid hq
      rw [hq] at hsrc hle hc
      have SRA := Lib.hid hsrc; have RV := Lib.hid hrv
      have hbig : m + q ≤ 20001 := by have := HMM.out; have := HM.out; omega
      have Q1 : Hid (m + q ≤ maxLen) := Lib.hid (by simp only [maxLen]; omega)
      have Q2 : Hid ((m + q) * 56 ≤ 140737488355328) := Lib.hid (by omega)
      have hsz := HW.out.size
      have i1 : (i : Int) < (n : Int) := by omega
      clear hu ho2 hr2 hat hsrc hrv ht hq hle
      go_wp2_with (first
      | (at_builtin
         go_must (refine wpList_append_src _ rfl (.tmp 29) (.tmp 33) 29 rfl w.heap.size TNx i0 _ 5 56 Tryz.underlying29 hi0 hz0 hs0 hb0 rfl (by decide) C d m _ rfl HO.out A2 q c2 _ rfl SRA.out Q1.out Q2.out hsz ?_)
         intro A9 c9 w9 own9 gr9 _
         have HO9 := Lib.hid own9; have HG9 := Lib.hid gr9
         clear own9 gr9))
      go_roundw
      case rel =>
        exact ⟨i + 1, m + q, c9, A9, _, rfl, by go_num, by omega, hbig, Lib.hid (by rw [HFT.out, List.length_append, HQ.out]; have := HMM.out; omega), HO9,
          Lib.hid (by
            rw [HFT.out]
            exact ((HRL.out).app RV.out).mono fun f x _ hx => hx.up fun _ _ hs => OwnK.grown hs HO.out (by decide) HG9.out),
          Lib.hid (HW.out.grown HG9.out hsz (fun g hg => (HO.out.lt g hg).1))⟩
      case measure => simp [intOf]; omega
    · obtain rfl : i = n := by omega
      have HTA : Hid ((ll.take i).flatten = ll.flatten) := Lib.hid (by rw [List.take_of_length_le (by rw [HL.out]; exact Nat.le_refl _)])
      go_wp2
      go_ret
      refine ⟨_, _, _, rfl, ?_, HW.out⟩
      have hl : (⟨k, [], i, 0, 0⟩ :: ll.flatten : List Rx).length = m := by rw [List.length_cons, ← HTA.out]; have := HMM.out; omega
      refine OwnK.lower (base := w.heap.size) ?_ HB.out
      exact ⟨C, d, _, by rw [hl], by rw [hl]; exact HO.out, by rw [← HTA.out]; exact HRL.out⟩
/-- Lists of nodes as one. -/
theorem rd7_put (k : Int) (v : Value) (B b : Nat) (ll : List (List Rx)) (w : World) (h : OwnRows w B b v ll) (hb : b ≤ w.heap.size) (hl : ∀ p, p ∈ ll → 1 ≤ p.length) (hm : ll.flatten.length ≤ 20000) (hk : 0 ≤ k ∧ k ≤ 255) :
    Calls Tryz.prog 106 #[.int .u8 k, v] w (RxP w b (putB k ll)) := by
  match ll, h, hl, hm with
  | [], h, _, _ =>
    obtain ⟨A, c, us, rfl, _, _⟩ := rows_shape h
    exact rd7_put0 k A c b w hb
  | [t], h, _, _ => exact rd7_put1 k v B b t w h
  | p :: q :: ll, h, hl, hm =>
    have h3 := flat_ge hl
    have h4 : (p :: q :: ll).length = ll.length + 2 := rfl
    obtain ⟨A, c, us, rfl, _, _⟩ := rows_shape h
    exact rd7_put2 k A c _ B b _ w h (Lib.hid rfl) (Lib.hid hm) hb (by omega) (by omega) hk
end Go.Proofs.YtilhicefhhgecaaGreatDoor

namespace Pv
open Go Go.RowKit
theorem pieces_stop {g : Bs → Bool → Option PR} {f : Nat} {l : Bs} {wd : Bool} {acc : List (List Rx)} (h : stopB l = true) : piecesB g (f + 1) l wd acc = some (acc, l, wd) := by unfold piecesB; rw [h]; rfl
theorem pieces_no {g : Bs → Bool → Option PR} {f : Nat} {l : Bs} {wd : Bool} {acc : List (List Rx)} (h : stopB l = false) (h1 : pieceB g l wd = none) : piecesB g (f + 1) l wd acc = none := by unfold piecesB; rw [h, h1]; rfl
theorem pieces_on {g : Bs → Bool → Option PR} {f : Nat} {l r : Bs} {wd w2 : Bool} {acc : List (List Rx)} {t : List Rx} (h : stopB l = false) (h1 : pieceB g l wd = some (t, r, w2)) : piecesB g (f + 1) l wd acc = piecesB g f r w2 (acc ++ [t]) := by
  conv => lhs; unfold piecesB
  rw [h, h1]
  rfl
theorem piece_n1 {g : Bs → Bool → Option PR} {l : Bs} {wd : Bool} (h : atomB g l wd = none) : pieceB g l wd = none := by unfold pieceB; rw [h]
theorem piece_n2 {g : Bs → Bool → Option PR} {l r : Bs} {wd w2 : Bool} {t : List Rx} (h : atomB g l wd = some (t, r, w2)) (h2 : oftB r = none) : pieceB g l wd = none := by unfold pieceB; rw [h]; simp only [h2]
theorem piece_0 {g : Bs → Bool → Option PR} {l r r2 : Bs} {wd w2 : Bool} {t : List Rx} (h : atomB g l wd = some (t, r, w2)) (h2 : oftB r = some (none, r2)) : pieceB g l wd = some (t, r2, w2) := by unfold pieceB; rw [h]; simp only [h2]
theorem piece_1 {g : Bs → Bool → Option PR} {l r r2 : Bs} {wd w2 : Bool} {t : List Rx} {a b : Int} (h : atomB g l wd = some (t, r, w2)) (h2 : oftB r = some (some (a, b), r2)) : pieceB g l wd = some (⟨4, [], 1, a, b⟩ :: t, r2, w2) := by unfold pieceB; rw [h]; simp only [h2]
theorem look_stop {l : Bs} {m k : Nat} (hx : nextP l = some (m, k)) : stopB l = (decide (m = 124) || decide (m = 41)) := by
  have h1 := look_b (l := l) (c := 124) (by decide)
  have h2 := look_b (l := l) (c := 41) (by decide)
  have hl : lookZ l = (m : Int) := by unfold lookZ; rw [hx]
  rw [hl] at h1 h2
  cases l with
  | nil => rw [nextP_nil] at hx; cases hx
  | cons b r =>
    have e1 : decide (m = 124) = decide (b = 124) := by
      by_cases hb : b = 124
      · subst hb
        rw [isB_hit] at h1
        have : m = 124 := by
          have := of_decide_eq_true (p := ((m : Int) = ((124 : UInt8).toNat : Int))) h1
          have h9 : ((124 : UInt8).toNat : Int) = 124 := rfl
          omega
        simp [this]
      · rw [isB_miss _ hb] at h1
        have : m ≠ 124 := fun e => by rw [e] at h1; exact absurd h1 (by decide)
        simp [this, hb]
    have e2 : decide (m = 41) = decide (b = 41) := by
      by_cases hb : b = 41
      · subst hb
        rw [isB_hit] at h2
        have : m = 41 := by
          have := of_decide_eq_true (p := ((m : Int) = ((41 : UInt8).toNat : Int))) h2
          have h9 : ((41 : UInt8).toNat : Int) = 41 := rfl
          omega
        simp [this]
      · rw [isB_miss _ hb] at h2
        have : m ≠ 41 := fun e => by rw [e] at h2; exact absurd h2 (by decide)
        simp [this, hb]
    rw [e1, e2]
    rfl
end Pv
namespace Go.Proofs.YtilhicefhhgecaaGreatDoor
open Go.RowKit Pv
section
variable {w W W' : World} {R b : Nat} {E : PEnv} {l : Bs} {wd : Bool} {o : Option (Bs × Bool)} {v : Value} {t : List Rx} {ac : List (List Rx)}
theorem RdE.grown {B n s : Nat} {e : TypeId} {rv : Value} {us : List Value} (h : RdE W R E o) (ho : W.ownsRow B e s rv n us) (he : e ≠ TRw) (he2 : 3 ≠ e) (gr : W.grownBy W' rv.ownBlock) : RdE W' R E o := by
  match o, h with
  | some (l, wd), ⟨h0, i, hk, hi, hp⟩ => exact ⟨⟨h0.own.kept gr (own_ne h0.own ho he2), h0.few, h0.bd⟩, i, hk.grown gr (own_blk_ne ho hk he), hi, hp⟩
  | none, ⟨h0, i, wd, hk, hi⟩ => exact ⟨⟨h0.own.kept gr (own_ne h0.own ho he2), h0.few, h0.bd⟩, i, wd, hk.grown gr (own_blk_ne ho hk he), hi⟩
theorem keepD_rows {B : Nat} (k : Only R W W') (hr : IsRd W R) (h : OwnRows W B b v ac) : OwnRows W' B b v ac := by
  obtain ⟨A, c, us, rfl, h1, h2⟩ := h
  obtain ⟨_, hb⟩ := id hr
  exact ⟨A, c, us, rfl, k.own hb (by decide) h1, h2.mono fun _ _ h => keepD_rx k hr h⟩
end
theorem src_one_at {w : World} {x : Value} {t : TypeId} {g : Nat} (h : x.oneCell' = true) (hg : w.heap.size = g) : Pv.Src (w.alloc (.cells #[x] t)) (some ⟨g, 0, none⟩) 1 1 [x] := by
  subst hg
  exact Pv.Src.one (w := w) (x := x) (t := t) h
/-- Where the reader of a row stands. -/
def RowSt (g : Bs → Bool → Option PR) (R : Nat) (E : PEnv) (L : Nat) (X : Option (List (List Rx) × Bs × Bool)) (W : World) (ac : List (List Rx)) : Prop :=
  (∃ cur wc f, RdD W R E cur wc ∧ cur.length < f ∧ piecesB g f cur wc ac = X ∧ ac.flatten.length + 3 * cur.length ≤ 3 * L ∧ cur.length ≤ L) ∨ (RdX W R E ∧ X = none ∧ ac.flatten.length ≤ 5 * L)

set_option maxHeartbeats 16000000 in
set_option maxRecDepth 100000 in
theorem rd7_row {g : Bs → Bool → Option PR} {F R : Nat} {E : PEnv} {l : Bs} {wd : Bool} {w : World} (h : RdD w R E l wd) (hl : l.length ≤ 1000) (hF : l.length ≤ F) (hg : RowsD g F R E) (hf : FewG g) :
    Calls Tryz.prog 104 #[.pointer (some ⟨R, 0, none⟩)] w (DoD R E w (5 * l.length + 1) ((piecesB g (l.length + 1) l wd []).map fun p => (putB 2 p.1, p.2.1, p.2.2))) := by
  obtain ⟨i0, hi0, hz0, hs0, hb0⟩ := info_parts info_rx
  obtain ⟨j0, hj0, hjz, hjs, hjb⟩ := info_parts info_rl
  obtain ⟨X, hX⟩ : ∃ X, piecesB g (l.length + 1) l wd [] = X := ⟨_, rfl⟩
  have HX0 := Lib.hid hX
  rw [hX]
  have HRD := Lib.hid h; have HG := Lib.hid hg; have HF := Lib.hid hf
  have HPF : Hid (∀ ps r w2, X = some (ps, r, w2) → ps.flatten.length + 3 * r.length ≤ 3 * l.length) := Lib.hid (fun ps r w2 e => by
    have := (piecesG_few hf _ (hX.trans e) (by simp)).2
    simp only [List.flatten_nil, List.length_nil, Nat.mul_zero, Nat.add_zero] at this
    omega)
  have hR0 := h.lt
  clear h hX hg hf
  go_enter Tryz.func104, Tryz.ntmps104
  go_wp2
  go_loopw [3] (fun lv W => ∃ (ac : List (List Rx)) (m c : Nat) (A : Option Addr), lv = .slice A m c ∧ m ≤ 5000 ∧ Hid (OwnRows W w.heap.size (R + 1) (.slice A m c) ac) ∧ Hid (ac.length = m) ∧ Hid (Only R w W) ∧ Hid (∀ p, p ∈ ac → 1 ≤ p.length) ∧ Hid (RowSt g R E l.length X W ac)) (fun _ W => dLen E W R)
  case atStart => exact ⟨[], 0, 0, none, rfl, by omega, Lib.hid (OwnRows.nil _ _ _), Lib.hid rfl, Lib.hid (Only.refl R w), Lib.hid (by simp), Lib.hid (.inl ⟨l, wd, _, HRD.out, Nat.lt_succ_self _, HX0.out, by simp, Nat.le_refl _⟩)⟩
  case round =>
    clear HRD HX0
    obtain ⟨ac, m, c, A, rfl, _, HOR, HM, HON, HL1, HST⟩ := hrel
    have hmf : m ≤ ac.flatten.length := by rw [← HM.out]; exact flat_ge HL1.out
    rcases HST.out with ⟨cur, wc, f', hrd, hfl, hpx, hbd, hcl⟩ | ⟨hrx, hxn, hbd⟩
    · obtain ⟨f2, rfl⟩ : ∃ f2, f' = f2 + 1 := ⟨f' - 1, by omega⟩
      have HRD := Lib.hid hrd; have HPX := Lib.hid hpx
      have HLK := Lib.hid (fun W (h : RdD W R E cur wc) => rd7_look R E cur wc W h)
      have hnx := hrd.next
      clear HST hrd hpx
      rcases hnx with ⟨rfl, _, hlk⟩ | ⟨k0, kk, hnx, hlk, hk0⟩
      · -- the end
        rw [hlk] at HLK
        have HXE : Hid (X = some (ac, [], wc)) := Lib.hid (by rw [← HPX.out]; exact pieces_stop rfl)
        have HL2 := Lib.hid (HLK.out _ HRD.out)
        clear hlk
        go_wp2_with fail
        refine HL2.out.mono ?_
        rintro e wt ⟨rfl, k1⟩
        have HRT := Lib.hid (HRD.out.below k1); have HOT := Lib.hid (HON.out.then k1); have HALT := Lib.hid (rows_below HOR.out k1)
        clear k1
        have hszt := HOT.out.size
        have HPT := Lib.hid (rd7_put 2 _ w.heap.size (R + 1) _ wt HALT.out (by omega) HL1.out (by omega) (by omega))
        go_wp2_with fail
        refine HPT.out.mono ?_
        rintro e w6 ⟨B6, q6, d6, rfl, k1, k2⟩
        have K1 := Lib.hid k1; have K2 := Lib.hid k2
        clear k1 k2
        go_wp2
        go_ret
        rw [HXE.out]
        exact ⟨B6, q6, d6, _, rfl, K1.out, HOT.out.then K2.out, (putB_len 2 _ HL1.out).1, rfl, HRT.out.below K2.out⟩
      · have hstop := look_stop hnx
        have hne : cur ≠ [] := fun e => by rw [e, nextP_nil] at hnx; cases hnx
        have hcp := List.length_pos_iff.2 hne
        have i0' : (0 : Int) ≤ (k0 : Int) := by omega
        rw [hlk] at HLK
        clear hlk hnx
        by_cases h124 : k0 = 124
        · subst h124
          have HXE : Hid (X = some (ac, cur, wc)) := Lib.hid (by rw [← HPX.out]; exact pieces_stop (by rw [hstop]; rfl))
          have HL2 := Lib.hid (HLK.out _ HRD.out)
          simp only [Int.cast_ofNat_Int] at HL2 HLK
          clear hstop
          go_wp2_with fail
          refine HL2.out.mono ?_
          rintro e w1 ⟨rfl, k1⟩
          have HR1 := Lib.hid (HRD.out.below k1); have HO1 := Lib.hid (HON.out.then k1); have HA1 := Lib.hid (rows_below HOR.out k1)
          have HL3 := Lib.hid (HLK.out _ HR1.out)
          clear k1
          go_wp2_with fail
          refine HL3.out.mono ?_
          rintro e wt ⟨rfl, k1⟩
          have HRT := Lib.hid (HR1.out.below k1); have HOT := Lib.hid (HO1.out.then k1); have HALT := Lib.hid (rows_below HA1.out k1)
          clear k1
          have hszt := HOT.out.size
          have HPT := Lib.hid (rd7_put 2 _ w.heap.size (R + 1) _ wt HALT.out (by omega) HL1.out (by omega) (by omega))
          go_wp2_with fail
          refine HPT.out.mono ?_
          rintro e w6 ⟨B6, q6, d6, rfl, k1, k2⟩
          have K1 := Lib.hid k1; have K2 := Lib.hid k2
          clear k1 k2
          go_wp2
          go_ret
          rw [HXE.out]
          exact ⟨B6, q6, d6, _, rfl, K1.out, HOT.out.then K2.out, (putB_len 2 _ HL1.out).1, rfl, HRT.out.below K2.out⟩
        · have e124 : ((k0 : Int) != 124) = true := by simp; omega
          have HL2 := Lib.hid (HLK.out _ HRD.out)
          by_cases h41 : k0 = 41
          · subst h41
            have HXE : Hid (X = some (ac, cur, wc)) := Lib.hid (by rw [← HPX.out]; exact pieces_stop (by rw [hstop]; rfl))
            simp only [Int.cast_ofNat_Int] at HL2 HLK e124 i0'
            clear hstop h124 e124 i0'
            go_wp2_with fail
            refine HL2.out.mono ?_
            rintro e w1 ⟨rfl, k1⟩
            have HR1 := Lib.hid (HRD.out.below k1); have HO1 := Lib.hid (HON.out.then k1); have HA1 := Lib.hid (rows_below HOR.out k1)
            have HL3 := Lib.hid (HLK.out _ HR1.out)
            clear k1
            go_wp2_with fail
            refine HL3.out.mono ?_
            rintro e w2 ⟨rfl, k1⟩
            have HR2 := Lib.hid (HR1.out.below k1); have HO2 := Lib.hid (HO1.out.then k1); have HA2 := Lib.hid (rows_below HA1.out k1)
            have HL4 := Lib.hid (HLK.out _ HR2.out)
            clear k1
            go_wp2_with fail
            refine HL4.out.mono ?_
            rintro e wt ⟨rfl, k1⟩
            have HRT := Lib.hid (HR2.out.below k1); have HOT := Lib.hid (HO2.out.then k1); have HALT := Lib.hid (rows_below HA2.out k1)
            clear k1
            have hszt := HOT.out.size
            have HPT := Lib.hid (rd7_put 2 _ w.heap.size (R + 1) _ wt HALT.out (by omega) HL1.out (by omega) (by omega))
            go_wp2_with fail
            refine HPT.out.mono ?_
            rintro e w6 ⟨B6, q6, d6, rfl, k1, k2⟩
            have K1 := Lib.hid k1; have K2 := Lib.hid k2
            clear k1 k2
            go_wp2
            go_ret
            rw [HXE.out]
            exact ⟨B6, q6, d6, _, rfl, K1.out, HOT.out.then K2.out, (putB_len 2 _ HL1.out).1, rfl, HRT.out.below K2.out⟩
          · have e41 : ((k0 : Int) != 41) = true := by simp; omega
            have HSN : Hid (stopB cur = false) := Lib.hid (by rw [hstop]; simp [h124, h41])
            have HAT := Lib.hid (fun W (h : RdD W R E cur wc) => rd7_atom (w := W) h hne (by omega) (by omega) HG.out HF.out)
            clear hstop h124 h41
            go_wp2_with fail
            refine HL2.out.mono ?_
            rintro e w1 ⟨rfl, k1⟩
            have HR1 := Lib.hid (HRD.out.below k1); have HO1 := Lib.hid (HON.out.then k1); have HA1 := Lib.hid (rows_below HOR.out k1)
            have HL3 := Lib.hid (HLK.out _ HR1.out)
            clear k1
            go_wp2_with fail
            refine HL3.out.mono ?_
            rintro e w2 ⟨rfl, k1⟩
            have HR2 := Lib.hid (HR1.out.below k1); have HO2 := Lib.hid (HO1.out.then k1); have HA2 := Lib.hid (rows_below HA1.out k1)
            have HL4 := Lib.hid (HLK.out _ HR2.out)
            clear k1 HR1 HO1 HA1
            go_wp2_with fail
            refine HL4.out.mono ?_
            rintro e w9 ⟨rfl, k1⟩
            have HR9 := Lib.hid (HR2.out.below k1); have HO9' := Lib.hid (HO2.out.then k1); have HA9 := Lib.hid (rows_below HA2.out k1)
            have HATM := Lib.hid (HAT.out _ HR9.out)
            clear k1 HR2 HO2 HA2 HLK HL2 HL3 HL4 HAT
            obtain ⟨Y, hY⟩ : ∃ Y, atomB g cur wc = Y := ⟨_, rfl⟩
            have HY := Lib.hid hY
            rw [hY] at HATM
            clear hY
            go_wp2_with fail
            refine HATM.out.mono ?_
            rintro e wa ⟨B0, n0, c0, t0, rfl, k1, k2, k3, k4⟩
            have HTA := Lib.hid k1; have HOA' := Lib.hid (HO9'.out.step k2); have HTL0 := Lib.hid k3; have HLA := Lib.hid (keepD_rows k2 HR9.out.is HA9.out)
            have HN0 : Hid (t0.length = n0) := Lib.hid (by obtain ⟨_, _, _, hv, _⟩ := k1; injection hv with _ e2 _; exact e2.symm)
            clear k1 k2 k3 HATM
            match Y, HY, k4 with
            | none, HY, ⟨k5, k6⟩ =>
              have HXN : Hid (X = none) := Lib.hid (by rw [← HPX.out]; exact pieces_no HSN.out (piece_n1 HY.out))
              have HRP := Lib.hid (rep_X R E cur wc wa k5)
              have HRA' := Lib.hid (RdX.is k5)
              rw [HN0.out] at k6
              clear k5
              go_wp2_with fail
              refine HRP.out.mono ?_
              rintro e w3 ⟨xa, xb, q, rfl, k1, a0, a1, b0, b1, k7⟩
              have HE3 : Hid (RdE w3 R E none) := Lib.hid k7; have HO3 := Lib.hid (HOA'.out.step k1); have HT3 := Lib.hid (keepD_rx k1 HRA'.out HTA.out); have HL3 := Lib.hid (keepD_rows k1 HRA'.out HLA.out)
              clear k1 k7
              cases q with
              | true =>
                have hs3 := HO3.out.size
                have HEB := Lib.hid ((Below.refl w3.heap.size w3).alloc (Nat.le_refl _) (.cells #[.int .u8 4, .slice none 0 0, .int .i64 1, .int .i64 xa, .int .i64 xb] TNx))
                obtain ⟨w4, hw4⟩ : ∃ w4, w4 = w3.alloc (.cells #[.int .u8 4, .slice none 0 0, .int .i64 1, .int .i64 xa, .int .i64 xb] TNx) := ⟨_, rfl⟩
                have hz4 : w4.heap.size = w3.heap.size + 1 := by rw [hw4]; simp
                have HT4 := Lib.hid (show OwnRx w4 (R + 1) (.slice B0 n0 c0) t0 by rw [hw4]; exact rx_alloc HT3.out _)
                have PO := Lib.hid (own_fiveE (W := w4) (N := w3.heap.size + 1) (.int .u8 4) (.slice none 0 0) (.int .i64 1) (.int .i64 xa) (.int .i64 xb) hz4)
                have HT5 := Lib.hid (rx_alloc HT4.out (.cells #[.int .u8 4, .slice none 0 0, .int .i64 1, .int .i64 xa, .int .i64 xb] TNx))
                obtain ⟨_, _, vs0, hv5, ho5, hr5⟩ := HT5.out
                injection hv5 with q1 q2 q3
                subst q1; subst q3; clear q2
                obtain ⟨_, hat5⟩ := AtK.of_own ho5 hr5 rfl (by rw [HN0.out]; omega)
                obtain ⟨us5, hrv5, hsrc5⟩ := AtK.src hat5 (fun _ _ h => h.one)
                rw [HN0.out] at hsrc5
                have RV := Lib.hid hrv5; have SRA := Lib.hid hsrc5
                have HB5 := Lib.hid (show Below w3.heap.size w3 (w4.alloc (.cells #[.int .u8 4, .slice none 0 0, .int .i64 1, .int .i64 xa, .int .i64 xb] TNx)) by
                  rw [hw4]; exact HEB.out.alloc (by simp) _)
                have Z1 : Hid (1 + n0 ≤ maxLen) := Lib.hid (by simp only [maxLen]; omega)
                have Z2 : Hid ((1 + n0) * 56 ≤ 140737488355328) := Lib.hid (by omega)
                have hsz5 : w3.heap.size + 1 ≤ (w4.alloc (.cells #[.int .u8 4, .slice none 0 0, .int .i64 1, .int .i64 xa, .int .i64 xb] TNx)).heap.size := by simp [hz4]
                subst hw4
                clear ho5 hr5 hat5 hrv5 hsrc5 HT4
                go_wp2_with (first
                | (at_builtin
                   refine wpList_append_src _ rfl (.tmp 29) (.tmp 30) 29 rfl (w3.heap.size + 1) TNx i0 _ 5 56 Tryz.underlying29 hi0 hz0 hs0 hb0 rfl (by decide) (some ⟨w3.heap.size + 1, 0, none⟩) 1 1 _ rfl PO.out B0 n0 c0 _ rfl SRA.out Z1.out Z2.out hsz5 ?_
                   intro AT ct WT own9 gr9 _
                   have HO9 := Lib.hid own9; have HG9 := Lib.hid gr9
                   clear own9 gr9
                   have HBT := Lib.hid (HB5.out.grown HG9.out HB5.out.size (fun k hk => by have := (PO.out.lt k hk).1; omega))
                   have HET := Lib.hid (RdE.below (o := none) HE3.out HBT.out)
                   have HOT := Lib.hid (HO3.out.then HBT.out)
                   have HLT := Lib.hid (rows_below HL3.out HBT.out)
                   have HTT : Hid (OwnRx WT (R + 1) (.slice AT (1 + n0) ct) (⟨4, [], 1, xa, xb⟩ :: t0)) := Lib.hid (by
                     have hl : (⟨4, [], 1, xa, xb⟩ :: t0 : List Rx).length = 1 + n0 := by rw [List.length_cons, HN0.out]; omega
                     refine OwnK.lower (base := w3.heap.size + 1) ?_ (by omega)
                     exact ⟨AT, ct, _, by rw [hl], by rw [hl]; exact HO9.out, (rx_node OwnK.nil (by omega) (by omega) (by omega) (by omega)).app (RV.out.mono fun f x _ hx => hx.up fun _ _ hs => OwnK.grown hs PO.out (by decide) HG9.out)⟩)
                   have HTL : Hid (1 ≤ (⟨4, [], 1, xa, xb⟩ :: t0 : List Rx).length) := Lib.hid (by simp)
                   have HTN : Hid ((⟨4, [], 1, xa, xb⟩ :: t0 : List Rx).length = n0 + 1) := Lib.hid (by rw [List.length_cons, HN0.out])

                   have hszT := HOT.out.size
                   obtain ⟨A', c', us, hv, hro, hrr⟩ := rows_shape HLT.out
                   injection hv with g1 g2 g3
                   subst g1; subst g3; clear g2
                   rw [HM.out] at hro
                   have HO1 := Lib.hid hro; have HR1 := Lib.hid hrr
                   have HOA := Lib.hid (hro.alloc (.cells #[.slice AT (1 + n0) ct] TRL))
                   have HSR := Lib.hid (src_one_at (w := WT) (x := .slice AT (1 + n0) ct) (t := TRL) (g := WT.heap.size) rfl (by simp))
                   have Q1 : Hid (m + 1 ≤ maxLen) := Lib.hid (by simp only [maxLen]; omega)
                   have Q2 : Hid ((m + 1) * 24 ≤ 140737488355328) := Lib.hid (by omega)
                   have HRA := Lib.hid (RdE.below (o := none) HET.out ((Below.refl _ _).alloc (Nat.le_refl _) (.cells #[.slice AT (1 + n0) ct] TRL)))
                   have HOX := Lib.hid (HOT.out.alloc (.cells #[.slice AT (1 + n0) ct] TRL))
                   have hz : w.heap.size ≤ (WT.alloc (.cells #[.slice AT (1 + n0) ct] TRL)).heap.size := HOX.out.size
                   clear hro hrr)
                | (at_builtin
                   go_must (refine wpList_append_src _ rfl (.tmp 32) (.tmp 34) 125 rfl w.heap.size TRL j0 (.slice none 0 0) 1 24 Tryz.underlying125 hj0 hjz hjs hjb rfl (by decide) A c m _ rfl HOA.out (some ⟨WT.heap.size, 0, none⟩) 1 1 _ rfl HSR.out Q1.out Q2.out hz ?_)
                   intro A8 c8 w8 own8 gr8 _
                   have HO8 := Lib.hid own8; have HG8 := Lib.hid gr8
                   clear own8 gr8))

                have HE8 := Lib.hid (RdE.grown (o := none) HRA.out HOA.out (by decide) (by decide) HG8.out)
                have HL8 := Lib.hid (rows_push HO1.out HR1.out HM.out HTT.out HO8.out HG8.out)
                have HX8 := Lib.hid (HOX.out.grown HG8.out (fun k hk => (HOA.out.lt k hk).1))

                go_roundw
                case rel => exact ⟨_, m + 1, c8, A8, rfl, by omega, HL8, Lib.hid (by rw [len_snoc, HM.out]), HX8, Lib.hid (fun p hp => by
                  rcases List.mem_append.1 hp with hp | hp
                  · exact HL1.out p hp
                  · obtain rfl := List.mem_singleton.1 hp; exact HTL.out), Lib.hid (.inr ⟨HE8.out, HXN.out, by have := HTN.out; rw [flat_snoc]; omega⟩)⟩
                case measure =>
                  show dLen E _ R < dLen E _ R
                  rw [RdX.len HE8.out, HRD.out.len]
                  omega
              | false =>
                obtain ⟨WT, hWT⟩ : ∃ WT, WT = w3.alloc (.cells #[.int .u8 4, .slice none 0 0, .int .i64 1, .int .i64 xa, .int .i64 xb] TNx) := ⟨_, rfl⟩
                have HBT := Lib.hid (show Below w3.heap.size w3 WT by rw [hWT]; exact (Below.refl _ _).alloc (Nat.le_refl _) _)
                have hzT : WT.heap.size = w3.heap.size + 1 := by rw [hWT]; simp
                have HET := Lib.hid (RdE.below (o := none) HE3.out HBT.out)
                have HOT := Lib.hid (HO3.out.then HBT.out)
                have HLT := Lib.hid (rows_below HL3.out HBT.out)
                have HTT := Lib.hid (rx_below HT3.out HBT.out)
                have HTL := HTL0
                have HTN := HN0
                subst hWT

                have hszT := HOT.out.size
                obtain ⟨A', c', us, hv, hro, hrr⟩ := rows_shape HLT.out
                injection hv with g1 g2 g3
                subst g1; subst g3; clear g2
                rw [HM.out] at hro
                have HO1 := Lib.hid hro; have HR1 := Lib.hid hrr
                have HOA := Lib.hid (hro.alloc (.cells #[.slice B0 n0 c0] TRL))
                have HSR := Lib.hid (src_one_at (w := (w3.alloc (.cells #[.int .u8 4, .slice none 0 0, .int .i64 1, .int .i64 xa, .int .i64 xb] TNx))) (x := .slice B0 n0 c0) (t := TRL) (g := w3.heap.size + 1) rfl (by simp))
                have Q1 : Hid (m + 1 ≤ maxLen) := Lib.hid (by simp only [maxLen]; omega)
                have Q2 : Hid ((m + 1) * 24 ≤ 140737488355328) := Lib.hid (by omega)
                have HRA := Lib.hid (RdE.below (o := none) HET.out ((Below.refl _ _).alloc (Nat.le_refl _) (.cells #[.slice B0 n0 c0] TRL)))
                have HOX := Lib.hid (HOT.out.alloc (.cells #[.slice B0 n0 c0] TRL))
                have hz : w.heap.size ≤ ((w3.alloc (.cells #[.int .u8 4, .slice none 0 0, .int .i64 1, .int .i64 xa, .int .i64 xb] TNx)).alloc (.cells #[.slice B0 n0 c0] TRL)).heap.size := HOX.out.size
                clear hro hrr
                go_wp2_with (first
                | (at_builtin
                   go_must (refine wpList_append_src _ rfl (.tmp 32) (.tmp 34) 125 rfl w.heap.size TRL j0 (.slice none 0 0) 1 24 Tryz.underlying125 hj0 hjz hjs hjb rfl (by decide) A c m _ rfl HOA.out (some ⟨w3.heap.size + 1, 0, none⟩) 1 1 _ rfl HSR.out Q1.out Q2.out hz ?_)
                   intro A8 c8 w8 own8 gr8 _
                   have HO8 := Lib.hid own8; have HG8 := Lib.hid gr8
                   clear own8 gr8))

                have HE8 := Lib.hid (RdE.grown (o := none) HRA.out HOA.out (by decide) (by decide) HG8.out)
                have HL8 := Lib.hid (rows_push HO1.out HR1.out HM.out HTT.out HO8.out HG8.out)
                have HX8 := Lib.hid (HOX.out.grown HG8.out (fun k hk => (HOA.out.lt k hk).1))

                go_roundw
                case rel => exact ⟨_, m + 1, c8, A8, rfl, by omega, HL8, Lib.hid (by rw [len_snoc, HM.out]), HX8, Lib.hid (fun p hp => by
                  rcases List.mem_append.1 hp with hp | hp
                  · exact HL1.out p hp
                  · obtain rfl := List.mem_singleton.1 hp; exact HTL.out), Lib.hid (.inr ⟨HE8.out, HXN.out, by have := HTN.out; rw [flat_snoc]; omega⟩)⟩
                case measure =>
                  show dLen E _ R < dLen E _ R
                  rw [RdX.len HE8.out, HRD.out.len]
                  omega
            | some (t1, r1, w5), HY, ⟨k5, k6⟩ =>
              subst k5
              have HRP := rd7_repeat R E r1 w5 wa k6
              have HRA' := Lib.hid (RdD.is k6)
              have hfew := atomG_few HF.out HY.out
              rw [HN0.out] at hfew
              obtain ⟨hfew1, hfew⟩ := hfew
              clear k6
              obtain ⟨Z, hZ⟩ : ∃ Z, oftB r1 = Z := ⟨_, rfl⟩
              rw [hZ] at HRP
              have HZ := Lib.hid hZ
              have HRP := Lib.hid HRP
              clear hZ
              go_wp2_with fail
              refine HRP.out.mono ?_
              rintro e w3 ⟨xa, xb, q, rfl, k1, a0, a1, b0, b1, k7⟩
              have HO3 := Lib.hid (HOA'.out.step k1); have HT3 := Lib.hid (keepD_rx k1 HRA'.out HTA.out); have HL3 := Lib.hid (keepD_rows k1 HRA'.out HLA.out)
              clear k1
              match Z, HZ, k7 with
              | none, HZ, k8 =>
                have HE3 : Hid (RdE w3 R E none) := Lib.hid k8
                have HXN : Hid (X = none) := Lib.hid (by rw [← HPX.out]; exact pieces_no HSN.out (piece_n2 HY.out HZ.out))
                clear k7
                cases q with
                | true =>
                  have hs3 := HO3.out.size
                  have HEB := Lib.hid ((Below.refl w3.heap.size w3).alloc (Nat.le_refl _) (.cells #[.int .u8 4, .slice none 0 0, .int .i64 1, .int .i64 xa, .int .i64 xb] TNx))
                  obtain ⟨w4, hw4⟩ : ∃ w4, w4 = w3.alloc (.cells #[.int .u8 4, .slice none 0 0, .int .i64 1, .int .i64 xa, .int .i64 xb] TNx) := ⟨_, rfl⟩
                  have hz4 : w4.heap.size = w3.heap.size + 1 := by rw [hw4]; simp
                  have HT4 := Lib.hid (show OwnRx w4 (R + 1) (.slice B0 n0 c0) t1 by rw [hw4]; exact rx_alloc HT3.out _)
                  have PO := Lib.hid (own_fiveE (W := w4) (N := w3.heap.size + 1) (.int .u8 4) (.slice none 0 0) (.int .i64 1) (.int .i64 xa) (.int .i64 xb) hz4)
                  have HT5 := Lib.hid (rx_alloc HT4.out (.cells #[.int .u8 4, .slice none 0 0, .int .i64 1, .int .i64 xa, .int .i64 xb] TNx))
                  obtain ⟨_, _, vs0, hv5, ho5, hr5⟩ := HT5.out
                  injection hv5 with q1 q2 q3
                  subst q1; subst q3; clear q2
                  obtain ⟨_, hat5⟩ := AtK.of_own ho5 hr5 rfl (by rw [HN0.out]; omega)
                  obtain ⟨us5, hrv5, hsrc5⟩ := AtK.src hat5 (fun _ _ h => h.one)
                  rw [HN0.out] at hsrc5
                  have RV := Lib.hid hrv5; have SRA := Lib.hid hsrc5
                  have HB5 := Lib.hid (show Below w3.heap.size w3 (w4.alloc (.cells #[.int .u8 4, .slice none 0 0, .int .i64 1, .int .i64 xa, .int .i64 xb] TNx)) by
                    rw [hw4]; exact HEB.out.alloc (by simp) _)
                  have Z1 : Hid (1 + n0 ≤ maxLen) := Lib.hid (by simp only [maxLen]; omega)
                  have Z2 : Hid ((1 + n0) * 56 ≤ 140737488355328) := Lib.hid (by omega)
                  have hsz5 : w3.heap.size + 1 ≤ (w4.alloc (.cells #[.int .u8 4, .slice none 0 0, .int .i64 1, .int .i64 xa, .int .i64 xb] TNx)).heap.size := by simp [hz4]
                  subst hw4
                  clear ho5 hr5 hat5 hrv5 hsrc5 HT4
                  go_wp2_with (first
                  | (at_builtin
                     refine wpList_append_src _ rfl (.tmp 29) (.tmp 30) 29 rfl (w3.heap.size + 1) TNx i0 _ 5 56 Tryz.underlying29 hi0 hz0 hs0 hb0 rfl (by decide) (some ⟨w3.heap.size + 1, 0, none⟩) 1 1 _ rfl PO.out B0 n0 c0 _ rfl SRA.out Z1.out Z2.out hsz5 ?_
                     intro AT ct WT own9 gr9 _
                     have HO9 := Lib.hid own9; have HG9 := Lib.hid gr9
                     clear own9 gr9
                     have HBT := Lib.hid (HB5.out.grown HG9.out HB5.out.size (fun k hk => by have := (PO.out.lt k hk).1; omega))
                     have HET := Lib.hid (RdE.below (o := none) HE3.out HBT.out)
                     have HOT := Lib.hid (HO3.out.then HBT.out)
                     have HLT := Lib.hid (rows_below HL3.out HBT.out)
                     have HTT : Hid (OwnRx WT (R + 1) (.slice AT (1 + n0) ct) (⟨4, [], 1, xa, xb⟩ :: t1)) := Lib.hid (by
                       have hl : (⟨4, [], 1, xa, xb⟩ :: t1 : List Rx).length = 1 + n0 := by rw [List.length_cons, HN0.out]; omega
                       refine OwnK.lower (base := w3.heap.size + 1) ?_ (by omega)
                       exact ⟨AT, ct, _, by rw [hl], by rw [hl]; exact HO9.out, (rx_node OwnK.nil (by omega) (by omega) (by omega) (by omega)).app (RV.out.mono fun f x _ hx => hx.up fun _ _ hs => OwnK.grown hs PO.out (by decide) HG9.out)⟩)
                     have HTL : Hid (1 ≤ (⟨4, [], 1, xa, xb⟩ :: t1 : List Rx).length) := Lib.hid (by simp)
                     have HTN : Hid ((⟨4, [], 1, xa, xb⟩ :: t1 : List Rx).length = n0 + 1) := Lib.hid (by rw [List.length_cons, HN0.out])

                     have hszT := HOT.out.size
                     obtain ⟨A', c', us, hv, hro, hrr⟩ := rows_shape HLT.out
                     injection hv with g1 g2 g3
                     subst g1; subst g3; clear g2
                     rw [HM.out] at hro
                     have HO1 := Lib.hid hro; have HR1 := Lib.hid hrr
                     have HOA := Lib.hid (hro.alloc (.cells #[.slice AT (1 + n0) ct] TRL))
                     have HSR := Lib.hid (src_one_at (w := WT) (x := .slice AT (1 + n0) ct) (t := TRL) (g := WT.heap.size) rfl (by simp))
                     have Q1 : Hid (m + 1 ≤ maxLen) := Lib.hid (by simp only [maxLen]; omega)
                     have Q2 : Hid ((m + 1) * 24 ≤ 140737488355328) := Lib.hid (by omega)
                     have HRA := Lib.hid (RdE.below (o := none) HET.out ((Below.refl _ _).alloc (Nat.le_refl _) (.cells #[.slice AT (1 + n0) ct] TRL)))
                     have HOX := Lib.hid (HOT.out.alloc (.cells #[.slice AT (1 + n0) ct] TRL))
                     have hz : w.heap.size ≤ (WT.alloc (.cells #[.slice AT (1 + n0) ct] TRL)).heap.size := HOX.out.size
                     clear hro hrr)
                  | (at_builtin
                     go_must (refine wpList_append_src _ rfl (.tmp 32) (.tmp 34) 125 rfl w.heap.size TRL j0 (.slice none 0 0) 1 24 Tryz.underlying125 hj0 hjz hjs hjb rfl (by decide) A c m _ rfl HOA.out (some ⟨WT.heap.size, 0, none⟩) 1 1 _ rfl HSR.out Q1.out Q2.out hz ?_)
                     intro A8 c8 w8 own8 gr8 _
                     have HO8 := Lib.hid own8; have HG8 := Lib.hid gr8
                     clear own8 gr8))

                  have HE8 := Lib.hid (RdE.grown (o := none) HRA.out HOA.out (by decide) (by decide) HG8.out)
                  have HL8 := Lib.hid (rows_push HO1.out HR1.out HM.out HTT.out HO8.out HG8.out)
                  have HX8 := Lib.hid (HOX.out.grown HG8.out (fun k hk => (HOA.out.lt k hk).1))

                  go_roundw
                  case rel => exact ⟨_, m + 1, c8, A8, rfl, by omega, HL8, Lib.hid (by rw [len_snoc, HM.out]), HX8, Lib.hid (fun p hp => by
                    rcases List.mem_append.1 hp with hp | hp
                    · exact HL1.out p hp
                    · obtain rfl := List.mem_singleton.1 hp; exact HTL.out), Lib.hid (.inr ⟨HE8.out, HXN.out, by have := HTN.out; rw [flat_snoc]; omega⟩)⟩
                  case measure =>
                    show dLen E _ R < dLen E _ R
                    rw [RdX.len HE8.out, HRD.out.len]
                    omega
                | false =>
                  obtain ⟨WT, hWT⟩ : ∃ WT, WT = w3.alloc (.cells #[.int .u8 4, .slice none 0 0, .int .i64 1, .int .i64 xa, .int .i64 xb] TNx) := ⟨_, rfl⟩
                  have HBT := Lib.hid (show Below w3.heap.size w3 WT by rw [hWT]; exact (Below.refl _ _).alloc (Nat.le_refl _) _)
                  have hzT : WT.heap.size = w3.heap.size + 1 := by rw [hWT]; simp
                  have HET := Lib.hid (RdE.below (o := none) HE3.out HBT.out)
                  have HOT := Lib.hid (HO3.out.then HBT.out)
                  have HLT := Lib.hid (rows_below HL3.out HBT.out)
                  have HTT := Lib.hid (rx_below HT3.out HBT.out)
                  have HTL := HTL0
                  have HTN := HN0
                  subst hWT

                  have hszT := HOT.out.size
                  obtain ⟨A', c', us, hv, hro, hrr⟩ := rows_shape HLT.out
                  injection hv with g1 g2 g3
                  subst g1; subst g3; clear g2
                  rw [HM.out] at hro
                  have HO1 := Lib.hid hro; have HR1 := Lib.hid hrr
                  have HOA := Lib.hid (hro.alloc (.cells #[.slice B0 n0 c0] TRL))
                  have HSR := Lib.hid (src_one_at (w := (w3.alloc (.cells #[.int .u8 4, .slice none 0 0, .int .i64 1, .int .i64 xa, .int .i64 xb] TNx))) (x := .slice B0 n0 c0) (t := TRL) (g := w3.heap.size + 1) rfl (by simp))
                  have Q1 : Hid (m + 1 ≤ maxLen) := Lib.hid (by simp only [maxLen]; omega)
                  have Q2 : Hid ((m + 1) * 24 ≤ 140737488355328) := Lib.hid (by omega)
                  have HRA := Lib.hid (RdE.below (o := none) HET.out ((Below.refl _ _).alloc (Nat.le_refl _) (.cells #[.slice B0 n0 c0] TRL)))
                  have HOX := Lib.hid (HOT.out.alloc (.cells #[.slice B0 n0 c0] TRL))
                  have hz : w.heap.size ≤ ((w3.alloc (.cells #[.int .u8 4, .slice none 0 0, .int .i64 1, .int .i64 xa, .int .i64 xb] TNx)).alloc (.cells #[.slice B0 n0 c0] TRL)).heap.size := HOX.out.size
                  clear hro hrr
                  go_wp2_with (first
                  | (at_builtin
                     go_must (refine wpList_append_src _ rfl (.tmp 32) (.tmp 34) 125 rfl w.heap.size TRL j0 (.slice none 0 0) 1 24 Tryz.underlying125 hj0 hjz hjs hjb rfl (by decide) A c m _ rfl HOA.out (some ⟨w3.heap.size + 1, 0, none⟩) 1 1 _ rfl HSR.out Q1.out Q2.out hz ?_)
                     intro A8 c8 w8 own8 gr8 _
                     have HO8 := Lib.hid own8; have HG8 := Lib.hid gr8
                     clear own8 gr8))

                  have HE8 := Lib.hid (RdE.grown (o := none) HRA.out HOA.out (by decide) (by decide) HG8.out)
                  have HL8 := Lib.hid (rows_push HO1.out HR1.out HM.out HTT.out HO8.out HG8.out)
                  have HX8 := Lib.hid (HOX.out.grown HG8.out (fun k hk => (HOA.out.lt k hk).1))

                  go_roundw
                  case rel => exact ⟨_, m + 1, c8, A8, rfl, by omega, HL8, Lib.hid (by rw [len_snoc, HM.out]), HX8, Lib.hid (fun p hp => by
                    rcases List.mem_append.1 hp with hp | hp
                    · exact HL1.out p hp
                    · obtain rfl := List.mem_singleton.1 hp; exact HTL.out), Lib.hid (.inr ⟨HE8.out, HXN.out, by have := HTN.out; rw [flat_snoc]; omega⟩)⟩
                  case measure =>
                    show dLen E _ R < dLen E _ R
                    rw [RdX.len HE8.out, HRD.out.len]
                    omega
              | some (none, r2), HZ, ⟨k8, k9⟩ =>
                subst k9
                have HE3 : Hid (RdE w3 R E (some (r2, w5))) := Lib.hid k8
                have HNX : Hid (piecesB g f2 r2 w5 (ac ++ [t1]) = X) := Lib.hid (by rw [← HPX.out]; exact (pieces_on HSN.out (piece_0 HY.out HZ.out)).symm)
                have hlr := (oftB_sfx HZ.out).length_le
                clear k7 k8
                obtain ⟨WT, hWT⟩ : ∃ WT, WT = w3.alloc (.cells #[.int .u8 4, .slice none 0 0, .int .i64 1, .int .i64 xa, .int .i64 xb] TNx) := ⟨_, rfl⟩
                have HBT := Lib.hid (show Below w3.heap.size w3 WT by rw [hWT]; exact (Below.refl _ _).alloc (Nat.le_refl _) _)
                have hzT : WT.heap.size = w3.heap.size + 1 := by rw [hWT]; simp
                have HET := Lib.hid (RdE.below (o := (some (r2, w5))) HE3.out HBT.out)
                have HOT := Lib.hid (HO3.out.then HBT.out)
                have HLT := Lib.hid (rows_below HL3.out HBT.out)
                have HTT := Lib.hid (rx_below HT3.out HBT.out)
                have HTL := HTL0
                have HTN := HN0
                subst hWT

                have hszT := HOT.out.size
                obtain ⟨A', c', us, hv, hro, hrr⟩ := rows_shape HLT.out
                injection hv with g1 g2 g3
                subst g1; subst g3; clear g2
                rw [HM.out] at hro
                have HO1 := Lib.hid hro; have HR1 := Lib.hid hrr
                have HOA := Lib.hid (hro.alloc (.cells #[.slice B0 n0 c0] TRL))
                have HSR := Lib.hid (src_one_at (w := (w3.alloc (.cells #[.int .u8 4, .slice none 0 0, .int .i64 1, .int .i64 xa, .int .i64 xb] TNx))) (x := .slice B0 n0 c0) (t := TRL) (g := w3.heap.size + 1) rfl (by simp))
                have Q1 : Hid (m + 1 ≤ maxLen) := Lib.hid (by simp only [maxLen]; omega)
                have Q2 : Hid ((m + 1) * 24 ≤ 140737488355328) := Lib.hid (by omega)
                have HRA := Lib.hid (RdE.below (o := (some (r2, w5))) HET.out ((Below.refl _ _).alloc (Nat.le_refl _) (.cells #[.slice B0 n0 c0] TRL)))
                have HOX := Lib.hid (HOT.out.alloc (.cells #[.slice B0 n0 c0] TRL))
                have hz : w.heap.size ≤ ((w3.alloc (.cells #[.int .u8 4, .slice none 0 0, .int .i64 1, .int .i64 xa, .int .i64 xb] TNx)).alloc (.cells #[.slice B0 n0 c0] TRL)).heap.size := HOX.out.size
                clear hro hrr
                go_wp2_with (first
                | (at_builtin
                   go_must (refine wpList_append_src _ rfl (.tmp 32) (.tmp 34) 125 rfl w.heap.size TRL j0 (.slice none 0 0) 1 24 Tryz.underlying125 hj0 hjz hjs hjb rfl (by decide) A c m _ rfl HOA.out (some ⟨w3.heap.size + 1, 0, none⟩) 1 1 _ rfl HSR.out Q1.out Q2.out hz ?_)
                   intro A8 c8 w8 own8 gr8 _
                   have HO8 := Lib.hid own8; have HG8 := Lib.hid gr8
                   clear own8 gr8))

                have HE8 := Lib.hid (RdE.grown (o := (some (r2, w5))) HRA.out HOA.out (by decide) (by decide) HG8.out)
                have HL8 := Lib.hid (rows_push HO1.out HR1.out HM.out HTT.out HO8.out HG8.out)
                have HX8 := Lib.hid (HOX.out.grown HG8.out (fun k hk => (HOA.out.lt k hk).1))

                go_roundw
                case rel => exact ⟨_, m + 1, c8, A8, rfl, by omega, HL8, Lib.hid (by rw [len_snoc, HM.out]), HX8, Lib.hid (fun p hp => by
                  rcases List.mem_append.1 hp with hp | hp
                  · exact HL1.out p hp
                  · obtain rfl := List.mem_singleton.1 hp; exact HTL.out), Lib.hid (.inl ⟨_, _, f2, HE8.out, by omega, HNX.out, by have := HTN.out; rw [flat_snoc]; omega, by omega⟩)⟩
                case measure =>
                  show dLen E _ R < dLen E _ R
                  rw [RdD.len HE8.out, HRD.out.len]
                  omega
              | some (some (a', b'), r2), HZ, ⟨k8, k9, k10, k11⟩ =>
                subst k9; subst k10; subst k11
                have HE3 : Hid (RdE w3 R E (some (r2, w5))) := Lib.hid k8
                have HNX : Hid (piecesB g f2 r2 w5 (ac ++ [⟨4, [], 1, a', b'⟩ :: t1]) = X) := Lib.hid (by rw [← HPX.out]; exact (pieces_on HSN.out (piece_1 HY.out HZ.out)).symm)
                have hlr := oftB_less HZ.out
                clear k7 k8
                have hs3 := HO3.out.size
                have HEB := Lib.hid ((Below.refl w3.heap.size w3).alloc (Nat.le_refl _) (.cells #[.int .u8 4, .slice none 0 0, .int .i64 1, .int .i64 a', .int .i64 b'] TNx))
                obtain ⟨w4, hw4⟩ : ∃ w4, w4 = w3.alloc (.cells #[.int .u8 4, .slice none 0 0, .int .i64 1, .int .i64 a', .int .i64 b'] TNx) := ⟨_, rfl⟩
                have hz4 : w4.heap.size = w3.heap.size + 1 := by rw [hw4]; simp
                have HT4 := Lib.hid (show OwnRx w4 (R + 1) (.slice B0 n0 c0) t1 by rw [hw4]; exact rx_alloc HT3.out _)
                have PO := Lib.hid (own_fiveE (W := w4) (N := w3.heap.size + 1) (.int .u8 4) (.slice none 0 0) (.int .i64 1) (.int .i64 a') (.int .i64 b') hz4)
                have HT5 := Lib.hid (rx_alloc HT4.out (.cells #[.int .u8 4, .slice none 0 0, .int .i64 1, .int .i64 a', .int .i64 b'] TNx))
                obtain ⟨_, _, vs0, hv5, ho5, hr5⟩ := HT5.out
                injection hv5 with q1 q2 q3
                subst q1; subst q3; clear q2
                obtain ⟨_, hat5⟩ := AtK.of_own ho5 hr5 rfl (by rw [HN0.out]; omega)
                obtain ⟨us5, hrv5, hsrc5⟩ := AtK.src hat5 (fun _ _ h => h.one)
                rw [HN0.out] at hsrc5
                have RV := Lib.hid hrv5; have SRA := Lib.hid hsrc5
                have HB5 := Lib.hid (show Below w3.heap.size w3 (w4.alloc (.cells #[.int .u8 4, .slice none 0 0, .int .i64 1, .int .i64 a', .int .i64 b'] TNx)) by
                  rw [hw4]; exact HEB.out.alloc (by simp) _)
                have Z1 : Hid (1 + n0 ≤ maxLen) := Lib.hid (by simp only [maxLen]; omega)
                have Z2 : Hid ((1 + n0) * 56 ≤ 140737488355328) := Lib.hid (by omega)
                have hsz5 : w3.heap.size + 1 ≤ (w4.alloc (.cells #[.int .u8 4, .slice none 0 0, .int .i64 1, .int .i64 a', .int .i64 b'] TNx)).heap.size := by simp [hz4]
                subst hw4
                clear ho5 hr5 hat5 hrv5 hsrc5 HT4
                go_wp2_with (first
                | (at_builtin
                   refine wpList_append_src _ rfl (.tmp 29) (.tmp 30) 29 rfl (w3.heap.size + 1) TNx i0 _ 5 56 Tryz.underlying29 hi0 hz0 hs0 hb0 rfl (by decide) (some ⟨w3.heap.size + 1, 0, none⟩) 1 1 _ rfl PO.out B0 n0 c0 _ rfl SRA.out Z1.out Z2.out hsz5 ?_
                   intro AT ct WT own9 gr9 _
                   have HO9 := Lib.hid own9; have HG9 := Lib.hid gr9
                   clear own9 gr9
                   have HBT := Lib.hid (HB5.out.grown HG9.out HB5.out.size (fun k hk => by have := (PO.out.lt k hk).1; omega))
                   have HET := Lib.hid (RdE.below (o := (some (r2, w5))) HE3.out HBT.out)
                   have HOT := Lib.hid (HO3.out.then HBT.out)
                   have HLT := Lib.hid (rows_below HL3.out HBT.out)
                   have HTT : Hid (OwnRx WT (R + 1) (.slice AT (1 + n0) ct) (⟨4, [], 1, a', b'⟩ :: t1)) := Lib.hid (by
                     have hl : (⟨4, [], 1, a', b'⟩ :: t1 : List Rx).length = 1 + n0 := by rw [List.length_cons, HN0.out]; omega
                     refine OwnK.lower (base := w3.heap.size + 1) ?_ (by omega)
                     exact ⟨AT, ct, _, by rw [hl], by rw [hl]; exact HO9.out, (rx_node OwnK.nil (by omega) (by omega) (by omega) (by omega)).app (RV.out.mono fun f x _ hx => hx.up fun _ _ hs => OwnK.grown hs PO.out (by decide) HG9.out)⟩)
                   have HTL : Hid (1 ≤ (⟨4, [], 1, a', b'⟩ :: t1 : List Rx).length) := Lib.hid (by simp)
                   have HTN : Hid ((⟨4, [], 1, a', b'⟩ :: t1 : List Rx).length = n0 + 1) := Lib.hid (by rw [List.length_cons, HN0.out])

                   have hszT := HOT.out.size
                   obtain ⟨A', c', us, hv, hro, hrr⟩ := rows_shape HLT.out
                   injection hv with g1 g2 g3
                   subst g1; subst g3; clear g2
                   rw [HM.out] at hro
                   have HO1 := Lib.hid hro; have HR1 := Lib.hid hrr
                   have HOA := Lib.hid (hro.alloc (.cells #[.slice AT (1 + n0) ct] TRL))
                   have HSR := Lib.hid (src_one_at (w := WT) (x := .slice AT (1 + n0) ct) (t := TRL) (g := WT.heap.size) rfl (by simp))
                   have Q1 : Hid (m + 1 ≤ maxLen) := Lib.hid (by simp only [maxLen]; omega)
                   have Q2 : Hid ((m + 1) * 24 ≤ 140737488355328) := Lib.hid (by omega)
                   have HRA := Lib.hid (RdE.below (o := (some (r2, w5))) HET.out ((Below.refl _ _).alloc (Nat.le_refl _) (.cells #[.slice AT (1 + n0) ct] TRL)))
                   have HOX := Lib.hid (HOT.out.alloc (.cells #[.slice AT (1 + n0) ct] TRL))
                   have hz : w.heap.size ≤ (WT.alloc (.cells #[.slice AT (1 + n0) ct] TRL)).heap.size := HOX.out.size
                   clear hro hrr)
                | (at_builtin
                   go_must (refine wpList_append_src _ rfl (.tmp 32) (.tmp 34) 125 rfl w.heap.size TRL j0 (.slice none 0 0) 1 24 Tryz.underlying125 hj0 hjz hjs hjb rfl (by decide) A c m _ rfl HOA.out (some ⟨WT.heap.size, 0, none⟩) 1 1 _ rfl HSR.out Q1.out Q2.out hz ?_)
                   intro A8 c8 w8 own8 gr8 _
                   have HO8 := Lib.hid own8; have HG8 := Lib.hid gr8
                   clear own8 gr8))

                have HE8 := Lib.hid (RdE.grown (o := (some (r2, w5))) HRA.out HOA.out (by decide) (by decide) HG8.out)
                have HL8 := Lib.hid (rows_push HO1.out HR1.out HM.out HTT.out HO8.out HG8.out)
                have HX8 := Lib.hid (HOX.out.grown HG8.out (fun k hk => (HOA.out.lt k hk).1))

                go_roundw
                case rel => exact ⟨_, m + 1, c8, A8, rfl, by omega, HL8, Lib.hid (by rw [len_snoc, HM.out]), HX8, Lib.hid (fun p hp => by
                  rcases List.mem_append.1 hp with hp | hp
                  · exact HL1.out p hp
                  · obtain rfl := List.mem_singleton.1 hp; exact HTL.out), Lib.hid (.inl ⟨_, _, f2, HE8.out, by omega, HNX.out, by have := HTN.out; rw [flat_snoc]; omega, by omega⟩)⟩
                case measure =>
                  show dLen E _ R < dLen E _ R
                  rw [RdD.len HE8.out, HRD.out.len]
                  omega
    · have HR0 := Lib.hid hrx
      obtain rfl := hxn
      have HLK := Lib.hid (rd7_lookX R E wr hrx)
      clear HST hrx
      go_wp2_with fail
      refine HLK.out.mono ?_
      rintro e wt ⟨rfl, k1⟩
      have HRT := Lib.hid (HR0.out.below k1); have HOT := Lib.hid (HON.out.then k1); have HALT := Lib.hid (rows_below HOR.out k1)
      clear k1
      have hszt := HOT.out.size
      have HPT := Lib.hid (rd7_put 2 _ w.heap.size (R + 1) _ wt HALT.out (by omega) HL1.out (by omega) (by omega))
      go_wp2_with fail
      refine HPT.out.mono ?_
      rintro e w6 ⟨B6, q6, d6, rfl, k1, k2⟩
      have K1 := Lib.hid k1; have K2 := Lib.hid k2
      have HPL := Lib.hid (putB_len 2 _ HL1.out)
      clear k1 k2
      go_wp2
      go_ret
      exact ⟨B6, q6, d6, _, rfl, K1.out, HOT.out.then K2.out, HPL.out.1, HRT.out.below K2.out, by have := HPL.out.2.2; omega⟩
end Go.Proofs.YtilhicefhhgecaaGreatDoor

namespace Pv
open Go Go.RowKit
/-- What stands behind a row. -/
def altC (g : Bs → Bool → Option PR) (f : Nat) (cur : Bs) (wc : Bool) (acc : List (List Rx)) : Option PR := match isB 124 cur with
  | none => some (putB 3 acc, cur, wc)
  | some r2 => altsB g f r2 wc acc
theorem alts_no {g : Bs → Bool → Option PR} {f : Nat} {l : Bs} {wd : Bool} {acc : List (List Rx)} (h : piecesB g (l.length + 1) l wd [] = none) : altsB g (f + 1) l wd acc = none := by unfold altsB; rw [h]
theorem alts_on {g : Bs → Bool → Option PR} {f : Nat} {l r : Bs} {wd w2 : Bool} {acc ps : List (List Rx)} (h : piecesB g (l.length + 1) l wd [] = some (ps, r, w2)) : altsB g (f + 1) l wd acc = altC g f r w2 (acc ++ [putB 2 ps]) := by
  conv => lhs; unfold altsB
  rw [h]
  rfl
end Pv
namespace Go.Proofs.YtilhicefhhgecaaGreatDoor
open Go.RowKit Pv
/-- Where the reader of rows stands. -/
def AltSt (g : Bs → Bool → Option PR) (R : Nat) (E : PEnv) (L : Nat) (X : Option PR) (W : World) (acc : List (List Rx)) : Prop :=
  (∃ cur wc f, RdD W R E cur wc ∧ cur.length ≤ f ∧ altC g f cur wc acc = X ∧ acc.flatten.length + 3 * cur.length ≤ 3 * L + 1 ∧ cur.length ≤ L) ∨ (RdX W R E ∧ X = none ∧ acc.flatten.length ≤ 5 * L + 1)
/-- What a row leaves, for the list under way. -/
theorem row_next {g : Bs → Bool → Option PR} {R : Nat} {E : PEnv} {l : Bs} {wd : Bool} {w w' : World} {f L : Nat} {acc : List (List Rx)} {X : Option PR} {e : Ending} (hf : FewG g) (hX : altsB g (f + 1) l wd acc = X) (hl : l.length ≤ f) (hL : l.length ≤ L) (hb : acc.flatten.length + 3 * l.length ≤ 3 * L)
    (h : DoD R E w (5 * l.length + 1) ((piecesB g (l.length + 1) l wd []).map fun p => (putB 2 p.1, p.2.1, p.2.2)) e w') : ∃ A n c t, e = .returned (.slice A n c) ∧ OwnRx w' (R + 1) (.slice A n c) t ∧ Only R w w' ∧ 1 ≤ t.length ∧ AltSt g R E L X w' (acc ++ [t]) ∧ dLen E w' R < 2 + l.length := by
  obtain ⟨A, n, c, t, he, h1, h2, h3, h4⟩ := h
  refine ⟨A, n, c, t, he, h1, h2, h3, ?_⟩
  cases hp : piecesB g (l.length + 1) l wd [] with
  | none =>
    rw [hp] at h4
    obtain ⟨h5, h6⟩ := h4
    refine ⟨.inr ⟨h5, by rw [← hX, alts_no hp], by rw [flat_snoc]; omega⟩, by rw [h5.len]; omega⟩
  | some p =>
    obtain ⟨ps, r, w2⟩ := p
    rw [hp] at h4
    have h5 : putB 2 ps = t := h4.1
    have h6 : RdD w' R E r w2 := h4.2
    obtain ⟨k1, k2⟩ := piecesG_few hf _ hp (by simp)
    have k3 := putB_len 2 ps k1
    simp only [List.flatten_nil, List.length_nil, Nat.mul_zero, Nat.add_zero] at k2
    subst h5
    refine ⟨.inl ⟨r, w2, f, h6, by omega, by rw [← hX, alts_on hp], by rw [flat_snoc]; omega, by omega⟩, by rw [RdD.len h6]; omega⟩
set_option maxHeartbeats 8000000 in
set_option maxRecDepth 100000 in
theorem rd7_rows {g : Bs → Bool → Option PR} {F R : Nat} {E : PEnv} {l : Bs} {wd : Bool} {w : World} (h : RdD w R E l wd) (hl : l.length ≤ 1000) (hF : l.length ≤ F) (hg : RowsD g F R E) (hf : FewG g) :
    Calls Tryz.prog 66 #[.pointer (some ⟨R, 0, none⟩)] w (DoD R E w (5 * l.length + 3) (altsB g (l.length + 1) l wd [])) := by
  obtain ⟨i0, hi0, hz0, hs0, hb0⟩ := info_parts info_rl
  obtain ⟨X, hX⟩ : ∃ X, altsB g (l.length + 1) l wd [] = X := ⟨_, rfl⟩
  rw [hX]
  have HG := Lib.hid hg; have HF := Lib.hid hf
  have HROW := Lib.hid ((rd7_row h hl hF hg hf).mono fun e w' h => row_next (L := l.length) hf hX (Nat.le_refl _) (Nat.le_refl _) (by simp) h)
  have hR0 := h.lt
  clear h hX hg hf
  go_enter Tryz.func66, Tryz.ntmps66
  go_wp2_with fail
  refine HROW.out.mono ?_
  rintro e w1 ⟨A, n, c, t, rfl, k1, k2, k3, k4, _⟩
  have HO1 := Lib.hid (k2.alloc (.cells #[.slice A n c] TRL))
  have hs1 := k2.size
  have HB1 := Lib.hid ((Below.refl w1.heap.size w1).alloc (Nat.le_refl _) (.cells #[.slice A n c] TRL))
  have HR1 : Hid (OwnRows (w1.alloc (.cells #[.slice A n c] TRL)) w.heap.size (R + 1) (.slice (some ⟨w1.heap.size, 0, none⟩) 1 1) [t]) := Lib.hid
    ⟨_, _, [.slice A n c], rfl, ⟨rfl, .inr ⟨w1.heap.size, 1, #[.slice A n c], rfl, hs1, by show (w1.heap.push _)[w1.heap.size]? = _; simp, Nat.le_refl _, by simp only [maxLen]; omega, by simp, by simp⟩⟩, Rel.one (rx_below k1 HB1.out)⟩
  have HST1 : Hid (AltSt _ R E l.length X (w1.alloc (.cells #[.slice A n c] TRL)) [t]) := Lib.hid (by
    rcases k4 with ⟨cur, wc, f, q1, q2⟩ | ⟨q1, q2⟩
    · exact .inl ⟨cur, wc, f, q1.below HB1.out, q2⟩
    · exact .inr ⟨q1.below HB1.out, q2⟩)
  have HK3 : Hid (∀ p, p ∈ [t] → 1 ≤ p.length) := Lib.hid (fun p hp => by obtain rfl := List.mem_singleton.1 hp; exact k3)
  clear k1 k2 k3 k4
  go_wp2
  go_loopw [3] (fun lv W => ∃ (acc : List (List Rx)) (m c : Nat) (A : Option Addr), lv = .slice A m c ∧ Hid (OwnRows W w.heap.size (R + 1) (.slice A m c) acc) ∧ Hid (acc.length = m) ∧ Hid (Only R w W) ∧ Hid (∀ p, p ∈ acc → 1 ≤ p.length) ∧ Hid (AltSt g R E l.length X W acc)) (fun _ W => dLen E W R)
  case atStart => exact ⟨[t], 1, 1, _, rfl, HR1, Lib.hid rfl, HO1, HK3, HST1⟩
  case round =>
    clear HR1 HO1 HK3 HST1
    obtain ⟨acc, m, c', A', rfl, HOR, HM, HON, HL1, HST⟩ := hrel
    have hmf : m ≤ acc.flatten.length := by rw [← HM.out]; exact flat_ge HL1.out
    rcases HST.out with ⟨cur, wc, f, hrd, hfl, hax, hbd, hcl⟩ | ⟨hrx, hxn, hbd⟩
    · have HIS := rd7_is R E cur wc 124 wr (by decide) hrd
      simp only [show ((124 : UInt8).toNat : Int) = 124 from rfl] at HIS
      have HRD := Lib.hid hrd
      clear HST hrd
      cases hi : isB 124 cur with
      | none =>
        rw [hi] at HIS
        simp only [Option.isSome_none, Option.getD_none] at HIS
        have HIS := Lib.hid HIS
        have HXE : Hid (X = some (putB 3 acc, cur, wc)) := Lib.hid (by rw [← hax]; unfold altC; rw [hi])
        clear hi hax
        go_wp2_with fail
        refine HIS.out.mono ?_
        rintro e wt ⟨rfl, k1, k2⟩
        have HRT := Lib.hid k1; have HOT := Lib.hid (HON.out.step k2); have HALT := Lib.hid (keepD_rows k2 HRD.out.is HOR.out)
        clear k1 k2
        have hszt := HOT.out.size
        have HPT := Lib.hid (rd7_put 3 _ w.heap.size (R + 1) _ wt HALT.out (by omega) HL1.out (by omega) (by omega))
        have HPL := Lib.hid (putB_len 3 _ HL1.out)
        go_wp2_with fail
        refine HPT.out.mono ?_
        rintro e w6 ⟨B6, q6, d6, rfl, k1, k2⟩
        have K1 := Lib.hid k1; have K2 := Lib.hid k2
        clear k1 k2
        go_wp2
        go_ret
        rw [HXE.out]
        exact ⟨B6, q6, d6, _, rfl, K1.out, HOT.out.then K2.out, HPL.out.1, rfl, HRT.out.below K2.out⟩
      | some r2 =>
        rw [hi] at HIS
        simp only [Option.isSome_some, Option.getD_some] at HIS
        have HIS := Lib.hid HIS
        have hr2 : cur.length = r2.length + 1 := by rw [isB_some hi]; rfl
        obtain ⟨f2, rfl⟩ : ∃ f2, f = f2 + 1 := ⟨f - 1, by omega⟩
        have HAX : Hid (altsB g (f2 + 1) r2 wc acc = X) := Lib.hid (by rw [← hax]; unfold altC; rw [hi])
        clear hi hax
        go_wp2_with fail
        refine HIS.out.mono ?_
        rintro e w2 ⟨rfl, k1, k2⟩
        have HO2 := Lib.hid (HON.out.step k2); have HA2 := Lib.hid (keepD_rows k2 HRD.out.is HOR.out); have HI2 := Lib.hid k1.is
        have HRW := Lib.hid ((rd7_row k1 (by omega) (by omega) HG.out HF.out).mono fun e w' h => row_next (L := l.length) HF.out HAX.out (by omega) (by omega) (by omega) h)
        clear k1 k2
        go_wp2_with fail
        refine HRW.out.mono ?_
        rintro e w3 ⟨B, q, d, t3, rfl, k1, k2, k3, k4, k5⟩
        have K1 := Lib.hid k1; have K3 := Lib.hid k3; have K4 := Lib.hid k4; have K5 := Lib.hid k5
        have HO3 := Lib.hid (HO2.out.step k2)
        obtain ⟨A5, c5, us, hv, ho, hr⟩ := rows_shape (keepD_rows k2 HI2.out HA2.out)
        injection hv with g1 g2 g3
        subst g1; subst g3; clear g2
        rw [HM.out] at ho
        have HOX := Lib.hid ho; have HRX := Lib.hid hr
        have HOA := Lib.hid (ho.alloc (.cells #[.slice B q d] TRL))
        have HSR := Lib.hid (Pv.Src.one (w := w3) (x := .slice B q d) (t := TRL) rfl)
        have HO4 := Lib.hid (HO3.out.alloc (.cells #[.slice B q d] TRL))
        have hz4 : w.heap.size ≤ (w3.alloc (.cells #[.slice B q d] TRL)).heap.size := HO4.out.size
        have HB4 := Lib.hid ((Below.refl w3.heap.size w3).alloc (Nat.le_refl _) (.cells #[.slice B q d] TRL))
        have Q1 : Hid (m + 1 ≤ maxLen) := Lib.hid (by simp only [maxLen]; omega)
        have Q2 : Hid ((m + 1) * 24 ≤ 140737488355328) := Lib.hid (by omega)
        clear k1 k2 k3 k4 k5 ho hr
        go_wp2_with (first
        | (at_builtin
           go_must (refine wpList_append_src _ rfl (.tmp 9) (.tmp 12) 125 rfl w.heap.size TRL i0 (.slice none 0 0) 1 24 Tryz.underlying125 hi0 hz0 hs0 hb0 rfl (by decide) A' c' m _ rfl HOA.out (some ⟨w3.heap.size, 0, none⟩) 1 1 _ rfl HSR.out Q1.out Q2.out hz4 ?_)
           intro A9 c9 w9 own9 gr9 _
           have HO9 := Lib.hid own9; have HG9 := Lib.hid gr9
           clear own9 gr9))
        have HR9 := Lib.hid (rows_push HOX.out HRX.out HM.out K1.out HO9.out HG9.out)
        have HO99 := Lib.hid (HO4.out.grown HG9.out (fun k hk => (HOA.out.lt k hk).1))
        have HST9 : Hid (AltSt g R E l.length X w9 (acc ++ [t3]) ∧ dLen E w9 R < dLen E wr R) := Lib.hid (by
          rw [HRD.out.len]
          rcases K4.out with ⟨cu, w4, f4, q1, q2⟩ | ⟨q1, q2⟩
          · have h9 := RdE.grown (o := some (cu, w4)) (RdE.below (o := some (cu, w4)) q1 HB4.out) HOA.out (by decide) (by decide) HG9.out
            refine ⟨.inl ⟨cu, w4, f4, h9, q2⟩, ?_⟩
            have := K5.out
            rw [q1.len] at this
            rw [RdD.len h9]
            omega
          · have h9 := RdE.grown (o := none) (RdE.below (o := none) q1 HB4.out) HOA.out (by decide) (by decide) HG9.out
            refine ⟨.inr ⟨h9, q2⟩, ?_⟩
            rw [RdX.len h9]
            omega)
        go_roundw
        case rel => exact ⟨_, m + 1, c9, A9, rfl, HR9, Lib.hid (by rw [len_snoc, HM.out]), HO99, Lib.hid (fun p hp => by
          rcases List.mem_append.1 hp with hp | hp
          · exact HL1.out p hp
          · obtain rfl := List.mem_singleton.1 hp; exact K3.out), Lib.hid HST9.out.1⟩
        case measure => exact HST9.out.2
    · have HR0 := Lib.hid hrx
      obtain rfl := hxn
      have HIX := Lib.hid (rd7_isX R E 124 wr (by omega) hrx)
      clear HST hrx
      go_wp2_with fail
      refine HIX.out.mono ?_
      rintro e wt ⟨rfl, k1, k2⟩
      have HRT := Lib.hid k1; have HOT := Lib.hid (HON.out.then k2); have HALT := Lib.hid (rows_below HOR.out k2)
      clear k1 k2
      have hszt := HOT.out.size
      have HPT := Lib.hid (rd7_put 3 _ w.heap.size (R + 1) _ wt HALT.out (by omega) HL1.out (by omega) (by omega))
      have HPL := Lib.hid (putB_len 3 _ HL1.out)
      go_wp2_with fail
      refine HPT.out.mono ?_
      rintro e w6 ⟨B6, q6, d6, rfl, k1, k2⟩
      have K1 := Lib.hid k1; have K2 := Lib.hid k2
      clear k1 k2
      go_wp2
      go_ret
      exact ⟨B6, q6, d6, _, rfl, K1.out, HOT.out.then K2.out, HPL.out.1, HRT.out.below K2.out, by have := HPL.out.2.2; omega⟩
/-- Rows, whatever the fuel. -/
theorem rows_okD (R : Nat) (E : PEnv) : ∀ f, RowsD (rowsB f) f R E
  | 0 => fun l wd w h => by omega
  | f + 1 => fun l wd w h hl hr => rd7_rows hr hl (by omega) (rows_okD R E f) (rowsG_few f)
end Go.Proofs.YtilhicefhhgecaaGreatDoor
