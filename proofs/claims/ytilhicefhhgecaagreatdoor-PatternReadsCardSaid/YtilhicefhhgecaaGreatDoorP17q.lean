/- Walks: the reader's item, from the contract of escape; what a set of the call's own gives to an append. PUT1 -/
import Derived.Test.YtilhicefhhgecaaGreatDoorP9q
import Derived.Test.YtilhicefhhgecaaGreatDoorP11q
import Derived.Test.YtilhicefhhgecaaGreatDoorRnq
import Derived.Test.YtilhicefhhgecaaGreatDoorRkq
import Derived.Test.YtilhicefhhgecaaGreatDoorRcq
namespace Pv
open Go Go.RowKit
/-- Ranges of code points. -/
def RngsOk (s : List Rng) : Prop := ∀ x, x ∈ s → 0 ≤ x.lo ∧ x.lo ≤ x.hi ∧ x.hi ≤ 1114111
theorem RngsOk.one {n : Nat} (h : n ≤ 1114111) : RngsOk (one1 n) := fun x hx => by
  obtain rfl := List.mem_singleton.1 hx
  simp only
  omega
theorem RngsOk.app {s t : List Rng} (h : RngsOk s) (h' : RngsOk t) : RngsOk (s ++ t) := fun x hx => (List.mem_append.1 hx).elim (h x) (h' x)
/-- What is told of an escape, of one of a class. -/
structure ItemD (l : Bs) (s : List Rng) (q : Bool) (r : Bs) : Prop where
  ok : RngsOk s
  few : 1 ≤ s.length ∧ s.length ≤ 4
  one : q = true → ∃ n : Nat, n ≤ 1114111 ∧ s = one1 n
  len : r.length < l.length
theorem escS_d {c : Nat} {s : List Rng} {q : Bool} (h : escS c = some (s, q)) (hc : c ≤ 1114111) : RngsOk s ∧ (1 ≤ s.length ∧ s.length ≤ 4) ∧ (q = true → ∃ n : Nat, n ≤ 1114111 ∧ s = one1 n) := by
  unfold escS at h
  repeat' split at h
  all_goals first
    | (obtain ⟨rfl, rfl⟩ := Prod.mk.inj (Option.some.inj h)
       first
       | exact ⟨RngsOk.one hc, by simp [one1], fun _ => ⟨_, hc, rfl⟩⟩
       | exact ⟨RngsOk.one (n := 10) (by omega), by simp [one1], fun _ => ⟨10, by omega, rfl⟩⟩
       | exact ⟨RngsOk.one (n := 13) (by omega), by simp [one1], fun _ => ⟨13, by omega, rfl⟩⟩
       | exact ⟨RngsOk.one (n := 9) (by omega), by simp [one1], fun _ => ⟨9, by omega, rfl⟩⟩
       | exact ⟨fun x hx => by simp only [List.mem_cons, List.not_mem_nil, or_false] at hx; rcases hx with rfl | rfl | rfl | rfl <;> simp, by simp, by simp⟩
       | exact ⟨fun x hx => by simp only [List.mem_cons, List.not_mem_nil, or_false] at hx; rcases hx with rfl | rfl | rfl <;> simp, by simp, by simp⟩
       | exact ⟨fun x hx => by simp only [List.mem_cons, List.not_mem_nil, or_false] at hx; rcases hx with rfl <;> simp, by simp, by simp⟩)
    | cases h
theorem escB_d {l r : Bs} {s : List Rng} {q : Bool} (h : escB l = some (s, q, r)) : ItemD l s q r := by
  unfold escB at h
  cases ht : takeB [] l with
  | none => rw [ht] at h; cases h
  | some p =>
    obtain ⟨c, r1⟩ := p
    rw [ht] at h
    simp only at h
    have hl := takeB_len ht
    split at h
    · split at h
      · cases h
      · rename_i hc
        simp only [Option.some.injEq, Prod.mk.injEq] at h
        obtain ⟨rfl, rfl, rfl⟩ := h
        simp only [Bool.or_eq_true, decide_eq_true_eq, not_or] at hc
        have hn : hexNB (r1.take 6) ≤ 1114111 := by omega
        exact ⟨RngsOk.one hn, by simp [one1], fun _ => ⟨_, hn, rfl⟩, by rw [List.length_drop]; omega⟩
    · cases hs : escS c with
      | none => rw [hs] at h; cases h
      | some p =>
        obtain ⟨s1, q1⟩ := p
        rw [hs] at h
        simp only [Option.map_some, Option.some.injEq, Prod.mk.injEq] at h
        obtain ⟨rfl, rfl, rfl⟩ := h
        obtain ⟨h1, h2, h3⟩ := escS_d hs hl.2
        exact ⟨h1, h2, h3, hl.1⟩
theorem itemB_d {l r : Bs} {s : List Rng} {q : Bool} (h : itemB l = some (s, q, r)) : ItemD l s q r := by
  unfold itemB at h
  cases hi : isB 92 l with
  | some r1 =>
    rw [hi] at h
    have e := isB_some hi
    have h1 := escB_d h
    exact ⟨h1.ok, h1.few, h1.one, by rw [e]; have := h1.len; simp only [List.length_cons]; omega⟩
  | none =>
    rw [hi] at h
    simp only at h
    cases ht : takeB noneC l with
    | none => rw [ht] at h; cases h
    | some p =>
      obtain ⟨c, r1⟩ := p
      rw [ht] at h
      simp only [Option.map_some, Option.some.injEq, Prod.mk.injEq] at h
      obtain ⟨rfl, rfl, rfl⟩ := h
      have hl := takeB_len ht
      exact ⟨RngsOk.one hl.2, by simp [one1], fun _ => ⟨_, hl.2, rfl⟩, hl.1⟩
end Pv
namespace Go.Proofs.YtilhicefhhgecaaGreatDoor
open Go.RowKit Pv
/-- What stands of the reader's escape. -/
structure EscOk (R B : Nat) : Prop where
  yes : ∀ (l r : Bs) (s : List Rng) (q wd : Bool) (w : World), l.length ≤ 100000 → escB l = some (s, q, r) → RdS w R l wd → TabV B w → Calls Tryz.prog 199 #[.pointer (some ⟨R, 0, none⟩)] w (EscP R w s q r wd)
  no : ∀ (l : Bs) (wd : Bool) (w : World), l.length ≤ 100000 → escB l = none → RdS w R l wd → TabV B w → Calls Tryz.prog 199 #[.pointer (some ⟨R, 0, none⟩)] w fun e w' => Stopped e ∧ Only R w w'
theorem EscP.from {R : Nat} {w w1 : World} {s : List Rng} {q : Bool} {l : Bs} {wd : Bool} {e : Ending} {w' : World} (h : EscP R w1 s q l wd e w') (k : Only R w w1) : EscP R w s q l wd e w' := by
  obtain ⟨A, n, c, he, h1, h2, h3⟩ := h
  exact ⟨A, n, c, he, OwnK.lower h1 k.size, h2, k.step h3⟩
theorem TabV.only {B R : Nat} {w w' : World} (h : TabV B w) (k : Only R w w') (hB : B ≤ R) (hR : R < w.heap.size) : TabV B w' := h.next (k.below hB (by omega))

set_option maxHeartbeats 1000000 in
set_option maxRecDepth 100000 in
theorem rd_itemG {R B : Nat} {l r : Bs} {s : List Rng} {q wd : Bool} {w : World} (hE : EscOk R B) (h : RdS w R l wd) (hi : itemB l = some (s, q, r)) (hl : l.length ≤ 100000) (hT : TabV B w) (hB : B ≤ R) :
    Calls Tryz.prog 197 #[.pointer (some ⟨R, 0, none⟩)] w (EscP R w s q r wd) := by
  have H0 := Lib.hid h
  have HI := rd_is R l wd 92 w h
  have HT := Lib.hid hT
  unfold itemB at hi
  cases hc : isB 92 l with
  | some r1 =>
    rw [hc] at hi HI
    have HI := Lib.hid HI
    have HES := Lib.hid (fun w1 (h1 : RdS w1 R r1 wd) (h2 : TabV B w1) => hE.yes r1 r s q wd w1 (by rw [isB_some hc] at hl; simp at hl; omega) hi h1 h2)
    clear h hi hc hT hl
    go_enter Tryz.func197, Tryz.ntmps197
    go_wp2_with fail
    refine HI.out.mono ?_
    rintro e w1 ⟨rfl, h1, h2⟩
    simp only [Option.getD_some] at h1
    have HX := Lib.hid (HES.out w1 h1 (HT.out.only h2 hB H0.out.lt))
    have H2 := Lib.hid h2
    clear h1 h2
    go_wp2_with fail
    refine HX.out.mono ?_
    intro e w2 hp
    obtain ⟨A, n, c, rfl, k1, k2, k3⟩ := hp.from H2.out
    have K1 := Lib.hid k1; have K2 := Lib.hid k2; have K3 := Lib.hid k3
    clear hp k1 k2 k3
    go_wp2
    go_ret2
    exact ⟨A, n, c, rfl, K1.out, K2.out, K3.out⟩
  | none =>
    rw [hc] at hi HI
    simp only at hi
    cases ht : takeB noneC l with
    | none => rw [ht] at hi; cases hi
    | some p =>
      obtain ⟨m, r1⟩ := p
      rw [ht] at hi
      simp only [Option.map_some, Option.some.injEq, Prod.mk.injEq] at hi
      obtain ⟨rfl, rfl, rfl⟩ := hi
      have hm := (takeB_len ht).2
      have HI := Lib.hid HI
      have HTK := Lib.hid (fun w1 (h1 : RdS w1 R l wd) (h2 : TabV B w1) => rd_takeG R B l r1 m wd ⟨#[93, 45, 94, 91]⟩ w1 h1 ht hl h2)
      have HSP := Lib.hid (fun W => rd_span m m W (by omega) (by omega))
      clear h hc hT hl ht hm
      go_enter Tryz.func197, Tryz.ntmps197
      go_wp2_with fail
      refine HI.out.mono ?_
      rintro e w1 ⟨rfl, h1, h2⟩
      simp only [Option.getD_none] at h1
      have HX := Lib.hid (HTK.out w1 h1 (HT.out.only h2 hB H0.out.lt))
      have H2 := Lib.hid h2
      clear h1 h2
      go_wp2_with fail
      refine HX.out.mono ?_
      rintro e w2 ⟨rfl, h1, h2⟩
      have H1 := Lib.hid h1; have H3 := Lib.hid (H2.out.step h2)
      clear h1 h2
      go_wp2_with fail
      refine (HSP.out _).mono ?_
      rintro e w3 ⟨rfl, h3, h4⟩
      have H4 := Lib.hid h3; have H5 := Lib.hid h4
      clear h3 h4
      go_wp2
      go_ret2
      exact ⟨_, _, _, rfl, OwnK.lower H4.out H3.out.size, H1.out.below H5.out, H3.out.then H5.out⟩

set_option maxHeartbeats 1000000 in
set_option maxRecDepth 100000 in
theorem rd_itemN {R B : Nat} {l : Bs} {wd : Bool} {w : World} (hE : EscOk R B) (h : RdS w R l wd) (hi : itemB l = none) (hl : l.length ≤ 100000) (hT : TabV B w) (hB : B ≤ R) :
    Calls Tryz.prog 197 #[.pointer (some ⟨R, 0, none⟩)] w fun e w' => Stopped e ∧ Only R w w' := by
  have H0 := Lib.hid h
  have HI := rd_is R l wd 92 w h
  have HT := Lib.hid hT
  unfold itemB at hi
  cases hc : isB 92 l with
  | some r1 =>
    rw [hc] at hi HI
    have HI := Lib.hid HI
    have HES := Lib.hid (fun w1 (h1 : RdS w1 R r1 wd) (h2 : TabV B w1) => hE.no r1 wd w1 (by rw [isB_some hc] at hl; simp at hl; omega) hi h1 h2)
    clear h hi hc hT hl
    go_enter Tryz.func197, Tryz.ntmps197
    go_wp2_with fail
    refine HI.out.mono ?_
    rintro e w1 ⟨rfl, h1, h2⟩
    simp only [Option.getD_some] at h1
    have HX := Lib.hid (HES.out w1 h1 (HT.out.only h2 hB H0.out.lt))
    have H2 := Lib.hid h2
    clear h1 h2
    go_wp2_with fail
    refine HX.out.mono ?_
    rintro e w2 ⟨he, k3⟩
    subst he
    have K3 := Lib.hid (H2.out.step k3)
    clear k3
    go_wp2
    exact ⟨rfl, rfl, K3.out⟩
  | none =>
    rw [hc] at hi HI
    simp only [Option.map_eq_none_iff] at hi
    have HI := Lib.hid HI
    have HTK := Lib.hid (fun w1 (h1 : RdS w1 R l wd) (h2 : TabV B w1) => rd_takeN R B l wd ⟨#[93, 45, 94, 91]⟩ w1 h1 hi hl h2)
    clear h hc hT hl hi
    go_enter Tryz.func197, Tryz.ntmps197
    go_wp2_with fail
    refine HI.out.mono ?_
    rintro e w1 ⟨rfl, h1, h2⟩
    simp only [Option.getD_none] at h1
    have HX := Lib.hid (HTK.out w1 h1 (HT.out.only h2 hB H0.out.lt))
    have H2 := Lib.hid h2
    clear h1 h2
    go_wp2_with fail
    refine HX.out.mono ?_
    rintro e w2 ⟨he, k3⟩
    subst he
    have K3 := Lib.hid (H2.out.step k3)
    clear k3
    go_wp2
    exact ⟨rfl, rfl, K3.out⟩
end Go.Proofs.YtilhicefhhgecaaGreatDoor

namespace Pv
open Go Go.RowKit
/-- What comes of a class, from what its items are. -/
def resC (neg : Bool) (wd : Bool) (X : Option (List Rng × Bs)) : Option PR := match X with
  | none => none
  | some (s, r) => some ([setX (if neg then othR (joinR (sortR s)) else joinR (sortR s))], r, wd || decide (256 < (if neg then othR (joinR (sortR s)) else joinR (sortR s)).length))
theorem class_0 {l : Bs} (h : isB 94 l = none) (wd : Bool) : classB l wd = resC false wd (clsB (l.length + 1) l []) := by
  unfold classB resC
  simp only [h]
  cases clsB (l.length + 1) l [] <;> rfl
theorem class_1 {l l0 : Bs} (h : isB 94 l = some l0) (wd : Bool) : classB l wd = resC true wd (clsB (l0.length + 1) l0 []) := by
  unfold classB resC
  simp only [h]
  cases clsB (l0.length + 1) l0 [] <;> rfl
theorem cls_end {f : Nat} {l r : Bs} {acc : List Rng} (h : isB 93 l = some r) : clsB (f + 1) l acc = some (acc, r) := by
  unfold clsB
  rw [h]
theorem cls_no {f : Nat} {l : Bs} {acc : List Rng} (h : isB 93 l = none) (h1 : itemB l = none) : clsB (f + 1) l acc = none := by
  unfold clsB
  rw [h]
  unfold rngB
  rw [h1]
theorem cls_set {f : Nat} {l r : Bs} {acc s : List Rng} (h : isB 93 l = none) (h1 : itemB l = some (s, false, r)) : clsB (f + 1) l acc = clsB f r (acc ++ s) := by
  conv => lhs; unfold clsB
  rw [h]
  unfold rngB
  rw [h1]
  rfl
theorem cls_one {f : Nat} {l r : Bs} {acc s : List Rng} (h : isB 93 l = none) (h1 : itemB l = some (s, true, r)) (h2 : isB 45 r = none) : clsB (f + 1) l acc = clsB f r (acc ++ s) := by
  conv => lhs; unfold clsB
  rw [h]
  unfold rngB
  rw [h1]
  simp only [if_true, h2]
theorem cls_no2 {f : Nat} {l r r2 : Bs} {acc s : List Rng} (h : isB 93 l = none) (h1 : itemB l = some (s, true, r)) (h2 : isB 45 r = some r2) (h3 : itemB r2 = none) : clsB (f + 1) l acc = none := by
  unfold clsB
  rw [h]
  unfold rngB
  rw [h1]
  simp only [if_true, h2, h3]
theorem cls_no3 {f : Nat} {l r r2 r3 : Bs} {acc s m : List Rng} {q : Bool} (h : isB 93 l = none) (h1 : itemB l = some (s, true, r)) (h2 : isB 45 r = some r2) (h3 : itemB r2 = some (m, q, r3)) (h4 : (!q || decide ((m.getD 0 ⟨0, 0⟩).hi < (s.getD 0 ⟨0, 0⟩).lo)) = true) : clsB (f + 1) l acc = none := by
  unfold clsB
  rw [h]
  unfold rngB
  rw [h1]
  simp only [if_true, h2, h3, h4]
theorem cls_two {f : Nat} {l r r2 r3 : Bs} {acc : List Rng} {a b : Int} (h : isB 93 l = none) (h1 : itemB l = some ([⟨a, a⟩], true, r)) (h2 : isB 45 r = some r2) (h3 : itemB r2 = some ([⟨b, b⟩], true, r3)) (h4 : ¬ b < a) : clsB (f + 1) l acc = clsB f r3 (acc ++ [⟨a, b⟩]) := by
  conv => lhs; unfold clsB
  rw [h]
  unfold rngB
  rw [h1]
  simp only [if_true, h2, h3, List.getD_cons_zero, Bool.not_true, Bool.false_or, decide_eq_true_eq, if_neg h4, toR]
theorem joinF_len : ∀ (m out : List Rng), (m.foldl join1 out).length ≤ m.length + out.length
  | [], out => by simp
  | x :: m, out => by
    rw [List.foldl_cons]
    have h := joinF_len m (join1 out x)
    have h2 : (join1 out x).length ≤ out.length + 1 := by
      rcases List.eq_nil_or_concat out with rfl | ⟨o, y, rfl⟩
      · rw [join1_nil]; simp
      · rw [List.concat_eq_append, join1_app]
        split <;> simp
    simp only [List.length_cons]
    omega
theorem join_len (l : List Rng) : (joinR (sortR l)).length ≤ l.length := by
  have h := joinF_len (sortR l) []
  rw [(sortR_ok l).2.length_eq] at h
  exact h
theorem join_ok {l : List Rng} (h : RngsOk l) : RngsOk (joinR (sortR l)) := fun x hx =>
  join_bd (l := sortR l) (fun y hy => h y ((sortR_ok l).2.mem_iff.1 hy)) (sortR l).length x (by rw [List.take_length]; exact hx)
theorem Only.thenB {w w1 w2 : World} {R : Nat} (h : Only R w w1) (k : Below w.heap.size w1 w2) : Only R w w2 :=
  ⟨k.os.trans h.os, k.tape.trans h.tape, k.output.trans h.output, Nat.le_trans h.size k.size, fun b hb hne => (k.block b hb).trans (h.block b hb hne)⟩
end Pv
namespace Go.Proofs.YtilhicefhhgecaaGreatDoor
open Go.RowKit Pv
theorem RdS.keepB {w w' : World} {R b : Nat} {l : Bs} {wd : Bool} (h : RdS w R l wd) (k : Below b w w') (hR : R < b) : RdS w' R l wd := by
  obtain ⟨s, h1, h2⟩ := h
  exact ⟨s, h1, (k.block R hR).trans h2⟩
/-- What a method that reads nodes leaves, or its panic. -/
def RdO (R : Nat) (w : World) (x : Option PR) (e : Ending) (w' : World) : Prop := match x with
  | some (t, l, wd) => RdP R w t l wd e w'
  | none => Stopped e ∧ Only R w w'
theorem only_far {w w' : World} {R G : Nat} (h : Only R w w') (hG : w.heap.size ≤ G) (i : Nat) (v : Value) : Only R w (w'.setCell ⟨G, i, none⟩ v) :=
  ⟨h.os, h.tape, h.output, by simpa using h.size, fun k hk hb => (Below.heap_setCell w' ⟨G, i, none⟩ v k (by show k ≠ G; omega)).trans (h.block k hk hb)⟩
theorem rds_far {w : World} {R G : Nat} {l : Bs} {wd : Bool} (h : RdS w R l wd) (hG : R ≠ G) (i : Nat) (v : Value) : RdS (w.setCell ⟨G, i, none⟩ v) R l wd := by
  obtain ⟨s, h1, h2⟩ := h
  exact ⟨s, h1, (Below.heap_setCell w ⟨G, i, none⟩ v R hG).trans h2⟩
theorem far_row {w : World} {base q c g : Nat} {A : Option Addr} {us : List Value} (h : w.ownsRow base TRg 2 (.slice A q c) q us) (hg : w.heap.size ≤ g) : some g ≠ (Value.slice A q c).ownBlock := fun e => by have := (h.lt g e.symm).2; omega
theorem set_src {w : World} {b n c : Nat} {A : Option Addr} {xs : List Rng} (h : OwnSet w b (.slice A n c) xs) (hl : n ≤ 100000) : ∃ us, Hid (RelK 2 RRng us xs) ∧ Hid (Pv.Src w A 2 n us) ∧ Hid (xs.length = n) := by
  obtain ⟨A', c', us, hv, ho, hr⟩ := h
  injection hv with e1 e2 e3
  subst e1; subst e3
  rw [← e2] at ho
  obtain ⟨_, hat⟩ := AtK.of_own ho hr e2 (by omega)
  obtain ⟨vs, hrv, hsrc⟩ := AtK.src hat (fun _ _ => RRng.one)
  rw [← e2] at hsrc
  exact ⟨vs, Lib.hid hrv, Lib.hid hsrc, Lib.hid e2.symm⟩
theorem set_pushN {w : World} {base n k c : Nat} {A : Option Addr} {us vs : List Value} {xs ys : List Rng} (hr : RelK 2 RRng us xs) (hs : RelK 2 RRng vs ys) (hn : xs.length = n) (hk : ys.length = k) (h : w.ownsRow base TRg 2 (.slice A (n + k) c) (n + k) (us ++ vs)) : OwnSet w base (.slice A (n + k) c) (xs ++ ys) :=
  ⟨A, c, _, by rw [List.length_append, hn, hk], by rw [List.length_append, hn, hk]; exact h, hr.app hs⟩

set_option maxHeartbeats 8000000 in
set_option maxRecDepth 100000 in
theorem rd_class0 {R B : Nat} {l : Bs} {wd : Bool} {w : World} (hE : EscOk R B) (h : RdS w R l wd) (hn : isB 94 l = none) (hl : l.length ≤ 20000) (hT : TabV B w) (hB : B ≤ R) :
    Calls Tryz.prog 161 #[.pointer (some ⟨R, 0, none⟩)] w (RdO R w (classB l wd)) := by
  obtain ⟨i0, hi0, hz0, hs0, hb0⟩ := info_parts info_range
  rw [class_0 hn wd]
  obtain ⟨X, hX⟩ : ∃ X, clsB (l.length + 1) l [] = X := ⟨_, rfl⟩
  have HX0 := Lib.hid hX
  have HR : Hid (R < w.heap.size) := Lib.hid h.lt
  have HE := Lib.hid hE; have HT := Lib.hid hT
  have HI0 := rd_is R l wd 94 w h
  rw [hn] at HI0
  have HI0 := Lib.hid HI0
  have HNO := Lib.hid (fun W => rd_no W)
  have hl0 : l.length ≤ 20000 := by exact hl
  rw [hX]
  clear hX h hn hE hT
  go_enter Tryz.func161, Tryz.ntmps161
  go_wp2_with fail
  refine HI0.out.mono ?_
  rintro e w0 ⟨rfl, h1, h2⟩
  simp only [Option.getD_none] at h1
  have HRD := Lib.hid h1; have HON := Lib.hid h2
  clear h1 h2
  go_wp2
  go_loopw [4] (fun lv wr => ∃ (cur : Bs) (acc : List Rng) (n c : Nat) (A : Option Addr) (f' : Nat), lv = .slice A n c ∧ n + 4 * cur.length ≤ 4 * l.length ∧ cur.length < f' ∧ Hid (clsB f' cur acc = X) ∧ Hid (RdS wr R cur wd) ∧ Hid (OwnSet wr w.heap.size (.slice A n c) acc) ∧ Hid (RngsOk acc) ∧ Hid (Only R w wr)) (fun _ wr => rdLen wr R)
  case atStart => exact ⟨l, [], 0, 0, none, _, rfl, by omega, Nat.lt_succ_self _, HX0, HRD, Lib.hid OwnK.nil, Lib.hid (fun x hx => by simp at hx), HON⟩
  case round =>
    clear HRD HON HX0
    obtain ⟨cur, acc, n, c, A, f', rfl, hb, hf, HX, HRD, HOS, HOK, HON⟩ := hrel
    obtain ⟨f2, rfl⟩ : ∃ f2, f' = f2 + 1 := ⟨f' - 1, by omega⟩
    have HTV := Lib.hid (HT.out.only HON.out hB HR.out)
    have HAL : Hid (acc.length = n) := Lib.hid (by obtain ⟨_, _, _, hv, _⟩ := HOS.out; injection hv with _ e2 _; exact e2.symm)
    have HIS := rd_is R cur wd 93 wr HRD.out
    have hcl : cur.length ≤ 20000 := by omega
    cases hi : isB 93 cur with
    | some r' =>
      rw [hi] at HIS
      have HIS := Lib.hid HIS
      have HXE : Hid (X = some (acc, r')) := Lib.hid (by rw [← HX.out]; exact cls_end hi)
      obtain rfl := HXE.out
      clear hi
      go_wp2_with fail
      refine HIS.out.mono ?_
      rintro e w1 ⟨rfl, h1, h2⟩
      simp only [Option.getD_some] at h1
      have HRD1 := Lib.hid h1; have HON1 := Lib.hid (HON.out.step h2)
      have HJ := Lib.hid (rd_join A n c w.heap.size acc w1 (only_set h2 HRD.out HOS.out) HOK.out (by omega) HON1.out.size)
      clear h1 h2
      go_wp2_with fail
      refine HJ.out.mono ?_
      rintro e w2 ⟨A2, n2, c2, rfl, h1, h2⟩
      have HO2 := Lib.hid h1; have HON2 := Lib.hid (HON1.out.thenB h2); have HRD2 := Lib.hid (HRD1.out.keepB h2 HR.out)
      have HN2 : Hid ((joinR (sortR acc)).length = n2) := Lib.hid (by obtain ⟨_, _, _, hv, _⟩ := h1; injection hv with _ e2 _; exact e2.symm)
      have HR2 : Hid (R < w2.heap.size) := Lib.hid HRD2.out.lt
      clear h1 h2
      obtain ⟨s2, HS2, HB2, hlt2, p0, p1, f0, f1⟩ := HRD2.out.cells
      have HFE : Hid (joinR (sortR acc) = joinR (sortR acc)) := Lib.hid rfl
      have hRR := HR.out
      by_cases hbig : 256 < n2
      · have hb1 : (256 : Int) < (n2 : Int) := by omega
        have HRES : Hid (resC false wd (some (acc, r')) = some ([setX (joinR (sortR acc))], r', true)) := Lib.hid (by
          unfold resC
          simp only [Bool.false_eq_true, if_false, HN2.out, decide_eq_true hbig, Bool.or_true])
        cases wd
        all_goals
          go_wp2
          go_ret
          rw [HRES.out]
          exact ⟨_, _, _, rfl, rx_lower (own_self (by simp) (Nat.le_trans HON2.out.size (by simp)) (OwnK.setFar HO2.out HB2.out (by decide) 1 (.bool true))) (by omega), ⟨s2, HS2.out, (HB2.out.set 1 (.bool true)).alloc _⟩, (HON2.out.set 1 _).alloc _⟩
      · have hb1 : ¬ (256 : Int) < (n2 : Int) := by omega
        have hb2 : (n2 : Int) ≤ 256 := by omega
        have hb3 : decide ((256 : Int) < (n2 : Int)) = false := decide_eq_false hb1
        have HRES : Hid (resC false wd (some (acc, r')) = some ([setX (joinR (sortR acc))], r', wd)) := Lib.hid (by
          unfold resC
          simp only [Bool.false_eq_true, if_false, HN2.out, decide_eq_false hbig, Bool.or_false])
        cases wd
        all_goals
          go_wp2
          go_ret
          rw [HRES.out]
          exact ⟨_, _, _, rfl, rx_lower (own_self (by simp) (Nat.le_trans HON2.out.size (by simp)) (OwnK.setFar HO2.out HB2.out (by decide) 1 _)) (by omega), ⟨s2, HS2.out, (HB2.out.set 1 _).alloc _⟩, (HON2.out.set 1 _).alloc _⟩
    | none =>
      rw [hi] at HIS
      have HIS := Lib.hid HIS
      cases hit : itemB cur with
      | none =>
        have HXN : Hid (X = none) := Lib.hid (by rw [← HX.out]; exact cls_no hi hit)
        obtain rfl := HXN.out
        have HIT := Lib.hid (fun w1 (h1 : RdS w1 R cur wd) (h2 : TabV B w1) => rd_itemN HE.out h1 hit (by omega) h2 hB)
        clear hi hit
        go_wp2_with fail
        refine HIS.out.mono ?_
        rintro e w1 ⟨rfl, h1, h2⟩
        simp only [Option.getD_none] at h1
        have HIT1 := Lib.hid (HIT.out w1 h1 (HTV.out.only h2 hB HRD.out.lt))
        have H2 := Lib.hid (HON.out.step h2)
        clear h1 h2
        go_wp2_with fail
        refine HIT1.out.mono ?_
        rintro e w2 ⟨he, k3⟩
        subst he
        have K3 := Lib.hid (H2.out.step k3)
        clear k3
        go_wp2
        exact ⟨rfl, show Stopped _ ∧ Only R w _ from ⟨rfl, K3.out⟩⟩
      | some p =>
        obtain ⟨s, q, r⟩ := p
        have HD := Lib.hid (itemB_d hit)
        have HIT := Lib.hid (fun w1 (h1 : RdS w1 R cur wd) (h2 : TabV B w1) => rd_itemG HE.out h1 hit (by omega) h2 hB)
        have hrl := HD.out.len
        have hfew := HD.out.few
        cases q with
        | false =>
          have HXR : Hid (clsB f2 r (acc ++ s) = X) := Lib.hid (by rw [← HX.out]; exact (cls_set hi hit).symm)
          clear hi hit
          go_wp2_with fail
          refine HIS.out.mono ?_
          rintro e w1 ⟨rfl, h1, h2⟩
          simp only [Option.getD_none] at h1
          have HIT1 := Lib.hid (HIT.out w1 h1 (HTV.out.only h2 hB HRD.out.lt))
          have H2 := Lib.hid (HON.out.step h2)
          have HOS1 := Lib.hid (only_set h2 HRD.out HOS.out)
          have HRD1 := Lib.hid h1
          clear h1 h2
          go_wp2_with fail
          refine HIT1.out.mono ?_
          rintro e w2 ⟨A1, k1, c1, rfl, g1, g2, g3⟩
          have H3 := Lib.hid (H2.out.step g3)
          have HOS2 := Lib.hid (only_set g3 HRD1.out HOS1.out)
          have HRD2 := Lib.hid g2
          obtain ⟨vs, HRS, HSR, HQS⟩ := set_src g1 (by obtain ⟨_, _, _, hv, _⟩ := g1; injection hv with _ e2 _; omega)
          have hk1 : k1 ≤ 4 := by rw [← HQS.out]; exact hfew.2
          obtain ⟨us, HOA, HRL, HQL⟩ := set_split HOS2.out
          have Q1 : Hid (n + k1 ≤ maxLen) := Lib.hid (by simp only [maxLen]; omega)
          have Q2 : Hid ((n + k1) * 16 ≤ 140737488355328) := Lib.hid (by omega)
          have HK9 : Hid (RngsOk (acc ++ s)) := Lib.hid (HOK.out.app HD.out.ok)
          clear g1 g2 g3
          go_wp2_with (first
          | (at_builtin
             go_must (refine wpList_append_src _ rfl (.tmp 54) (.tmp 55) 50 rfl w.heap.size TRg i0 _ 2 16 Tryz.underlying50 hi0 hz0 hs0 hb0 rfl (by decide) A c n _ rfl HOA.out A1 k1 c1 _ rfl HSR.out Q1.out Q2.out H3.out.size ?_)
             intro A9 c9 w9 own9 gr9 _
             have HO9 := Lib.hid (set_pushN HRL.out HRS.out HQL.out HQS.out own9)
             have HN9 := Lib.hid (H3.out.grown gr9 (fun k hk => (HOA.out.lt k hk).1))
             have HR9 := Lib.hid (HRD2.out.grown HOA.out (by decide) gr9)
             clear own9 gr9))
          go_roundw
          case rel => exact ⟨r, acc ++ s, n + k1, c9, A9, f2, rfl, by omega, by omega, HXR, HR9, HO9, HK9, HN9⟩
          case measure => rw [HR9.out.len, HRD.out.len]; have := hrl; omega
        | true =>
          have HIS2 := fun w1 (h1 : RdS w1 R r wd) => rd_is R r wd 45 w1 h1
          obtain ⟨a, ha, rfl⟩ := HD.out.one rfl
          cases hi2 : isB 45 r with
          | none =>
            rw [hi2] at HIS2
            have HIS2 := Lib.hid HIS2
            have HXR : Hid (clsB f2 r (acc ++ one1 a) = X) := Lib.hid (by rw [← HX.out]; exact (cls_one hi hit hi2).symm)
            clear hi hit hi2
            go_wp2_with fail
            refine HIS.out.mono ?_
            rintro e w1 ⟨rfl, h1, h2⟩
            simp only [Option.getD_none] at h1
            have HIT1 := Lib.hid (HIT.out w1 h1 (HTV.out.only h2 hB HRD.out.lt))
            have H2 := Lib.hid (HON.out.step h2)
            have HOS1 := Lib.hid (only_set h2 HRD.out HOS.out)
            have HRD1 := Lib.hid h1
            clear h1 h2
            go_wp2_with fail
            refine HIT1.out.mono ?_
            rintro e w2 ⟨A1, k1, c1, rfl, g1, g2, g3⟩
            have H3 := Lib.hid (H2.out.step g3)
            have HOS2 := Lib.hid (only_set g3 HRD1.out HOS1.out)
            have HRD2 := Lib.hid g2
            have HG1 := Lib.hid g1
            have HIS3 := Lib.hid (HIS2.out w2 g2)
            clear g1 g2 g3
            go_wp2_with fail
            refine HIS3.out.mono ?_
            rintro e w3 ⟨rfl, h1, h2⟩
            simp only [Option.getD_none] at h1
            have H4 := Lib.hid (H3.out.step h2)
            have HOS3 := Lib.hid (only_set h2 HRD2.out HOS2.out)
            have g1 := only_set h2 HRD2.out HG1.out
            have HRD3 := Lib.hid h1
            obtain ⟨vs, HRS, HSR, HQS⟩ := set_src g1 (by obtain ⟨_, _, _, hv, _⟩ := g1; injection hv with _ e2 _; omega)
            have hk1 : k1 ≤ 4 := by rw [← HQS.out]; exact hfew.2
            obtain ⟨us, HOA, HRL, HQL⟩ := set_split HOS3.out
            have Q1 : Hid (n + k1 ≤ maxLen) := Lib.hid (by simp only [maxLen]; omega)
            have Q2 : Hid ((n + k1) * 16 ≤ 140737488355328) := Lib.hid (by omega)
            have HK9 : Hid (RngsOk (acc ++ one1 a)) := Lib.hid (HOK.out.app HD.out.ok)
            clear g1 h1 h2
            go_wp2_with (first
            | (at_builtin
               go_must (refine wpList_append_src _ rfl (.tmp 54) (.tmp 55) 50 rfl w.heap.size TRg i0 _ 2 16 Tryz.underlying50 hi0 hz0 hs0 hb0 rfl (by decide) A c n _ rfl HOA.out A1 k1 c1 _ rfl HSR.out Q1.out Q2.out H4.out.size ?_)
               intro A9 c9 w9 own9 gr9 _
               have HO9 := Lib.hid (set_pushN HRL.out HRS.out HQL.out HQS.out own9)
               have HN9 := Lib.hid (H4.out.grown gr9 (fun k hk => (HOA.out.lt k hk).1))
               have HR9 := Lib.hid (HRD3.out.grown HOA.out (by decide) gr9)
               clear own9 gr9))
            go_roundw
            case rel => exact ⟨r, acc ++ one1 a, n + k1, c9, A9, f2, rfl, by omega, by omega, HXR, HR9, HO9, HK9, HN9⟩
            case measure => rw [HR9.out.len, HRD.out.len]; have := hrl; omega
          | some r2 =>
            rw [hi2] at HIS2
            have HIS2 := Lib.hid HIS2
            have hr2 : r2.length + 1 = r.length := by rw [isB_some hi2]; rfl
            cases hit2 : itemB r2 with
            | none =>
              have HXN : Hid (X = none) := Lib.hid (by rw [← HX.out]; exact cls_no2 hi hit hi2 hit2)
              obtain rfl := HXN.out
              have HIT2 := Lib.hid (fun w1 (h1 : RdS w1 R r2 wd) (h2 : TabV B w1) => rd_itemN HE.out h1 hit2 (by omega) h2 hB)
              clear hi hit hi2 hit2
              go_wp2_with fail
              refine HIS.out.mono ?_
              rintro e w1 ⟨rfl, h1, h2⟩
              simp only [Option.getD_none] at h1
              have HIT1 := Lib.hid (HIT.out w1 h1 (HTV.out.only h2 hB HRD.out.lt))
              have HTV1 := Lib.hid (HTV.out.only h2 hB HRD.out.lt)
              have H2 := Lib.hid (HON.out.step h2)
              have HOS1 := Lib.hid (only_set h2 HRD.out HOS.out)
              have HRD1 := Lib.hid h1
              clear h1 h2
              go_wp2_with fail
              refine HIT1.out.mono ?_
              rintro e w2 ⟨A1, k1, c1, rfl, g1, g2, g3⟩
              have H3 := Lib.hid (H2.out.step g3)
              have HTV3 := Lib.hid (HTV1.out.only g3 hB HRD1.out.lt)
              have HOS2 := Lib.hid (only_set g3 HRD1.out HOS1.out)
              have HRD2 := Lib.hid g2
              have HG1 := Lib.hid g1
              have HIS3 := Lib.hid (HIS2.out w2 g2)
              clear g1 g2 g3
              go_wp2_with fail
              refine HIS3.out.mono ?_
              rintro e w3 ⟨rfl, h1, h2⟩
              simp only [Option.getD_some] at h1
              have HIT3 := Lib.hid (HIT2.out w3 h1 (HTV3.out.only h2 hB HRD2.out.lt))
              have H4 := Lib.hid (H3.out.step h2)
              clear h1 h2
              go_wp2_with fail
              refine HIT3.out.mono ?_
              rintro e w4 ⟨he, k3⟩
              subst he
              have K3 := Lib.hid (H4.out.step k3)
              clear k3
              go_wp2
              exact ⟨rfl, show Stopped _ ∧ Only R w _ from ⟨rfl, K3.out⟩⟩
            | some p =>
              obtain ⟨m, q2, r3⟩ := p
              have HD2 := Lib.hid (itemB_d hit2)
              have HIT2 := Lib.hid (fun w1 (h1 : RdS w1 R r2 wd) (h2 : TabV B w1) => rd_itemG HE.out h1 hit2 (by omega) h2 hB)
              have hrl2 := HD2.out.len
              cases q2 with
              | false =>
                have HXN : Hid (X = none) := Lib.hid (by rw [← HX.out]; exact cls_no3 hi hit hi2 hit2 rfl)
                obtain rfl := HXN.out
                clear hi hit hi2 hit2
                go_wp2_with fail
                refine HIS.out.mono ?_
                rintro e w1 ⟨rfl, h1, h2⟩
                simp only [Option.getD_none] at h1
                have HIT1 := Lib.hid (HIT.out w1 h1 (HTV.out.only h2 hB HRD.out.lt))
                have HTV1 := Lib.hid (HTV.out.only h2 hB HRD.out.lt)
                have H2 := Lib.hid (HON.out.step h2)
                have HOS1 := Lib.hid (only_set h2 HRD.out HOS.out)
                have HRD1 := Lib.hid h1
                clear h1 h2
                go_wp2_with fail
                refine HIT1.out.mono ?_
                rintro e w2 ⟨A1, k1, c1, rfl, g1, g2, g3⟩
                have H3 := Lib.hid (H2.out.step g3)
                have HTV3 := Lib.hid (HTV1.out.only g3 hB HRD1.out.lt)
                have HOS2 := Lib.hid (only_set g3 HRD1.out HOS1.out)
                have HRD2 := Lib.hid g2
                have HG1 := Lib.hid g1
                have HIS3 := Lib.hid (HIS2.out w2 g2)
                clear g1 g2 g3
                go_wp2_with fail
                refine HIS3.out.mono ?_
                rintro e w3 ⟨rfl, h1, h2⟩
                simp only [Option.getD_some] at h1
                have HIT3 := Lib.hid (HIT2.out w3 h1 (HTV3.out.only h2 hB HRD2.out.lt))
                have H4 := Lib.hid (H3.out.step h2)
                have HOS3 := Lib.hid (only_set h2 HRD2.out HOS2.out)
                have HG3 := Lib.hid (only_set h2 HRD2.out HG1.out)
                have HRD3 := Lib.hid h1
                clear h1 h2
                go_wp2_with fail
                refine HIT3.out.mono ?_
                rintro e w4 ⟨A4, k4, c4, rfl, g1, g2, g3⟩
                have H5 := Lib.hid (H4.out.step g3)
                have HOS4 := Lib.hid (only_set g3 HRD3.out HOS3.out)
                have HG4 := Lib.hid (only_set g3 HRD3.out HG3.out)
                have HM4 := Lib.hid g1
                have HRD4 := Lib.hid g2
                clear g1 g2 g3
                have HT0 : Hid (True ∧ True) := Lib.hid ⟨trivial, trivial⟩
                go_wp2
                refine wp_region_T 12 (fun _ => True ∧ True) (by kernel_rfl) ?_
                refine wpAnyT_takeW (i := 0) (v := ?_) rfl (by decide) (by kernel_rfl) (by kernel_rfl) (by kernel_rfl) (fun _ _ _ h => h) (.inl ⟨rfl, ?_⟩) (fun _ => HT0.out) ?_
                rotate_left
                · intro W__ _
                  go_simp
                  (try with_reducible rfl)
                try simp only [Act.put]
                refine wpAnyT_takeW (i := 1) (v := ?_) rfl (by decide) (by kernel_rfl) (by kernel_rfl) (by kernel_rfl) (fun _ _ _ h => h) (.inl ⟨rfl, ?_⟩) (fun _ => HT0.out) ?_
                rotate_left
                · intro W__ _
                  go_simp
                  (try with_reducible rfl)
                try simp only [Act.put]
                refine wpAnyT_takeW (i := 2) (v := ?_) rfl (by decide) (by kernel_rfl) (by kernel_rfl) (by kernel_rfl) (fun _ _ _ h => h) (.inl ⟨rfl, ?_⟩) (fun _ => HT0.out) ?_
                rotate_left
                · intro W__ _
                  go_simp
                  (try with_reducible rfl)
                try simp only [Act.put]
                refine wpAnyT_takeW (i := 3) (v := undef) rfl (by decide) (by kernel_rfl) (by kernel_rfl) (by kernel_rfl) (fun _ _ _ h => h) (.inr ⟨by kernel_rfl, rfl⟩) (fun _ => HT0.out) ?_
                try simp only [Act.put]
                refine wpAnyT_takeW (i := 4) (v := undef) rfl (by decide) (by kernel_rfl) (by kernel_rfl) (by kernel_rfl) (fun _ _ _ h => h) (.inr ⟨by kernel_rfl, rfl⟩) (fun _ => HT0.out) ?_
                try simp only [Act.put]
                refine wpAnyT_takeW (i := 5) (v := undef) rfl (by decide) (by kernel_rfl) (by kernel_rfl) (by kernel_rfl) (fun _ _ _ h => h) (.inr ⟨by kernel_rfl, rfl⟩) (fun _ => HT0.out) ?_
                try simp only [Act.put]
                refine wpAnyT_takeW (i := 6) (v := undef) rfl (by decide) (by kernel_rfl) (by kernel_rfl) (by kernel_rfl) (fun _ _ _ h => h) (.inr ⟨by kernel_rfl, rfl⟩) (fun _ => HT0.out) ?_
                try simp only [Act.put]
                refine wpAnyT_takeW (i := 7) (v := undef) rfl (by decide) (by kernel_rfl) (by kernel_rfl) (by kernel_rfl) (fun _ _ _ h => h) (.inr ⟨by kernel_rfl, rfl⟩) (fun _ => HT0.out) ?_
                try simp only [Act.put]
                refine wpAnyT_takeW (i := 8) (v := undef) rfl (by decide) (by kernel_rfl) (by kernel_rfl) (by kernel_rfl) (fun _ _ _ h => h) (.inr ⟨by kernel_rfl, rfl⟩) (fun _ => HT0.out) ?_
                try simp only [Act.put]
                refine wpAnyT_takeW (i := 9) (v := undef) rfl (by decide) (by kernel_rfl) (by kernel_rfl) (by kernel_rfl) (fun _ _ _ h => h) (.inr ⟨by kernel_rfl, rfl⟩) (fun _ => HT0.out) ?_
                try simp only [Act.put]
                refine wpAnyT_takeW (i := 10) (v := undef) rfl (by decide) (by kernel_rfl) (by kernel_rfl) (by kernel_rfl) (fun _ _ _ h => h) (.inr ⟨by kernel_rfl, rfl⟩) (fun _ => HT0.out) ?_
                try simp only [Act.put]
                refine wpAnyT_takeW (i := 11) (v := undef) rfl (by decide) (by kernel_rfl) (by kernel_rfl) (by kernel_rfl) (fun _ _ _ h => h) (.inr ⟨by kernel_rfl, rfl⟩) (fun _ => HT0.out) ?_
                try simp only [Act.put]
                refine wpAnyT_end (i := 12) rfl (by kernel_rfl) rfl (by kernel_rfl) fun K__ hK__ => ?_
                unfold Oper.wp
                go_simp
                refine hK__ _ _ ?_
                clear hK__
                refine wpAnyT_done (by kernel_rfl) ?_ _
                go_wp2_with fail
                refine (HNO.out _).mono ?_
                rintro e w'' ⟨he, rfl⟩
                subst he
                go_wp2
                exact ⟨rfl, show Stopped _ ∧ Only R w _ from ⟨rfl, (Only.then H5.out (Below.refl _ _).drew)⟩⟩
              | true =>
                obtain ⟨b, hb9, rfl⟩ := HD2.out.one rfl
                by_cases hlt : (b : Int) < (a : Int)
                · have HXN : Hid (X = none) := Lib.hid (by rw [← HX.out]; exact cls_no3 hi hit hi2 hit2 (by simp [one1]; omega))
                  obtain rfl := HXN.out
                  clear hi hit hi2 hit2
                  go_wp2_with fail
                  refine HIS.out.mono ?_
                  rintro e w1 ⟨rfl, h1, h2⟩
                  simp only [Option.getD_none] at h1
                  have HIT1 := Lib.hid (HIT.out w1 h1 (HTV.out.only h2 hB HRD.out.lt))
                  have HTV1 := Lib.hid (HTV.out.only h2 hB HRD.out.lt)
                  have H2 := Lib.hid (HON.out.step h2)
                  have HOS1 := Lib.hid (only_set h2 HRD.out HOS.out)
                  have HRD1 := Lib.hid h1
                  clear h1 h2
                  go_wp2_with fail
                  refine HIT1.out.mono ?_
                  rintro e w2 ⟨A1, k1, c1, rfl, g1, g2, g3⟩
                  have H3 := Lib.hid (H2.out.step g3)
                  have HTV3 := Lib.hid (HTV1.out.only g3 hB HRD1.out.lt)
                  have HOS2 := Lib.hid (only_set g3 HRD1.out HOS1.out)
                  have HRD2 := Lib.hid g2
                  have HG1 := Lib.hid g1
                  have HIS3 := Lib.hid (HIS2.out w2 g2)
                  clear g1 g2 g3
                  go_wp2_with fail
                  refine HIS3.out.mono ?_
                  rintro e w3 ⟨rfl, h1, h2⟩
                  simp only [Option.getD_some] at h1
                  have HIT3 := Lib.hid (HIT2.out w3 h1 (HTV3.out.only h2 hB HRD2.out.lt))
                  have H4 := Lib.hid (H3.out.step h2)
                  have HOS3 := Lib.hid (only_set h2 HRD2.out HOS2.out)
                  have HG3 := Lib.hid (only_set h2 HRD2.out HG1.out)
                  have HRD3 := Lib.hid h1
                  clear h1 h2
                  go_wp2_with fail
                  refine HIT3.out.mono ?_
                  rintro e w4 ⟨A4, k4, c4, rfl, g1, g2, g3⟩
                  have H5 := Lib.hid (H4.out.step g3)
                  have HOS4 := Lib.hid (only_set g3 HRD3.out HOS3.out)
                  have HG4 := Lib.hid (only_set g3 HRD3.out HG3.out)
                  have HM4 := Lib.hid g1
                  have HRD4 := Lib.hid g2
                  clear g1 g2 g3
                  obtain ⟨hq1, G, hG, hG1, hG2, d0, d1, d2⟩ := OwnSet.last (o := []) (p := 0) HG4.out rfl
                  subst hq1; subst hG
                  obtain ⟨hq4, G4, hG4, _, _, _, e1, _⟩ := OwnSet.last (o := []) (p := 0) HM4.out rfl
                  subst hq4; subst hG4
                  simp only [Nat.zero_mul, Nat.zero_add] at d0 d1 d2 e1
                  have HS7 : Hid (w4.cell? ⟨G4, 1, none⟩ = some (.int .i64 (b : Int)) ∧ w4.cell? ⟨G, 0, none⟩ = some (.int .i64 (a : Int))) := Lib.hid ⟨e1, d0⟩
                  go_wp2
                  refine wp_region_T 12 (fun W => W.cell? ⟨G4, 1, none⟩ = some (.int .i64 (b : Int)) ∧ W.cell? ⟨G, 0, none⟩ = some (.int .i64 (a : Int))) (by kernel_rfl) ?_
                  refine wpAnyT_takeC (i := 0) [12, 2, 1] (v := ?_) rfl (by kernel_rfl) (by kernel_rfl) (by kernel_rfl) (by kernel_rfl) (by kernel_rfl) (by kernel_rfl) (fun _ _ _ h => h) (.inl ⟨rfl, ?_⟩) HS7.out ?_
                  rotate_left
                  · intro W__ hW__
                    obtain ⟨h1, h2⟩ := hW__
                    go_simp
                    (try with_reducible rfl)
                  try simp only [Act.put]
                  refine wpAnyT_takeC (i := 1) [12, 2] (v := ?_) rfl (by kernel_rfl) (by kernel_rfl) (by kernel_rfl) (by kernel_rfl) (by kernel_rfl) (by kernel_rfl) (fun _ _ _ h => h) (.inl ⟨rfl, ?_⟩) HS7.out ?_
                  rotate_left
                  · intro W__ hW__
                    obtain ⟨h1, h2⟩ := hW__
                    go_simp
                    (try with_reducible rfl)
                  try simp only [Act.put]
                  refine wpAnyT_takeC (i := 2) [12] (v := ?_) rfl (by kernel_rfl) (by kernel_rfl) (by kernel_rfl) (by kernel_rfl) (by kernel_rfl) (by kernel_rfl) (fun _ _ _ h => h) (.inl ⟨rfl, ?_⟩) HS7.out ?_
                  rotate_left
                  · intro W__ hW__
                    obtain ⟨h1, h2⟩ := hW__
                    go_simp
                    (try with_reducible rfl)
                  try simp only [Act.put]
                  refine wpAnyT_takeC (i := 3) [12, 11, 6, 5, 4] (v := ?_) rfl (by kernel_rfl) (by kernel_rfl) (by kernel_rfl) (by kernel_rfl) (by kernel_rfl) (by kernel_rfl) (fun _ _ _ h => h) (.inl ⟨by kernel_rfl, ?_⟩) HS7.out ?_
                  rotate_left
                  · intro W__ hW__
                    obtain ⟨h1, h2⟩ := hW__
                    go_simp
                    (try with_reducible rfl)
                  try simp only [Act.put]
                  refine wpAnyT_takeC (i := 7) [12, 11, 10, 9, 8] (v := ?_) rfl (by kernel_rfl) (by kernel_rfl) (by kernel_rfl) (by kernel_rfl) (by kernel_rfl) (by kernel_rfl) (fun _ _ _ h => h) (.inl ⟨by kernel_rfl, ?_⟩) HS7.out ?_
                  rotate_left
                  · intro W__ hW__
                    obtain ⟨h1, h2⟩ := hW__
                    go_simp
                    (try with_reducible rfl)
                  try simp only [Act.put]
                  refine wpAnyT_takeC (i := 4) [12, 11, 6, 5] (v := ?_) rfl (by kernel_rfl) (by kernel_rfl) (by kernel_rfl) (by kernel_rfl) (by kernel_rfl) (by kernel_rfl) (fun _ _ _ h => h) (.inl ⟨by kernel_rfl, ?_⟩) HS7.out ?_
                  rotate_left
                  · intro W__ hW__
                    obtain ⟨h1, h2⟩ := hW__
                    go_simp
                    (try with_reducible rfl)
                  try simp only [Act.put]
                  refine wpAnyT_takeC (i := 8) [12, 11, 10, 9] (v := ?_) rfl (by kernel_rfl) (by kernel_rfl) (by kernel_rfl) (by kernel_rfl) (by kernel_rfl) (by kernel_rfl) (fun _ _ _ h => h) (.inl ⟨by kernel_rfl, ?_⟩) HS7.out ?_
                  rotate_left
                  · intro W__ hW__
                    obtain ⟨h1, h2⟩ := hW__
                    go_simp
                    (try with_reducible rfl)
                  try simp only [Act.put]
                  refine wpAnyT_takeC (i := 5) [12, 11, 6] (v := ?_) rfl (by kernel_rfl) (by kernel_rfl) (by kernel_rfl) (by kernel_rfl) (by kernel_rfl) (by kernel_rfl) (fun _ _ _ h => h) (.inl ⟨by kernel_rfl, ?_⟩) HS7.out ?_
                  rotate_left
                  · intro W__ hW__
                    obtain ⟨h1, h2⟩ := hW__
                    go_simp
                    (try with_reducible rfl)
                  try simp only [Act.put]
                  refine wpAnyT_takeC (i := 9) [12, 11, 10] (v := ?_) rfl (by kernel_rfl) (by kernel_rfl) (by kernel_rfl) (by kernel_rfl) (by kernel_rfl) (by kernel_rfl) (fun _ _ _ h => h) (.inl ⟨by kernel_rfl, ?_⟩) HS7.out ?_
                  rotate_left
                  · intro W__ hW__
                    obtain ⟨h1, h2⟩ := hW__
                    go_simp
                    (try with_reducible rfl)
                  try simp only [Act.put]
                  refine wpAnyT_takeC (i := 6) [12, 11] (v := ?_) rfl (by kernel_rfl) (by kernel_rfl) (by kernel_rfl) (by kernel_rfl) (by kernel_rfl) (by kernel_rfl) (fun _ _ _ h => h) (.inl ⟨by kernel_rfl, ?_⟩) HS7.out ?_
                  rotate_left
                  · intro W__ hW__
                    obtain ⟨h1, h2⟩ := hW__
                    go_simp
                    (try with_reducible rfl)
                  try simp only [Act.put]
                  refine wpAnyT_takeC (i := 10) [12, 11] (v := ?_) rfl (by kernel_rfl) (by kernel_rfl) (by kernel_rfl) (by kernel_rfl) (by kernel_rfl) (by kernel_rfl) (fun _ _ _ h => h) (.inl ⟨by kernel_rfl, ?_⟩) HS7.out ?_
                  rotate_left
                  · intro W__ hW__
                    obtain ⟨h1, h2⟩ := hW__
                    go_simp
                    (try with_reducible rfl)
                  try simp only [Act.put]
                  refine wpAnyT_takeC (i := 11) [12] (v := ?_) rfl (by kernel_rfl) (by kernel_rfl) (by kernel_rfl) (by kernel_rfl) (by kernel_rfl) (by kernel_rfl) (fun _ _ _ h => h) (.inl ⟨by kernel_rfl, ?_⟩) HS7.out ?_
                  rotate_left
                  · intro W__ hW__
                    obtain ⟨h1, h2⟩ := hW__
                    go_simp
                    (try with_reducible rfl)
                  try simp only [Act.put]
                  refine wpAnyT_end (i := 12) rfl (by kernel_rfl) rfl (by kernel_rfl) fun K__ hK__ => ?_
                  unfold Oper.wp
                  go_simp
                  refine hK__ _ _ ?_
                  clear hK__
                  refine wpAnyT_done (by kernel_rfl) ?_ _
                  go_wp2_with fail
                  refine (HNO.out _).mono ?_
                  rintro e w'' ⟨he, rfl⟩
                  subst he
                  go_wp2
                  exact ⟨rfl, show Stopped _ ∧ Only R w _ from ⟨rfl, (Only.then H5.out (Below.refl _ _).drew)⟩⟩
                · have hlt2 : (a : Int) ≤ (b : Int) := by omega
                  have hlt3 : decide ((b : Int) < (a : Int)) = false := decide_eq_false hlt
                  have HXR : Hid (clsB f2 r3 (acc ++ [⟨(a : Int), (b : Int)⟩]) = X) := Lib.hid (by rw [← HX.out]; exact (cls_two hi hit hi2 hit2 hlt).symm)
                  clear hi hit hi2 hit2
                  go_wp2_with fail
                  refine HIS.out.mono ?_
                  rintro e w1 ⟨rfl, h1, h2⟩
                  simp only [Option.getD_none] at h1
                  have HIT1 := Lib.hid (HIT.out w1 h1 (HTV.out.only h2 hB HRD.out.lt))
                  have HTV1 := Lib.hid (HTV.out.only h2 hB HRD.out.lt)
                  have H2 := Lib.hid (HON.out.step h2)
                  have HOS1 := Lib.hid (only_set h2 HRD.out HOS.out)
                  have HRD1 := Lib.hid h1
                  clear h1 h2
                  go_wp2_with fail
                  refine HIT1.out.mono ?_
                  rintro e w2 ⟨A1, k1, c1, rfl, g1, g2, g3⟩
                  have H3 := Lib.hid (H2.out.step g3)
                  have HTV3 := Lib.hid (HTV1.out.only g3 hB HRD1.out.lt)
                  have HOS2 := Lib.hid (only_set g3 HRD1.out HOS1.out)
                  have HRD2 := Lib.hid g2
                  have HG1 := Lib.hid g1
                  have HIS3 := Lib.hid (HIS2.out w2 g2)
                  clear g1 g2 g3
                  go_wp2_with fail
                  refine HIS3.out.mono ?_
                  rintro e w3 ⟨rfl, h1, h2⟩
                  simp only [Option.getD_some] at h1
                  have HIT3 := Lib.hid (HIT2.out w3 h1 (HTV3.out.only h2 hB HRD2.out.lt))
                  have H4 := Lib.hid (H3.out.step h2)
                  have HOS3 := Lib.hid (only_set h2 HRD2.out HOS2.out)
                  have HG3 := Lib.hid (only_set h2 HRD2.out HG1.out)
                  have HRD3 := Lib.hid h1
                  clear h1 h2
                  go_wp2_with fail
                  refine HIT3.out.mono ?_
                  rintro e w4 ⟨A4, k4, c4, rfl, g1, g2, g3⟩
                  have H5 := Lib.hid (H4.out.step g3)
                  have HOS4 := Lib.hid (only_set g3 HRD3.out HOS3.out)
                  have HG4 := Lib.hid (only_set g3 HRD3.out HG3.out)
                  have HM4 := Lib.hid g1
                  have HRD4 := Lib.hid g2
                  clear g1 g2 g3
                  obtain ⟨hq1, G, hG, hG1, hG2, d0, d1, d2⟩ := OwnSet.last (o := []) (p := 0) HG4.out rfl
                  subst hq1; subst hG
                  obtain ⟨hq4, G4, hG4, _, _, _, e1, _⟩ := OwnSet.last (o := []) (p := 0) HM4.out rfl
                  subst hq4; subst hG4
                  simp only [Nat.zero_mul, Nat.zero_add] at d0 d1 d2 e1
                  have HS7 : Hid (w4.cell? ⟨G4, 1, none⟩ = some (.int .i64 (b : Int)) ∧ w4.cell? ⟨G, 0, none⟩ = some (.int .i64 (a : Int))) := Lib.hid ⟨e1, d0⟩
                  go_wp2
                  refine wp_region_T 12 (fun W => W.cell? ⟨G4, 1, none⟩ = some (.int .i64 (b : Int)) ∧ W.cell? ⟨G, 0, none⟩ = some (.int .i64 (a : Int))) (by kernel_rfl) ?_
                  refine wpAnyT_takeC (i := 0) [12, 2, 1] (v := ?_) rfl (by kernel_rfl) (by kernel_rfl) (by kernel_rfl) (by kernel_rfl) (by kernel_rfl) (by kernel_rfl) (fun _ _ _ h => h) (.inl ⟨rfl, ?_⟩) HS7.out ?_
                  rotate_left
                  · intro W__ hW__
                    obtain ⟨h1, h2⟩ := hW__
                    go_simp
                    (try with_reducible rfl)
                  try simp only [Act.put]
                  refine wpAnyT_takeC (i := 1) [12, 2] (v := ?_) rfl (by kernel_rfl) (by kernel_rfl) (by kernel_rfl) (by kernel_rfl) (by kernel_rfl) (by kernel_rfl) (fun _ _ _ h => h) (.inl ⟨rfl, ?_⟩) HS7.out ?_
                  rotate_left
                  · intro W__ hW__
                    obtain ⟨h1, h2⟩ := hW__
                    go_simp
                    (try with_reducible rfl)
                  try simp only [Act.put]
                  refine wpAnyT_takeC (i := 2) [12] (v := ?_) rfl (by kernel_rfl) (by kernel_rfl) (by kernel_rfl) (by kernel_rfl) (by kernel_rfl) (by kernel_rfl) (fun _ _ _ h => h) (.inl ⟨rfl, ?_⟩) HS7.out ?_
                  rotate_left
                  · intro W__ hW__
                    obtain ⟨h1, h2⟩ := hW__
                    go_simp
                    (try with_reducible rfl)
                  try simp only [Act.put]
                  refine wpAnyT_takeC (i := 3) [12, 11, 6, 5, 4] (v := ?_) rfl (by kernel_rfl) (by kernel_rfl) (by kernel_rfl) (by kernel_rfl) (by kernel_rfl) (by kernel_rfl) (fun _ _ _ h => h) (.inl ⟨by kernel_rfl, ?_⟩) HS7.out ?_
                  rotate_left
                  · intro W__ hW__
                    obtain ⟨h1, h2⟩ := hW__
                    go_simp
                    (try with_reducible rfl)
                  try simp only [Act.put]
                  refine wpAnyT_takeC (i := 7) [12, 11, 10, 9, 8] (v := ?_) rfl (by kernel_rfl) (by kernel_rfl) (by kernel_rfl) (by kernel_rfl) (by kernel_rfl) (by kernel_rfl) (fun _ _ _ h => h) (.inl ⟨by kernel_rfl, ?_⟩) HS7.out ?_
                  rotate_left
                  · intro W__ hW__
                    obtain ⟨h1, h2⟩ := hW__
                    go_simp
                    (try with_reducible rfl)
                  try simp only [Act.put]
                  refine wpAnyT_takeC (i := 4) [12, 11, 6, 5] (v := ?_) rfl (by kernel_rfl) (by kernel_rfl) (by kernel_rfl) (by kernel_rfl) (by kernel_rfl) (by kernel_rfl) (fun _ _ _ h => h) (.inl ⟨by kernel_rfl, ?_⟩) HS7.out ?_
                  rotate_left
                  · intro W__ hW__
                    obtain ⟨h1, h2⟩ := hW__
                    go_simp
                    (try with_reducible rfl)
                  try simp only [Act.put]
                  refine wpAnyT_takeC (i := 8) [12, 11, 10, 9] (v := ?_) rfl (by kernel_rfl) (by kernel_rfl) (by kernel_rfl) (by kernel_rfl) (by kernel_rfl) (by kernel_rfl) (fun _ _ _ h => h) (.inl ⟨by kernel_rfl, ?_⟩) HS7.out ?_
                  rotate_left
                  · intro W__ hW__
                    obtain ⟨h1, h2⟩ := hW__
                    go_simp
                    (try with_reducible rfl)
                  try simp only [Act.put]
                  refine wpAnyT_takeC (i := 5) [12, 11, 6] (v := ?_) rfl (by kernel_rfl) (by kernel_rfl) (by kernel_rfl) (by kernel_rfl) (by kernel_rfl) (by kernel_rfl) (fun _ _ _ h => h) (.inl ⟨by kernel_rfl, ?_⟩) HS7.out ?_
                  rotate_left
                  · intro W__ hW__
                    obtain ⟨h1, h2⟩ := hW__
                    go_simp
                    (try with_reducible rfl)
                  try simp only [Act.put]
                  refine wpAnyT_takeC (i := 9) [12, 11, 10] (v := ?_) rfl (by kernel_rfl) (by kernel_rfl) (by kernel_rfl) (by kernel_rfl) (by kernel_rfl) (by kernel_rfl) (fun _ _ _ h => h) (.inl ⟨by kernel_rfl, ?_⟩) HS7.out ?_
                  rotate_left
                  · intro W__ hW__
                    obtain ⟨h1, h2⟩ := hW__
                    go_simp
                    (try with_reducible rfl)
                  try simp only [Act.put]
                  refine wpAnyT_takeC (i := 6) [12, 11] (v := ?_) rfl (by kernel_rfl) (by kernel_rfl) (by kernel_rfl) (by kernel_rfl) (by kernel_rfl) (by kernel_rfl) (fun _ _ _ h => h) (.inl ⟨by kernel_rfl, ?_⟩) HS7.out ?_
                  rotate_left
                  · intro W__ hW__
                    obtain ⟨h1, h2⟩ := hW__
                    go_simp
                    (try with_reducible rfl)
                  try simp only [Act.put]
                  refine wpAnyT_takeC (i := 10) [12, 11] (v := ?_) rfl (by kernel_rfl) (by kernel_rfl) (by kernel_rfl) (by kernel_rfl) (by kernel_rfl) (by kernel_rfl) (fun _ _ _ h => h) (.inl ⟨by kernel_rfl, ?_⟩) HS7.out ?_
                  rotate_left
                  · intro W__ hW__
                    obtain ⟨h1, h2⟩ := hW__
                    go_simp
                    (try with_reducible rfl)
                  try simp only [Act.put]
                  refine wpAnyT_takeC (i := 11) [12] (v := ?_) rfl (by kernel_rfl) (by kernel_rfl) (by kernel_rfl) (by kernel_rfl) (by kernel_rfl) (by kernel_rfl) (fun _ _ _ h => h) (.inl ⟨by kernel_rfl, ?_⟩) HS7.out ?_
                  rotate_left
                  · intro W__ hW__
                    obtain ⟨h1, h2⟩ := hW__
                    go_simp
                    (try with_reducible rfl)
                  try simp only [Act.put]
                  refine wpAnyT_end (i := 12) rfl (by kernel_rfl) rfl (by kernel_rfl) fun K__ hK__ => ?_
                  unfold Oper.wp
                  go_simp
                  refine hK__ _ _ ?_
                  clear hK__
                  refine wpAnyT_done (by kernel_rfl) ?_ _
                  obtain ⟨us0, HOW, _, _⟩ := set_split HOS1.out
                  obtain ⟨us, HOA4, HRL, HQL⟩ := set_split HOS4.out
                  obtain ⟨us1, HGR, _, _⟩ := set_split HG4.out
                  have hwG : w.heap.size ≤ G := Nat.le_trans H2.out.size hG1
                  have HOA : Hid (((w4.setCell ⟨G, 1, none⟩ (.int .i64 (b : Int))).drew).ownsRow w.heap.size TRg 2 (.slice A n c) n us) := Lib.hid (show (w4.setCell ⟨G, 1, none⟩ (.int .i64 (b : Int))).ownsRow w.heap.size TRg 2 (.slice A n c) n us from HOA4.out.kept (HGR.out.stored 1 (.int .i64 (b : Int))).2 (by
                    rcases A with _ | a'
                    · exact .inl rfl
                    · exact .inr fun e => by have := (HOW.out.lt G e).2; omega))
                  have HN5 : Hid (Only R w ((w4.setCell ⟨G, 1, none⟩ (.int .i64 (b : Int))).drew)) := Lib.hid ((only_far H5.out hwG 1 _).then (Below.refl _ _).drew)
                  have HRD5 : Hid (RdS ((w4.setCell ⟨G, 1, none⟩ (.int .i64 (b : Int))).drew) R r3 wd) := Lib.hid (rds_far HRD4.out (by have := HR.out; omega) 1 _)
                  have hlo : RngsOk (acc ++ [⟨(a : Int), (b : Int)⟩]) := HOK.out.app (fun x hx => by obtain rfl := List.mem_singleton.1 hx; simp only; omega)
                  have HK9 := Lib.hid hlo
                  obtain ⟨vs, HRS, HSR, HQS⟩ := set_src (OwnK.drew (OwnSet.hi (o := []) (p := 0) (z := (b : Int)) HG4.out rfl (by omega))) (by omega)
                  simp only [List.nil_append, Nat.zero_mul, Nat.zero_add] at HRS HSR HQS
                  have Q1 : Hid (n + 1 ≤ maxLen) := Lib.hid (by simp only [maxLen]; omega)
                  have Q2 : Hid ((n + 1) * 16 ≤ 140737488355328) := Lib.hid (by omega)
                  clear hlo
                  go_wp2_with (first
                  | (at_builtin
                     go_must (refine wpList_append_src _ rfl (.tmp 54) (.tmp 55) 50 rfl w.heap.size TRg i0 _ 2 16 Tryz.underlying50 hi0 hz0 hs0 hb0 rfl (by decide) A c n _ rfl HOA.out (some ⟨G, 0, none⟩) 1 c1 _ rfl HSR.out Q1.out Q2.out HN5.out.size ?_)
                     intro A9 c9 w9 own9 gr9 _
                     have HO9 := Lib.hid (set_pushN HRL.out HRS.out HQL.out HQS.out own9)
                     have HN9 := Lib.hid (HN5.out.grown gr9 (fun k hk => (HOA.out.lt k hk).1))
                     have HR9 := Lib.hid (HRD5.out.grown HOA.out (by decide) gr9)
                     clear own9 gr9))
                  go_roundw
                  case rel => exact ⟨r3, acc ++ [⟨(a : Int), (b : Int)⟩], n + 1, c9, A9, f2, rfl, by omega, by omega, HXR, HR9, HO9, HK9, HN9⟩
                  case measure => rw [HR9.out.len, HRD.out.len]; have := And.intro hrl hrl2; omega

set_option maxHeartbeats 8000000 in
set_option maxRecDepth 100000 in
theorem rd_class1 {R B : Nat} {l l0 : Bs} {wd : Bool} {w : World} (hE : EscOk R B) (h : RdS w R l wd) (hn : isB 94 l = some l0) (hl : l.length ≤ 20000) (hT : TabV B w) (hB : B ≤ R) :
    Calls Tryz.prog 161 #[.pointer (some ⟨R, 0, none⟩)] w (RdO R w (classB l wd)) := by
  obtain ⟨i0, hi0, hz0, hs0, hb0⟩ := info_parts info_range
  rw [class_1 hn wd]
  obtain ⟨X, hX⟩ : ∃ X, clsB (l0.length + 1) l0 [] = X := ⟨_, rfl⟩
  have HX0 := Lib.hid hX
  have HR : Hid (R < w.heap.size) := Lib.hid h.lt
  have HE := Lib.hid hE; have HT := Lib.hid hT
  have HI0 := rd_is R l wd 94 w h
  rw [hn] at HI0
  have HI0 := Lib.hid HI0
  have HNO := Lib.hid (fun W => rd_no W)
  have hl0 : l0.length ≤ 20000 := by rw [isB_some hn] at hl; simp at hl; omega
  rw [hX]
  clear hX h hn hE hT
  go_enter Tryz.func161, Tryz.ntmps161
  go_wp2_with fail
  refine HI0.out.mono ?_
  rintro e w0 ⟨rfl, h1, h2⟩
  simp only [Option.getD_some] at h1
  have HRD := Lib.hid h1; have HON := Lib.hid h2
  clear h1 h2
  go_wp2
  go_loopw [4] (fun lv wr => ∃ (cur : Bs) (acc : List Rng) (n c : Nat) (A : Option Addr) (f' : Nat), lv = .slice A n c ∧ n + 4 * cur.length ≤ 4 * l0.length ∧ cur.length < f' ∧ Hid (clsB f' cur acc = X) ∧ Hid (RdS wr R cur wd) ∧ Hid (OwnSet wr w.heap.size (.slice A n c) acc) ∧ Hid (RngsOk acc) ∧ Hid (Only R w wr)) (fun _ wr => rdLen wr R)
  case atStart => exact ⟨l0, [], 0, 0, none, _, rfl, by omega, Nat.lt_succ_self _, HX0, HRD, Lib.hid OwnK.nil, Lib.hid (fun x hx => by simp at hx), HON⟩
  case round =>
    clear HRD HON HX0
    obtain ⟨cur, acc, n, c, A, f', rfl, hb, hf, HX, HRD, HOS, HOK, HON⟩ := hrel
    obtain ⟨f2, rfl⟩ : ∃ f2, f' = f2 + 1 := ⟨f' - 1, by omega⟩
    have HTV := Lib.hid (HT.out.only HON.out hB HR.out)
    have HAL : Hid (acc.length = n) := Lib.hid (by obtain ⟨_, _, _, hv, _⟩ := HOS.out; injection hv with _ e2 _; exact e2.symm)
    have HIS := rd_is R cur wd 93 wr HRD.out
    have hcl : cur.length ≤ 20000 := by omega
    cases hi : isB 93 cur with
    | some r' =>
      rw [hi] at HIS
      have HIS := Lib.hid HIS
      have HXE : Hid (X = some (acc, r')) := Lib.hid (by rw [← HX.out]; exact cls_end hi)
      obtain rfl := HXE.out
      clear hi
      go_wp2_with fail
      refine HIS.out.mono ?_
      rintro e w1 ⟨rfl, h1, h2⟩
      simp only [Option.getD_some] at h1
      have HRD1 := Lib.hid h1; have HON1 := Lib.hid (HON.out.step h2)
      have HJ := Lib.hid (rd_join A n c w.heap.size acc w1 (only_set h2 HRD.out HOS.out) HOK.out (by omega) HON1.out.size)
      clear h1 h2
      go_wp2_with fail
      refine HJ.out.mono ?_
      rintro e w2 ⟨A2, n2, c2, rfl, h1, h2⟩
      have HO2 := Lib.hid h1; have HON2 := Lib.hid (HON1.out.thenB h2); have HRD2 := Lib.hid (HRD1.out.keepB h2 HR.out)
      have HN2 : Hid ((joinR (sortR acc)).length = n2) := Lib.hid (by obtain ⟨_, _, _, hv, _⟩ := h1; injection hv with _ e2 _; exact e2.symm)
      have HR2 : Hid (R < w2.heap.size) := Lib.hid HRD2.out.lt
      clear h1 h2
      have hn2 : n2 ≤ 400000 := by have := join_len acc; rw [HN2.out, HAL.out] at this; omega
      have HBO : Hid (RngsOk (joinR (sortR acc))) := Lib.hid (join_ok HOK.out)
      generalize hj : joinR (sortR acc) = j at *
      have HJJ := Lib.hid hj
      clear hj
      obtain ⟨us, HOA, HRL, HQL⟩ := set_split (OwnK.alloc HO2.out (.cells #[.int .i64 1114112, .int .i64 0] TRg))
      have HSR : Hid (Pv.Src (w2.alloc (.cells #[.int .i64 1114112, .int .i64 0] TRg)) (some ⟨w2.heap.size, 0, none⟩) 2 1 [.int .i64 1114112, .int .i64 0]) := Lib.hid (src_rng rfl rfl)
      have Q1 : Hid (n2 + 1 ≤ maxLen) := Lib.hid (by simp only [maxLen]; omega)
      have Q2 : Hid ((n2 + 1) * 16 ≤ 140737488355328) := Lib.hid (by omega)
      have HON3 := Lib.hid (HON2.out.alloc (.cells #[.int .i64 1114112, .int .i64 0] TRg))
      have HRD3 := Lib.hid (HRD2.out.alloc (.cells #[.int .i64 1114112, .int .i64 0] TRg))
      go_wp2_with (first
      | (at_builtin
         go_must (refine wpList_append_src _ rfl (.tmp 60) (.tmp 62) 50 rfl w.heap.size TRg i0 _ 2 16 Tryz.underlying50 hi0 hz0 hs0 hb0 rfl (by decide) A2 c2 n2 _ rfl HOA.out (some ⟨w2.heap.size, 0, none⟩) 1 1 _ rfl HSR.out Q1.out Q2.out HON3.out.size ?_)
         intro A9 c9 w9 own9 gr9 _
         have HO9 := Lib.hid (set_pushN (k := 1) HRL.out (rel_rng (lo := 1114112) (hi := 0) (by omega) (by omega)) HQL.out rfl own9)
         have HN9 := Lib.hid (HON3.out.grown gr9 (fun k hk => (HOA.out.lt k hk).1))
         have HR9 := Lib.hid (HRD3.out.grown HOA.out (by decide) gr9)
         clear own9 gr9))
      have HAT : Hid (AtSet w9 A9 (j ++ [Rng.mk 1114112 0])) := Lib.hid (by
        obtain ⟨_, _, us, hv, ho, hr⟩ := HO9.out
        injection hv with e1 e2 e3
        subst e1
        exact (AtK.of_own ho hr rfl (by rw [List.length_append, HN2.out]; simp; omega)).2)
      have HML : Hid ((j ++ [Rng.mk 1114112 0]).length = n2 + 1) := Lib.hid (by rw [List.length_append, HN2.out]; rfl)
      have HBM : Hid (∀ x, x ∈ j ++ [Rng.mk 1114112 0] → (0 ≤ x.lo ∧ x.lo ≤ 1114112) ∧ (0 ≤ x.hi ∧ x.hi ≤ 1114111)) := Lib.hid (fun x hx => by
        rcases List.mem_append.1 hx with hx | hx
        · have := HBO.out x hx; omega
        · obtain rfl := List.mem_singleton.1 hx; simp)
      have HOTH : Hid (List.foldl oth1 (0, []) (j ++ [Rng.mk 1114112 0]) = (List.foldl oth1 (0, []) (j ++ [Rng.mk 1114112 0]))) := Lib.hid rfl
      clear HO2 HON2 HRD2 HOA HRL HQL HSR Q1 Q2 HON3 HRD3 HIS HJ HO9
      go_wp2
      go_loopw [65, 9, 10] (fun iv fv ov W => ∃ (i q oc : Nat) (O : Option Addr) (fr : Int) (out : List Rng), iv = .int .i64 i ∧ fv = .int .i64 fr ∧ ov = .slice O q oc ∧ i ≤ n2 + 1 ∧ q ≤ i ∧ 0 ≤ fr ∧ fr ≤ 1114112 ∧ Hid (List.foldl oth1 (0, []) ((j ++ [Rng.mk 1114112 0]).take i) = (fr, out)) ∧ Hid (OwnSet W w9.heap.size (.slice O q oc) out) ∧ Hid (Below w9.heap.size w9 W)) (fun iv _ _ _ => n2 + 1 - (intOf iv).toNat)
      case atStart => exact ⟨0, 0, 0, none, 0, [], rfl, rfl, rfl, by omega, by omega, by omega, by omega, Lib.hid rfl, Lib.hid OwnK.nil, Lib.hid (Below.refl _ _)⟩
      case round =>
        obtain ⟨i, q, oc, O, fr, out, rfl, rfl, rfl, hi, hq, hf0, hf1, HF, HO, HW⟩ := hrel
        have hW := HW.out.size
        by_cases hlt : i < n2 + 1
        · obtain ⟨g, off, lo, hi', rfl, hg, k0, k1, hb1, hb2, HXI⟩ := AtSet.gt (AtK.keep HAT.out (Keep.of HW.out)) HML hlt
          obtain ⟨⟨x0, x1⟩, x2, x3⟩ := HBM.out _ (mem_of_get HXI.out)
          simp only at x0 x1 x2 x3
          have HFN : Hid (List.foldl oth1 (0, []) ((j ++ [Rng.mk 1114112 0]).take (i + 1)) = (hi' + 1, if fr < lo then out ++ [⟨fr, lo - 1⟩] else out)) := Lib.hid (by rw [take_snoc HXI.out, List.foldl_append, HF.out]; rfl)
          have HKX := Lib.hid (Blk.new wr TRg #[.int .i64 lo, .int .i64 hi'])
          have HO1 := Lib.hid (OwnK.alloc HO.out (.cells #[.int .i64 lo, .int .i64 hi'] TRg))
          have HW1 := Lib.hid (HW.out.alloc hW (.cells #[.int .i64 lo, .int .i64 hi'] TRg))
          have e1 : IntKind.i64.wrap (lo - 1) = lo - 1 := by rw [IntKind.wrap_i64]; omega
          have e2 : IntKind.i64.wrap (hi' + 1) = hi' + 1 := by rw [IntKind.wrap_i64]; omega
          by_cases hc : fr < lo
          · rw [if_pos hc] at HFN
            obtain ⟨us0, HOW, _, _⟩ := set_split HO.out
            obtain ⟨us, HOA, HRL, HQL⟩ := set_split (OwnK.alloc HO1.out (.cells #[.int .i64 fr, .int .i64 (lo - 1)] TRg))
            have Q1 : Hid (q + 1 ≤ maxLen) := Lib.hid (by simp only [maxLen]; omega)
            have Q2 : Hid ((q + 1) * 16 ≤ 140737488355328) := Lib.hid (by omega)
            have hz2 : w9.heap.size ≤ ((wr.alloc (.cells #[.int .i64 lo, .int .i64 hi'] TRg)).alloc (.cells #[.int .i64 fr, .int .i64 (lo - 1)] TRg)).heap.size := by simp; omega
            have HW2 := Lib.hid (HW1.out.alloc (by simp; omega) (.cells #[.int .i64 fr, .int .i64 (lo - 1)] TRg))
            have HSR := src_rng (w := wr.alloc (.cells #[.int .i64 lo, .int .i64 hi'] TRg)) (x := .int .i64 fr) (y := .int .i64 (lo - 1)) (t := TRg) rfl rfl
            rw [show (wr.alloc (.cells #[.int .i64 lo, .int .i64 hi'] TRg)).heap.size = wr.heap.size + 1 by simp] at HSR
            have HSR := Lib.hid HSR
            go_wp2_with (first
            | (at_builtin
               go_must (refine wpList_append_src _ rfl (.tmp 73) (.tmp 79) 50 rfl w9.heap.size TRg i0 _ 2 16 Tryz.underlying50 hi0 hz0 hs0 hb0 rfl (by decide) O oc q _ rfl HOA.out (some ⟨wr.heap.size + 1, 0, none⟩) 1 1 _ rfl HSR.out Q1.out Q2.out hz2 ?_)
               intro A7 c7 w7 own7 gr7 _
               have HO7 := Lib.hid (set_push ⟨HRL.out, by omega, by omega⟩ HQL.out own7)
               have HB7 := Lib.hid (HW2.out.grown gr7 hz2 (fun k hk => (HOA.out.lt k hk).1))
               have HK7 := Lib.hid ((HKX.out.alloc (.cells #[.int .i64 fr, .int .i64 (lo - 1)] TRg)).grown gr7 (far_row HOW.out (Nat.le_refl _)))
               have z1 : w7.cell? ⟨wr.heap.size, 1, none⟩ = some (.int .i64 hi') := HK7.out.cell 1
               clear own7 gr7))
            go_roundw
            case rel => exact ⟨i + 1, q + 1, c7, A7, hi' + 1, _, by go_num, by go_num, rfl, by omega, by omega, by omega, by omega, HFN, HO7, HB7⟩
            case measure => simp [intOf]; omega
          · rw [if_neg hc] at HFN
            go_wp2
            go_roundw
            case rel => exact ⟨i + 1, q, oc, O, hi' + 1, _, by go_num, by go_num, rfl, by omega, by omega, by omega, by omega, HFN, HO1, HW1⟩
            case measure => simp [intOf]; omega
        · obtain rfl : i = n2 + 1 := by omega
          have HFE : Hid (othR j = out) := Lib.hid (by
            unfold othR
            rw [← List.take_of_length_le (i := n2 + 1) (l := j ++ [Rng.mk 1114112 0]) (by rw [HML.out]; exact Nat.le_refl _), HF.out])
          have HN3 : Hid (out.length = q) := Lib.hid (by obtain ⟨_, _, _, hv, _⟩ := HO.out; injection hv with _ e2 _; exact e2.symm)
          have hRR := HR.out
          have HON4 := Lib.hid (HN9.out.then HW.out)
          have HRD4 := Lib.hid (HR9.out.below HW.out)
          have HO4 := Lib.hid (OwnK.lower (b' := w.heap.size) HO.out HN9.out.size)
          obtain ⟨s4, HS4, HB4, hlt4, p0, p1, f0, f1⟩ := HRD4.out.cells
          by_cases hbig : 256 < q
          · have hb1 : (256 : Int) < (q : Int) := by omega
            have HRES : Hid (resC true wd (some (acc, r')) = some ([setX (out)], r', true)) := Lib.hid (by
              unfold resC
              simp only [if_true, HJJ.out, HFE.out, HN3.out, decide_eq_true hbig, Bool.or_true])
            cases wd
            all_goals
              go_wp2
              go_ret
              rw [HRES.out]
              exact ⟨_, _, _, rfl, rx_lower (own_self (by simp) (Nat.le_trans HON4.out.size (by simp)) (OwnK.setFar HO4.out HB4.out (by decide) 1 (.bool true))) (by omega), ⟨s4, HS4.out, (HB4.out.set 1 (.bool true)).alloc _⟩, (HON4.out.set 1 _).alloc _⟩
          · have hb1 : ¬ (256 : Int) < (q : Int) := by omega
            have hb2 : (q : Int) ≤ 256 := by omega
            have hb3 : decide ((256 : Int) < (q : Int)) = false := decide_eq_false hb1
            have HRES : Hid (resC true wd (some (acc, r')) = some ([setX (out)], r', wd)) := Lib.hid (by
              unfold resC
              simp only [if_true, HJJ.out, HFE.out, HN3.out, decide_eq_false hbig, Bool.or_false])
            cases wd
            all_goals
              go_wp2
              go_ret
              rw [HRES.out]
              exact ⟨_, _, _, rfl, rx_lower (own_self (by simp) (Nat.le_trans HON4.out.size (by simp)) (OwnK.setFar HO4.out HB4.out (by decide) 1 _)) (by omega), ⟨s4, HS4.out, (HB4.out.set 1 _).alloc _⟩, (HON4.out.set 1 _).alloc _⟩
    | none =>
      rw [hi] at HIS
      have HIS := Lib.hid HIS
      cases hit : itemB cur with
      | none =>
        have HXN : Hid (X = none) := Lib.hid (by rw [← HX.out]; exact cls_no hi hit)
        obtain rfl := HXN.out
        have HIT := Lib.hid (fun w1 (h1 : RdS w1 R cur wd) (h2 : TabV B w1) => rd_itemN HE.out h1 hit (by omega) h2 hB)
        clear hi hit
        go_wp2_with fail
        refine HIS.out.mono ?_
        rintro e w1 ⟨rfl, h1, h2⟩
        simp only [Option.getD_none] at h1
        have HIT1 := Lib.hid (HIT.out w1 h1 (HTV.out.only h2 hB HRD.out.lt))
        have H2 := Lib.hid (HON.out.step h2)
        clear h1 h2
        go_wp2_with fail
        refine HIT1.out.mono ?_
        rintro e w2 ⟨he, k3⟩
        subst he
        have K3 := Lib.hid (H2.out.step k3)
        clear k3
        go_wp2
        exact ⟨rfl, show Stopped _ ∧ Only R w _ from ⟨rfl, K3.out⟩⟩
      | some p =>
        obtain ⟨s, q, r⟩ := p
        have HD := Lib.hid (itemB_d hit)
        have HIT := Lib.hid (fun w1 (h1 : RdS w1 R cur wd) (h2 : TabV B w1) => rd_itemG HE.out h1 hit (by omega) h2 hB)
        have hrl := HD.out.len
        have hfew := HD.out.few
        cases q with
        | false =>
          have HXR : Hid (clsB f2 r (acc ++ s) = X) := Lib.hid (by rw [← HX.out]; exact (cls_set hi hit).symm)
          clear hi hit
          go_wp2_with fail
          refine HIS.out.mono ?_
          rintro e w1 ⟨rfl, h1, h2⟩
          simp only [Option.getD_none] at h1
          have HIT1 := Lib.hid (HIT.out w1 h1 (HTV.out.only h2 hB HRD.out.lt))
          have H2 := Lib.hid (HON.out.step h2)
          have HOS1 := Lib.hid (only_set h2 HRD.out HOS.out)
          have HRD1 := Lib.hid h1
          clear h1 h2
          go_wp2_with fail
          refine HIT1.out.mono ?_
          rintro e w2 ⟨A1, k1, c1, rfl, g1, g2, g3⟩
          have H3 := Lib.hid (H2.out.step g3)
          have HOS2 := Lib.hid (only_set g3 HRD1.out HOS1.out)
          have HRD2 := Lib.hid g2
          obtain ⟨vs, HRS, HSR, HQS⟩ := set_src g1 (by obtain ⟨_, _, _, hv, _⟩ := g1; injection hv with _ e2 _; omega)
          have hk1 : k1 ≤ 4 := by rw [← HQS.out]; exact hfew.2
          obtain ⟨us, HOA, HRL, HQL⟩ := set_split HOS2.out
          have Q1 : Hid (n + k1 ≤ maxLen) := Lib.hid (by simp only [maxLen]; omega)
          have Q2 : Hid ((n + k1) * 16 ≤ 140737488355328) := Lib.hid (by omega)
          have HK9 : Hid (RngsOk (acc ++ s)) := Lib.hid (HOK.out.app HD.out.ok)
          clear g1 g2 g3
          go_wp2_with (first
          | (at_builtin
             go_must (refine wpList_append_src _ rfl (.tmp 54) (.tmp 55) 50 rfl w.heap.size TRg i0 _ 2 16 Tryz.underlying50 hi0 hz0 hs0 hb0 rfl (by decide) A c n _ rfl HOA.out A1 k1 c1 _ rfl HSR.out Q1.out Q2.out H3.out.size ?_)
             intro A9 c9 w9 own9 gr9 _
             have HO9 := Lib.hid (set_pushN HRL.out HRS.out HQL.out HQS.out own9)
             have HN9 := Lib.hid (H3.out.grown gr9 (fun k hk => (HOA.out.lt k hk).1))
             have HR9 := Lib.hid (HRD2.out.grown HOA.out (by decide) gr9)
             clear own9 gr9))
          go_roundw
          case rel => exact ⟨r, acc ++ s, n + k1, c9, A9, f2, rfl, by omega, by omega, HXR, HR9, HO9, HK9, HN9⟩
          case measure => rw [HR9.out.len, HRD.out.len]; have := hrl; omega
        | true =>
          have HIS2 := fun w1 (h1 : RdS w1 R r wd) => rd_is R r wd 45 w1 h1
          obtain ⟨a, ha, rfl⟩ := HD.out.one rfl
          cases hi2 : isB 45 r with
          | none =>
            rw [hi2] at HIS2
            have HIS2 := Lib.hid HIS2
            have HXR : Hid (clsB f2 r (acc ++ one1 a) = X) := Lib.hid (by rw [← HX.out]; exact (cls_one hi hit hi2).symm)
            clear hi hit hi2
            go_wp2_with fail
            refine HIS.out.mono ?_
            rintro e w1 ⟨rfl, h1, h2⟩
            simp only [Option.getD_none] at h1
            have HIT1 := Lib.hid (HIT.out w1 h1 (HTV.out.only h2 hB HRD.out.lt))
            have H2 := Lib.hid (HON.out.step h2)
            have HOS1 := Lib.hid (only_set h2 HRD.out HOS.out)
            have HRD1 := Lib.hid h1
            clear h1 h2
            go_wp2_with fail
            refine HIT1.out.mono ?_
            rintro e w2 ⟨A1, k1, c1, rfl, g1, g2, g3⟩
            have H3 := Lib.hid (H2.out.step g3)
            have HOS2 := Lib.hid (only_set g3 HRD1.out HOS1.out)
            have HRD2 := Lib.hid g2
            have HG1 := Lib.hid g1
            have HIS3 := Lib.hid (HIS2.out w2 g2)
            clear g1 g2 g3
            go_wp2_with fail
            refine HIS3.out.mono ?_
            rintro e w3 ⟨rfl, h1, h2⟩
            simp only [Option.getD_none] at h1
            have H4 := Lib.hid (H3.out.step h2)
            have HOS3 := Lib.hid (only_set h2 HRD2.out HOS2.out)
            have g1 := only_set h2 HRD2.out HG1.out
            have HRD3 := Lib.hid h1
            obtain ⟨vs, HRS, HSR, HQS⟩ := set_src g1 (by obtain ⟨_, _, _, hv, _⟩ := g1; injection hv with _ e2 _; omega)
            have hk1 : k1 ≤ 4 := by rw [← HQS.out]; exact hfew.2
            obtain ⟨us, HOA, HRL, HQL⟩ := set_split HOS3.out
            have Q1 : Hid (n + k1 ≤ maxLen) := Lib.hid (by simp only [maxLen]; omega)
            have Q2 : Hid ((n + k1) * 16 ≤ 140737488355328) := Lib.hid (by omega)
            have HK9 : Hid (RngsOk (acc ++ one1 a)) := Lib.hid (HOK.out.app HD.out.ok)
            clear g1 h1 h2
            go_wp2_with (first
            | (at_builtin
               go_must (refine wpList_append_src _ rfl (.tmp 54) (.tmp 55) 50 rfl w.heap.size TRg i0 _ 2 16 Tryz.underlying50 hi0 hz0 hs0 hb0 rfl (by decide) A c n _ rfl HOA.out A1 k1 c1 _ rfl HSR.out Q1.out Q2.out H4.out.size ?_)
               intro A9 c9 w9 own9 gr9 _
               have HO9 := Lib.hid (set_pushN HRL.out HRS.out HQL.out HQS.out own9)
               have HN9 := Lib.hid (H4.out.grown gr9 (fun k hk => (HOA.out.lt k hk).1))
               have HR9 := Lib.hid (HRD3.out.grown HOA.out (by decide) gr9)
               clear own9 gr9))
            go_roundw
            case rel => exact ⟨r, acc ++ one1 a, n + k1, c9, A9, f2, rfl, by omega, by omega, HXR, HR9, HO9, HK9, HN9⟩
            case measure => rw [HR9.out.len, HRD.out.len]; have := hrl; omega
          | some r2 =>
            rw [hi2] at HIS2
            have HIS2 := Lib.hid HIS2
            have hr2 : r2.length + 1 = r.length := by rw [isB_some hi2]; rfl
            cases hit2 : itemB r2 with
            | none =>
              have HXN : Hid (X = none) := Lib.hid (by rw [← HX.out]; exact cls_no2 hi hit hi2 hit2)
              obtain rfl := HXN.out
              have HIT2 := Lib.hid (fun w1 (h1 : RdS w1 R r2 wd) (h2 : TabV B w1) => rd_itemN HE.out h1 hit2 (by omega) h2 hB)
              clear hi hit hi2 hit2
              go_wp2_with fail
              refine HIS.out.mono ?_
              rintro e w1 ⟨rfl, h1, h2⟩
              simp only [Option.getD_none] at h1
              have HIT1 := Lib.hid (HIT.out w1 h1 (HTV.out.only h2 hB HRD.out.lt))
              have HTV1 := Lib.hid (HTV.out.only h2 hB HRD.out.lt)
              have H2 := Lib.hid (HON.out.step h2)
              have HOS1 := Lib.hid (only_set h2 HRD.out HOS.out)
              have HRD1 := Lib.hid h1
              clear h1 h2
              go_wp2_with fail
              refine HIT1.out.mono ?_
              rintro e w2 ⟨A1, k1, c1, rfl, g1, g2, g3⟩
              have H3 := Lib.hid (H2.out.step g3)
              have HTV3 := Lib.hid (HTV1.out.only g3 hB HRD1.out.lt)
              have HOS2 := Lib.hid (only_set g3 HRD1.out HOS1.out)
              have HRD2 := Lib.hid g2
              have HG1 := Lib.hid g1
              have HIS3 := Lib.hid (HIS2.out w2 g2)
              clear g1 g2 g3
              go_wp2_with fail
              refine HIS3.out.mono ?_
              rintro e w3 ⟨rfl, h1, h2⟩
              simp only [Option.getD_some] at h1
              have HIT3 := Lib.hid (HIT2.out w3 h1 (HTV3.out.only h2 hB HRD2.out.lt))
              have H4 := Lib.hid (H3.out.step h2)
              clear h1 h2
              go_wp2_with fail
              refine HIT3.out.mono ?_
              rintro e w4 ⟨he, k3⟩
              subst he
              have K3 := Lib.hid (H4.out.step k3)
              clear k3
              go_wp2
              exact ⟨rfl, show Stopped _ ∧ Only R w _ from ⟨rfl, K3.out⟩⟩
            | some p =>
              obtain ⟨m, q2, r3⟩ := p
              have HD2 := Lib.hid (itemB_d hit2)
              have HIT2 := Lib.hid (fun w1 (h1 : RdS w1 R r2 wd) (h2 : TabV B w1) => rd_itemG HE.out h1 hit2 (by omega) h2 hB)
              have hrl2 := HD2.out.len
              cases q2 with
              | false =>
                have HXN : Hid (X = none) := Lib.hid (by rw [← HX.out]; exact cls_no3 hi hit hi2 hit2 rfl)
                obtain rfl := HXN.out
                clear hi hit hi2 hit2
                go_wp2_with fail
                refine HIS.out.mono ?_
                rintro e w1 ⟨rfl, h1, h2⟩
                simp only [Option.getD_none] at h1
                have HIT1 := Lib.hid (HIT.out w1 h1 (HTV.out.only h2 hB HRD.out.lt))
                have HTV1 := Lib.hid (HTV.out.only h2 hB HRD.out.lt)
                have H2 := Lib.hid (HON.out.step h2)
                have HOS1 := Lib.hid (only_set h2 HRD.out HOS.out)
                have HRD1 := Lib.hid h1
                clear h1 h2
                go_wp2_with fail
                refine HIT1.out.mono ?_
                rintro e w2 ⟨A1, k1, c1, rfl, g1, g2, g3⟩
                have H3 := Lib.hid (H2.out.step g3)
                have HTV3 := Lib.hid (HTV1.out.only g3 hB HRD1.out.lt)
                have HOS2 := Lib.hid (only_set g3 HRD1.out HOS1.out)
                have HRD2 := Lib.hid g2
                have HG1 := Lib.hid g1
                have HIS3 := Lib.hid (HIS2.out w2 g2)
                clear g1 g2 g3
                go_wp2_with fail
                refine HIS3.out.mono ?_
                rintro e w3 ⟨rfl, h1, h2⟩
                simp only [Option.getD_some] at h1
                have HIT3 := Lib.hid (HIT2.out w3 h1 (HTV3.out.only h2 hB HRD2.out.lt))
                have H4 := Lib.hid (H3.out.step h2)
                have HOS3 := Lib.hid (only_set h2 HRD2.out HOS2.out)
                have HG3 := Lib.hid (only_set h2 HRD2.out HG1.out)
                have HRD3 := Lib.hid h1
                clear h1 h2
                go_wp2_with fail
                refine HIT3.out.mono ?_
                rintro e w4 ⟨A4, k4, c4, rfl, g1, g2, g3⟩
                have H5 := Lib.hid (H4.out.step g3)
                have HOS4 := Lib.hid (only_set g3 HRD3.out HOS3.out)
                have HG4 := Lib.hid (only_set g3 HRD3.out HG3.out)
                have HM4 := Lib.hid g1
                have HRD4 := Lib.hid g2
                clear g1 g2 g3
                have HT0 : Hid (True ∧ True) := Lib.hid ⟨trivial, trivial⟩
                go_wp2
                refine wp_region_T 12 (fun _ => True ∧ True) (by kernel_rfl) ?_
                refine wpAnyT_takeW (i := 0) (v := ?_) rfl (by decide) (by kernel_rfl) (by kernel_rfl) (by kernel_rfl) (fun _ _ _ h => h) (.inl ⟨rfl, ?_⟩) (fun _ => HT0.out) ?_
                rotate_left
                · intro W__ _
                  go_simp
                  (try with_reducible rfl)
                try simp only [Act.put]
                refine wpAnyT_takeW (i := 1) (v := ?_) rfl (by decide) (by kernel_rfl) (by kernel_rfl) (by kernel_rfl) (fun _ _ _ h => h) (.inl ⟨rfl, ?_⟩) (fun _ => HT0.out) ?_
                rotate_left
                · intro W__ _
                  go_simp
                  (try with_reducible rfl)
                try simp only [Act.put]
                refine wpAnyT_takeW (i := 2) (v := ?_) rfl (by decide) (by kernel_rfl) (by kernel_rfl) (by kernel_rfl) (fun _ _ _ h => h) (.inl ⟨rfl, ?_⟩) (fun _ => HT0.out) ?_
                rotate_left
                · intro W__ _
                  go_simp
                  (try with_reducible rfl)
                try simp only [Act.put]
                refine wpAnyT_takeW (i := 3) (v := undef) rfl (by decide) (by kernel_rfl) (by kernel_rfl) (by kernel_rfl) (fun _ _ _ h => h) (.inr ⟨by kernel_rfl, rfl⟩) (fun _ => HT0.out) ?_
                try simp only [Act.put]
                refine wpAnyT_takeW (i := 4) (v := undef) rfl (by decide) (by kernel_rfl) (by kernel_rfl) (by kernel_rfl) (fun _ _ _ h => h) (.inr ⟨by kernel_rfl, rfl⟩) (fun _ => HT0.out) ?_
                try simp only [Act.put]
                refine wpAnyT_takeW (i := 5) (v := undef) rfl (by decide) (by kernel_rfl) (by kernel_rfl) (by kernel_rfl) (fun _ _ _ h => h) (.inr ⟨by kernel_rfl, rfl⟩) (fun _ => HT0.out) ?_
                try simp only [Act.put]
                refine wpAnyT_takeW (i := 6) (v := undef) rfl (by decide) (by kernel_rfl) (by kernel_rfl) (by kernel_rfl) (fun _ _ _ h => h) (.inr ⟨by kernel_rfl, rfl⟩) (fun _ => HT0.out) ?_
                try simp only [Act.put]
                refine wpAnyT_takeW (i := 7) (v := undef) rfl (by decide) (by kernel_rfl) (by kernel_rfl) (by kernel_rfl) (fun _ _ _ h => h) (.inr ⟨by kernel_rfl, rfl⟩) (fun _ => HT0.out) ?_
                try simp only [Act.put]
                refine wpAnyT_takeW (i := 8) (v := undef) rfl (by decide) (by kernel_rfl) (by kernel_rfl) (by kernel_rfl) (fun _ _ _ h => h) (.inr ⟨by kernel_rfl, rfl⟩) (fun _ => HT0.out) ?_
                try simp only [Act.put]
                refine wpAnyT_takeW (i := 9) (v := undef) rfl (by decide) (by kernel_rfl) (by kernel_rfl) (by kernel_rfl) (fun _ _ _ h => h) (.inr ⟨by kernel_rfl, rfl⟩) (fun _ => HT0.out) ?_
                try simp only [Act.put]
                refine wpAnyT_takeW (i := 10) (v := undef) rfl (by decide) (by kernel_rfl) (by kernel_rfl) (by kernel_rfl) (fun _ _ _ h => h) (.inr ⟨by kernel_rfl, rfl⟩) (fun _ => HT0.out) ?_
                try simp only [Act.put]
                refine wpAnyT_takeW (i := 11) (v := undef) rfl (by decide) (by kernel_rfl) (by kernel_rfl) (by kernel_rfl) (fun _ _ _ h => h) (.inr ⟨by kernel_rfl, rfl⟩) (fun _ => HT0.out) ?_
                try simp only [Act.put]
                refine wpAnyT_end (i := 12) rfl (by kernel_rfl) rfl (by kernel_rfl) fun K__ hK__ => ?_
                unfold Oper.wp
                go_simp
                refine hK__ _ _ ?_
                clear hK__
                refine wpAnyT_done (by kernel_rfl) ?_ _
                go_wp2_with fail
                refine (HNO.out _).mono ?_
                rintro e w'' ⟨he, rfl⟩
                subst he
                go_wp2
                exact ⟨rfl, show Stopped _ ∧ Only R w _ from ⟨rfl, (Only.then H5.out (Below.refl _ _).drew)⟩⟩
              | true =>
                obtain ⟨b, hb9, rfl⟩ := HD2.out.one rfl
                by_cases hlt : (b : Int) < (a : Int)
                · have HXN : Hid (X = none) := Lib.hid (by rw [← HX.out]; exact cls_no3 hi hit hi2 hit2 (by simp [one1]; omega))
                  obtain rfl := HXN.out
                  clear hi hit hi2 hit2
                  go_wp2_with fail
                  refine HIS.out.mono ?_
                  rintro e w1 ⟨rfl, h1, h2⟩
                  simp only [Option.getD_none] at h1
                  have HIT1 := Lib.hid (HIT.out w1 h1 (HTV.out.only h2 hB HRD.out.lt))
                  have HTV1 := Lib.hid (HTV.out.only h2 hB HRD.out.lt)
                  have H2 := Lib.hid (HON.out.step h2)
                  have HOS1 := Lib.hid (only_set h2 HRD.out HOS.out)
                  have HRD1 := Lib.hid h1
                  clear h1 h2
                  go_wp2_with fail
                  refine HIT1.out.mono ?_
                  rintro e w2 ⟨A1, k1, c1, rfl, g1, g2, g3⟩
                  have H3 := Lib.hid (H2.out.step g3)
                  have HTV3 := Lib.hid (HTV1.out.only g3 hB HRD1.out.lt)
                  have HOS2 := Lib.hid (only_set g3 HRD1.out HOS1.out)
                  have HRD2 := Lib.hid g2
                  have HG1 := Lib.hid g1
                  have HIS3 := Lib.hid (HIS2.out w2 g2)
                  clear g1 g2 g3
                  go_wp2_with fail
                  refine HIS3.out.mono ?_
                  rintro e w3 ⟨rfl, h1, h2⟩
                  simp only [Option.getD_some] at h1
                  have HIT3 := Lib.hid (HIT2.out w3 h1 (HTV3.out.only h2 hB HRD2.out.lt))
                  have H4 := Lib.hid (H3.out.step h2)
                  have HOS3 := Lib.hid (only_set h2 HRD2.out HOS2.out)
                  have HG3 := Lib.hid (only_set h2 HRD2.out HG1.out)
                  have HRD3 := Lib.hid h1
                  clear h1 h2
                  go_wp2_with fail
                  refine HIT3.out.mono ?_
                  rintro e w4 ⟨A4, k4, c4, rfl, g1, g2, g3⟩
                  have H5 := Lib.hid (H4.out.step g3)
                  have HOS4 := Lib.hid (only_set g3 HRD3.out HOS3.out)
                  have HG4 := Lib.hid (only_set g3 HRD3.out HG3.out)
                  have HM4 := Lib.hid g1
                  have HRD4 := Lib.hid g2
                  clear g1 g2 g3
                  obtain ⟨hq1, G, hG, hG1, hG2, d0, d1, d2⟩ := OwnSet.last (o := []) (p := 0) HG4.out rfl
                  subst hq1; subst hG
                  obtain ⟨hq4, G4, hG4, _, _, _, e1, _⟩ := OwnSet.last (o := []) (p := 0) HM4.out rfl
                  subst hq4; subst hG4
                  simp only [Nat.zero_mul, Nat.zero_add] at d0 d1 d2 e1
                  have HS7 : Hid (w4.cell? ⟨G4, 1, none⟩ = some (.int .i64 (b : Int)) ∧ w4.cell? ⟨G, 0, none⟩ = some (.int .i64 (a : Int))) := Lib.hid ⟨e1, d0⟩
                  go_wp2
                  refine wp_region_T 12 (fun W => W.cell? ⟨G4, 1, none⟩ = some (.int .i64 (b : Int)) ∧ W.cell? ⟨G, 0, none⟩ = some (.int .i64 (a : Int))) (by kernel_rfl) ?_
                  refine wpAnyT_takeC (i := 0) [12, 2, 1] (v := ?_) rfl (by kernel_rfl) (by kernel_rfl) (by kernel_rfl) (by kernel_rfl) (by kernel_rfl) (by kernel_rfl) (fun _ _ _ h => h) (.inl ⟨rfl, ?_⟩) HS7.out ?_
                  rotate_left
                  · intro W__ hW__
                    obtain ⟨h1, h2⟩ := hW__
                    go_simp
                    (try with_reducible rfl)
                  try simp only [Act.put]
                  refine wpAnyT_takeC (i := 1) [12, 2] (v := ?_) rfl (by kernel_rfl) (by kernel_rfl) (by kernel_rfl) (by kernel_rfl) (by kernel_rfl) (by kernel_rfl) (fun _ _ _ h => h) (.inl ⟨rfl, ?_⟩) HS7.out ?_
                  rotate_left
                  · intro W__ hW__
                    obtain ⟨h1, h2⟩ := hW__
                    go_simp
                    (try with_reducible rfl)
                  try simp only [Act.put]
                  refine wpAnyT_takeC (i := 2) [12] (v := ?_) rfl (by kernel_rfl) (by kernel_rfl) (by kernel_rfl) (by kernel_rfl) (by kernel_rfl) (by kernel_rfl) (fun _ _ _ h => h) (.inl ⟨rfl, ?_⟩) HS7.out ?_
                  rotate_left
                  · intro W__ hW__
                    obtain ⟨h1, h2⟩ := hW__
                    go_simp
                    (try with_reducible rfl)
                  try simp only [Act.put]
                  refine wpAnyT_takeC (i := 3) [12, 11, 6, 5, 4] (v := ?_) rfl (by kernel_rfl) (by kernel_rfl) (by kernel_rfl) (by kernel_rfl) (by kernel_rfl) (by kernel_rfl) (fun _ _ _ h => h) (.inl ⟨by kernel_rfl, ?_⟩) HS7.out ?_
                  rotate_left
                  · intro W__ hW__
                    obtain ⟨h1, h2⟩ := hW__
                    go_simp
                    (try with_reducible rfl)
                  try simp only [Act.put]
                  refine wpAnyT_takeC (i := 7) [12, 11, 10, 9, 8] (v := ?_) rfl (by kernel_rfl) (by kernel_rfl) (by kernel_rfl) (by kernel_rfl) (by kernel_rfl) (by kernel_rfl) (fun _ _ _ h => h) (.inl ⟨by kernel_rfl, ?_⟩) HS7.out ?_
                  rotate_left
                  · intro W__ hW__
                    obtain ⟨h1, h2⟩ := hW__
                    go_simp
                    (try with_reducible rfl)
                  try simp only [Act.put]
                  refine wpAnyT_takeC (i := 4) [12, 11, 6, 5] (v := ?_) rfl (by kernel_rfl) (by kernel_rfl) (by kernel_rfl) (by kernel_rfl) (by kernel_rfl) (by kernel_rfl) (fun _ _ _ h => h) (.inl ⟨by kernel_rfl, ?_⟩) HS7.out ?_
                  rotate_left
                  · intro W__ hW__
                    obtain ⟨h1, h2⟩ := hW__
                    go_simp
                    (try with_reducible rfl)
                  try simp only [Act.put]
                  refine wpAnyT_takeC (i := 8) [12, 11, 10, 9] (v := ?_) rfl (by kernel_rfl) (by kernel_rfl) (by kernel_rfl) (by kernel_rfl) (by kernel_rfl) (by kernel_rfl) (fun _ _ _ h => h) (.inl ⟨by kernel_rfl, ?_⟩) HS7.out ?_
                  rotate_left
                  · intro W__ hW__
                    obtain ⟨h1, h2⟩ := hW__
                    go_simp
                    (try with_reducible rfl)
                  try simp only [Act.put]
                  refine wpAnyT_takeC (i := 5) [12, 11, 6] (v := ?_) rfl (by kernel_rfl) (by kernel_rfl) (by kernel_rfl) (by kernel_rfl) (by kernel_rfl) (by kernel_rfl) (fun _ _ _ h => h) (.inl ⟨by kernel_rfl, ?_⟩) HS7.out ?_
                  rotate_left
                  · intro W__ hW__
                    obtain ⟨h1, h2⟩ := hW__
                    go_simp
                    (try with_reducible rfl)
                  try simp only [Act.put]
                  refine wpAnyT_takeC (i := 9) [12, 11, 10] (v := ?_) rfl (by kernel_rfl) (by kernel_rfl) (by kernel_rfl) (by kernel_rfl) (by kernel_rfl) (by kernel_rfl) (fun _ _ _ h => h) (.inl ⟨by kernel_rfl, ?_⟩) HS7.out ?_
                  rotate_left
                  · intro W__ hW__
                    obtain ⟨h1, h2⟩ := hW__
                    go_simp
                    (try with_reducible rfl)
                  try simp only [Act.put]
                  refine wpAnyT_takeC (i := 6) [12, 11] (v := ?_) rfl (by kernel_rfl) (by kernel_rfl) (by kernel_rfl) (by kernel_rfl) (by kernel_rfl) (by kernel_rfl) (fun _ _ _ h => h) (.inl ⟨by kernel_rfl, ?_⟩) HS7.out ?_
                  rotate_left
                  · intro W__ hW__
                    obtain ⟨h1, h2⟩ := hW__
                    go_simp
                    (try with_reducible rfl)
                  try simp only [Act.put]
                  refine wpAnyT_takeC (i := 10) [12, 11] (v := ?_) rfl (by kernel_rfl) (by kernel_rfl) (by kernel_rfl) (by kernel_rfl) (by kernel_rfl) (by kernel_rfl) (fun _ _ _ h => h) (.inl ⟨by kernel_rfl, ?_⟩) HS7.out ?_
                  rotate_left
                  · intro W__ hW__
                    obtain ⟨h1, h2⟩ := hW__
                    go_simp
                    (try with_reducible rfl)
                  try simp only [Act.put]
                  refine wpAnyT_takeC (i := 11) [12] (v := ?_) rfl (by kernel_rfl) (by kernel_rfl) (by kernel_rfl) (by kernel_rfl) (by kernel_rfl) (by kernel_rfl) (fun _ _ _ h => h) (.inl ⟨by kernel_rfl, ?_⟩) HS7.out ?_
                  rotate_left
                  · intro W__ hW__
                    obtain ⟨h1, h2⟩ := hW__
                    go_simp
                    (try with_reducible rfl)
                  try simp only [Act.put]
                  refine wpAnyT_end (i := 12) rfl (by kernel_rfl) rfl (by kernel_rfl) fun K__ hK__ => ?_
                  unfold Oper.wp
                  go_simp
                  refine hK__ _ _ ?_
                  clear hK__
                  refine wpAnyT_done (by kernel_rfl) ?_ _
                  go_wp2_with fail
                  refine (HNO.out _).mono ?_
                  rintro e w'' ⟨he, rfl⟩
                  subst he
                  go_wp2
                  exact ⟨rfl, show Stopped _ ∧ Only R w _ from ⟨rfl, (Only.then H5.out (Below.refl _ _).drew)⟩⟩
                · have hlt2 : (a : Int) ≤ (b : Int) := by omega
                  have hlt3 : decide ((b : Int) < (a : Int)) = false := decide_eq_false hlt
                  have HXR : Hid (clsB f2 r3 (acc ++ [⟨(a : Int), (b : Int)⟩]) = X) := Lib.hid (by rw [← HX.out]; exact (cls_two hi hit hi2 hit2 hlt).symm)
                  clear hi hit hi2 hit2
                  go_wp2_with fail
                  refine HIS.out.mono ?_
                  rintro e w1 ⟨rfl, h1, h2⟩
                  simp only [Option.getD_none] at h1
                  have HIT1 := Lib.hid (HIT.out w1 h1 (HTV.out.only h2 hB HRD.out.lt))
                  have HTV1 := Lib.hid (HTV.out.only h2 hB HRD.out.lt)
                  have H2 := Lib.hid (HON.out.step h2)
                  have HOS1 := Lib.hid (only_set h2 HRD.out HOS.out)
                  have HRD1 := Lib.hid h1
                  clear h1 h2
                  go_wp2_with fail
                  refine HIT1.out.mono ?_
                  rintro e w2 ⟨A1, k1, c1, rfl, g1, g2, g3⟩
                  have H3 := Lib.hid (H2.out.step g3)
                  have HTV3 := Lib.hid (HTV1.out.only g3 hB HRD1.out.lt)
                  have HOS2 := Lib.hid (only_set g3 HRD1.out HOS1.out)
                  have HRD2 := Lib.hid g2
                  have HG1 := Lib.hid g1
                  have HIS3 := Lib.hid (HIS2.out w2 g2)
                  clear g1 g2 g3
                  go_wp2_with fail
                  refine HIS3.out.mono ?_
                  rintro e w3 ⟨rfl, h1, h2⟩
                  simp only [Option.getD_some] at h1
                  have HIT3 := Lib.hid (HIT2.out w3 h1 (HTV3.out.only h2 hB HRD2.out.lt))
                  have H4 := Lib.hid (H3.out.step h2)
                  have HOS3 := Lib.hid (only_set h2 HRD2.out HOS2.out)
                  have HG3 := Lib.hid (only_set h2 HRD2.out HG1.out)
                  have HRD3 := Lib.hid h1
                  clear h1 h2
                  go_wp2_with fail
                  refine HIT3.out.mono ?_
                  rintro e w4 ⟨A4, k4, c4, rfl, g1, g2, g3⟩
                  have H5 := Lib.hid (H4.out.step g3)
                  have HOS4 := Lib.hid (only_set g3 HRD3.out HOS3.out)
                  have HG4 := Lib.hid (only_set g3 HRD3.out HG3.out)
                  have HM4 := Lib.hid g1
                  have HRD4 := Lib.hid g2
                  clear g1 g2 g3
                  obtain ⟨hq1, G, hG, hG1, hG2, d0, d1, d2⟩ := OwnSet.last (o := []) (p := 0) HG4.out rfl
                  subst hq1; subst hG
                  obtain ⟨hq4, G4, hG4, _, _, _, e1, _⟩ := OwnSet.last (o := []) (p := 0) HM4.out rfl
                  subst hq4; subst hG4
                  simp only [Nat.zero_mul, Nat.zero_add] at d0 d1 d2 e1
                  have HS7 : Hid (w4.cell? ⟨G4, 1, none⟩ = some (.int .i64 (b : Int)) ∧ w4.cell? ⟨G, 0, none⟩ = some (.int .i64 (a : Int))) := Lib.hid ⟨e1, d0⟩
                  go_wp2
                  refine wp_region_T 12 (fun W => W.cell? ⟨G4, 1, none⟩ = some (.int .i64 (b : Int)) ∧ W.cell? ⟨G, 0, none⟩ = some (.int .i64 (a : Int))) (by kernel_rfl) ?_
                  refine wpAnyT_takeC (i := 0) [12, 2, 1] (v := ?_) rfl (by kernel_rfl) (by kernel_rfl) (by kernel_rfl) (by kernel_rfl) (by kernel_rfl) (by kernel_rfl) (fun _ _ _ h => h) (.inl ⟨rfl, ?_⟩) HS7.out ?_
                  rotate_left
                  · intro W__ hW__
                    obtain ⟨h1, h2⟩ := hW__
                    go_simp
                    (try with_reducible rfl)
                  try simp only [Act.put]
                  refine wpAnyT_takeC (i := 1) [12, 2] (v := ?_) rfl (by kernel_rfl) (by kernel_rfl) (by kernel_rfl) (by kernel_rfl) (by kernel_rfl) (by kernel_rfl) (fun _ _ _ h => h) (.inl ⟨rfl, ?_⟩) HS7.out ?_
                  rotate_left
                  · intro W__ hW__
                    obtain ⟨h1, h2⟩ := hW__
                    go_simp
                    (try with_reducible rfl)
                  try simp only [Act.put]
                  refine wpAnyT_takeC (i := 2) [12] (v := ?_) rfl (by kernel_rfl) (by kernel_rfl) (by kernel_rfl) (by kernel_rfl) (by kernel_rfl) (by kernel_rfl) (fun _ _ _ h => h) (.inl ⟨rfl, ?_⟩) HS7.out ?_
                  rotate_left
                  · intro W__ hW__
                    obtain ⟨h1, h2⟩ := hW__
                    go_simp
                    (try with_reducible rfl)
                  try simp only [Act.put]
                  refine wpAnyT_takeC (i := 3) [12, 11, 6, 5, 4] (v := ?_) rfl (by kernel_rfl) (by kernel_rfl) (by kernel_rfl) (by kernel_rfl) (by kernel_rfl) (by kernel_rfl) (fun _ _ _ h => h) (.inl ⟨by kernel_rfl, ?_⟩) HS7.out ?_
                  rotate_left
                  · intro W__ hW__
                    obtain ⟨h1, h2⟩ := hW__
                    go_simp
                    (try with_reducible rfl)
                  try simp only [Act.put]
                  refine wpAnyT_takeC (i := 7) [12, 11, 10, 9, 8] (v := ?_) rfl (by kernel_rfl) (by kernel_rfl) (by kernel_rfl) (by kernel_rfl) (by kernel_rfl) (by kernel_rfl) (fun _ _ _ h => h) (.inl ⟨by kernel_rfl, ?_⟩) HS7.out ?_
                  rotate_left
                  · intro W__ hW__
                    obtain ⟨h1, h2⟩ := hW__
                    go_simp
                    (try with_reducible rfl)
                  try simp only [Act.put]
                  refine wpAnyT_takeC (i := 4) [12, 11, 6, 5] (v := ?_) rfl (by kernel_rfl) (by kernel_rfl) (by kernel_rfl) (by kernel_rfl) (by kernel_rfl) (by kernel_rfl) (fun _ _ _ h => h) (.inl ⟨by kernel_rfl, ?_⟩) HS7.out ?_
                  rotate_left
                  · intro W__ hW__
                    obtain ⟨h1, h2⟩ := hW__
                    go_simp
                    (try with_reducible rfl)
                  try simp only [Act.put]
                  refine wpAnyT_takeC (i := 8) [12, 11, 10, 9] (v := ?_) rfl (by kernel_rfl) (by kernel_rfl) (by kernel_rfl) (by kernel_rfl) (by kernel_rfl) (by kernel_rfl) (fun _ _ _ h => h) (.inl ⟨by kernel_rfl, ?_⟩) HS7.out ?_
                  rotate_left
                  · intro W__ hW__
                    obtain ⟨h1, h2⟩ := hW__
                    go_simp
                    (try with_reducible rfl)
                  try simp only [Act.put]
                  refine wpAnyT_takeC (i := 5) [12, 11, 6] (v := ?_) rfl (by kernel_rfl) (by kernel_rfl) (by kernel_rfl) (by kernel_rfl) (by kernel_rfl) (by kernel_rfl) (fun _ _ _ h => h) (.inl ⟨by kernel_rfl, ?_⟩) HS7.out ?_
                  rotate_left
                  · intro W__ hW__
                    obtain ⟨h1, h2⟩ := hW__
                    go_simp
                    (try with_reducible rfl)
                  try simp only [Act.put]
                  refine wpAnyT_takeC (i := 9) [12, 11, 10] (v := ?_) rfl (by kernel_rfl) (by kernel_rfl) (by kernel_rfl) (by kernel_rfl) (by kernel_rfl) (by kernel_rfl) (fun _ _ _ h => h) (.inl ⟨by kernel_rfl, ?_⟩) HS7.out ?_
                  rotate_left
                  · intro W__ hW__
                    obtain ⟨h1, h2⟩ := hW__
                    go_simp
                    (try with_reducible rfl)
                  try simp only [Act.put]
                  refine wpAnyT_takeC (i := 6) [12, 11] (v := ?_) rfl (by kernel_rfl) (by kernel_rfl) (by kernel_rfl) (by kernel_rfl) (by kernel_rfl) (by kernel_rfl) (fun _ _ _ h => h) (.inl ⟨by kernel_rfl, ?_⟩) HS7.out ?_
                  rotate_left
                  · intro W__ hW__
                    obtain ⟨h1, h2⟩ := hW__
                    go_simp
                    (try with_reducible rfl)
                  try simp only [Act.put]
                  refine wpAnyT_takeC (i := 10) [12, 11] (v := ?_) rfl (by kernel_rfl) (by kernel_rfl) (by kernel_rfl) (by kernel_rfl) (by kernel_rfl) (by kernel_rfl) (fun _ _ _ h => h) (.inl ⟨by kernel_rfl, ?_⟩) HS7.out ?_
                  rotate_left
                  · intro W__ hW__
                    obtain ⟨h1, h2⟩ := hW__
                    go_simp
                    (try with_reducible rfl)
                  try simp only [Act.put]
                  refine wpAnyT_takeC (i := 11) [12] (v := ?_) rfl (by kernel_rfl) (by kernel_rfl) (by kernel_rfl) (by kernel_rfl) (by kernel_rfl) (by kernel_rfl) (fun _ _ _ h => h) (.inl ⟨by kernel_rfl, ?_⟩) HS7.out ?_
                  rotate_left
                  · intro W__ hW__
                    obtain ⟨h1, h2⟩ := hW__
                    go_simp
                    (try with_reducible rfl)
                  try simp only [Act.put]
                  refine wpAnyT_end (i := 12) rfl (by kernel_rfl) rfl (by kernel_rfl) fun K__ hK__ => ?_
                  unfold Oper.wp
                  go_simp
                  refine hK__ _ _ ?_
                  clear hK__
                  refine wpAnyT_done (by kernel_rfl) ?_ _
                  obtain ⟨us0, HOW, _, _⟩ := set_split HOS1.out
                  obtain ⟨us, HOA4, HRL, HQL⟩ := set_split HOS4.out
                  obtain ⟨us1, HGR, _, _⟩ := set_split HG4.out
                  have hwG : w.heap.size ≤ G := Nat.le_trans H2.out.size hG1
                  have HOA : Hid (((w4.setCell ⟨G, 1, none⟩ (.int .i64 (b : Int))).drew).ownsRow w.heap.size TRg 2 (.slice A n c) n us) := Lib.hid (show (w4.setCell ⟨G, 1, none⟩ (.int .i64 (b : Int))).ownsRow w.heap.size TRg 2 (.slice A n c) n us from HOA4.out.kept (HGR.out.stored 1 (.int .i64 (b : Int))).2 (by
                    rcases A with _ | a'
                    · exact .inl rfl
                    · exact .inr fun e => by have := (HOW.out.lt G e).2; omega))
                  have HN5 : Hid (Only R w ((w4.setCell ⟨G, 1, none⟩ (.int .i64 (b : Int))).drew)) := Lib.hid ((only_far H5.out hwG 1 _).then (Below.refl _ _).drew)
                  have HRD5 : Hid (RdS ((w4.setCell ⟨G, 1, none⟩ (.int .i64 (b : Int))).drew) R r3 wd) := Lib.hid (rds_far HRD4.out (by have := HR.out; omega) 1 _)
                  have hlo : RngsOk (acc ++ [⟨(a : Int), (b : Int)⟩]) := HOK.out.app (fun x hx => by obtain rfl := List.mem_singleton.1 hx; simp only; omega)
                  have HK9 := Lib.hid hlo
                  obtain ⟨vs, HRS, HSR, HQS⟩ := set_src (OwnK.drew (OwnSet.hi (o := []) (p := 0) (z := (b : Int)) HG4.out rfl (by omega))) (by omega)
                  simp only [List.nil_append, Nat.zero_mul, Nat.zero_add] at HRS HSR HQS
                  have Q1 : Hid (n + 1 ≤ maxLen) := Lib.hid (by simp only [maxLen]; omega)
                  have Q2 : Hid ((n + 1) * 16 ≤ 140737488355328) := Lib.hid (by omega)
                  clear hlo
                  go_wp2_with (first
                  | (at_builtin
                     go_must (refine wpList_append_src _ rfl (.tmp 54) (.tmp 55) 50 rfl w.heap.size TRg i0 _ 2 16 Tryz.underlying50 hi0 hz0 hs0 hb0 rfl (by decide) A c n _ rfl HOA.out (some ⟨G, 0, none⟩) 1 c1 _ rfl HSR.out Q1.out Q2.out HN5.out.size ?_)
                     intro A9 c9 w9 own9 gr9 _
                     have HO9 := Lib.hid (set_pushN HRL.out HRS.out HQL.out HQS.out own9)
                     have HN9 := Lib.hid (HN5.out.grown gr9 (fun k hk => (HOA.out.lt k hk).1))
                     have HR9 := Lib.hid (HRD5.out.grown HOA.out (by decide) gr9)
                     clear own9 gr9))
                  go_roundw
                  case rel => exact ⟨r3, acc ++ [⟨(a : Int), (b : Int)⟩], n + 1, c9, A9, f2, rfl, by omega, by omega, HXR, HR9, HO9, HK9, HN9⟩
                  case measure => rw [HR9.out.len, HRD.out.len]; have := And.intro hrl hrl2; omega
end Go.Proofs.YtilhicefhhgecaaGreatDoor

namespace Pv
open Go Go.RowKit
theorem rngB_len {l r : Bs} {s : List Rng} (h : rngB l = some (s, r)) : r.length < l.length := by
  unfold rngB at h
  cases h1 : itemB l with
  | none => rw [h1] at h; cases h
  | some p =>
    obtain ⟨s1, q, r1⟩ := p
    have d1 := (itemB_d h1).len
    rw [h1] at h
    simp only at h
    cases h2 : (if q = true then isB 45 r1 else none) with
    | none =>
      rw [h2] at h
      simp only [Option.some.injEq, Prod.mk.injEq] at h
      obtain ⟨_, rfl⟩ := h
      exact d1
    | some r2 =>
      have e2 : r2.length + 1 = r1.length := by
        split at h2
        · rw [isB_some h2]; rfl
        · cases h2
      rw [h2] at h
      simp only at h
      cases h3 : itemB r2 with
      | none => rw [h3] at h; cases h
      | some p =>
        obtain ⟨m, q2, r3⟩ := p
        have d3 := (itemB_d h3).len
        rw [h3] at h
        simp only at h
        split at h
        · cases h
        · simp only [Option.some.injEq, Prod.mk.injEq] at h
          obtain ⟨_, rfl⟩ := h
          omega
theorem clsB_len : ∀ (f : Nat) {l r : Bs} {acc s : List Rng}, clsB f l acc = some (s, r) → r.length < l.length
  | 0, _, _, _, _, h => by cases h
  | f + 1, l, r, acc, s, h => by
    unfold clsB at h
    cases h1 : isB 93 l with
    | some r1 =>
      rw [h1] at h
      simp only [Option.some.injEq, Prod.mk.injEq] at h
      obtain ⟨_, rfl⟩ := h
      rw [isB_some h1]
      simp
    | none =>
      rw [h1] at h
      simp only at h
      cases h2 : rngB l with
      | none => rw [h2] at h; cases h
      | some p =>
        obtain ⟨s1, r1⟩ := p
        rw [h2] at h
        have := rngB_len h2
        have := clsB_len f h
        omega
theorem classB_len {l r : Bs} {wd w2 : Bool} {t : List Rx} (h : classB l wd = some (t, r, w2)) : t.length = 1 ∧ r.length < l.length := by
  have key : ∀ (neg : Bool) (c0 : Bs), resC neg wd (clsB (c0.length + 1) c0 []) = some (t, r, w2) → t.length = 1 ∧ r.length < c0.length := by
    intro neg c0 h
    cases hc : clsB (c0.length + 1) c0 [] with
    | none => rw [hc] at h; cases h
    | some p =>
      obtain ⟨s, r1⟩ := p
      rw [hc] at h
      unfold resC at h
      simp only [Option.some.injEq, Prod.mk.injEq] at h
      obtain ⟨rfl, rfl, _⟩ := h
      exact ⟨rfl, clsB_len _ hc⟩
  cases hn : isB 94 l with
  | none => rw [class_0 hn] at h; exact key _ _ h
  | some l0 =>
    rw [class_1 hn] at h
    have := key _ _ h
    rw [isB_some hn]
    simp
    omega
def FewG (g : Bs → Bool → Option PR) : Prop := ∀ l wd t r w2, g l wd = some (t, r, w2) → 1 ≤ t.length ∧ t.length + 3 * r.length ≤ 3 * l.length + 1
theorem atomG_few {g : Bs → Bool → Option PR} (hg : FewG g) {l r : Bs} {wd w2 : Bool} {t : List Rx} (h : atomB g l wd = some (t, r, w2)) : 1 ≤ t.length ∧ t.length + 3 * r.length + 2 ≤ 3 * l.length := by
  unfold atomB at h
  cases h1 : isB 46 l with
  | some r1 =>
    rw [h1] at h
    simp only [Option.some.injEq, Prod.mk.injEq] at h
    obtain ⟨rfl, rfl, _⟩ := h
    rw [isB_some h1]
    simp
    omega
  | none =>
    rw [h1] at h
    simp only at h
    cases h2 : isB 40 l with
    | some r1 =>
      rw [h2] at h
      simp only at h
      cases h3 : g r1 wd with
      | none => rw [h3] at h; cases h
      | some q =>
        obtain ⟨t1, r2, w1⟩ := q
        rw [h3] at h
        simp only at h
        cases h4 : isB 41 r2 with
        | none => rw [h4] at h; cases h
        | some r3 =>
          rw [h4] at h
          simp only [Option.map_some, Option.some.injEq, Prod.mk.injEq] at h
          obtain ⟨rfl, rfl, _⟩ := h
          have := hg _ _ _ _ _ h3
          rw [isB_some h4] at this
          rw [isB_some h2]
          simp at this ⊢
          omega
    | none =>
      rw [h2] at h
      simp only at h
      cases h3 : isB 91 l with
      | some r1 =>
        rw [h3] at h
        have := classB_len h
        rw [isB_some h3]
        simp
        omega
      | none =>
        rw [h3] at h
        simp only at h
        cases h4 : isB 92 l with
        | some r1 =>
          rw [h4] at h
          simp only at h
          cases h5 : escB r1 with
          | none => rw [h5] at h; cases h
          | some p =>
            obtain ⟨s, q, r2⟩ := p
            rw [h5] at h
            simp only [Option.map_some, Option.some.injEq, Prod.mk.injEq] at h
            obtain ⟨rfl, rfl, _⟩ := h
            have := (escB_d h5).len
            rw [isB_some h4]
            simp
            omega
        | none =>
          rw [h4] at h
          simp only at h
          cases h5 : takeB noneA l with
          | none => rw [h5] at h; cases h
          | some p =>
            obtain ⟨m, r2⟩ := p
            rw [h5] at h
            simp only [Option.map_some, Option.some.injEq, Prod.mk.injEq] at h
            obtain ⟨rfl, rfl, _⟩ := h
            have := (takeB_len h5).1
            simp
            omega
theorem pieceG_few {g : Bs → Bool → Option PR} (hg : FewG g) {l r : Bs} {wd w2 : Bool} {t : List Rx} (h : pieceB g l wd = some (t, r, w2)) : 1 ≤ t.length ∧ t.length + 3 * r.length + 2 ≤ 3 * l.length := by
  obtain ⟨t1, r1, h1, h2⟩ := pieceB_steps h
  have k := atomG_few hg h1
  rcases h2 with ⟨h2, rfl⟩ | ⟨a, b, h2, rfl⟩
  · have := (oftB_sfx h2).length_le
    omega
  · have := oftB_less h2
    simp
    omega
theorem piecesG_few {g : Bs → Bool → Option PR} (hg : FewG g) : ∀ (f : Nat) {l r : Bs} {wd w2 : Bool} {acc ps : List (List Rx)}, piecesB g f l wd acc = some (ps, r, w2) → (∀ p, p ∈ acc → 1 ≤ p.length) →
    (∀ p, p ∈ ps → 1 ≤ p.length) ∧ ps.flatten.length + 2 * ps.length + 3 * r.length ≤ 3 * l.length + acc.flatten.length + 2 * acc.length
  | 0, _, _, _, _, _, _, h, _ => by cases h
  | f + 1, l, r, wd, w2, acc, ps, h, ha => by
    unfold piecesB at h
    split at h
    · simp only [Option.some.injEq, Prod.mk.injEq] at h
      obtain ⟨rfl, rfl, rfl⟩ := h
      exact ⟨ha, by omega⟩
    · cases h2 : pieceB g l wd with
      | none => rw [h2] at h; cases h
      | some q =>
        obtain ⟨t, r1, w1⟩ := q
        rw [h2] at h
        have k := pieceG_few hg h2
        have k2 := piecesG_few hg f h (fun p hp => by
          rcases List.mem_append.1 hp with hp | hp
          · exact ha p hp
          · obtain rfl := List.mem_singleton.1 hp; exact k.1)
        refine ⟨k2.1, ?_⟩
        have := k2.2
        rw [flat_snoc, len_snoc] at this
        omega
theorem altsG_few {g : Bs → Bool → Option PR} (hg : FewG g) : ∀ (f : Nat) {l r : Bs} {wd w2 : Bool} {acc : List (List Rx)} {t : List Rx}, altsB g f l wd acc = some (t, r, w2) → (∀ p, p ∈ acc → 1 ≤ p.length) →
    1 ≤ t.length ∧ t.length + 3 * r.length ≤ 3 * l.length + acc.flatten.length + 1 + (if acc.length = 0 then 0 else 1)
  | 0, _, _, _, _, _, _, h, _ => by cases h
  | f + 1, l, r, wd, w2, acc, t, h, ha => by
    unfold altsB at h
    cases h1 : piecesB g (l.length + 1) l wd [] with
    | none => rw [h1] at h; cases h
    | some q =>
      obtain ⟨ps, r1, w1⟩ := q
      have k := piecesG_few hg _ h1 (by simp)
      have k1 := putB_len 2 ps k.1
      have k2 := k.2
      simp only [List.flatten_nil, List.length_nil, Nat.mul_zero, Nat.add_zero] at k2
      have ka : ∀ p, p ∈ acc ++ [putB 2 ps] → 1 ≤ p.length := fun p hp => by
        rcases List.mem_append.1 hp with hp | hp
        · exact ha p hp
        · obtain rfl := List.mem_singleton.1 hp; exact k1.1
      rw [h1] at h
      simp only at h
      cases h2 : isB 124 r1 with
      | none =>
        rw [h2] at h
        simp only [Option.some.injEq, Prod.mk.injEq] at h
        obtain ⟨rfl, rfl, rfl⟩ := h
        by_cases h3 : acc.length = 0
        · obtain rfl := List.eq_nil_of_length_eq_zero h3
          show 1 ≤ (putB 3 [putB 2 ps]).length ∧ (putB 3 [putB 2 ps]).length + _ ≤ _
          rw [show putB 3 [putB 2 ps] = putB 2 ps from rfl]
          simp only [List.flatten_nil, List.length_nil, if_true]
          omega
        · have k3 := putB_len 3 (acc ++ [putB 2 ps]) ka
          rw [if_neg h3]
          rw [flat_snoc] at k3
          omega
      | some r2 =>
        rw [h2] at h
        have e := isB_some h2
        subst e
        have k3 := altsG_few hg f h ka
        rw [flat_snoc, len_snoc, if_neg (by omega)] at k3
        simp only [List.length_cons] at k2
        split
        · rename_i h3
          obtain rfl := List.eq_nil_of_length_eq_zero h3
          simp only [List.flatten_nil, List.length_nil] at k3 ⊢
          omega
        · omega
theorem rowsG_few : ∀ f, FewG (rowsB f)
  | 0 => fun l wd t r w2 h => by cases h
  | f + 1 => fun l wd t r w2 h => by
    have := altsG_few (rowsG_few f) _ h (by simp)
    simpa using this
/-- Where it is bad how often. -/
inductive OftN (l : Bs) : Prop
  | one (r : Bs) (e : l = 123 :: r) (h : countB r = none)
  | must (r r2 : Bs) (a : Nat) (e : l = 123 :: r) (h : countB r = some (a, r2)) (h2 : isB 44 r2 = none) (h3 : isB 125 r2 = none)
  | two (r r3 : Bs) (a : Nat) (e : l = 123 :: r) (h : countB r = some (a, 44 :: r3)) (h2 : isB 125 r3 = none) (h3 : countB r3 = none)
  | less (r r3 r4 : Bs) (a b : Nat) (e : l = 123 :: r) (h : countB r = some (a, 44 :: r3)) (h2 : isB 125 r3 = none) (h3 : countB r3 = some (b, r4)) (h4 : b < a)
  | end (r r3 r4 : Bs) (a b : Nat) (e : l = 123 :: r) (h : countB r = some (a, 44 :: r3)) (h2 : isB 125 r3 = none) (h3 : countB r3 = some (b, r4)) (h4 : a ≤ b) (h5 : isB 125 r4 = none)
theorem oftB_no {l : Bs} (h : oftB l = none) : OftN l := by
  unfold oftB at h
  cases h1 : isB 42 l with
  | some r => rw [h1] at h; cases h
  | none =>
    rw [h1] at h
    simp only at h
    cases h2 : isB 43 l with
    | some r => rw [h2] at h; cases h
    | none =>
      rw [h2] at h
      simp only at h
      cases h3 : isB 63 l with
      | some r => rw [h3] at h; cases h
      | none =>
        rw [h3] at h
        simp only at h
        cases h4 : isB 123 l with
        | none => rw [h4] at h; cases h
        | some r =>
          rw [h4] at h
          simp only at h
          cases h5 : countB r with
          | none => exact .one r (isB_some h4) h5
          | some p =>
            obtain ⟨a, r2⟩ := p
            rw [h5] at h
            simp only at h
            cases h6 : isB 44 r2 with
            | none =>
              rw [h6] at h
              simp only [Option.map_eq_none_iff] at h
              exact .must r r2 a (isB_some h4) h5 h6 h
            | some r3 =>
              rw [h6] at h
              simp only at h
              rw [isB_some h6] at h5
              cases h7 : isB 125 r3 with
              | some r4 => rw [h7] at h; cases h
              | none =>
                rw [h7] at h
                simp only at h
                cases h8 : countB r3 with
                | none => exact .two r r3 a (isB_some h4) h5 h7 h8
                | some p =>
                  obtain ⟨b, r4⟩ := p
                  rw [h8] at h
                  simp only at h
                  by_cases h9 : b < a
                  · exact .less r r3 r4 a b (isB_some h4) h5 h7 h8 h9
                  · rw [if_neg h9] at h
                    simp only [Option.map_eq_none_iff] at h
                    exact .end r r3 r4 a b (isB_some h4) h5 h7 h8 (by omega) h
end Pv

namespace Pv
open Go Go.RowKit
def sumS (t : List Rx) : Nat := (t.map fun x => x.set.length).sum
theorem sumS_app (a b : List Rx) : sumS (a ++ b) = sumS a + sumS b := by simp [sumS]
theorem sumS_cons (x : Rx) (b : List Rx) : sumS (x :: b) = x.set.length + sumS b := by simp [sumS]
theorem sumS_nil : sumS [] = 0 := rfl
theorem sumS_one (s : List Rng) : sumS [setX s] = s.length := by simp [sumS, setX]
/-- What is narrow. -/
def NarX (t : List Rx) : Prop := ∀ x, x ∈ t → x.set.length ≤ 256
theorem itemB_rng {l r : Bs} {s : List Rng} {q : Bool} (h : itemB l = some (s, q, r)) : s.length + 2 * r.length ≤ 2 * l.length := by
  have d := itemB_d h
  unfold itemB at h
  cases hi : isB 92 l with
  | some r1 =>
    rw [hi] at h
    have e := isB_some hi
    have h1 := (escB_d h).len
    have h2 := d.few
    rw [e]
    simp only [List.length_cons]
    omega
  | none =>
    rw [hi] at h
    simp only at h
    cases ht : takeB noneC l with
    | none => rw [ht] at h; cases h
    | some p =>
      obtain ⟨c, r1⟩ := p
      rw [ht] at h
      simp only [Option.map_some, Option.some.injEq, Prod.mk.injEq] at h
      obtain ⟨rfl, rfl, rfl⟩ := h
      have := (takeB_len ht).1
      simp only [one1, List.length_cons, List.length_nil]
      omega
theorem rngB_rng {l r : Bs} {s : List Rng} (h : rngB l = some (s, r)) : s.length + 2 * r.length ≤ 2 * l.length := by
  unfold rngB at h
  cases h1 : itemB l with
  | none => rw [h1] at h; cases h
  | some p =>
    obtain ⟨s1, q, r1⟩ := p
    have d1 := itemB_rng h1
    rw [h1] at h
    simp only at h
    cases h2 : (if q = true then isB 45 r1 else none) with
    | none =>
      rw [h2] at h
      simp only [Option.some.injEq, Prod.mk.injEq] at h
      obtain ⟨rfl, rfl⟩ := h
      exact d1
    | some r2 =>
      have e2 : r2.length + 1 = r1.length := by
        split at h2
        · rw [isB_some h2]; rfl
        · cases h2
      rw [h2] at h
      simp only at h
      cases h3 : itemB r2 with
      | none => rw [h3] at h; cases h
      | some p =>
        obtain ⟨m, q2, r3⟩ := p
        have d3 := (itemB_d h3).len
        rw [h3] at h
        simp only at h
        split at h
        · cases h
        · simp only [Option.some.injEq, Prod.mk.injEq] at h
          obtain ⟨rfl, rfl⟩ := h
          have : (toR s1 (m.getD 0 ⟨0, 0⟩).hi).length = s1.length := by cases s1 <;> rfl
          omega
theorem clsB_rng : ∀ (f : Nat) {l r : Bs} {acc s : List Rng}, clsB f l acc = some (s, r) → s.length + 2 * r.length + 2 ≤ acc.length + 2 * l.length
  | 0, _, _, _, _, h => by cases h
  | f + 1, l, r, acc, s, h => by
    unfold clsB at h
    cases h1 : isB 93 l with
    | some r1 =>
      rw [h1] at h
      simp only [Option.some.injEq, Prod.mk.injEq] at h
      obtain ⟨rfl, rfl⟩ := h
      rw [isB_some h1]
      simp
      omega
    | none =>
      rw [h1] at h
      simp only at h
      cases h2 : rngB l with
      | none => rw [h2] at h; cases h
      | some p =>
        obtain ⟨s1, r1⟩ := p
        rw [h2] at h
        have k1 := rngB_rng h2
        have k2 := clsB_rng f h
        rw [List.length_append] at k2
        omega
theorem oth_len : ∀ (m : List Rng) (p : Int × List Rng), (m.foldl oth1 p).2.length ≤ m.length + p.2.length
  | [], p => by simp
  | x :: m, p => by
    rw [List.foldl_cons]
    have h := oth_len m (oth1 p x)
    have h2 : (oth1 p x).2.length ≤ p.2.length + 1 := by
      unfold oth1
      simp only
      split <;> simp
    simp only [List.length_cons]
    omega
theorem othR_len (l : List Rng) : (othR l).length ≤ l.length + 1 := by
  have h := oth_len (l ++ [Rng.mk 1114112 0]) (0, [])
  simp only [List.length_append, List.length_cons, List.length_nil] at h
  unfold othR
  omega
theorem classB_rng {l r : Bs} {wd w2 : Bool} {t : List Rx} (h : classB l wd = some (t, r, w2)) : sumS t + 2 * r.length ≤ 2 * l.length ∧ (w2 = false → wd = false ∧ NarX t) := by
  have key : ∀ (neg : Bool) (c0 : Bs), resC neg wd (clsB (c0.length + 1) c0 []) = some (t, r, w2) → sumS t + 2 * r.length ≤ 2 * c0.length ∧ (w2 = false → wd = false ∧ NarX t) := by
    intro neg c0 h
    cases hc : clsB (c0.length + 1) c0 [] with
    | none => rw [hc] at h; cases h
    | some p =>
      obtain ⟨s, r1⟩ := p
      rw [hc] at h
      unfold resC at h
      simp only [Option.some.injEq, Prod.mk.injEq] at h
      obtain ⟨rfl, rfl, rfl⟩ := h
      have h1 := clsB_rng _ hc
      have h2 := join_len s
      have h3 := othR_len (joinR (sortR s))
      simp only [List.length_nil] at h1
      refine ⟨?_, fun hw => ?_⟩
      · rw [sumS_one]
        split <;> omega
      · simp only [Bool.or_eq_false_iff, decide_eq_false_iff_not] at hw
        refine ⟨hw.1, fun x hx => ?_⟩
        obtain rfl := List.mem_singleton.1 hx
        show (if neg = true then _ else _ : List Rng).length ≤ 256
        omega
  cases hn : isB 94 l with
  | none => rw [class_0 hn] at h; exact key _ _ h
  | some l0 =>
    rw [class_1 hn] at h
    have := key _ _ h
    rw [isB_some hn]
    simp
    exact ⟨by omega, this.2⟩
def NarG (g : Bs → Bool → Option PR) : Prop := ∀ l wd t r w2, g l wd = some (t, r, w2) → sumS t + 2 * r.length ≤ 2 * l.length ∧ (w2 = false → wd = false ∧ NarX t)
theorem NarX.one {s : List Rng} (h : s.length ≤ 256) : NarX [setX s] := fun x hx => by obtain rfl := List.mem_singleton.1 hx; exact h
theorem NarX.app {s t : List Rx} (h : NarX s) (h' : NarX t) : NarX (s ++ t) := fun x hx => (List.mem_append.1 hx).elim (h x) (h' x)
theorem atomG_nar {g : Bs → Bool → Option PR} (hg : NarG g) {l r : Bs} {wd w2 : Bool} {t : List Rx} (h : atomB g l wd = some (t, r, w2)) : sumS t + 2 * r.length ≤ 2 * l.length ∧ (w2 = false → wd = false ∧ NarX t) := by
  unfold atomB at h
  cases h1 : isB 46 l with
  | some r1 =>
    rw [h1] at h
    simp only [Option.some.injEq, Prod.mk.injEq] at h
    obtain ⟨rfl, rfl, rfl⟩ := h
    rw [isB_some h1, sumS_one]
    exact ⟨by simp; omega, fun hw => ⟨hw, NarX.one (by simp)⟩⟩
  | none =>
    rw [h1] at h
    simp only at h
    cases h2 : isB 40 l with
    | some r1 =>
      rw [h2] at h
      simp only at h
      cases h3 : g r1 wd with
      | none => rw [h3] at h; cases h
      | some q =>
        obtain ⟨t1, r2, w1⟩ := q
        rw [h3] at h
        simp only at h
        cases h4 : isB 41 r2 with
        | none => rw [h4] at h; cases h
        | some r3 =>
          rw [h4] at h
          simp only [Option.map_some, Option.some.injEq, Prod.mk.injEq] at h
          obtain ⟨rfl, rfl, rfl⟩ := h
          have := hg _ _ _ _ _ h3
          rw [isB_some h4] at this
          rw [isB_some h2]
          refine ⟨?_, this.2⟩
          have := this.1
          simp at this ⊢
          omega
    | none =>
      rw [h2] at h
      simp only at h
      cases h3 : isB 91 l with
      | some r1 =>
        rw [h3] at h
        have := classB_rng h
        rw [isB_some h3]
        refine ⟨?_, this.2⟩
        simp
        omega
      | none =>
        rw [h3] at h
        simp only at h
        cases h4 : isB 92 l with
        | some r1 =>
          rw [h4] at h
          simp only at h
          cases h5 : escB r1 with
          | none => rw [h5] at h; cases h
          | some p =>
            obtain ⟨s, q, r2⟩ := p
            rw [h5] at h
            simp only [Option.map_some, Option.some.injEq, Prod.mk.injEq] at h
            obtain ⟨rfl, rfl, rfl⟩ := h
            have d := escB_d h5
            have := d.len
            have := d.few
            rw [isB_some h4, sumS_one]
            refine ⟨by simp; omega, fun hw => ⟨hw, NarX.one (by omega)⟩⟩
        | none =>
          rw [h4] at h
          simp only at h
          cases h5 : takeB noneA l with
          | none => rw [h5] at h; cases h
          | some p =>
            obtain ⟨m, r2⟩ := p
            rw [h5] at h
            simp only [Option.map_some, Option.some.injEq, Prod.mk.injEq] at h
            obtain ⟨rfl, rfl, rfl⟩ := h
            have := (takeB_len h5).1
            rw [sumS_one]
            exact ⟨by simp [one1]; omega, fun hw => ⟨hw, NarX.one (by simp [one1])⟩⟩
theorem pieceG_nar {g : Bs → Bool → Option PR} (hg : NarG g) {l r : Bs} {wd w2 : Bool} {t : List Rx} (h : pieceB g l wd = some (t, r, w2)) : sumS t + 2 * r.length ≤ 2 * l.length ∧ (w2 = false → wd = false ∧ NarX t) := by
  obtain ⟨t1, r1, h1, h2⟩ := pieceB_steps h
  have k := atomG_nar hg h1
  rcases h2 with ⟨h2, rfl⟩ | ⟨a, b, h2, rfl⟩
  · have := (oftB_sfx h2).length_le
    exact ⟨by omega, k.2⟩
  · have := oftB_less h2
    refine ⟨by rw [sumS_cons]; simp; omega, fun hw => ⟨(k.2 hw).1, fun x hx => ?_⟩⟩
    rcases List.mem_cons.1 hx with rfl | hx
    · simp
    · exact (k.2 hw).2 x hx
theorem piecesG_nar {g : Bs → Bool → Option PR} (hg : NarG g) : ∀ (f : Nat) {l r : Bs} {wd w2 : Bool} {acc ps : List (List Rx)}, piecesB g f l wd acc = some (ps, r, w2) →
    sumS ps.flatten + 2 * r.length ≤ 2 * l.length + sumS acc.flatten ∧ (w2 = false → wd = false ∧ (NarX acc.flatten → NarX ps.flatten))
  | 0, _, _, _, _, _, _, h => by cases h
  | f + 1, l, r, wd, w2, acc, ps, h => by
    unfold piecesB at h
    split at h
    · simp only [Option.some.injEq, Prod.mk.injEq] at h
      obtain ⟨rfl, rfl, rfl⟩ := h
      exact ⟨by omega, fun hw => ⟨hw, id⟩⟩
    · cases h2 : pieceB g l wd with
      | none => rw [h2] at h; cases h
      | some q =>
        obtain ⟨t, r1, w1⟩ := q
        rw [h2] at h
        have k := pieceG_nar hg h2
        have k2 := piecesG_nar hg f h
        have e : (acc ++ [t]).flatten = acc.flatten ++ t := by simp
        rw [e, sumS_app] at k2
        refine ⟨by omega, fun hw => ?_⟩
        obtain ⟨h5, h6⟩ := k2.2 hw
        obtain ⟨h7, h8⟩ := k.2 h5
        exact ⟨h7, fun ha => h6 (ha.app h8)⟩
theorem putB_sum (k : Int) (ll : List (List Rx)) : sumS (putB k ll) = sumS ll.flatten ∧ (NarX ll.flatten → NarX (putB k ll)) := by
  match ll with
  | [] => exact ⟨rfl, fun _ x hx => by obtain rfl := List.mem_singleton.1 (show x ∈ [(⟨0, [], 0, 0, 0⟩ : Rx)] from hx); simp⟩
  | [p] => exact ⟨by simp [putB], fun h => by simpa [putB] using h⟩
  | p :: q :: ll =>
    refine ⟨by simp [putB, sumS_cons], fun h x hx => ?_⟩
    rcases List.mem_cons.1 hx with rfl | hx
    · simp
    · exact h x hx
theorem altsG_nar {g : Bs → Bool → Option PR} (hg : NarG g) : ∀ (f : Nat) {l r : Bs} {wd w2 : Bool} {acc : List (List Rx)} {t : List Rx}, altsB g f l wd acc = some (t, r, w2) →
    sumS t + 2 * r.length ≤ 2 * l.length + sumS acc.flatten ∧ (w2 = false → wd = false ∧ (NarX acc.flatten → NarX t))
  | 0, _, _, _, _, _, _, h => by cases h
  | f + 1, l, r, wd, w2, acc, t, h => by
    unfold altsB at h
    cases h1 : piecesB g (l.length + 1) l wd [] with
    | none => rw [h1] at h; cases h
    | some q =>
      obtain ⟨ps, r1, w1⟩ := q
      have k := piecesG_nar hg _ h1
      have k1 := putB_sum 2 ps
      have kn : NarX ([] : List (List Rx)).flatten := fun x hx => by simp at hx
      have e0 : sumS ([] : List (List Rx)).flatten = 0 := rfl
      have e : (acc ++ [putB 2 ps]).flatten = acc.flatten ++ putB 2 ps := by simp
      rw [h1] at h
      simp only at h
      cases h2 : isB 124 r1 with
      | none =>
        rw [h2] at h
        simp only [Option.some.injEq, Prod.mk.injEq] at h
        obtain ⟨rfl, rfl, rfl⟩ := h
        have k3 := putB_sum 3 (acc ++ [putB 2 ps])
        rw [e, sumS_app] at k3
        refine ⟨by omega, fun hw => ?_⟩
        obtain ⟨h5, h6⟩ := k.2 hw
        exact ⟨h5, fun ha => k3.2 (ha.app (k1.2 (h6 kn)))⟩
      | some r2 =>
        rw [h2] at h
        have e3 := isB_some h2
        subst e3
        have k3 := altsG_nar hg f h
        rw [e, sumS_app] at k3
        simp only [List.length_cons] at k
        refine ⟨by omega, fun hw => ?_⟩
        obtain ⟨h5, h6⟩ := k3.2 hw
        obtain ⟨h7, h8⟩ := k.2 h5
        exact ⟨h7, fun ha => h6 (ha.app (k1.2 (h8 kn)))⟩
theorem rowsG_nar : ∀ f, NarG (rowsB f)
  | 0 => fun l wd t r w2 h => by cases h
  | f + 1 => fun l wd t r w2 h => by
    have := altsG_nar (rowsG_nar f) _ h
    refine ⟨by have := this.1; simp [sumS_nil] at this; omega, fun hw => ⟨(this.2 hw).1, (this.2 hw).2 (fun x hx => by simp at hx)⟩⟩
end Pv

namespace Pv
open Go Go.RowKit
/-- What comes of a group, from what its rows are. -/
def grpX : Option PR → Option PR
  | none => none
  | some (t, r2, w2) => (isB 41 r2).map fun r3 => (t, r3, w2)
theorem atom_grp (g : Bs → Bool → Option PR) (r : Bs) (wd : Bool) : atomB g (40 :: r) wd = grpX (g r wd) := by
  unfold atomB
  rw [isB_miss (c := 46) _ (by decide), isB_hit]
  simp only
  unfold grpX
  cases g r wd with
  | none => rfl
  | some p => rfl
end Pv
namespace Go.Proofs.YtilhicefhhgecaaGreatDoor
open Go.RowKit Pv
/-- None of the first marks stands next. -/
def Miss4 (l : Bs) (k : Nat) : Prop := (1 ≤ k → isB 46 l = none) ∧ (2 ≤ k → isB 40 l = none) ∧ (3 ≤ k → isB 91 l = none) ∧ (4 ≤ k → isB 92 l = none)
theorem rd_classO {R B : Nat} {l : Bs} {wd : Bool} {w : World} (hE : EscOk R B) (h : RdS w R l wd) (hl : l.length ≤ 20000) (hT : TabV B w) (hB : B ≤ R) :
    Calls Tryz.prog 161 #[.pointer (some ⟨R, 0, none⟩)] w (RdO R w (classB l wd)) := by
  cases hn : isB 94 l with
  | none => exact rd_class0 hE h hn hl hT hB
  | some l0 => exact rd_class1 hE h hn hl hT hB
set_option maxHeartbeats 1000000 in
set_option maxRecDepth 100000 in
theorem rd_groupO {R : Nat} {w : World} {X : Option PR} (hr : Calls Tryz.prog 38 #[.pointer (some ⟨R, 0, none⟩)] w (RdO R w X)) :
    Calls Tryz.prog 160 #[.pointer (some ⟨R, 0, none⟩)] w (RdO R w (grpX X)) := by
  have HR := Lib.hid hr
  clear hr
  cases X with
  | none =>
    go_enter Tryz.func160, Tryz.ntmps160
    go_wp2_with fail
    refine HR.out.mono ?_
    rintro e w1 ⟨he, k⟩
    subst he
    have K := Lib.hid k
    clear k
    go_wp2
    exact ⟨rfl, show Stopped _ ∧ Only R w _ from ⟨rfl, K.out⟩⟩
  | some p =>
    obtain ⟨t, l, wd⟩ := p
    unfold grpX
    simp only
    cases hc : isB 41 l with
    | none =>
      have HC := Lib.hid hc
      clear hc
      go_enter Tryz.func160, Tryz.ntmps160
      go_wp2_with fail
      refine HR.out.mono ?_
      rintro e w1 ⟨A, n, c, rfl, h1, h2, h3⟩
      have H3 := Lib.hid h3
      have HM := Lib.hid (rd_mustN R l wd 41 w1 h2 HC.out)
      clear h1 h2 h3
      go_wp2_with fail
      refine HM.out.mono ?_
      rintro e w2 ⟨he, k⟩
      subst he
      have K := Lib.hid (H3.out.step k)
      clear k
      go_wp2
      exact ⟨rfl, show Stopped _ ∧ Only R w _ from ⟨rfl, K.out⟩⟩
    | some l2 => exact rd_group R w t l l2 wd HR.out hc
set_option maxHeartbeats 1000000 in
set_option maxRecDepth 100000 in
theorem rd_quotedO {R B : Nat} {l : Bs} {wd : Bool} {w : World} (hE : EscOk R B) (h : RdS w R l wd) (hl : l.length ≤ 20000) (hT : TabV B w) :
    Calls Tryz.prog 162 #[.pointer (some ⟨R, 0, none⟩)] w (RdO R w ((escB l).map fun p => ([setX p.1], p.2.2, wd))) := by
  have hR := h.lt
  cases he : escB l with
  | none =>
    have HES := Lib.hid (hE.no l wd w (by omega) he h hT)
    clear h hT he
    go_enter Tryz.func162, Tryz.ntmps162
    go_wp2_with fail
    refine HES.out.mono ?_
    rintro e w1 ⟨he, k⟩
    subst he
    have K := Lib.hid k
    clear k
    go_wp2
    exact ⟨rfl, show Stopped _ ∧ Only R w _ from ⟨rfl, K.out⟩⟩
  | some p =>
    obtain ⟨s, q, r⟩ := p
    have HES := Lib.hid (hE.yes l r s q wd w (by omega) he h hT)
    simp only [Option.map_some]
    clear h hT he
    go_enter Tryz.func162, Tryz.ntmps162
    go_wp2_with fail
    refine HES.out.mono ?_
    rintro e w1 ⟨A, n, c, rfl, h1, h2, h3⟩
    have H1 := Lib.hid h1; have H2 := Lib.hid h2; have H3 := Lib.hid h3
    clear h1 h2 h3
    go_wp2
    go_ret
    exact ⟨_, _, _, rfl, rx_lower (own_self rfl H3.out.size H1.out) (by omega), H2.out.alloc _, H3.out.alloc _⟩

set_option maxHeartbeats 8000000 in
set_option maxRecDepth 100000 in
theorem rd_atomO {g : Bs → Bool → Option PR} {R B : Nat} {l : Bs} {wd : Bool} {w : World} (hE : EscOk R B) (h : RdS w R l wd) (hl : l.length ≤ 20000) (hT : TabV B w) (hB : B ≤ R)
    (hg : ∀ r1 w1, l = 40 :: r1 → RdS w1 R r1 wd → TabV B w1 → Calls Tryz.prog 38 #[.pointer (some ⟨R, 0, none⟩)] w1 (RdO R w1 (g r1 wd))) :
    Calls Tryz.prog 114 #[.pointer (some ⟨R, 0, none⟩)] w (RdO R w (atomB g l wd)) := by
  obtain ⟨Y, hY⟩ : ∃ Y, atomB g l wd = Y := ⟨_, rfl⟩
  rw [hY]
  have HY := Lib.hid hY
  have HE := Lib.hid hE; have HT := Lib.hid hT
  have HR : Hid (R < w.heap.size) := Lib.hid h.lt
  clear hY hE hT
  have HG := Lib.hid hg
  have HRD := Lib.hid (h.below ((Below.refl _ _).alloc (Nat.le_refl _) (.cells #[.string ⟨#[46]⟩, .func (.func 159) #[.pointer (some ⟨R, 0, none⟩)] #[], .string ⟨#[40]⟩, .func (.func 160) #[.pointer (some ⟨R, 0, none⟩)] #[], .string ⟨#[91]⟩, .func (.func 161) #[.pointer (some ⟨R, 0, none⟩)] #[], .string ⟨#[92]⟩, .func (.func 162) #[.pointer (some ⟨R, 0, none⟩)] #[]] 231)))
  have HO := Lib.hid (Only.alloc (Only.refl R w) (.cells #[.string ⟨#[46]⟩, .func (.func 159) #[.pointer (some ⟨R, 0, none⟩)] #[], .string ⟨#[40]⟩, .func (.func 160) #[.pointer (some ⟨R, 0, none⟩)] #[], .string ⟨#[91]⟩, .func (.func 161) #[.pointer (some ⟨R, 0, none⟩)] #[], .string ⟨#[92]⟩, .func (.func 162) #[.pointer (some ⟨R, 0, none⟩)] #[]] 231))
  clear h hg
  go_enter Tryz.func114, Tryz.ntmps114
  go_wp2
  go_loopw [21] (fun iv wr => ∃ k : Nat, iv = .int .i64 k ∧ k ≤ 4 ∧ Hid (Miss4 l k) ∧ Hid (RdS wr R l wd) ∧ Hid (Only R w wr)) (fun iv _ => 4 - (intOf iv).toNat)
  case atStart => exact ⟨0, rfl, by omega, Lib.hid ⟨by omega, by omega, by omega, by omega⟩, HRD, HO⟩
  case round =>
    clear HRD HO
    obtain ⟨k, rfl, hk, HK, HRD, HO⟩ := hrel
    rcases (show k = 0 ∨ k = 1 ∨ k = 2 ∨ k = 3 ∨ k = 4 by omega) with rfl | rfl | rfl | rfl | rfl
    · have ix : ∀ W : World, (Instr.index 231 (.agg #[.string ⟨#[46]⟩, .func (.func 159) #[.pointer (some ⟨R, 0, none⟩)] #[], .string ⟨#[40]⟩, .func (.func 160) #[.pointer (some ⟨R, 0, none⟩)] #[], .string ⟨#[91]⟩, .func (.func 161) #[.pointer (some ⟨R, 0, none⟩)] #[], .string ⟨#[92]⟩, .func (.func 162) #[.pointer (some ⟨R, 0, none⟩)] #[]]) (.int .i64 0)).run Tryz.prog W = .ok (.agg #[.string ⟨#[46]⟩, .func (.func 159) #[.pointer (some ⟨R, 0, none⟩)] #[]]) W := fun _ => by kernel_rfl
      have HI := Lib.hid (rd_is R l wd 46 _ (HRD.out.below ((Below.refl _ _).alloc (Nat.le_refl _) (.cells #[.string ⟨#[46]⟩, .func (.func 159) #[.pointer (some ⟨R, 0, none⟩)] #[]] 230))))
      have HO1 := Lib.hid (HO.out.alloc (.cells #[.string ⟨#[46]⟩, .func (.func 159) #[.pointer (some ⟨R, 0, none⟩)] #[]] 230))
      have hsz := HRD.out.lt
      cases hi : isB 46 l with
      | some r0 =>
        rw [hi] at HI
        have HIB := Lib.hid (isB_some hi)
        clear hi
        obtain ⟨Ym, hYm⟩ : ∃ Ym, (some ([setX [⟨0, 1114111⟩]], r0, wd)) = Ym := ⟨_, rfl⟩
        have HYE : Hid (Y = Ym) := Lib.hid ((show Y = (some ([setX [⟨0, 1114111⟩]], r0, wd)) from by rw [← HY.out]; unfold atomB; rw [HIB.out, isB_hit]).trans hYm)
        obtain rfl := HYE.out
        have HYM := Lib.hid hYm
        clear hYm HYE
        go_wp2_with fail
        refine HI.out.mono ?_
        rintro e w1 ⟨rfl, h2, h3⟩
        have H2 := Lib.hid h2; have H3 := Lib.hid (HO1.out.step h3)
        have HKB := Lib.hid (h3.blk (Blk.new wr 230 #[.string ⟨#[46]⟩, .func (.func 159) #[.pointer (some ⟨R, 0, none⟩)] #[]]) (by omega))
        have hlt1 := HKB.out.lt
        have HTV1 := Lib.hid (HT.out.only H3.out hB HR.out)
        clear h2 h3
        simp only [Option.getD_some] at H2
        have HM : Hid (Calls Tryz.prog 159 #[.pointer (some ⟨R, 0, none⟩)] w1 (RdO R w1 Y)) := Lib.hid (by
          rw [← HYM.out]
          exact rd_pointP R r0 wd w1 H2.out)
        have k0 : w1.cell? ⟨wr.heap.size, 1, none⟩ = some (.func (.func 159) #[.pointer (some ⟨R, 0, none⟩)] #[]) := HKB.out.cell 1
        clear HY HYM
        cases Y with
        | none =>
          go_wp2_with fail
          refine HM.out.mono ?_
          rintro e w3 ⟨he, k3⟩
          subst he
          have K3 := Lib.hid (H3.out.step k3)
          clear k3
          go_wp2
          exact ⟨rfl, show Stopped _ ∧ Only R w _ from ⟨rfl, K3.out⟩⟩
        | some p =>
          obtain ⟨t, r, w2⟩ := p
          go_wp2_with fail
          refine HM.out.mono ?_
          intro e w3 hP
          obtain ⟨A, n, c, rfl, k1, k2, k3⟩ := RdP.from hP H3.out
          have K1 := Lib.hid k1; have K2 := Lib.hid k2; have K3 := Lib.hid k3
          clear k1 k2 k3
          go_wp2
          go_ret
          exact ⟨A, n, c, rfl, K1.out, K2.out, K3.out⟩
      | none =>
        rw [hi] at HI
        have HN := Lib.hid hi
        clear hi
        go_wp2_with fail
        refine HI.out.mono ?_
        rintro e w1 ⟨rfl, h2, h3⟩
        have H2 := Lib.hid h2; have H3 := Lib.hid (HO1.out.step h3)
        clear h2 h3
        simp only [Option.getD_none] at H2
        go_wp2
        go_roundw
        case rel => exact ⟨1, rfl, by omega, Lib.hid ⟨fun _ => HN.out, by omega, by omega, by omega⟩, H2, H3⟩
        case measure => simp [intOf]
    · have ix : ∀ W : World, (Instr.index 231 (.agg #[.string ⟨#[46]⟩, .func (.func 159) #[.pointer (some ⟨R, 0, none⟩)] #[], .string ⟨#[40]⟩, .func (.func 160) #[.pointer (some ⟨R, 0, none⟩)] #[], .string ⟨#[91]⟩, .func (.func 161) #[.pointer (some ⟨R, 0, none⟩)] #[], .string ⟨#[92]⟩, .func (.func 162) #[.pointer (some ⟨R, 0, none⟩)] #[]]) (.int .i64 1)).run Tryz.prog W = .ok (.agg #[.string ⟨#[40]⟩, .func (.func 160) #[.pointer (some ⟨R, 0, none⟩)] #[]]) W := fun _ => by kernel_rfl
      have HI := Lib.hid (rd_is R l wd 40 _ (HRD.out.below ((Below.refl _ _).alloc (Nat.le_refl _) (.cells #[.string ⟨#[40]⟩, .func (.func 160) #[.pointer (some ⟨R, 0, none⟩)] #[]] 230))))
      have HO1 := Lib.hid (HO.out.alloc (.cells #[.string ⟨#[40]⟩, .func (.func 160) #[.pointer (some ⟨R, 0, none⟩)] #[]] 230))
      have hsz := HRD.out.lt
      cases hi : isB 40 l with
      | some r0 =>
        rw [hi] at HI
        have HIB := Lib.hid (isB_some hi)
        clear hi
        obtain ⟨Ym, hYm⟩ : ∃ Ym, (grpX (g r0 wd)) = Ym := ⟨_, rfl⟩
        have HYE : Hid (Y = Ym) := Lib.hid ((show Y = (grpX (g r0 wd)) from by rw [← HY.out, HIB.out]; exact atom_grp g r0 wd).trans hYm)
        obtain rfl := HYE.out
        have HYM := Lib.hid hYm
        clear hYm HYE
        go_wp2_with fail
        refine HI.out.mono ?_
        rintro e w1 ⟨rfl, h2, h3⟩
        have H2 := Lib.hid h2; have H3 := Lib.hid (HO1.out.step h3)
        have HKB := Lib.hid (h3.blk (Blk.new wr 230 #[.string ⟨#[40]⟩, .func (.func 160) #[.pointer (some ⟨R, 0, none⟩)] #[]]) (by omega))
        have hlt1 := HKB.out.lt
        have HTV1 := Lib.hid (HT.out.only H3.out hB HR.out)
        clear h2 h3
        simp only [Option.getD_some] at H2
        have HM : Hid (Calls Tryz.prog 160 #[.pointer (some ⟨R, 0, none⟩)] w1 (RdO R w1 Y)) := Lib.hid (by
          rw [← HYM.out]
          exact rd_groupO (HG.out r0 w1 HIB.out H2.out HTV1.out))
        have k0 : w1.cell? ⟨wr.heap.size, 1, none⟩ = some (.func (.func 160) #[.pointer (some ⟨R, 0, none⟩)] #[]) := HKB.out.cell 1
        clear HY HYM
        cases Y with
        | none =>
          go_wp2_with fail
          refine HM.out.mono ?_
          rintro e w3 ⟨he, k3⟩
          subst he
          have K3 := Lib.hid (H3.out.step k3)
          clear k3
          go_wp2
          exact ⟨rfl, show Stopped _ ∧ Only R w _ from ⟨rfl, K3.out⟩⟩
        | some p =>
          obtain ⟨t, r, w2⟩ := p
          go_wp2_with fail
          refine HM.out.mono ?_
          intro e w3 hP
          obtain ⟨A, n, c, rfl, k1, k2, k3⟩ := RdP.from hP H3.out
          have K1 := Lib.hid k1; have K2 := Lib.hid k2; have K3 := Lib.hid k3
          clear k1 k2 k3
          go_wp2
          go_ret
          exact ⟨A, n, c, rfl, K1.out, K2.out, K3.out⟩
      | none =>
        rw [hi] at HI
        have HN := Lib.hid hi
        clear hi
        go_wp2_with fail
        refine HI.out.mono ?_
        rintro e w1 ⟨rfl, h2, h3⟩
        have H2 := Lib.hid h2; have H3 := Lib.hid (HO1.out.step h3)
        clear h2 h3
        simp only [Option.getD_none] at H2
        go_wp2
        go_roundw
        case rel => exact ⟨2, rfl, by omega, Lib.hid ⟨fun _ => HK.out.1 (by omega), fun _ => HN.out, by omega, by omega⟩, H2, H3⟩
        case measure => simp [intOf]
    · have ix : ∀ W : World, (Instr.index 231 (.agg #[.string ⟨#[46]⟩, .func (.func 159) #[.pointer (some ⟨R, 0, none⟩)] #[], .string ⟨#[40]⟩, .func (.func 160) #[.pointer (some ⟨R, 0, none⟩)] #[], .string ⟨#[91]⟩, .func (.func 161) #[.pointer (some ⟨R, 0, none⟩)] #[], .string ⟨#[92]⟩, .func (.func 162) #[.pointer (some ⟨R, 0, none⟩)] #[]]) (.int .i64 2)).run Tryz.prog W = .ok (.agg #[.string ⟨#[91]⟩, .func (.func 161) #[.pointer (some ⟨R, 0, none⟩)] #[]]) W := fun _ => by kernel_rfl
      have HI := Lib.hid (rd_is R l wd 91 _ (HRD.out.below ((Below.refl _ _).alloc (Nat.le_refl _) (.cells #[.string ⟨#[91]⟩, .func (.func 161) #[.pointer (some ⟨R, 0, none⟩)] #[]] 230))))
      have HO1 := Lib.hid (HO.out.alloc (.cells #[.string ⟨#[91]⟩, .func (.func 161) #[.pointer (some ⟨R, 0, none⟩)] #[]] 230))
      have hsz := HRD.out.lt
      cases hi : isB 91 l with
      | some r0 =>
        rw [hi] at HI
        have HIB := Lib.hid (isB_some hi)
        clear hi
        obtain ⟨Ym, hYm⟩ : ∃ Ym, (classB r0 wd) = Ym := ⟨_, rfl⟩
        have HYE : Hid (Y = Ym) := Lib.hid ((show Y = (classB r0 wd) from by rw [← HY.out]; unfold atomB; rw [HIB.out, isB_miss (c := 46) _ (by decide), isB_miss (c := 40) _ (by decide), isB_hit]).trans hYm)
        obtain rfl := HYE.out
        have HYM := Lib.hid hYm
        clear hYm HYE
        go_wp2_with fail
        refine HI.out.mono ?_
        rintro e w1 ⟨rfl, h2, h3⟩
        have H2 := Lib.hid h2; have H3 := Lib.hid (HO1.out.step h3)
        have HKB := Lib.hid (h3.blk (Blk.new wr 230 #[.string ⟨#[91]⟩, .func (.func 161) #[.pointer (some ⟨R, 0, none⟩)] #[]]) (by omega))
        have hlt1 := HKB.out.lt
        have HTV1 := Lib.hid (HT.out.only H3.out hB HR.out)
        clear h2 h3
        simp only [Option.getD_some] at H2
        have HM : Hid (Calls Tryz.prog 161 #[.pointer (some ⟨R, 0, none⟩)] w1 (RdO R w1 Y)) := Lib.hid (by
          rw [← HYM.out]
          exact rd_classO HE.out H2.out (by rw [HIB.out] at hl; simp at hl; omega) HTV1.out hB)
        have k0 : w1.cell? ⟨wr.heap.size, 1, none⟩ = some (.func (.func 161) #[.pointer (some ⟨R, 0, none⟩)] #[]) := HKB.out.cell 1
        clear HY HYM
        cases Y with
        | none =>
          go_wp2_with fail
          refine HM.out.mono ?_
          rintro e w3 ⟨he, k3⟩
          subst he
          have K3 := Lib.hid (H3.out.step k3)
          clear k3
          go_wp2
          exact ⟨rfl, show Stopped _ ∧ Only R w _ from ⟨rfl, K3.out⟩⟩
        | some p =>
          obtain ⟨t, r, w2⟩ := p
          go_wp2_with fail
          refine HM.out.mono ?_
          intro e w3 hP
          obtain ⟨A, n, c, rfl, k1, k2, k3⟩ := RdP.from hP H3.out
          have K1 := Lib.hid k1; have K2 := Lib.hid k2; have K3 := Lib.hid k3
          clear k1 k2 k3
          go_wp2
          go_ret
          exact ⟨A, n, c, rfl, K1.out, K2.out, K3.out⟩
      | none =>
        rw [hi] at HI
        have HN := Lib.hid hi
        clear hi
        go_wp2_with fail
        refine HI.out.mono ?_
        rintro e w1 ⟨rfl, h2, h3⟩
        have H2 := Lib.hid h2; have H3 := Lib.hid (HO1.out.step h3)
        clear h2 h3
        simp only [Option.getD_none] at H2
        go_wp2
        go_roundw
        case rel => exact ⟨3, rfl, by omega, Lib.hid ⟨fun _ => HK.out.1 (by omega), fun _ => HK.out.2.1 (by omega), fun _ => HN.out, by omega⟩, H2, H3⟩
        case measure => simp [intOf]
    · have ix : ∀ W : World, (Instr.index 231 (.agg #[.string ⟨#[46]⟩, .func (.func 159) #[.pointer (some ⟨R, 0, none⟩)] #[], .string ⟨#[40]⟩, .func (.func 160) #[.pointer (some ⟨R, 0, none⟩)] #[], .string ⟨#[91]⟩, .func (.func 161) #[.pointer (some ⟨R, 0, none⟩)] #[], .string ⟨#[92]⟩, .func (.func 162) #[.pointer (some ⟨R, 0, none⟩)] #[]]) (.int .i64 3)).run Tryz.prog W = .ok (.agg #[.string ⟨#[92]⟩, .func (.func 162) #[.pointer (some ⟨R, 0, none⟩)] #[]]) W := fun _ => by kernel_rfl
      have HI := Lib.hid (rd_is R l wd 92 _ (HRD.out.below ((Below.refl _ _).alloc (Nat.le_refl _) (.cells #[.string ⟨#[92]⟩, .func (.func 162) #[.pointer (some ⟨R, 0, none⟩)] #[]] 230))))
      have HO1 := Lib.hid (HO.out.alloc (.cells #[.string ⟨#[92]⟩, .func (.func 162) #[.pointer (some ⟨R, 0, none⟩)] #[]] 230))
      have hsz := HRD.out.lt
      cases hi : isB 92 l with
      | some r0 =>
        rw [hi] at HI
        have HIB := Lib.hid (isB_some hi)
        clear hi
        obtain ⟨Ym, hYm⟩ : ∃ Ym, ((escB r0).map fun p => ([setX p.1], p.2.2, wd)) = Ym := ⟨_, rfl⟩
        have HYE : Hid (Y = Ym) := Lib.hid ((show Y = ((escB r0).map fun p => ([setX p.1], p.2.2, wd)) from by rw [← HY.out]; unfold atomB; rw [HIB.out, isB_miss (c := 46) _ (by decide), isB_miss (c := 40) _ (by decide), isB_miss (c := 91) _ (by decide), isB_hit]).trans hYm)
        obtain rfl := HYE.out
        have HYM := Lib.hid hYm
        clear hYm HYE
        go_wp2_with fail
        refine HI.out.mono ?_
        rintro e w1 ⟨rfl, h2, h3⟩
        have H2 := Lib.hid h2; have H3 := Lib.hid (HO1.out.step h3)
        have HKB := Lib.hid (h3.blk (Blk.new wr 230 #[.string ⟨#[92]⟩, .func (.func 162) #[.pointer (some ⟨R, 0, none⟩)] #[]]) (by omega))
        have hlt1 := HKB.out.lt
        have HTV1 := Lib.hid (HT.out.only H3.out hB HR.out)
        clear h2 h3
        simp only [Option.getD_some] at H2
        have HM : Hid (Calls Tryz.prog 162 #[.pointer (some ⟨R, 0, none⟩)] w1 (RdO R w1 Y)) := Lib.hid (by
          rw [← HYM.out]
          exact rd_quotedO HE.out H2.out (by rw [HIB.out] at hl; simp at hl; omega) HTV1.out)
        have k0 : w1.cell? ⟨wr.heap.size, 1, none⟩ = some (.func (.func 162) #[.pointer (some ⟨R, 0, none⟩)] #[]) := HKB.out.cell 1
        clear HY HYM
        cases Y with
        | none =>
          go_wp2_with fail
          refine HM.out.mono ?_
          rintro e w3 ⟨he, k3⟩
          subst he
          have K3 := Lib.hid (H3.out.step k3)
          clear k3
          go_wp2
          exact ⟨rfl, show Stopped _ ∧ Only R w _ from ⟨rfl, K3.out⟩⟩
        | some p =>
          obtain ⟨t, r, w2⟩ := p
          go_wp2_with fail
          refine HM.out.mono ?_
          intro e w3 hP
          obtain ⟨A, n, c, rfl, k1, k2, k3⟩ := RdP.from hP H3.out
          have K1 := Lib.hid k1; have K2 := Lib.hid k2; have K3 := Lib.hid k3
          clear k1 k2 k3
          go_wp2
          go_ret
          exact ⟨A, n, c, rfl, K1.out, K2.out, K3.out⟩
      | none =>
        rw [hi] at HI
        have HN := Lib.hid hi
        clear hi
        go_wp2_with fail
        refine HI.out.mono ?_
        rintro e w1 ⟨rfl, h2, h3⟩
        have H2 := Lib.hid h2; have H3 := Lib.hid (HO1.out.step h3)
        clear h2 h3
        simp only [Option.getD_none] at H2
        go_wp2
        go_roundw
        case rel => exact ⟨4, rfl, by omega, Lib.hid ⟨fun _ => HK.out.1 (by omega), fun _ => HK.out.2.1 (by omega), fun _ => HK.out.2.2.1 (by omega), fun _ => HN.out⟩, H2, H3⟩
        case measure => simp [intOf]
    · have n1 := HK.out.1 (by omega)
      have n2 := HK.out.2.1 (by omega)
      have n3 := HK.out.2.2.1 (by omega)
      have n4 := HK.out.2.2.2 (by omega)
      have HYV : Hid (Y = (takeB noneA l).map fun p => ([setX (one1 p.1)], p.2, wd)) := Lib.hid (by rw [← HY.out]; unfold atomB; rw [n1, n2, n3, n4])
      have HTVr := Lib.hid (HT.out.only HO.out hB HR.out)
      clear n1 n2 n3 n4
      cases ht : takeB noneA l with
      | none =>
        have HYE : Hid (Y = none) := Lib.hid (by rw [HYV.out, ht]; rfl)
        obtain rfl := HYE.out
        have HTK := Lib.hid (rd_takeN R B l wd ⟨#[41, 93, 42, 43, 63, 123, 125, 124]⟩ wr HRD.out ht (by omega) HTVr.out)
        clear ht HY HYV HYE
        go_wp2_with fail
        refine HTK.out.mono ?_
        rintro e w3 ⟨he, k3⟩
        subst he
        have K3 := Lib.hid (HO.out.step k3)
        clear k3
        go_wp2
        exact ⟨rfl, show Stopped _ ∧ Only R w _ from ⟨rfl, K3.out⟩⟩
      | some p =>
        obtain ⟨m, r⟩ := p
        have HYE : Hid (Y = some ([setX (one1 m)], r, wd)) := Lib.hid (by rw [HYV.out, ht]; rfl)
        obtain rfl := HYE.out
        have hm := (takeB_len ht).2
        have HTK := Lib.hid (rd_takeG R B l r m wd ⟨#[41, 93, 42, 43, 63, 123, 125, 124]⟩ wr HRD.out ht (by omega) HTVr.out)
        have HSP := Lib.hid (fun W => rd_span m m W (by omega) (by omega))
        clear ht HY HYV HYE hm
        go_wp2_with fail
        refine HTK.out.mono ?_
        rintro e w1 ⟨rfl, h2, h3⟩
        have H2 := Lib.hid h2; have H3 := Lib.hid (HO.out.step h3)
        clear h2 h3
        go_wp2_with fail
        refine (HSP.out _).mono ?_
        rintro e w3 ⟨rfl, hset, hbl⟩
        have HX := Lib.hid hset; have HB := Lib.hid hbl
        clear hset hbl
        go_wp2
        go_ret
        have hz := HB.out.size
        have hz2 := H2.out.lt
        exact ⟨_, _, _, rfl, own_self rfl (by omega) (OwnK.lower HX.out (by omega)), (H2.out.below HB.out).below ((Below.refl _ _).alloc (Nat.le_refl _) _), (H3.out.then HB.out).alloc _⟩
end Go.Proofs.YtilhicefhhgecaaGreatDoor

namespace Go.Proofs.YtilhicefhhgecaaGreatDoor
open Go.RowKit Pv
set_option maxHeartbeats 4000000 in
set_option maxRecDepth 100000 in
theorem rd_piece_n1 {R B : Nat} {r : Bs} {wf : Bool} {t : List Rx} {w : World} (ha : Calls Tryz.prog 114 #[.pointer (some ⟨R, 0, none⟩)] w (RdP R w t (123 :: r) wf)) (hR : R < w.heap.size) (_hn : t.length ≤ 100000) (hT : TabV B w) (hB : B ≤ R) (hc : countB r = none) (hl : r.length ≤ 20000) :
    Calls Tryz.prog 75 #[.pointer (some ⟨R, 0, none⟩)] w fun e w' => Stopped e ∧ Only R w w' := by
  have HA := Lib.hid ha; have HTV := Lib.hid hT
  have HNO := Lib.hid (fun W => rd_no W)
  have HC := Lib.hid hc
  clear hc
  obtain ⟨k, hk⟩ : ∃ k, t.length = k := ⟨_, rfl⟩
  have HN := Lib.hid hk
  clear ha hk hT
  go_enter Tryz.func75, Tryz.ntmps75
  go_wp2_with fail
  refine HA.out.mono ?_
  rintro e w0 hP
  obtain ⟨A, c, rfl, P0, P1⟩ := pieceIn hP hR HN
  clear hP
  have HI2 := Lib.hid (rd_is R _ _ 42 _ P1.out.rd)
  rw [isB_miss _ (by decide)] at HI2
  go_wp2_with fail
  refine HI2.out.mono ?_
  rintro e w2 ⟨rfl, h2, h3⟩
  simp only [Option.getD_none] at h2
  have P2 := Lib.hid (P1.out.only h3 h2)
  clear h2 h3 HI2 P1
  have HI3 := Lib.hid (rd_is R _ _ 43 _ P2.out.rd)
  rw [isB_miss _ (by decide)] at HI3
  go_wp2_with fail
  refine HI3.out.mono ?_
  rintro e w3 ⟨rfl, h2, h3⟩
  simp only [Option.getD_none] at h2
  have P3 := Lib.hid (P2.out.only h3 h2)
  clear h2 h3 HI3 P2
  have HI4 := Lib.hid (rd_is R _ _ 63 _ P3.out.rd)
  rw [isB_miss _ (by decide)] at HI4
  go_wp2_with fail
  refine HI4.out.mono ?_
  rintro e w4 ⟨rfl, h2, h3⟩
  simp only [Option.getD_none] at h2
  have P4 := Lib.hid (P3.out.only h3 h2)
  clear h2 h3 HI4 P3
  have HI5 := Lib.hid (rd_is R _ _ 123 _ P4.out.rd)
  rw [isB_hit] at HI5
  go_wp2_with fail
  refine HI5.out.mono ?_
  rintro e w5 ⟨rfl, h2, h3⟩
  simp only [Option.getD_some] at h2
  have P5 := Lib.hid (P4.out.only h3 h2)
  clear h2 h3 HI5 P4
  have HIN := Lib.hid (rd_countN R B _ _ _ P5.out.rd HC.out (by omega) (HTV.out.only P5.out.on hB hR))
  go_wp2_with fail
  refine HIN.out.mono ?_
  rintro e w' ⟨he, kk⟩
  subst he
  have K := Lib.hid (P5.out.on.step kk)
  clear kk
  go_wp2
  exact ⟨rfl, rfl, K.out⟩

set_option maxHeartbeats 4000000 in
set_option maxRecDepth 100000 in
theorem rd_piece_n2 {R B : Nat} {r r2 : Bs} {a : Nat} {wf : Bool} {t : List Rx} {w : World} (ha : Calls Tryz.prog 114 #[.pointer (some ⟨R, 0, none⟩)] w (RdP R w t (123 :: r) wf)) (hR : R < w.heap.size) (_hn : t.length ≤ 100000) (hT : TabV B w) (_hB : B ≤ R) (hc : countB r = some (a, r2)) (e44 : isB 44 r2 = none) (e125 : isB 125 r2 = none) (hl : r.length ≤ 20000) :
    Calls Tryz.prog 75 #[.pointer (some ⟨R, 0, none⟩)] w fun e w' => Stopped e ∧ Only R w w' := by
  have HA := Lib.hid ha; have HTV := Lib.hid hT
  have HNO := Lib.hid (fun W => rd_no W)
  have HC := Lib.hid hc
  have ha16 := (countB_some hc).2.2.1
  clear hc
  have E44 := Lib.hid e44; have E125 := Lib.hid e125
  clear e44 e125
  obtain ⟨k, hk⟩ : ∃ k, t.length = k := ⟨_, rfl⟩
  have HN := Lib.hid hk
  clear ha hk hT
  go_enter Tryz.func75, Tryz.ntmps75
  go_wp2_with fail
  refine HA.out.mono ?_
  rintro e w0 hP
  obtain ⟨A, c, rfl, P0, P1⟩ := pieceIn hP hR HN
  clear hP
  have HI2 := Lib.hid (rd_is R _ _ 42 _ P1.out.rd)
  rw [isB_miss _ (by decide)] at HI2
  go_wp2_with fail
  refine HI2.out.mono ?_
  rintro e w2 ⟨rfl, h2, h3⟩
  simp only [Option.getD_none] at h2
  have P2 := Lib.hid (P1.out.only h3 h2)
  clear h2 h3 HI2 P1
  have HI3 := Lib.hid (rd_is R _ _ 43 _ P2.out.rd)
  rw [isB_miss _ (by decide)] at HI3
  go_wp2_with fail
  refine HI3.out.mono ?_
  rintro e w3 ⟨rfl, h2, h3⟩
  simp only [Option.getD_none] at h2
  have P3 := Lib.hid (P2.out.only h3 h2)
  clear h2 h3 HI3 P2
  have HI4 := Lib.hid (rd_is R _ _ 63 _ P3.out.rd)
  rw [isB_miss _ (by decide)] at HI4
  go_wp2_with fail
  refine HI4.out.mono ?_
  rintro e w4 ⟨rfl, h2, h3⟩
  simp only [Option.getD_none] at h2
  have P4 := Lib.hid (P3.out.only h3 h2)
  clear h2 h3 HI4 P3
  have HI5 := Lib.hid (rd_is R _ _ 123 _ P4.out.rd)
  rw [isB_hit] at HI5
  go_wp2_with fail
  refine HI5.out.mono ?_
  rintro e w5 ⟨rfl, h2, h3⟩
  simp only [Option.getD_some] at h2
  have P5 := Lib.hid (P4.out.only h3 h2)
  clear h2 h3 HI5 P4
  have HI6 := Lib.hid (rd_count R _ _ a _ _ P5.out.rd HC.out (by omega))
  go_wp2_with fail
  refine HI6.out.mono ?_
  rintro e w6 ⟨rfl, h2, h3⟩
  have P6 := Lib.hid (P5.out.only h3 h2)
  clear h2 h3 HI6 P5
  obtain ⟨p0, p1, p2, p3, p4, f3, f4, hx⟩ := P6.out.cells
  have Q1 := Lib.hid (P6.out.least (a))
  clear P6
  have Q2 := Lib.hid (Q1.out.most (a))
  clear Q1
  have HI7 := Lib.hid (rd_is R _ _ 44 _ Q2.out.rd)
  rw [E44.out] at HI7
  go_wp2_with fail
  refine HI7.out.mono ?_
  rintro e w7 ⟨rfl, h2, h3⟩
  simp only [Option.getD_none] at h2
  have P7 := Lib.hid (Q2.out.only h3 h2)
  clear h2 h3 HI7 Q2
  clear p0 p1 p2 p3 p4 f3 f4 hx
  have HIN := Lib.hid (rd_mustN R _ _ 125 _ P7.out.rd E125.out)
  go_wp2_with fail
  refine HIN.out.mono ?_
  rintro e w' ⟨he, kk⟩
  subst he
  have K := Lib.hid (P7.out.on.step kk)
  clear kk
  go_wp2
  exact ⟨rfl, rfl, K.out⟩

set_option maxHeartbeats 4000000 in
set_option maxRecDepth 100000 in
theorem rd_piece_n3 {R B : Nat} {r r3 : Bs} {a : Nat} {wf : Bool} {t : List Rx} {w : World} (ha : Calls Tryz.prog 114 #[.pointer (some ⟨R, 0, none⟩)] w (RdP R w t (123 :: r) wf)) (hR : R < w.heap.size) (_hn : t.length ≤ 100000) (hT : TabV B w) (hB : B ≤ R) (hc : countB r = some (a, 44 :: r3)) (e7 : isB 125 r3 = none) (hc2 : countB r3 = none) (hl : r.length ≤ 20000) :
    Calls Tryz.prog 75 #[.pointer (some ⟨R, 0, none⟩)] w fun e w' => Stopped e ∧ Only R w w' := by
  have HA := Lib.hid ha; have HTV := Lib.hid hT
  have HNO := Lib.hid (fun W => rd_no W)
  have HC := Lib.hid hc
  have ha16 := (countB_some hc).2.2.1
  clear hc
  have HC2 := Lib.hid hc2; have E7 := Lib.hid e7
  have hl3 : r3.length ≤ 20000 := by have := (countB_sfx HC.out).length_le; simp only [List.length_cons] at this; omega
  clear hc2 e7
  obtain ⟨k, hk⟩ : ∃ k, t.length = k := ⟨_, rfl⟩
  have HN := Lib.hid hk
  clear ha hk hT
  go_enter Tryz.func75, Tryz.ntmps75
  go_wp2_with fail
  refine HA.out.mono ?_
  rintro e w0 hP
  obtain ⟨A, c, rfl, P0, P1⟩ := pieceIn hP hR HN
  clear hP
  have HI2 := Lib.hid (rd_is R _ _ 42 _ P1.out.rd)
  rw [isB_miss _ (by decide)] at HI2
  go_wp2_with fail
  refine HI2.out.mono ?_
  rintro e w2 ⟨rfl, h2, h3⟩
  simp only [Option.getD_none] at h2
  have P2 := Lib.hid (P1.out.only h3 h2)
  clear h2 h3 HI2 P1
  have HI3 := Lib.hid (rd_is R _ _ 43 _ P2.out.rd)
  rw [isB_miss _ (by decide)] at HI3
  go_wp2_with fail
  refine HI3.out.mono ?_
  rintro e w3 ⟨rfl, h2, h3⟩
  simp only [Option.getD_none] at h2
  have P3 := Lib.hid (P2.out.only h3 h2)
  clear h2 h3 HI3 P2
  have HI4 := Lib.hid (rd_is R _ _ 63 _ P3.out.rd)
  rw [isB_miss _ (by decide)] at HI4
  go_wp2_with fail
  refine HI4.out.mono ?_
  rintro e w4 ⟨rfl, h2, h3⟩
  simp only [Option.getD_none] at h2
  have P4 := Lib.hid (P3.out.only h3 h2)
  clear h2 h3 HI4 P3
  have HI5 := Lib.hid (rd_is R _ _ 123 _ P4.out.rd)
  rw [isB_hit] at HI5
  go_wp2_with fail
  refine HI5.out.mono ?_
  rintro e w5 ⟨rfl, h2, h3⟩
  simp only [Option.getD_some] at h2
  have P5 := Lib.hid (P4.out.only h3 h2)
  clear h2 h3 HI5 P4
  have HI6 := Lib.hid (rd_count R _ _ a _ _ P5.out.rd HC.out (by omega))
  go_wp2_with fail
  refine HI6.out.mono ?_
  rintro e w6 ⟨rfl, h2, h3⟩
  have P6 := Lib.hid (P5.out.only h3 h2)
  clear h2 h3 HI6 P5
  obtain ⟨p0, p1, p2, p3, p4, f3, f4, hx⟩ := P6.out.cells
  have Q1 := Lib.hid (P6.out.least (a))
  clear P6
  have Q2 := Lib.hid (Q1.out.most (a))
  clear Q1
  have HI7 := Lib.hid (rd_is R _ _ 44 _ Q2.out.rd)
  rw [isB_hit] at HI7
  go_wp2_with fail
  refine HI7.out.mono ?_
  rintro e w7 ⟨rfl, h2, h3⟩
  simp only [Option.getD_some] at h2
  have P7 := Lib.hid (Q2.out.only h3 h2)
  clear h2 h3 HI7 Q2
  clear p0 p1 p2 p3 p4 f3 f4 hx
  obtain ⟨p0, p1, p2, p3, p4, f3, f4, hx⟩ := P7.out.cells
  have Q3 := Lib.hid (P7.out.most (-1))
  clear P7
  obtain ⟨s1, hs1, hR1, r1⟩ := Q3.out.rcells
  have HI := Lib.hid (Tryz.strings_HasPrefix s1 ⟨#[125]⟩ (w7.setCell ⟨w0.heap.size, 4, none⟩ (.int .i64 (-1))))
  rw [show Lib.hasPrefix s1.data.toList #[125].toList = false from (pre1 125 (bsl s1)).trans (by rw [hs1.out, E7.out]; rfl)] at HI
  go_wp2_with fail
  refine HI.out.mono ?_
  rintro e w' ⟨rfl, hw⟩
  have hw2 := hw.symm
  subst hw2
  clear hw HI hs1
  have HIN := Lib.hid (rd_countN R B _ _ _ Q3.out.rd HC2.out (by omega) (HTV.out.only Q3.out.on hB hR))
  go_wp2_with fail
  refine HIN.out.mono ?_
  rintro e w' ⟨he, kk⟩
  subst he
  have K := Lib.hid (Q3.out.on.step kk)
  clear kk
  go_wp2
  exact ⟨rfl, rfl, K.out⟩

set_option maxHeartbeats 4000000 in
set_option maxRecDepth 100000 in
theorem rd_piece_n4 {R B : Nat} {r r3 r4 : Bs} {a b : Nat} {wf : Bool} {t : List Rx} {w : World} (ha : Calls Tryz.prog 114 #[.pointer (some ⟨R, 0, none⟩)] w (RdP R w t (123 :: r) wf)) (hR : R < w.heap.size) (_hn : t.length ≤ 100000) (hT : TabV B w) (_hB : B ≤ R) (hc : countB r = some (a, 44 :: r3)) (e7 : isB 125 r3 = none) (hc2 : countB r3 = some (b, r4)) (hab : b < a) (hl : r.length ≤ 20000) :
    Calls Tryz.prog 75 #[.pointer (some ⟨R, 0, none⟩)] w fun e w' => Stopped e ∧ Only R w w' := by
  have HA := Lib.hid ha; have HTV := Lib.hid hT
  have HNO := Lib.hid (fun W => rd_no W)
  have HC := Lib.hid hc
  have ha16 := (countB_some hc).2.2.1
  clear hc
  have HC2 := Lib.hid hc2; have E7 := Lib.hid e7
  have hl3 : r3.length ≤ 20000 := by have := (countB_sfx HC.out).length_le; simp only [List.length_cons] at this; omega
  have hb16 := (countB_some hc2).2.2.1
  have hab2 : decide (b < a) = true := decide_eq_true hab
  have hab3 : (b : Int) < (a : Int) := by omega
  clear hc2 e7
  obtain ⟨k, hk⟩ : ∃ k, t.length = k := ⟨_, rfl⟩
  have HN := Lib.hid hk
  clear ha hk hT
  go_enter Tryz.func75, Tryz.ntmps75
  go_wp2_with fail
  refine HA.out.mono ?_
  rintro e w0 hP
  obtain ⟨A, c, rfl, P0, P1⟩ := pieceIn hP hR HN
  clear hP
  have HI2 := Lib.hid (rd_is R _ _ 42 _ P1.out.rd)
  rw [isB_miss _ (by decide)] at HI2
  go_wp2_with fail
  refine HI2.out.mono ?_
  rintro e w2 ⟨rfl, h2, h3⟩
  simp only [Option.getD_none] at h2
  have P2 := Lib.hid (P1.out.only h3 h2)
  clear h2 h3 HI2 P1
  have HI3 := Lib.hid (rd_is R _ _ 43 _ P2.out.rd)
  rw [isB_miss _ (by decide)] at HI3
  go_wp2_with fail
  refine HI3.out.mono ?_
  rintro e w3 ⟨rfl, h2, h3⟩
  simp only [Option.getD_none] at h2
  have P3 := Lib.hid (P2.out.only h3 h2)
  clear h2 h3 HI3 P2
  have HI4 := Lib.hid (rd_is R _ _ 63 _ P3.out.rd)
  rw [isB_miss _ (by decide)] at HI4
  go_wp2_with fail
  refine HI4.out.mono ?_
  rintro e w4 ⟨rfl, h2, h3⟩
  simp only [Option.getD_none] at h2
  have P4 := Lib.hid (P3.out.only h3 h2)
  clear h2 h3 HI4 P3
  have HI5 := Lib.hid (rd_is R _ _ 123 _ P4.out.rd)
  rw [isB_hit] at HI5
  go_wp2_with fail
  refine HI5.out.mono ?_
  rintro e w5 ⟨rfl, h2, h3⟩
  simp only [Option.getD_some] at h2
  have P5 := Lib.hid (P4.out.only h3 h2)
  clear h2 h3 HI5 P4
  have HI6 := Lib.hid (rd_count R _ _ a _ _ P5.out.rd HC.out (by omega))
  go_wp2_with fail
  refine HI6.out.mono ?_
  rintro e w6 ⟨rfl, h2, h3⟩
  have P6 := Lib.hid (P5.out.only h3 h2)
  clear h2 h3 HI6 P5
  obtain ⟨p0, p1, p2, p3, p4, f3, f4, hx⟩ := P6.out.cells
  have Q1 := Lib.hid (P6.out.least (a))
  clear P6
  have Q2 := Lib.hid (Q1.out.most (a))
  clear Q1
  have HI7 := Lib.hid (rd_is R _ _ 44 _ Q2.out.rd)
  rw [isB_hit] at HI7
  go_wp2_with fail
  refine HI7.out.mono ?_
  rintro e w7 ⟨rfl, h2, h3⟩
  simp only [Option.getD_some] at h2
  have P7 := Lib.hid (Q2.out.only h3 h2)
  clear h2 h3 HI7 Q2
  clear p0 p1 p2 p3 p4 f3 f4 hx
  obtain ⟨p0, p1, p2, p3, p4, f3, f4, hx⟩ := P7.out.cells
  have Q3 := Lib.hid (P7.out.most (-1))
  clear P7
  obtain ⟨s1, hs1, hR1, r1⟩ := Q3.out.rcells
  have HI := Lib.hid (Tryz.strings_HasPrefix s1 ⟨#[125]⟩ (w7.setCell ⟨w0.heap.size, 4, none⟩ (.int .i64 (-1))))
  rw [show Lib.hasPrefix s1.data.toList #[125].toList = false from (pre1 125 (bsl s1)).trans (by rw [hs1.out, E7.out]; rfl)] at HI
  go_wp2_with fail
  refine HI.out.mono ?_
  rintro e w' ⟨rfl, hw⟩
  have hw2 := hw.symm
  subst hw2
  clear hw HI hs1
  have HI8 := Lib.hid (rd_count R _ _ b _ _ Q3.out.rd HC2.out (by omega))
  go_wp2_with fail
  refine HI8.out.mono ?_
  rintro e w8 ⟨rfl, h2, h3⟩
  have P8 := Lib.hid (Q3.out.only h3 h2)
  clear h2 h3 HI8 Q3
  clear p0 p1 p2 p3 p4 f3 f4 hx
  obtain ⟨p0, p1, p2, p3, p4, f3, f4, hx⟩ := P8.out.cells
  have Q4 := Lib.hid (P8.out.most (b))
  clear P8
  go_wp2_with fail
  refine (HNO.out _).mono ?_
  rintro e w'' ⟨he, rfl⟩
  subst he
  go_wp2
  exact ⟨rfl, rfl, Q4.out.on⟩

set_option maxHeartbeats 4000000 in
set_option maxRecDepth 100000 in
theorem rd_piece_n5 {R B : Nat} {r r3 r4 : Bs} {a b : Nat} {wf : Bool} {t : List Rx} {w : World} (ha : Calls Tryz.prog 114 #[.pointer (some ⟨R, 0, none⟩)] w (RdP R w t (123 :: r) wf)) (hR : R < w.heap.size) (_hn : t.length ≤ 100000) (hT : TabV B w) (_hB : B ≤ R) (hc : countB r = some (a, 44 :: r3)) (e7 : isB 125 r3 = none) (hc2 : countB r3 = some (b, r4)) (hab : a ≤ b) (e5 : isB 125 r4 = none) (hl : r.length ≤ 20000) :
    Calls Tryz.prog 75 #[.pointer (some ⟨R, 0, none⟩)] w fun e w' => Stopped e ∧ Only R w w' := by
  have HA := Lib.hid ha; have HTV := Lib.hid hT
  have HNO := Lib.hid (fun W => rd_no W)
  have HC := Lib.hid hc
  have ha16 := (countB_some hc).2.2.1
  clear hc
  have HC2 := Lib.hid hc2; have E7 := Lib.hid e7; have E5 := Lib.hid e5
  have hl3 : r3.length ≤ 20000 := by have := (countB_sfx HC.out).length_le; simp only [List.length_cons] at this; omega
  have hb16 := (countB_some hc2).2.2.1
  have hab2 : decide (b < a) = false := decide_eq_false (by omega)
  clear hc2 e7 e5
  obtain ⟨k, hk⟩ : ∃ k, t.length = k := ⟨_, rfl⟩
  have HN := Lib.hid hk
  clear ha hk hT
  go_enter Tryz.func75, Tryz.ntmps75
  go_wp2_with fail
  refine HA.out.mono ?_
  rintro e w0 hP
  obtain ⟨A, c, rfl, P0, P1⟩ := pieceIn hP hR HN
  clear hP
  have HI2 := Lib.hid (rd_is R _ _ 42 _ P1.out.rd)
  rw [isB_miss _ (by decide)] at HI2
  go_wp2_with fail
  refine HI2.out.mono ?_
  rintro e w2 ⟨rfl, h2, h3⟩
  simp only [Option.getD_none] at h2
  have P2 := Lib.hid (P1.out.only h3 h2)
  clear h2 h3 HI2 P1
  have HI3 := Lib.hid (rd_is R _ _ 43 _ P2.out.rd)
  rw [isB_miss _ (by decide)] at HI3
  go_wp2_with fail
  refine HI3.out.mono ?_
  rintro e w3 ⟨rfl, h2, h3⟩
  simp only [Option.getD_none] at h2
  have P3 := Lib.hid (P2.out.only h3 h2)
  clear h2 h3 HI3 P2
  have HI4 := Lib.hid (rd_is R _ _ 63 _ P3.out.rd)
  rw [isB_miss _ (by decide)] at HI4
  go_wp2_with fail
  refine HI4.out.mono ?_
  rintro e w4 ⟨rfl, h2, h3⟩
  simp only [Option.getD_none] at h2
  have P4 := Lib.hid (P3.out.only h3 h2)
  clear h2 h3 HI4 P3
  have HI5 := Lib.hid (rd_is R _ _ 123 _ P4.out.rd)
  rw [isB_hit] at HI5
  go_wp2_with fail
  refine HI5.out.mono ?_
  rintro e w5 ⟨rfl, h2, h3⟩
  simp only [Option.getD_some] at h2
  have P5 := Lib.hid (P4.out.only h3 h2)
  clear h2 h3 HI5 P4
  have HI6 := Lib.hid (rd_count R _ _ a _ _ P5.out.rd HC.out (by omega))
  go_wp2_with fail
  refine HI6.out.mono ?_
  rintro e w6 ⟨rfl, h2, h3⟩
  have P6 := Lib.hid (P5.out.only h3 h2)
  clear h2 h3 HI6 P5
  obtain ⟨p0, p1, p2, p3, p4, f3, f4, hx⟩ := P6.out.cells
  have Q1 := Lib.hid (P6.out.least (a))
  clear P6
  have Q2 := Lib.hid (Q1.out.most (a))
  clear Q1
  have HI7 := Lib.hid (rd_is R _ _ 44 _ Q2.out.rd)
  rw [isB_hit] at HI7
  go_wp2_with fail
  refine HI7.out.mono ?_
  rintro e w7 ⟨rfl, h2, h3⟩
  simp only [Option.getD_some] at h2
  have P7 := Lib.hid (Q2.out.only h3 h2)
  clear h2 h3 HI7 Q2
  clear p0 p1 p2 p3 p4 f3 f4 hx
  obtain ⟨p0, p1, p2, p3, p4, f3, f4, hx⟩ := P7.out.cells
  have Q3 := Lib.hid (P7.out.most (-1))
  clear P7
  obtain ⟨s1, hs1, hR1, r1⟩ := Q3.out.rcells
  have HI := Lib.hid (Tryz.strings_HasPrefix s1 ⟨#[125]⟩ (w7.setCell ⟨w0.heap.size, 4, none⟩ (.int .i64 (-1))))
  rw [show Lib.hasPrefix s1.data.toList #[125].toList = false from (pre1 125 (bsl s1)).trans (by rw [hs1.out, E7.out]; rfl)] at HI
  go_wp2_with fail
  refine HI.out.mono ?_
  rintro e w' ⟨rfl, hw⟩
  have hw2 := hw.symm
  subst hw2
  clear hw HI hs1
  have HI8 := Lib.hid (rd_count R _ _ b _ _ Q3.out.rd HC2.out (by omega))
  go_wp2_with fail
  refine HI8.out.mono ?_
  rintro e w8 ⟨rfl, h2, h3⟩
  have P8 := Lib.hid (Q3.out.only h3 h2)
  clear h2 h3 HI8 Q3
  clear p0 p1 p2 p3 p4 f3 f4 hx
  obtain ⟨p0, p1, p2, p3, p4, f3, f4, hx⟩ := P8.out.cells
  have Q4 := Lib.hid (P8.out.most (b))
  clear P8
  have HIN := Lib.hid (rd_mustN R _ _ 125 _ Q4.out.rd E5.out)
  go_wp2_with fail
  refine HIN.out.mono ?_
  rintro e w' ⟨he, kk⟩
  subst he
  have K := Lib.hid (Q4.out.on.step kk)
  clear kk
  go_wp2
  exact ⟨rfl, rfl, K.out⟩

set_option maxHeartbeats 1000000 in
set_option maxRecDepth 100000 in
theorem rd_piece_n0 {R : Nat} {w : World} (ha : Calls Tryz.prog 114 #[.pointer (some ⟨R, 0, none⟩)] w fun e w' => Stopped e ∧ Only R w w') :
    Calls Tryz.prog 75 #[.pointer (some ⟨R, 0, none⟩)] w fun e w' => Stopped e ∧ Only R w w' := by
  have HA := Lib.hid ha
  clear ha
  go_enter Tryz.func75, Tryz.ntmps75
  go_wp2_with fail
  refine HA.out.mono ?_
  rintro e w0 ⟨he, kk⟩
  subst he
  have K := Lib.hid kk
  clear kk
  go_wp2
  exact ⟨rfl, rfl, K.out⟩
/-- The reader's rows, at texts shorter than F. -/
def RowsG (g : Bs → Bool → Option PR) (F R B : Nat) : Prop := ∀ (l : Bs) (wd : Bool) (w : World), l.length < F → l.length ≤ 20000 → RdS w R l wd → TabV B w → Calls Tryz.prog 38 #[.pointer (some ⟨R, 0, none⟩)] w (RdO R w (g l wd))
theorem rd_pieceO {g : Bs → Bool → Option PR} {F R B : Nat} {l : Bs} {wd : Bool} {w : World} (hE : EscOk R B) (h : RdS w R l wd) (hl : l.length ≤ 20000) (hF : l.length ≤ F) (hT : TabV B w) (hB : B ≤ R) (hg : RowsG g F R B) (hf : FewG g) :
    Calls Tryz.prog 75 #[.pointer (some ⟨R, 0, none⟩)] w (RdO R w (pieceB g l wd)) := by
  have ha := rd_atomO (g := g) hE h hl hT hB (fun r1 w1 e h3 h4 => by
    subst e
    exact hg r1 wd w1 (by simp at hF; omega) (by simp at hl; omega) h3 h4)
  have hR := h.lt
  unfold pieceB
  cases hc : atomB g l wd with
  | none =>
    rw [hc] at ha
    exact rd_piece_n0 ha
  | some p =>
    obtain ⟨t1, r1, w1⟩ := p
    rw [hc] at ha
    have hn := atomG_few hf hc
    have hr1 : r1.length ≤ 20000 := by omega
    have ha : Calls Tryz.prog 114 #[.pointer (some ⟨R, 0, none⟩)] w (RdP R w t1 r1 w1) := ha
    simp only
    cases h2 : oftB r1 with
    | none =>
      cases oftB_no h2 with
      | one r e k => subst e; exact rd_piece_n1 ha hR (by omega) hT hB k (by simp at hr1; omega)
      | must r r2 a e k k2 k3 => subst e; exact rd_piece_n2 ha hR (by omega) hT hB k k2 k3 (by simp at hr1; omega)
      | two r r3 a e k k2 k3 => subst e; exact rd_piece_n3 ha hR (by omega) hT hB k k2 k3 (by simp at hr1; omega)
      | less r r3 r4 a b e k k2 k3 k4 => subst e; exact rd_piece_n4 ha hR (by omega) hT hB k k2 k3 k4 (by simp at hr1; omega)
      | «end» r r3 r4 a b e k k2 k3 k4 k5 => subst e; exact rd_piece_n5 ha hR (by omega) hT hB k k2 k3 k4 k5 (by simp at hr1; omega)
    | some q =>
      obtain ⟨x, r2⟩ := q
      have h3 := oftB_steps h2
      cases h3 with
      | once k1 k2 k3 k4 => exact rd_piece_once ha hR (by omega) k1 k2 k3 k4
      | star r e => subst e; exact rd_piece_star ha hR (by omega)
      | plus r e => subst e; exact rd_piece_plus ha hR (by omega)
      | perh r e => subst e; exact rd_piece_perh ha hR (by omega)
      | just r r3 a e k => subst e; exact rd_piece_just ha hR (by omega) k (by simp at hr1; omega)
      | «from» r r4 a e k => subst e; exact rd_piece_from ha hR (by omega) k (by simp at hr1; omega)
      | some r r3 r5 a b e k k2 k3 k4 => subst e; exact rd_piece_some ha hR (by omega) k k2 k3 k4 (by simp at hr1; omega)
end Go.Proofs.YtilhicefhhgecaaGreatDoor

namespace Go.Proofs.YtilhicefhhgecaaGreatDoor
open Go.RowKit Pv

set_option maxHeartbeats 8000000 in
set_option maxRecDepth 100000 in
theorem rd_rowsY {g : Bs → Bool → Option PR} {F R B : Nat} (hE : EscOk R B) (hg : RowsG g F R B) (hf : FewG g) {f : Nat} {l r : Bs} {wd w2 : Bool} {t : List Rx} {w : World} (h : RdS w R l wd) (ha : altsB g f l wd [] = some (t, r, w2)) (hl : l.length ≤ 20000) (hFl : l.length ≤ F) (hT : TabV B w) (hB : B ≤ R) :
    Calls Tryz.prog 38 #[.pointer (some ⟨R, 0, none⟩)] w (RdP R w t r w2) := by
  obtain ⟨i0, hi0, hz0, hs0, hb0⟩ := info_parts info_rl
  have HR : Hid (R < w.heap.size) := Lib.hid h.lt
  have HRD := Lib.hid h; have HA := Lib.hid ha; have HG := Lib.hid hg; have HF := Lib.hid hf; have HEO := Lib.hid hE; have HT := Lib.hid hT
  have HTL : Hid (t.length ≤ 60001) := Lib.hid (by have := altsG_few hf f ha (by simp); simp at this; omega)
  clear h ha hg hf hE hT
  go_enter Tryz.func38, Tryz.ntmps38
  go_wp2
  go_loopw [3] (fun av wr => ∃ (cur : Bs) (wc : Bool) (acc : List (List Rx)) (f' n c : Nat) (A : Option Addr), av = .slice A n c ∧ n + cur.length ≤ l.length ∧ Hid (altsB g f' cur wc acc = some (t, r, w2)) ∧ Hid (RdS wr R cur wc) ∧ Hid (OwnRows wr w.heap.size (R + 1) (.slice A n c) acc) ∧ Hid (acc.length = n) ∧ Hid (Only R w wr) ∧ Hid (∀ p, p ∈ acc → 1 ≤ p.length)) (fun _ wr => rdLen wr R)
  case atStart => exact ⟨l, wd, [], f, 0, 0, none, rfl, by omega, HA, HRD, Lib.hid (OwnRows.nil _ _ _), Lib.hid rfl, Lib.hid (Only.refl R w), Lib.hid (by simp)⟩
  case round =>
    clear HRD HA
    obtain ⟨cur, wc, acc, f', n, c, A, rfl, hn, HA, HRD, HOR, HN, HON, HL1⟩ := hrel
    have hA := altsB_steps HA.out
    obtain ⟨f2, ps, r1, w3, h1, h2⟩ := hA
    have HPS := Lib.hid h1; have HAL := Lib.hid h2
    clear h1 h2
    have hcl : cur.length ≤ 20000 := by omega
    have HPF := Lib.hid (piecesG_few HF.out _ HPS.out (by simp))
    obtain ⟨wo, rfl⟩ : ∃ wo : World, wo = wr := ⟨_, rfl⟩
    go_wp2
    go_loopw [4] (fun lv wr => ∃ (cu : Bs) (wd1 : Bool) (ac : List (List Rx)) (f3 m c1 : Nat) (A1 : Option Addr), lv = .slice A1 m c1 ∧ m + cu.length ≤ cur.length ∧ Hid (piecesB g f3 cu wd1 ac = some (ps, r1, w3)) ∧ Hid (RdS wr R cu wd1) ∧ Hid (OwnRows wr wo.heap.size (R + 1) (.slice A1 m c1) ac) ∧ Hid (ac.length = m) ∧ Hid (Only R wo wr)) (fun _ wr => rdLen wr R)
    case atStart => exact ⟨cur, wc, [], _, 0, 0, none, rfl, by omega, HPS, HRD, Lib.hid (OwnRows.nil _ _ _), Lib.hid rfl, Lib.hid (Only.refl R wo)⟩
    case round =>
      obtain ⟨cu, wd1, ac, f3, m, c1, A1, rfl, hm, HPI, HRI, HOI, HM, HOO⟩ := hrel
      obtain ⟨s, hs, HB, hlt, p0, p1, f0, f1⟩ := HRI.out.cells
      have hsz : s.size = cu.length := by rw [← bsl_len, hs.out]
      rcases piecesB_steps HPI.out with ⟨hst, he⟩ | ⟨hst, f4, t1, r2, w4, h4, h5⟩
      · -- the end of a row
        simp only [Prod.mk.injEq] at he
        obtain ⟨e1, e2, e3⟩ := he
        subst e1; subst e2; subst e3
        have hpf := HPF.out.2
        simp only [List.flatten_nil, List.length_nil, Nat.mul_zero, Nat.add_zero] at hpf
        have hflat : ps.flatten.length ≤ 60000 := by omega
        have hRo := HRI.out.lt
        have HPT := Lib.hid (rd_put 2 _ wo.heap.size (R + 1) _ wr HOI.out (by omega) HPF.out.1 (by omega) (by omega))
        have HAR := Lib.hid (only_rows HOO.out HRD.out HOR.out)
        have HOO1 := Lib.hid (HON.out.step HOO.out)
        have hn1 : n ≤ 20000 := by omega
        have hcc : r1.length ≤ cur.length := by omega
        rcases (show r1 = [] ∨ (∃ rr, r1 = 124 :: rr) ∨ ∃ rr, r1 = 41 :: rr by
          cases r1 with
          | nil => exact .inl rfl
          | cons b rr =>
            simp only [stopB, Bool.or_eq_true, decide_eq_true_eq] at hst
            rcases hst with rfl | rfl
            · exact .inr (.inl ⟨rr, rfl⟩)
            · exact .inr (.inr ⟨rr, rfl⟩)) with hc0 | ⟨rr, hc0⟩ | ⟨rr, hc0⟩
        · have E1 : s.toList.isEmpty = true := by rw [toList_bsl, hs.out, hc0]; rfl
          clear hst hc0 hpf hflat
          go_wp2_with fail
          refine HPT.out.mono ?_
          rintro e w1 ⟨B, q, d, rfl, k1, k2⟩
          have K1 := Lib.hid k1; have K2 := Lib.hid k2
          obtain ⟨A', c', us, hv, ho, hr⟩ := rows_shape (rows_below HAR.out k2)
          injection hv with g1 g2 g3
          subst g1; subst g3; clear g2
          rw [HN.out] at ho
          have HO1 := Lib.hid ho; have HR1 := Lib.hid hr
          have HOA := Lib.hid (ho.alloc (.cells #[.slice B q d] TRL))
          have HSR := Lib.hid (Pv.Src.one (w := w1) (x := .slice B q d) (t := TRL) rfl)
          have HO2 := Lib.hid ((HOO1.out.then k2).alloc (.cells #[.slice B q d] TRL))
          have hz := HO2.out.size
          have Q1 : Hid (n + 1 ≤ maxLen) := Lib.hid (by simp only [maxLen]; omega)
          have Q2 : Hid ((n + 1) * 24 ≤ 140737488355328) := Lib.hid (by omega)
          have HRD1 := Lib.hid ((HRI.out.below k2).alloc (.cells #[.slice B q d] TRL))
          clear k1 k2 ho hr p0 p1 f0 f1 E1
          go_wp2_with (first
          | (at_builtin
             go_must (refine wpList_append_src _ rfl (.tmp 31) (.tmp 34) 125 rfl w.heap.size TRL i0 (.slice none 0 0) 1 24 Tryz.underlying125 hi0 hz0 hs0 hb0 rfl (by decide) A c n _ rfl HOA.out (some ⟨w1.heap.size, 0, none⟩) 1 1 _ rfl HSR.out Q1.out Q2.out hz ?_)
             intro A9 c9 w9 own9 gr9 _
             have HO9 := Lib.hid own9; have HG9 := Lib.hid gr9
             clear own9 gr9))
          have HRD9 := Lib.hid (HRD1.out.grown HOA.out (by decide) HG9.out)
          have HAR9 := Lib.hid (rows_push HO1.out HR1.out HN.out K1.out HO9.out HG9.out)
          have HO99 := Lib.hid (HO2.out.grown HG9.out (fun k hk => (HOA.out.lt k hk).1))
          have HIS := Lib.hid (rd_is R _ _ 124 w9 HRD9.out)
          cases hi : isB 124 r1 with
          | none =>
            rw [hi] at HIS
            have HE : Hid (t = putB 3 (acc ++ [putB 2 ps]) ∧ r = r1 ∧ w2 = w3) := Lib.hid (by
              rcases HAL.out with ⟨_, e⟩ | ⟨r2, e, _⟩
              · simp only [Prod.mk.injEq] at e; exact e
              · rw [e, isB_hit] at hi; cases hi)
            have HPL := Lib.hid (putB_len 2 ps HPF.out.1)
            have HL3 : Hid (∀ p, p ∈ acc ++ [putB 2 ps] → 1 ≤ p.length) := Lib.hid (fun p hp => by
              rcases List.mem_append.1 hp with hp | hp
              · exact HL1.out p hp
              · obtain rfl := List.mem_singleton.1 hp; exact HPL.out.1)
            clear hi
            go_wp2_with fail
            refine HIS.out.mono ?_
            rintro e w5 ⟨rfl, k3, k4⟩
            simp only [Option.getD_none] at k3
            have HPT3 := Lib.hid (rd_put 3 _ w.heap.size (R + 1) _ w5 (only_rows k4 HRD9.out HAR9.out) (by have := k3.lt; omega) HL3.out (by
              have h1 := putB_len 3 _ HL3.out
              have h2 := HTL.out
              rw [HE.out.1] at h2
              omega) (by omega))
            have K3 := Lib.hid k3; have K4 := Lib.hid (HO99.out.step k4)
            clear k3 k4
            go_wp2_with fail
            refine HPT3.out.mono ?_
            rintro e w6 ⟨B6, q6, d6, rfl, k1, k2⟩
            have K1 := Lib.hid k1; have K5 := Lib.hid (K4.out.then k2); have K6 := Lib.hid (K3.out.below k2)
            clear k1 k2
            go_wp2
            go_ret
            obtain ⟨e1, e2, e3⟩ := HE.out
            rw [e1, e2, e3]
            exact ⟨B6, q6, d6, rfl, K1.out, K6.out, K5.out⟩
          | some r2 =>
            rw [hi] at HIS
            have HE : Hid (altsB g f2 r2 w3 (acc ++ [putB 2 ps]) = some (t, r, w2)) := Lib.hid (by
              rcases HAL.out with ⟨e, _⟩ | ⟨r3, e, h⟩
              · rw [e] at hi; cases hi
              · rw [e, isB_hit] at hi; obtain rfl := Option.some.inj hi; exact h)
            have HCU := Lib.hid (isB_some hi)
            have HPL := Lib.hid (putB_len 2 ps HPF.out.1)
            have HL3 : Hid (∀ p, p ∈ acc ++ [putB 2 ps] → 1 ≤ p.length) := Lib.hid (fun p hp => by
              rcases List.mem_append.1 hp with hp | hp
              · exact HL1.out p hp
              · obtain rfl := List.mem_singleton.1 hp; exact HPL.out.1)
            have hr2 : r2.length + 1 ≤ cur.length := by
              have h1 : r1.length = r2.length + 1 := by rw [HCU.out]; rfl
              omega
            clear hi
            go_wp2_with fail
            refine HIS.out.mono ?_
            rintro e w5 ⟨rfl, k3, k4⟩
            simp only [Option.getD_some] at k3
            have K3 := Lib.hid k3; have K4 := Lib.hid (HO99.out.step k4)
            have HAR5 := Lib.hid (only_rows k4 HRD9.out HAR9.out)
            clear k3 k4
            go_wp2
            go_roundw
            case rel => exact ⟨r2, w3, _, f2, n + 1, c9, A9, rfl, by omega, HE, K3, HAR5, Lib.hid (by rw [List.length_append, HN.out]; rfl), K4, HL3⟩
            case measure =>
              show rdLen _ R < rdLen _ R
              rw [K3.out.len, HRD.out.len]
              omega
        · have E1 : s.toList.isEmpty = false := by rw [toList_bsl, hs.out, hc0]; rfl
          have h0 : 0 < s.size := by rw [hsz, hc0]; simp
          obtain ⟨hk0, hk1⟩ := bsl_at (s := s) (k := 0) (b := 124) (by rw [hs.out, hc0]; rfl)
          have T1 : (((s[0]'hk0).toNat : Int) == 124) = true := by rw [hk1]; rfl
          have T3 : (((s[0]'hk0).toNat : Int) != 124) = false := by rw [hk1]; rfl
          have T2 : (((s[0]'hk0).toNat : Int) == 41) = false := by rw [hk1]; rfl
          have T4 : (((s[0]'hk0).toNat : Int) != 41) = true := by rw [hk1]; rfl
          clear hst hc0 hpf hflat hk1
          go_wp2_with fail
          refine HPT.out.mono ?_
          rintro e w1 ⟨B, q, d, rfl, k1, k2⟩
          have K1 := Lib.hid k1; have K2 := Lib.hid k2
          obtain ⟨A', c', us, hv, ho, hr⟩ := rows_shape (rows_below HAR.out k2)
          injection hv with g1 g2 g3
          subst g1; subst g3; clear g2
          rw [HN.out] at ho
          have HO1 := Lib.hid ho; have HR1 := Lib.hid hr
          have HOA := Lib.hid (ho.alloc (.cells #[.slice B q d] TRL))
          have HSR := Lib.hid (Pv.Src.one (w := w1) (x := .slice B q d) (t := TRL) rfl)
          have HO2 := Lib.hid ((HOO1.out.then k2).alloc (.cells #[.slice B q d] TRL))
          have hz := HO2.out.size
          have Q1 : Hid (n + 1 ≤ maxLen) := Lib.hid (by simp only [maxLen]; omega)
          have Q2 : Hid ((n + 1) * 24 ≤ 140737488355328) := Lib.hid (by omega)
          have HRD1 := Lib.hid ((HRI.out.below k2).alloc (.cells #[.slice B q d] TRL))
          clear k1 k2 ho hr p0 p1 f0 f1 E1 T1 T2 T3 T4
          go_wp2_with (first
          | (at_builtin
             go_must (refine wpList_append_src _ rfl (.tmp 31) (.tmp 34) 125 rfl w.heap.size TRL i0 (.slice none 0 0) 1 24 Tryz.underlying125 hi0 hz0 hs0 hb0 rfl (by decide) A c n _ rfl HOA.out (some ⟨w1.heap.size, 0, none⟩) 1 1 _ rfl HSR.out Q1.out Q2.out hz ?_)
             intro A9 c9 w9 own9 gr9 _
             have HO9 := Lib.hid own9; have HG9 := Lib.hid gr9
             clear own9 gr9))
          have HRD9 := Lib.hid (HRD1.out.grown HOA.out (by decide) HG9.out)
          have HAR9 := Lib.hid (rows_push HO1.out HR1.out HN.out K1.out HO9.out HG9.out)
          have HO99 := Lib.hid (HO2.out.grown HG9.out (fun k hk => (HOA.out.lt k hk).1))
          have HIS := Lib.hid (rd_is R _ _ 124 w9 HRD9.out)
          cases hi : isB 124 r1 with
          | none =>
            rw [hi] at HIS
            have HE : Hid (t = putB 3 (acc ++ [putB 2 ps]) ∧ r = r1 ∧ w2 = w3) := Lib.hid (by
              rcases HAL.out with ⟨_, e⟩ | ⟨r2, e, _⟩
              · simp only [Prod.mk.injEq] at e; exact e
              · rw [e, isB_hit] at hi; cases hi)
            have HPL := Lib.hid (putB_len 2 ps HPF.out.1)
            have HL3 : Hid (∀ p, p ∈ acc ++ [putB 2 ps] → 1 ≤ p.length) := Lib.hid (fun p hp => by
              rcases List.mem_append.1 hp with hp | hp
              · exact HL1.out p hp
              · obtain rfl := List.mem_singleton.1 hp; exact HPL.out.1)
            clear hi
            go_wp2_with fail
            refine HIS.out.mono ?_
            rintro e w5 ⟨rfl, k3, k4⟩
            simp only [Option.getD_none] at k3
            have HPT3 := Lib.hid (rd_put 3 _ w.heap.size (R + 1) _ w5 (only_rows k4 HRD9.out HAR9.out) (by have := k3.lt; omega) HL3.out (by
              have h1 := putB_len 3 _ HL3.out
              have h2 := HTL.out
              rw [HE.out.1] at h2
              omega) (by omega))
            have K3 := Lib.hid k3; have K4 := Lib.hid (HO99.out.step k4)
            clear k3 k4
            go_wp2_with fail
            refine HPT3.out.mono ?_
            rintro e w6 ⟨B6, q6, d6, rfl, k1, k2⟩
            have K1 := Lib.hid k1; have K5 := Lib.hid (K4.out.then k2); have K6 := Lib.hid (K3.out.below k2)
            clear k1 k2
            go_wp2
            go_ret
            obtain ⟨e1, e2, e3⟩ := HE.out
            rw [e1, e2, e3]
            exact ⟨B6, q6, d6, rfl, K1.out, K6.out, K5.out⟩
          | some r2 =>
            rw [hi] at HIS
            have HE : Hid (altsB g f2 r2 w3 (acc ++ [putB 2 ps]) = some (t, r, w2)) := Lib.hid (by
              rcases HAL.out with ⟨e, _⟩ | ⟨r3, e, h⟩
              · rw [e] at hi; cases hi
              · rw [e, isB_hit] at hi; obtain rfl := Option.some.inj hi; exact h)
            have HCU := Lib.hid (isB_some hi)
            have HPL := Lib.hid (putB_len 2 ps HPF.out.1)
            have HL3 : Hid (∀ p, p ∈ acc ++ [putB 2 ps] → 1 ≤ p.length) := Lib.hid (fun p hp => by
              rcases List.mem_append.1 hp with hp | hp
              · exact HL1.out p hp
              · obtain rfl := List.mem_singleton.1 hp; exact HPL.out.1)
            have hr2 : r2.length + 1 ≤ cur.length := by
              have h1 : r1.length = r2.length + 1 := by rw [HCU.out]; rfl
              omega
            clear hi
            go_wp2_with fail
            refine HIS.out.mono ?_
            rintro e w5 ⟨rfl, k3, k4⟩
            simp only [Option.getD_some] at k3
            have K3 := Lib.hid k3; have K4 := Lib.hid (HO99.out.step k4)
            have HAR5 := Lib.hid (only_rows k4 HRD9.out HAR9.out)
            clear k3 k4
            go_wp2
            go_roundw
            case rel => exact ⟨r2, w3, _, f2, n + 1, c9, A9, rfl, by omega, HE, K3, HAR5, Lib.hid (by rw [List.length_append, HN.out]; rfl), K4, HL3⟩
            case measure =>
              show rdLen _ R < rdLen _ R
              rw [K3.out.len, HRD.out.len]
              omega
        · have E1 : s.toList.isEmpty = false := by rw [toList_bsl, hs.out, hc0]; rfl
          have h0 : 0 < s.size := by rw [hsz, hc0]; simp
          obtain ⟨hk0, hk1⟩ := bsl_at (s := s) (k := 0) (b := 41) (by rw [hs.out, hc0]; rfl)
          have T1 : (((s[0]'hk0).toNat : Int) == 124) = false := by rw [hk1]; rfl
          have T3 : (((s[0]'hk0).toNat : Int) != 124) = true := by rw [hk1]; rfl
          have T2 : (((s[0]'hk0).toNat : Int) == 41) = true := by rw [hk1]; rfl
          have T4 : (((s[0]'hk0).toNat : Int) != 41) = false := by rw [hk1]; rfl
          clear hst hc0 hpf hflat hk1
          go_wp2_with fail
          refine HPT.out.mono ?_
          rintro e w1 ⟨B, q, d, rfl, k1, k2⟩
          have K1 := Lib.hid k1; have K2 := Lib.hid k2
          obtain ⟨A', c', us, hv, ho, hr⟩ := rows_shape (rows_below HAR.out k2)
          injection hv with g1 g2 g3
          subst g1; subst g3; clear g2
          rw [HN.out] at ho
          have HO1 := Lib.hid ho; have HR1 := Lib.hid hr
          have HOA := Lib.hid (ho.alloc (.cells #[.slice B q d] TRL))
          have HSR := Lib.hid (Pv.Src.one (w := w1) (x := .slice B q d) (t := TRL) rfl)
          have HO2 := Lib.hid ((HOO1.out.then k2).alloc (.cells #[.slice B q d] TRL))
          have hz := HO2.out.size
          have Q1 : Hid (n + 1 ≤ maxLen) := Lib.hid (by simp only [maxLen]; omega)
          have Q2 : Hid ((n + 1) * 24 ≤ 140737488355328) := Lib.hid (by omega)
          have HRD1 := Lib.hid ((HRI.out.below k2).alloc (.cells #[.slice B q d] TRL))
          clear k1 k2 ho hr p0 p1 f0 f1 E1 T1 T2 T3 T4
          go_wp2_with (first
          | (at_builtin
             go_must (refine wpList_append_src _ rfl (.tmp 31) (.tmp 34) 125 rfl w.heap.size TRL i0 (.slice none 0 0) 1 24 Tryz.underlying125 hi0 hz0 hs0 hb0 rfl (by decide) A c n _ rfl HOA.out (some ⟨w1.heap.size, 0, none⟩) 1 1 _ rfl HSR.out Q1.out Q2.out hz ?_)
             intro A9 c9 w9 own9 gr9 _
             have HO9 := Lib.hid own9; have HG9 := Lib.hid gr9
             clear own9 gr9))
          have HRD9 := Lib.hid (HRD1.out.grown HOA.out (by decide) HG9.out)
          have HAR9 := Lib.hid (rows_push HO1.out HR1.out HN.out K1.out HO9.out HG9.out)
          have HO99 := Lib.hid (HO2.out.grown HG9.out (fun k hk => (HOA.out.lt k hk).1))
          have HIS := Lib.hid (rd_is R _ _ 124 w9 HRD9.out)
          cases hi : isB 124 r1 with
          | none =>
            rw [hi] at HIS
            have HE : Hid (t = putB 3 (acc ++ [putB 2 ps]) ∧ r = r1 ∧ w2 = w3) := Lib.hid (by
              rcases HAL.out with ⟨_, e⟩ | ⟨r2, e, _⟩
              · simp only [Prod.mk.injEq] at e; exact e
              · rw [e, isB_hit] at hi; cases hi)
            have HPL := Lib.hid (putB_len 2 ps HPF.out.1)
            have HL3 : Hid (∀ p, p ∈ acc ++ [putB 2 ps] → 1 ≤ p.length) := Lib.hid (fun p hp => by
              rcases List.mem_append.1 hp with hp | hp
              · exact HL1.out p hp
              · obtain rfl := List.mem_singleton.1 hp; exact HPL.out.1)
            clear hi
            go_wp2_with fail
            refine HIS.out.mono ?_
            rintro e w5 ⟨rfl, k3, k4⟩
            simp only [Option.getD_none] at k3
            have HPT3 := Lib.hid (rd_put 3 _ w.heap.size (R + 1) _ w5 (only_rows k4 HRD9.out HAR9.out) (by have := k3.lt; omega) HL3.out (by
              have h1 := putB_len 3 _ HL3.out
              have h2 := HTL.out
              rw [HE.out.1] at h2
              omega) (by omega))
            have K3 := Lib.hid k3; have K4 := Lib.hid (HO99.out.step k4)
            clear k3 k4
            go_wp2_with fail
            refine HPT3.out.mono ?_
            rintro e w6 ⟨B6, q6, d6, rfl, k1, k2⟩
            have K1 := Lib.hid k1; have K5 := Lib.hid (K4.out.then k2); have K6 := Lib.hid (K3.out.below k2)
            clear k1 k2
            go_wp2
            go_ret
            obtain ⟨e1, e2, e3⟩ := HE.out
            rw [e1, e2, e3]
            exact ⟨B6, q6, d6, rfl, K1.out, K6.out, K5.out⟩
          | some r2 =>
            rw [hi] at HIS
            have HE : Hid (altsB g f2 r2 w3 (acc ++ [putB 2 ps]) = some (t, r, w2)) := Lib.hid (by
              rcases HAL.out with ⟨e, _⟩ | ⟨r3, e, h⟩
              · rw [e] at hi; cases hi
              · rw [e, isB_hit] at hi; obtain rfl := Option.some.inj hi; exact h)
            have HCU := Lib.hid (isB_some hi)
            have HPL := Lib.hid (putB_len 2 ps HPF.out.1)
            have HL3 : Hid (∀ p, p ∈ acc ++ [putB 2 ps] → 1 ≤ p.length) := Lib.hid (fun p hp => by
              rcases List.mem_append.1 hp with hp | hp
              · exact HL1.out p hp
              · obtain rfl := List.mem_singleton.1 hp; exact HPL.out.1)
            have hr2 : r2.length + 1 ≤ cur.length := by
              have h1 : r1.length = r2.length + 1 := by rw [HCU.out]; rfl
              omega
            clear hi
            go_wp2_with fail
            refine HIS.out.mono ?_
            rintro e w5 ⟨rfl, k3, k4⟩
            simp only [Option.getD_some] at k3
            have K3 := Lib.hid k3; have K4 := Lib.hid (HO99.out.step k4)
            have HAR5 := Lib.hid (only_rows k4 HRD9.out HAR9.out)
            clear k3 k4
            go_wp2
            go_roundw
            case rel => exact ⟨r2, w3, _, f2, n + 1, c9, A9, rfl, by omega, HE, K3, HAR5, Lib.hid (by rw [List.length_append, HN.out]; rfl), K4, HL3⟩
            case measure =>
              show rdLen _ R < rdLen _ R
              rw [K3.out.len, HRD.out.len]
              omega
      · -- a piece
        obtain ⟨b, rr, hcu, hb1, hb2⟩ : ∃ b rr, cu = b :: rr ∧ b ≠ 124 ∧ b ≠ 41 := by
          cases cu with
          | nil => cases hst
          | cons b rr =>
            simp only [stopB, Bool.or_eq_false_iff, decide_eq_false_iff_not] at hst
            exact ⟨b, rr, rfl, hst.1, hst.2⟩
        subst hcu
        have h0 : 0 < s.size := by rw [hsz]; simp
        obtain ⟨hk0, hk1⟩ := bsl_at (s := s) (k := 0) (b := b) (by rw [hs.out]; rfl)
        have T1 : (((s[0]'hk0).toNat : Int) == 124) = false := by
          rw [hk1]; simp only [beq_eq_false_iff_ne, ne_eq]
          intro e; exact hb1 (UInt8.toNat_inj.1 (by simpa using (by omega : b.toNat = 124)))
        have T2 : (((s[0]'hk0).toNat : Int) == 41) = false := by
          rw [hk1]; simp only [beq_eq_false_iff_ne, ne_eq]
          intro e; exact hb2 (UInt8.toNat_inj.1 (by simpa using (by omega : b.toNat = 41)))
        have T3 : (((s[0]'hk0).toNat : Int) != 124) = true := by simp [bne, T1]
        have T4 : (((s[0]'hk0).toNat : Int) != 41) = true := by simp [bne, T2]
        have HPC0 := rd_pieceO HEO.out HRI.out (by omega) (by omega) (HT.out.only (HON.out.step HOO.out) hB HR.out) hB HG.out HF.out
        rw [h4] at HPC0
        have HPC : Hid (Calls Tryz.prog 75 #[.pointer (some ⟨R, 0, none⟩)] wr (RdP R wr t1 r2 w4)) := Lib.hid HPC0
        have hfw := pieceG_few HF.out h4
        clear HPC0
        have H5 := Lib.hid h5
        have E1 : s.toList.isEmpty = false := by rw [toList_bsl, hs.out]; rfl
        clear h4 h5 hst hk1 hb1 hb2
        have hm1 : m ≤ 20000 := by omega
        go_wp2_with fail
        refine HPC.out.mono ?_
        rintro e w1 ⟨B, q, d, rfl, k1, k2, k3⟩
        have K1 := Lib.hid k1; have K2 := Lib.hid k2
        have HOO1 := Lib.hid (HOO.out.step k3)
        obtain ⟨A', c', us, hv, ho, hr⟩ := rows_shape (only_rows k3 HRI.out HOI.out)
        injection hv with g1 g2 g3
        subst g1; subst g3; clear g2
        rw [HM.out] at ho
        have HO1 := Lib.hid ho; have HR1 := Lib.hid hr
        have HOA := Lib.hid (ho.alloc (.cells #[.slice B q d] TRL))
        have HSR := Lib.hid (Pv.Src.one (w := w1) (x := .slice B q d) (t := TRL) rfl)
        have hz := HOO1.out.size
        have hz2 : wo.heap.size ≤ (w1.alloc (.cells #[.slice B q d] TRL)).heap.size := by simp; omega
        have Q1 : Hid (m + 1 ≤ maxLen) := Lib.hid (by simp only [maxLen]; omega)
        have Q2 : Hid ((m + 1) * 24 ≤ 140737488355328) := Lib.hid (by omega)
        clear k1 k2 k3 ho hr p0 p1 f0 f1 T1 T2 T3 T4 E1
        go_wp2_with (first
        | (at_builtin
           go_must (refine wpList_append_src _ rfl (.tmp 26) (.tmp 29) 125 rfl wo.heap.size TRL i0 (.slice none 0 0) 1 24 Tryz.underlying125 hi0 hz0 hs0 hb0 rfl (by decide) A1 c1 m _ rfl HOA.out (some ⟨w1.heap.size, 0, none⟩) 1 1 _ rfl HSR.out Q1.out Q2.out hz2 ?_)
           intro A9 c9 w9 own9 gr9 _
           have HO9 := Lib.hid own9; have HG9 := Lib.hid gr9
           clear own9 gr9))
        have HRD9 := Lib.hid ((K2.out.alloc (.cells #[.slice B q d] TRL)).grown HOA.out (by decide) HG9.out)
        have hlen : r2.length < (b :: rr).length := by omega
        go_roundw
        case rel => exact ⟨r2, w4, ac ++ [t1], f4, m + 1, c9, A9, rfl, by simp only [List.length_cons] at hlen hm; omega, H5, HRD9, Lib.hid (rows_push HO1.out HR1.out HM.out K1.out HO9.out HG9.out), Lib.hid (by rw [List.length_append, HM.out]; rfl), Lib.hid ((HOO1.out.alloc _).grown HG9.out (fun k hk => (HOA.out.lt k hk).1))⟩
        case measure =>
          show rdLen _ R < rdLen _ R
          rw [HRD9.out.len, HRI.out.len]
          exact hlen

set_option maxHeartbeats 8000000 in
set_option maxRecDepth 100000 in
theorem rd_rowsN {g : Bs → Bool → Option PR} {F R B : Nat} (hE : EscOk R B) (hg : RowsG g F R B) (hf : FewG g) {f : Nat} {l : Bs} {wd : Bool} {w : World} (h : RdS w R l wd) (ha : altsB g f l wd [] = none) (hfu : l.length < f) (hl : l.length ≤ 20000) (hFl : l.length ≤ F) (hT : TabV B w) (hB : B ≤ R) :
    Calls Tryz.prog 38 #[.pointer (some ⟨R, 0, none⟩)] w fun e w' => Stopped e ∧ Only R w w' := by
  obtain ⟨i0, hi0, hz0, hs0, hb0⟩ := info_parts info_rl
  have HR : Hid (R < w.heap.size) := Lib.hid h.lt
  have HRD := Lib.hid h; have HA := Lib.hid ha; have HG := Lib.hid hg; have HF := Lib.hid hf; have HEO := Lib.hid hE; have HT := Lib.hid hT
  clear h ha hg hf hE hT
  go_enter Tryz.func38, Tryz.ntmps38
  go_wp2
  go_loopw [3] (fun av wr => ∃ (cur : Bs) (wc : Bool) (acc : List (List Rx)) (f' n c : Nat) (A : Option Addr), av = .slice A n c ∧ n + cur.length ≤ l.length ∧ cur.length < f' ∧ Hid (altsB g f' cur wc acc = none) ∧ Hid (RdS wr R cur wc) ∧ Hid (OwnRows wr w.heap.size (R + 1) (.slice A n c) acc) ∧ Hid (acc.length = n) ∧ Hid (Only R w wr) ∧ Hid (∀ p, p ∈ acc → 1 ≤ p.length)) (fun _ wr => rdLen wr R)
  case atStart => exact ⟨l, wd, [], f, 0, 0, none, rfl, by omega, hfu, HA, HRD, Lib.hid (OwnRows.nil _ _ _), Lib.hid rfl, Lib.hid (Only.refl R w), Lib.hid (by simp)⟩
  case round =>
    clear HRD HA
    obtain ⟨cur, wc, acc, f', n, c, A, rfl, hn, hfc, HA, HRD, HOR, HN, HON, HL1⟩ := hrel
    obtain ⟨f2, rfl⟩ : ∃ f2, f' = f2 + 1 := ⟨f' - 1, by omega⟩
    have hA := HA.out
    unfold altsB at hA
    have hcl : cur.length ≤ 20000 := by omega
    obtain ⟨wo, rfl⟩ : ∃ wo : World, wo = wr := ⟨_, rfl⟩
    cases hz : piecesB g (cur.length + 1) cur wc [] with
    | none =>
      have HPS := Lib.hid hz
      clear hA hz
      go_wp2
      go_loopw [4] (fun lv wr => ∃ (cu : Bs) (wd1 : Bool) (ac : List (List Rx)) (f3 m c1 : Nat) (A1 : Option Addr), lv = .slice A1 m c1 ∧ m + cu.length ≤ cur.length ∧ cu.length < f3 ∧ Hid (piecesB g f3 cu wd1 ac = none) ∧ Hid (RdS wr R cu wd1) ∧ Hid (OwnRows wr wo.heap.size (R + 1) (.slice A1 m c1) ac) ∧ Hid (ac.length = m) ∧ Hid (Only R wo wr)) (fun _ wr => rdLen wr R)
      case atStart => exact ⟨cur, wc, [], _, 0, 0, none, rfl, by omega, Nat.lt_succ_self _, HPS, HRD, Lib.hid (OwnRows.nil _ _ _), Lib.hid rfl, Lib.hid (Only.refl R wo)⟩
      case round =>
        obtain ⟨cu, wd1, ac, f3, m, c1, A1, rfl, hm, hf3, HPI, HRI, HOI, HM, HOO⟩ := hrel
        obtain ⟨f4, rfl⟩ : ∃ f4, f3 = f4 + 1 := ⟨f3 - 1, by omega⟩
        obtain ⟨s, hs, HB, hlt, p0, p1, f0, f1⟩ := HRI.out.cells
        have hsz : s.size = cu.length := by rw [← bsl_len, hs.out]
        have hpi := HPI.out
        unfold piecesB at hpi
        cases hst : stopB cu with
        | true => rw [hst] at hpi; cases hpi
        | false =>
          rw [hst] at hpi
          simp only [Bool.false_eq_true, if_false] at hpi
          obtain ⟨b, rr, hcu, hb1, hb2⟩ : ∃ b rr, cu = b :: rr ∧ b ≠ 124 ∧ b ≠ 41 := by
            cases cu with
            | nil => cases hst
            | cons b rr =>
              simp only [stopB, Bool.or_eq_false_iff, decide_eq_false_iff_not] at hst
              exact ⟨b, rr, rfl, hst.1, hst.2⟩
          subst hcu
          have h0 : 0 < s.size := by rw [hsz]; simp
          obtain ⟨hk0, hk1⟩ := bsl_at (s := s) (k := 0) (b := b) (by rw [hs.out]; rfl)
          have T1 : (((s[0]'hk0).toNat : Int) == 124) = false := by
            rw [hk1]; simp only [beq_eq_false_iff_ne, ne_eq]
            intro e; exact hb1 (UInt8.toNat_inj.1 (by simpa using (by omega : b.toNat = 124)))
          have T2 : (((s[0]'hk0).toNat : Int) == 41) = false := by
            rw [hk1]; simp only [beq_eq_false_iff_ne, ne_eq]
            intro e; exact hb2 (UInt8.toNat_inj.1 (by simpa using (by omega : b.toNat = 41)))
          have T3 : (((s[0]'hk0).toNat : Int) != 124) = true := by simp [bne, T1]
          have T4 : (((s[0]'hk0).toNat : Int) != 41) = true := by simp [bne, T2]
          have HPC0 := rd_pieceO HEO.out HRI.out (by omega) (by omega) (HT.out.only (HON.out.step HOO.out) hB HR.out) hB HG.out HF.out
          have E1 : s.toList.isEmpty = false := by rw [toList_bsl, hs.out]; rfl
          cases h4 : pieceB g (b :: rr) wd1 with
          | none =>
            rw [h4] at HPC0
            have HPC : Hid (Calls Tryz.prog 75 #[.pointer (some ⟨R, 0, none⟩)] wr fun e w' => Stopped e ∧ Only R wr w') := Lib.hid HPC0
            clear HPC0 h4 hpi hst hk1 hb1 hb2
            go_wp2_with fail
            refine HPC.out.mono ?_
            rintro e w1 ⟨he, kk⟩
            subst he
            have K := Lib.hid ((HON.out.step HOO.out).step kk)
            clear kk
            go_wp2
            exact ⟨rfl, rfl, K.out⟩
          | some q =>
            obtain ⟨t1, r2, w4⟩ := q
            rw [h4] at HPC0 hpi
            have HPC : Hid (Calls Tryz.prog 75 #[.pointer (some ⟨R, 0, none⟩)] wr (RdP R wr t1 r2 w4)) := Lib.hid HPC0
            have hfw := pieceG_few HF.out h4
            have H5 : Hid (piecesB g f4 r2 w4 (ac ++ [t1]) = none) := Lib.hid hpi
            have hm1 : m ≤ 20000 := by omega
            clear HPC0 h4 hpi hst hk1 hb1 hb2
            go_wp2_with fail
            refine HPC.out.mono ?_
            rintro e w1 ⟨B, q, d, rfl, k1, k2, k3⟩
            have K1 := Lib.hid k1; have K2 := Lib.hid k2
            have HOO1 := Lib.hid (HOO.out.step k3)
            obtain ⟨A', c', us, hv, ho, hr⟩ := rows_shape (only_rows k3 HRI.out HOI.out)
            injection hv with g1 g2 g3
            subst g1; subst g3; clear g2
            rw [HM.out] at ho
            have HO1 := Lib.hid ho; have HR1 := Lib.hid hr
            have HOA := Lib.hid (ho.alloc (.cells #[.slice B q d] TRL))
            have HSR := Lib.hid (Pv.Src.one (w := w1) (x := .slice B q d) (t := TRL) rfl)
            have hz := HOO1.out.size
            have hz2 : wo.heap.size ≤ (w1.alloc (.cells #[.slice B q d] TRL)).heap.size := by simp; omega
            have Q1 : Hid (m + 1 ≤ maxLen) := Lib.hid (by simp only [maxLen]; omega)
            have Q2 : Hid ((m + 1) * 24 ≤ 140737488355328) := Lib.hid (by omega)
            clear k1 k2 k3 ho hr p0 p1 f0 f1 T1 T2 T3 T4 E1
            go_wp2_with (first
            | (at_builtin
               go_must (refine wpList_append_src _ rfl (.tmp 26) (.tmp 29) 125 rfl wo.heap.size TRL i0 (.slice none 0 0) 1 24 Tryz.underlying125 hi0 hz0 hs0 hb0 rfl (by decide) A1 c1 m _ rfl HOA.out (some ⟨w1.heap.size, 0, none⟩) 1 1 _ rfl HSR.out Q1.out Q2.out hz2 ?_)
               intro A9 c9 w9 own9 gr9 _
               have HO9 := Lib.hid own9; have HG9 := Lib.hid gr9
               clear own9 gr9))
            have HRD9 := Lib.hid ((K2.out.alloc (.cells #[.slice B q d] TRL)).grown HOA.out (by decide) HG9.out)
            have hlen : r2.length < (b :: rr).length := by omega
            go_roundw
            case rel => exact ⟨r2, w4, ac ++ [t1], f4, m + 1, c9, A9, rfl, by simp only [List.length_cons] at hlen hm; omega, by omega, H5, HRD9, Lib.hid (rows_push HO1.out HR1.out HM.out K1.out HO9.out HG9.out), Lib.hid (by rw [List.length_append, HM.out]; rfl), Lib.hid ((HOO1.out.alloc _).grown HG9.out (fun k hk => (HOA.out.lt k hk).1))⟩
            case measure =>
              show rdLen _ R < rdLen _ R
              rw [HRD9.out.len, HRI.out.len]
              exact hlen
    | some q =>
      obtain ⟨ps, r1, w3⟩ := q
      rw [hz] at hA
      simp only at hA
      have HPS := Lib.hid hz
      have HPF := Lib.hid (piecesG_few HF.out _ HPS.out (by simp))
      cases hi : isB 124 r1 with
      | none => rw [hi] at hA; cases hA
      | some r2 =>
        rw [hi] at hA
        have HE := Lib.hid hA
        have HI124 := Lib.hid hi
        clear hA hz hi
        go_wp2
        go_loopw [4] (fun lv wr => ∃ (cu : Bs) (wd1 : Bool) (ac : List (List Rx)) (f3 m c1 : Nat) (A1 : Option Addr), lv = .slice A1 m c1 ∧ m + cu.length ≤ cur.length ∧ Hid (piecesB g f3 cu wd1 ac = some (ps, r1, w3)) ∧ Hid (RdS wr R cu wd1) ∧ Hid (OwnRows wr wo.heap.size (R + 1) (.slice A1 m c1) ac) ∧ Hid (ac.length = m) ∧ Hid (Only R wo wr)) (fun _ wr => rdLen wr R)
        case atStart => exact ⟨cur, wc, [], _, 0, 0, none, rfl, by omega, HPS, HRD, Lib.hid (OwnRows.nil _ _ _), Lib.hid rfl, Lib.hid (Only.refl R wo)⟩
        case round =>
          obtain ⟨cu, wd1, ac, f3, m, c1, A1, rfl, hm, HPI, HRI, HOI, HM, HOO⟩ := hrel
          obtain ⟨s, hs, HB, hlt, p0, p1, f0, f1⟩ := HRI.out.cells
          have hsz : s.size = cu.length := by rw [← bsl_len, hs.out]
          rcases piecesB_steps HPI.out with ⟨hst, he⟩ | ⟨hst, f4, t1, r2, w4, h4, h5⟩
          · -- the end of a row
            simp only [Prod.mk.injEq] at he
            obtain ⟨e1, e2, e3⟩ := he
            subst e1; subst e2; subst e3
            have hpf := HPF.out.2
            simp only [List.flatten_nil, List.length_nil, Nat.mul_zero, Nat.add_zero] at hpf
            have hflat : ps.flatten.length ≤ 60000 := by omega
            have hRo := HRI.out.lt
            have HPT := Lib.hid (rd_put 2 _ wo.heap.size (R + 1) _ wr HOI.out (by omega) HPF.out.1 (by omega) (by omega))
            have HAR := Lib.hid (only_rows HOO.out HRD.out HOR.out)
            have HOO1 := Lib.hid (HON.out.step HOO.out)
            have hn1 : n ≤ 20000 := by omega
            have hcc : r1.length ≤ cur.length := by omega
            have hc0 : r1 = 124 :: r2 := isB_some HI124.out
            have E1 : s.toList.isEmpty = false := by rw [toList_bsl, hs.out, hc0]; rfl
            have h0 : 0 < s.size := by rw [hsz, hc0]; simp
            obtain ⟨hk0, hk1⟩ := bsl_at (s := s) (k := 0) (b := 124) (by rw [hs.out, hc0]; rfl)
            have T1 : (((s[0]'hk0).toNat : Int) == 124) = true := by rw [hk1]; rfl
            have T3 : (((s[0]'hk0).toNat : Int) != 124) = false := by rw [hk1]; rfl
            have T2 : (((s[0]'hk0).toNat : Int) == 41) = false := by rw [hk1]; rfl
            have T4 : (((s[0]'hk0).toNat : Int) != 41) = true := by rw [hk1]; rfl
            clear hst hc0 hpf hflat hk1
            go_wp2_with fail
            refine HPT.out.mono ?_
            rintro e w1 ⟨B, q, d, rfl, k1, k2⟩
            have K1 := Lib.hid k1; have K2 := Lib.hid k2
            obtain ⟨A', c', us, hv, ho, hr⟩ := rows_shape (rows_below HAR.out k2)
            injection hv with g1 g2 g3
            subst g1; subst g3; clear g2
            rw [HN.out] at ho
            have HO1 := Lib.hid ho; have HR1 := Lib.hid hr
            have HOA := Lib.hid (ho.alloc (.cells #[.slice B q d] TRL))
            have HSR := Lib.hid (Pv.Src.one (w := w1) (x := .slice B q d) (t := TRL) rfl)
            have HO2 := Lib.hid ((HOO1.out.then k2).alloc (.cells #[.slice B q d] TRL))
            have hz := HO2.out.size
            have Q1 : Hid (n + 1 ≤ maxLen) := Lib.hid (by simp only [maxLen]; omega)
            have Q2 : Hid ((n + 1) * 24 ≤ 140737488355328) := Lib.hid (by omega)
            have HRD1 := Lib.hid ((HRI.out.below k2).alloc (.cells #[.slice B q d] TRL))
            clear k1 k2 ho hr p0 p1 f0 f1 E1 T1 T2 T3 T4
            go_wp2_with (first
            | (at_builtin
               go_must (refine wpList_append_src _ rfl (.tmp 31) (.tmp 34) 125 rfl w.heap.size TRL i0 (.slice none 0 0) 1 24 Tryz.underlying125 hi0 hz0 hs0 hb0 rfl (by decide) A c n _ rfl HOA.out (some ⟨w1.heap.size, 0, none⟩) 1 1 _ rfl HSR.out Q1.out Q2.out hz ?_)
               intro A9 c9 w9 own9 gr9 _
               have HO9 := Lib.hid own9; have HG9 := Lib.hid gr9
               clear own9 gr9))
            have HRD9 := Lib.hid (HRD1.out.grown HOA.out (by decide) HG9.out)
            have HAR9 := Lib.hid (rows_push HO1.out HR1.out HN.out K1.out HO9.out HG9.out)
            have HO99 := Lib.hid (HO2.out.grown HG9.out (fun k hk => (HOA.out.lt k hk).1))
            have HIS := rd_is R _ _ 124 w9 HRD9.out
            rw [HI124.out] at HIS
            have HIS := Lib.hid HIS
            have HCU := Lib.hid (isB_some HI124.out)
            have HPL := Lib.hid (putB_len 2 ps HPF.out.1)
            have HL3 : Hid (∀ p, p ∈ acc ++ [putB 2 ps] → 1 ≤ p.length) := Lib.hid (fun p hp => by
              rcases List.mem_append.1 hp with hp | hp
              · exact HL1.out p hp
              · obtain rfl := List.mem_singleton.1 hp; exact HPL.out.1)
            have hr2 : r2.length + 1 ≤ cur.length := by
              have h1 : r1.length = r2.length + 1 := by rw [HCU.out]; rfl
              omega
            go_wp2_with fail
            refine HIS.out.mono ?_
            rintro e w5 ⟨rfl, k3, k4⟩
            simp only [Option.getD_some] at k3
            have K3 := Lib.hid k3; have K4 := Lib.hid (HO99.out.step k4)
            have HAR5 := Lib.hid (only_rows k4 HRD9.out HAR9.out)
            clear k3 k4
            go_wp2
            go_roundw
            case rel => exact ⟨r2, w3, _, f2, n + 1, c9, A9, rfl, by omega, by omega, HE, K3, HAR5, Lib.hid (by rw [List.length_append, HN.out]; rfl), K4, HL3⟩
            case measure =>
              show rdLen _ R < rdLen _ R
              rw [K3.out.len, HRD.out.len]
              omega
          · -- a piece
            obtain ⟨b, rr, hcu, hb1, hb2⟩ : ∃ b rr, cu = b :: rr ∧ b ≠ 124 ∧ b ≠ 41 := by
              cases cu with
              | nil => cases hst
              | cons b rr =>
                simp only [stopB, Bool.or_eq_false_iff, decide_eq_false_iff_not] at hst
                exact ⟨b, rr, rfl, hst.1, hst.2⟩
            subst hcu
            have h0 : 0 < s.size := by rw [hsz]; simp
            obtain ⟨hk0, hk1⟩ := bsl_at (s := s) (k := 0) (b := b) (by rw [hs.out]; rfl)
            have T1 : (((s[0]'hk0).toNat : Int) == 124) = false := by
              rw [hk1]; simp only [beq_eq_false_iff_ne, ne_eq]
              intro e; exact hb1 (UInt8.toNat_inj.1 (by simpa using (by omega : b.toNat = 124)))
            have T2 : (((s[0]'hk0).toNat : Int) == 41) = false := by
              rw [hk1]; simp only [beq_eq_false_iff_ne, ne_eq]
              intro e; exact hb2 (UInt8.toNat_inj.1 (by simpa using (by omega : b.toNat = 41)))
            have T3 : (((s[0]'hk0).toNat : Int) != 124) = true := by simp [bne, T1]
            have T4 : (((s[0]'hk0).toNat : Int) != 41) = true := by simp [bne, T2]
            have HPC0 := rd_pieceO HEO.out HRI.out (by omega) (by omega) (HT.out.only (HON.out.step HOO.out) hB HR.out) hB HG.out HF.out
            rw [h4] at HPC0
            have HPC : Hid (Calls Tryz.prog 75 #[.pointer (some ⟨R, 0, none⟩)] wr (RdP R wr t1 r2 w4)) := Lib.hid HPC0
            have hfw := pieceG_few HF.out h4
            clear HPC0
            have H5 := Lib.hid h5
            have E1 : s.toList.isEmpty = false := by rw [toList_bsl, hs.out]; rfl
            clear h4 h5 hst hk1 hb1 hb2
            have hm1 : m ≤ 20000 := by omega
            go_wp2_with fail
            refine HPC.out.mono ?_
            rintro e w1 ⟨B, q, d, rfl, k1, k2, k3⟩
            have K1 := Lib.hid k1; have K2 := Lib.hid k2
            have HOO1 := Lib.hid (HOO.out.step k3)
            obtain ⟨A', c', us, hv, ho, hr⟩ := rows_shape (only_rows k3 HRI.out HOI.out)
            injection hv with g1 g2 g3
            subst g1; subst g3; clear g2
            rw [HM.out] at ho
            have HO1 := Lib.hid ho; have HR1 := Lib.hid hr
            have HOA := Lib.hid (ho.alloc (.cells #[.slice B q d] TRL))
            have HSR := Lib.hid (Pv.Src.one (w := w1) (x := .slice B q d) (t := TRL) rfl)
            have hz := HOO1.out.size
            have hz2 : wo.heap.size ≤ (w1.alloc (.cells #[.slice B q d] TRL)).heap.size := by simp; omega
            have Q1 : Hid (m + 1 ≤ maxLen) := Lib.hid (by simp only [maxLen]; omega)
            have Q2 : Hid ((m + 1) * 24 ≤ 140737488355328) := Lib.hid (by omega)
            clear k1 k2 k3 ho hr p0 p1 f0 f1 T1 T2 T3 T4 E1
            go_wp2_with (first
            | (at_builtin
               go_must (refine wpList_append_src _ rfl (.tmp 26) (.tmp 29) 125 rfl wo.heap.size TRL i0 (.slice none 0 0) 1 24 Tryz.underlying125 hi0 hz0 hs0 hb0 rfl (by decide) A1 c1 m _ rfl HOA.out (some ⟨w1.heap.size, 0, none⟩) 1 1 _ rfl HSR.out Q1.out Q2.out hz2 ?_)
               intro A9 c9 w9 own9 gr9 _
               have HO9 := Lib.hid own9; have HG9 := Lib.hid gr9
               clear own9 gr9))
            have HRD9 := Lib.hid ((K2.out.alloc (.cells #[.slice B q d] TRL)).grown HOA.out (by decide) HG9.out)
            have hlen : r2.length < (b :: rr).length := by omega
            go_roundw
            case rel => exact ⟨r2, w4, ac ++ [t1], f4, m + 1, c9, A9, rfl, by simp only [List.length_cons] at hlen hm; omega, H5, HRD9, Lib.hid (rows_push HO1.out HR1.out HM.out K1.out HO9.out HG9.out), Lib.hid (by rw [List.length_append, HM.out]; rfl), Lib.hid ((HOO1.out.alloc _).grown HG9.out (fun k hk => (HOA.out.lt k hk).1))⟩
            case measure =>
              show rdLen _ R < rdLen _ R
              rw [HRD9.out.len, HRI.out.len]
              exact hlen

theorem rd_rowsG {g : Bs → Bool → Option PR} {F R B : Nat} (hE : EscOk R B) (hg : RowsG g F R B) (hf : FewG g) {l : Bs} {wd : Bool} {w : World} (h : RdS w R l wd) (hl : l.length ≤ 20000) (hFl : l.length ≤ F) (hT : TabV B w) (hB : B ≤ R) :
    Calls Tryz.prog 38 #[.pointer (some ⟨R, 0, none⟩)] w (RdO R w (altsB g (l.length + 1) l wd [])) := by
  cases ha : altsB g (l.length + 1) l wd [] with
  | none => exact rd_rowsN hE hg hf h ha (Nat.lt_succ_self _) hl hFl hT hB
  | some p =>
    obtain ⟨t, r, w2⟩ := p
    exact rd_rowsY hE hg hf h ha hl hFl hT hB
/-- The reader's rows, at any bytes. -/
theorem rows_all {R B : Nat} (hE : EscOk R B) (hB : B ≤ R) : ∀ f, RowsG (rowsB f) f R B
  | 0 => fun l wd w h => by omega
  | f + 1 => fun l wd w h hl hr hT => rd_rowsG hE (rows_all hE hB f) (rowsG_few f) hr hl (by omega) hT hB
end Go.Proofs.YtilhicefhhgecaaGreatDoor
