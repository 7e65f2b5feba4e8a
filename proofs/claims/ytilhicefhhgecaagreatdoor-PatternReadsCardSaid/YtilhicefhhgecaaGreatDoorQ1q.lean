/- The document's union and complement of sets: one with the joined ranges. Nothing of a program stands here. -/
import Derived.Test.YtilhicefhhgecaaGreatDoorRcq
import Derived.Test.YtilhicefhhgecaaGreatDoorP17q
import Derived.Test.YtilhicefhhgecaaGreatDoorFaq
import Derived.Test.YtilhicefhhgecaaGreatDoorTaq
namespace Pv
open Go Go.RowKit
/-- The classes that begin at some places. -/
def clsR : List Int → List Rng
  | [] => []
  | [p] => [⟨p, 1114111⟩]
  | p :: q :: r => ⟨p, q - 1⟩ :: clsR (q :: r)
theorem clsR_len : ∀ l : List Int, (clsR l).length = l.length
  | [] => rfl
  | [_] => rfl
  | _ :: q :: r => by rw [clsR, List.length_cons, clsR_len (q :: r)]; rfl
theorem clsR_get : ∀ (l : List Int) (i : Nat) (p : Int), l[i]? = some p → (clsR l)[i]? = some ⟨p, match l[i + 1]? with | some q => q - 1 | none => 1114111⟩
  | [], i, p, h => by simp at h
  | [x], i, p, h => by
    cases i with
    | zero => obtain rfl := Option.some.inj h; rfl
    | succ i => simp at h
  | x :: q :: r, i, p, h => by
    cases i with
    | zero => obtain rfl := Option.some.inj h; rfl
    | succ i =>
      have := clsR_get (q :: r) i p h
      rw [clsR, List.getElem?_cons_succ, this]
      rfl
/-- The set of all numbers of the classes that are told. -/
def setF (f : Int → Bool) (l : List Int) : List Rng := joinR ((clsR l).filter fun x => f x.lo)
theorem clsR_ok : ∀ {l : List Int}, l.Pairwise (· < ·) → (∀ p, p ∈ l → p ≤ 1114111) → (clsR l).Pairwise (fun a b => a.hi < b.lo) ∧ (∀ x, x ∈ clsR l → x.lo ≤ x.hi ∧ x.lo ∈ l ∧ x.hi ≤ 1114111 ∧ ∀ q, q ∈ l → ¬ (x.lo < q ∧ q ≤ x.hi)) ∧ (∀ p, InR (clsR l) p ↔ ∃ a, l.head? = some a ∧ a ≤ p ∧ p ≤ 1114111)
  | [], _, _ => ⟨List.Pairwise.nil, fun _ h => by simp [clsR] at h, fun p => ⟨fun h => absurd h InR.nil, fun ⟨_, h, _⟩ => by simp at h⟩⟩
  | [a], _, h => by
    refine ⟨by simp [clsR], fun x hx => ?_, fun p => ?_⟩
    · simp only [clsR, List.mem_singleton] at hx
      subst hx
      have := h a (by simp)
      refine ⟨this, by simp, by simp, fun q hq => ?_⟩
      simp only [List.mem_singleton] at hq
      simp only
      omega
    · rw [clsR, InR.cons]
      simp [InR.nil]
  | a :: b :: r, hp, h => by
    obtain ⟨h1, h2⟩ := List.pairwise_cons.1 hp
    obtain ⟨k1, k2, k3⟩ := clsR_ok h2 fun p hp => h p (List.mem_cons_of_mem _ hp)
    have hab := h1 b (by simp)
    have hb := h b (by simp)
    have hge : ∀ q, q ∈ b :: r → b ≤ q := fun q hq => by
      rcases List.mem_cons.1 hq with rfl | hq
      · omega
      · have := (List.pairwise_cons.1 h2).1 q hq; omega
    refine ⟨?_, fun x hx => ?_, fun p => ?_⟩
    · rw [clsR, List.pairwise_cons]
      refine ⟨fun x hx => ?_, k1⟩
      have := hge _ (k2 x hx).2.1
      simp only
      omega
    · rw [clsR, List.mem_cons] at hx
      rcases hx with rfl | hx
      · refine ⟨by simp only; omega, by simp, by simp only; omega, fun q hq => ?_⟩
        simp only
        rcases List.mem_cons.1 hq with rfl | hq
        · omega
        · have := hge q hq; omega
      · obtain ⟨e1, e2, e3, e4⟩ := k2 x hx
        refine ⟨e1, List.mem_cons_of_mem _ e2, e3, fun q hq => ?_⟩
        rcases List.mem_cons.1 hq with rfl | hq
        · have := hge _ e2; omega
        · exact e4 q hq
    · rw [clsR, InR.cons, k3]
      simp only [List.head?_cons, Option.some.injEq, exists_eq_left']
      omega
theorem setF_ok {f : Int → Bool} {l : List Int} (hl : l.Pairwise (· < ·)) (hm : ∀ p, p ∈ l → p ≤ 1114111) (h0 : l.head? = some 0) (hc : ∀ a p, a ≤ p → p ≤ 1114111 → (∀ q, q ∈ l → ¬ (a < q ∧ q ≤ p)) → f a = f p) :
    Nrm (setF f l) ∧ ∀ p, InR (setF f l) p ↔ 0 ≤ p ∧ p ≤ 1114111 ∧ f p = true := by
  obtain ⟨k1, k2, k3⟩ := clsR_ok hl hm
  have hu : UpR ((clsR l).filter fun x => f x.lo) := by
    have h1 : (clsR l).Pairwise (fun a b => a.lo ≤ b.lo) := k1.imp_of_mem fun {a b} ha hb h => by have := (k2 a ha).1; omega
    exact h1.sublist List.filter_sublist
  have hx : ∀ x, x ∈ ((clsR l).filter fun x => f x.lo) → x.lo ≤ x.hi := fun x hx => (k2 x (List.mem_filter.1 hx).1).1
  obtain ⟨r1, r2⟩ := joinR_ok hu hx
  refine ⟨r1, fun p => ?_⟩
  unfold setF
  rw [r2]
  constructor
  · rintro ⟨x, hx, h3, h4⟩
    obtain ⟨hx, hf⟩ := List.mem_filter.1 hx
    obtain ⟨e1, e2, e3, e4⟩ := k2 x hx
    have hin := (k3 p).1 ⟨x, hx, h3, h4⟩
    rw [h0] at hin
    obtain ⟨a, ha, h5, h6⟩ := hin
    obtain rfl := Option.some.inj ha
    refine ⟨h5, h6, ?_⟩
    rw [← hc x.lo p h3 h6 fun q hq hh => e4 q hq ⟨hh.1, by omega⟩]
    exact hf
  · rintro ⟨h3, h4, hf⟩
    obtain ⟨x, hx, h5, h6⟩ := (k3 p).2 ⟨0, h0, h3, h4⟩
    obtain ⟨e1, e2, e3, e4⟩ := k2 x hx
    refine ⟨x, List.mem_filter.2 ⟨hx, ?_⟩, h5, h6⟩
    rw [hc x.lo p h5 h4 fun q hq hh => e4 q hq ⟨hh.1, by omega⟩]
    exact hf
/-- Is a number of a set? -/
noncomputable def hasB (a : List Rng) (p : Int) : Bool := yes (InSet a p)
theorem inset_iff {a : List Rng} {p : Int} : InSet a p ↔ InR a p := by
  constructor
  · rintro ⟨i, x, h1, h2⟩
    exact ⟨x, List.mem_of_getElem? h1, h2⟩
  · rintro ⟨x, hx, h2⟩
    obtain ⟨i, hi⟩ := List.getElem?_of_mem hx
    exact ⟨i, x, hi, h2⟩
/-- Between places no set turns. -/
theorem has_const {S : List (List Rng)} {s : List Rng} (hs : s ∈ S) {a p : Int} (h0 : 0 ≤ a) (hap : a ≤ p) (hp : p ≤ 1114111) (hq : ∀ q, q ∈ plcL S → ¬ (a < q ∧ q ≤ p)) : hasB s a = hasB s p := by
  have key : ∀ r, r ∈ s → ¬ (a < r.lo ∧ r.lo ≤ p) ∧ ¬ (a < r.hi + 1 ∧ r.hi + 1 ≤ p) := fun r hr => by
    refine ⟨fun h => ?_, fun h => ?_⟩
    · exact hq r.lo (plcL_mem.2 ⟨.inr ⟨s, hs, r, hr, .inl rfl⟩, by omega⟩) h
    · exact hq (r.hi + 1) (plcL_mem.2 ⟨.inr ⟨s, hs, r, hr, .inr rfl⟩, by omega⟩) h
  have hiff : InSet s a ↔ InSet s p := by
    rw [inset_iff, inset_iff]
    constructor
    · rintro ⟨r, hr, h1, h2⟩
      have := key r hr
      exact ⟨r, hr, by omega, by omega⟩
    · rintro ⟨r, hr, h1, h2⟩
      have := key r hr
      exact ⟨r, hr, by omega, by omega⟩
  unfold hasB
  by_cases h : InSet s a
  · rw [yes_t h, yes_t (hiff.1 h)]
  · rw [yes_f h, yes_f (fun h' => h (hiff.2 h'))]
/-- What made tells. -/
noncomputable def madeR (a b : List Rng) (g : Bool → Bool → Bool) : List Rng := setF (fun p => g (hasB a p) (hasB b p)) (plcL [a, b])
theorem madeR_ok {a b : List Rng} {g : Bool → Bool → Bool} (ha : RngsOk a) (hb : RngsOk b) : Nrm (madeR a b g) ∧ ∀ p, InR (madeR a b g) p ↔ 0 ≤ p ∧ p ≤ 1114111 ∧ g (hasB a p) (hasB b p) = true := by
  have hr := plcL_rise [a, b]
  have hm : ∀ p, p ∈ plcL [a, b] → p ≤ 1114111 := fun p hp => (plcL_mem.1 hp).2
  have h0 : ∀ p, p ∈ plcL [a, b] → 0 ≤ p := fun p hp => by
    rcases (plcL_mem.1 hp).1 with rfl | ⟨s, hs, r, hrr, h⟩
    · omega
    · have : 0 ≤ r.lo ∧ r.lo ≤ r.hi := by
        rcases List.mem_cons.1 hs with rfl | hs
        · exact ⟨(ha r hrr).1, (ha r hrr).2.1⟩
        · obtain rfl : s = b := by simpa using hs
          exact ⟨(hb r hrr).1, (hb r hrr).2.1⟩
      omega
  have hz : (0 : Int) ∈ plcL [a, b] := plcL_mem.2 ⟨.inl rfl, by omega⟩
  have hh : (plcL [a, b]).head? = some 0 := by
    cases hl : plcL [a, b] with
    | nil => rw [hl] at hz; cases hz
    | cons x l =>
      rw [hl] at hr hz
      have hx := h0 x (by rw [hl]; simp)
      rcases List.mem_cons.1 hz with rfl | hz
      · rfl
      · have := (List.pairwise_cons.1 hr).1 0 hz
        omega
  have hc : ∀ x p, x ≤ p → p ≤ 1114111 → (∀ q, q ∈ plcL [a, b] → ¬ (x < q ∧ q ≤ p)) → g (hasB a x) (hasB b x) = g (hasB a p) (hasB b p) := by
    intro x p hxp hp hq
    by_cases hx0 : 0 ≤ x
    · rw [has_const (S := [a, b]) (s := a) (by simp) hx0 hxp hp hq, has_const (S := [a, b]) (s := b) (by simp) hx0 hxp hp hq]
    · by_cases hp0 : 0 ≤ p
      · exact absurd ⟨by omega, hp0⟩ (hq 0 hz)
      · have e : ∀ (s : List Rng), RngsOk s → ∀ y : Int, y < 0 → hasB s y = false := fun s hs y hy => yes_f fun h => by
          obtain ⟨r, hr, h1, h2⟩ := inset_iff.1 h
          have := (hs r hr).1
          omega
        rw [e a ha x (by omega), e a ha p (by omega), e b hb x (by omega), e b hb p (by omega)]
  exact setF_ok hr hm hh hc
/-- The joined ranges. -/
def joinS (l : List Rng) : List Rng := joinR (sortR l)
theorem joinS_ok {l : List Rng} (hl : RngsOk l) : Nrm (joinS l) ∧ ∀ p, InR (joinS l) p ↔ InR l p := by
  obtain ⟨h1, h2⟩ := sortR_ok l
  obtain ⟨h3, h4⟩ := joinR_ok h1 fun x hx => (hl x (h2.mem_iff.1 hx)).2.1
  exact ⟨h3, fun p => (h4 p).trans (InR.perm h2)⟩
theorem inr_bd {l : List Rng} (hl : RngsOk l) {p : Int} (h : InR l p) : 0 ≤ p ∧ p ≤ 1114111 := by
  obtain ⟨x, hx, h1, h2⟩ := h
  have := hl x hx
  omega
theorem Nrm.rngs {l : List Rng} (h : Nrm l) (hb : ∀ p, InR l p → 0 ≤ p ∧ p ≤ 1114111) : RngsOk l := fun x hx => by
  have h1 := h.2 x hx
  have h2 := hb x.lo ⟨x, hx, by omega, h1⟩
  have h3 := hb x.hi ⟨x, hx, h1, by omega⟩
  omega
theorem joinS_rngs {l : List Rng} (hl : RngsOk l) : RngsOk (joinS l) := by
  obtain ⟨h1, h2⟩ := joinS_ok hl
  exact h1.rngs fun p hp => inr_bd hl ((h2 p).1 hp)
theorem has_iff {a : List Rng} {p : Int} : hasB a p = true ↔ InR a p := by
  rw [← inset_iff]
  exact ⟨of_yes, yes_t⟩
/-- The union. -/
theorem union_join {l m : List Rng} (hl : RngsOk l) (hm : RngsOk m) : madeR (joinS l) m (fun x y => x || y) = joinS (l ++ m) := by
  have hj := joinS_rngs hl
  obtain ⟨h1, h2⟩ := madeR_ok (g := fun x y => x || y) hj hm
  obtain ⟨h3, h4⟩ := joinS_ok (hl.app hm)
  refine Nrm.ext h1 h3 fun p => ?_
  rw [h2, h4, InR.app, Bool.or_eq_true, has_iff, has_iff, (joinS_ok hl).2]
  constructor
  · rintro ⟨_, _, h⟩; exact h
  · intro h
    have : 0 ≤ p ∧ p ≤ 1114111 := h.elim (inr_bd hl) (inr_bd hm)
    exact ⟨this.1, this.2, h⟩
theorem oth_step : ∀ (l : List Rng) (b : Int) (o : List Rng), Nrm l → (∀ x, x ∈ l → b ≤ x.lo ∧ x.hi ≤ 1114111) → 0 ≤ b → b ≤ 1114112 → Nrm o → (∀ x, x ∈ o → x.hi + 2 ≤ b) →
    Nrm ((l ++ [Rng.mk 1114112 0]).foldl oth1 (b, o)).2 ∧ ∀ p, InR ((l ++ [Rng.mk 1114112 0]).foldl oth1 (b, o)).2 p ↔ InR o p ∨ (b ≤ p ∧ p ≤ 1114111 ∧ ¬ InR l p)
  | [], b, o, _, _, h0, h1, ho, hb => by
    simp only [List.nil_append, List.foldl_cons, List.foldl_nil, oth1]
    by_cases h : b < 1114112
    · rw [if_pos h]
      refine ⟨⟨?_, fun x hx => ?_⟩, fun p => ?_⟩
      · rw [List.pairwise_append]
        refine ⟨ho.1, by simp, fun x hx y hy => ?_⟩
        obtain rfl : y = ⟨b, 1114111⟩ := by simpa using hy
        exact hb x hx
      · rcases List.mem_append.1 hx with hx | hx
        · exact ho.2 x hx
        · obtain rfl : x = ⟨b, 1114111⟩ := by simpa using hx
          simp only; omega
      · rw [InR.app, InR.cons]
        simp [InR.nil]
    · rw [if_neg h]
      refine ⟨ho, fun p => ?_⟩
      constructor
      · exact .inl
      · rintro (h2 | ⟨h2, h3, _⟩)
        · exact h2
        · omega
  | x :: l, b, o, hl, hx, h0, h1, ho, hb => by
    obtain ⟨e1, e2⟩ := hx x (by simp)
    have e3 := hl.2 x (by simp)
    rw [List.cons_append, List.foldl_cons]
    have hn : Nrm (oth1 (b, o) x).2 ∧ (∀ y, y ∈ (oth1 (b, o) x).2 → y.hi + 2 ≤ x.hi + 1) ∧ ∀ p, InR (oth1 (b, o) x).2 p ↔ InR o p ∨ (b ≤ p ∧ p < x.lo) := by
      simp only [oth1]
      by_cases h : b < x.lo
      · rw [if_pos h]
        refine ⟨⟨?_, fun y hy => ?_⟩, fun y hy => ?_, fun p => ?_⟩
        · rw [List.pairwise_append]
          refine ⟨ho.1, by simp, fun y hy z hz => ?_⟩
          obtain rfl : z = ⟨b, x.lo - 1⟩ := by simpa using hz
          exact hb y hy
        · rcases List.mem_append.1 hy with hy | hy
          · exact ho.2 y hy
          · obtain rfl : y = ⟨b, x.lo - 1⟩ := by simpa using hy
            simp only; omega
        · rcases List.mem_append.1 hy with hy | hy
          · have := hb y hy; omega
          · obtain rfl : y = ⟨b, x.lo - 1⟩ := by simpa using hy
            simp only; omega
        · rw [InR.app, InR.cons]
          simp only [InR.nil, or_false]
          exact or_congr Iff.rfl ⟨fun h => by omega, fun h => by omega⟩
      · rw [if_neg h]
        refine ⟨ho, fun y hy => by have := hb y hy; omega, fun p => ?_⟩
        constructor
        · exact .inl
        · rintro (h2 | ⟨h2, h3⟩)
          · exact h2
          · omega
    obtain ⟨n1, n2, n3⟩ := hn
    have hfar : ∀ y, y ∈ l → x.hi + 1 ≤ y.lo ∧ y.hi ≤ 1114111 := fun y hy => by
      have := (List.pairwise_cons.1 hl.1).1 y hy
      exact ⟨by omega, (hx y (by simp [hy])).2⟩
    have hpair : oth1 (b, o) x = (x.hi + 1, (oth1 (b, o) x).2) := rfl
    rw [hpair]
    obtain ⟨r1, r2⟩ := oth_step l (x.hi + 1) _ hl.tail hfar (by omega) (by omega) n1 n2
    refine ⟨r1, fun p => ?_⟩
    rw [r2, n3, InR.cons]
    have hlp : InR l p → x.hi + 1 ≤ p := fun h => by
      obtain ⟨y, hy, h2, _⟩ := h
      have := hfar y hy
      omega
    by_cases hp : InR l p
    · have := hlp hp
      simp only [hp, not_true_eq_false, and_false, or_false, or_true]
      constructor
      · rintro (h2 | h2)
        · exact h2
        · omega
      · exact .inl
    · simp only [hp, not_false_eq_true, and_true, or_false]
      by_cases h9 : InR o p
      · simp only [h9, true_or]
      · simp only [h9, false_or]
        omega
/-- The complement. -/
theorem other_join {l : List Rng} (hl : RngsOk l) : madeR (joinS l) [] (fun x _ => !x) = othR (joinS l) := by
  have hj := joinS_rngs hl
  obtain ⟨n1, _⟩ := joinS_ok hl
  obtain ⟨h1, h2⟩ := madeR_ok (g := fun x _ => !x) hj (b := []) (fun x hx => by cases hx)
  obtain ⟨h3, h4⟩ := oth_step (joinS l) 0 [] n1 (fun x hx => by have := hj x hx; omega) (by omega) (by omega) ⟨List.Pairwise.nil, fun x hx => by cases hx⟩ (fun x hx => by cases hx)
  refine Nrm.ext h1 h3 fun p => ?_
  have h5 : InR (othR (joinS l)) p ↔ _ := h4 p
  rw [h2, h5]
  have h6 : (!hasB (joinS l) p) = true ↔ ¬ InR (joinS l) p := by
    rw [← has_iff]
    cases hasB (joinS l) p <;> simp
  rw [h6]
  constructor
  · rintro ⟨a, b, c⟩; exact .inr ⟨a, b, c⟩
  · rintro (h | ⟨a, b, c⟩)
    · exact absurd h InR.nil
    · exact ⟨a, b, c⟩
end Pv
