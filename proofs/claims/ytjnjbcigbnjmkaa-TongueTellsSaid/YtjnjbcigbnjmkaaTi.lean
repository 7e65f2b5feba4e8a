/- Walks: the document's answers on a pattern's language: In, Ends. -/
import Derived.Test.YtjnjbcigbnjmkaaTg
namespace Pv
open Go Go.RowKit

/-- The places of a set, rising. -/
noncomputable def upTo (S : Nat → Prop) (k : Nat) : List Int := ((List.range k).filter fun i => yes (S i)).map fun (i : Nat) => (i : Int)
theorem upTo_yes {S : Nat → Prop} {k : Nat} (h : S k) : upTo S (k + 1) = upTo S k ++ [(k : Int)] := by
  simp [upTo, List.range_succ, List.filter_append, yes_t h]
theorem upTo_no {S : Nat → Prop} {k : Nat} (h : ¬ S k) : upTo S (k + 1) = upTo S k := by
  simp [upTo, List.range_succ, List.filter_append, yes_f h]
theorem upTo_nil {S : Nat → Prop} {k : Nat} (h : ∀ i, i < k → ¬ S i) : upTo S k = [] := by
  induction k with
  | zero => rfl
  | succ k ih => rw [upTo_no (h k (by omega))]; exact ih fun i hi => h i (by omega)
theorem upTo_len (S : Nat → Prop) (k : Nat) : (upTo S k).length ≤ k := by
  have := List.length_filter_le (fun i => yes (S i)) (List.range k)
  simpa [upTo] using this
theorem upTo_mem {S : Nat → Prop} {k : Nat} {z : Int} : z ∈ upTo S k ↔ ∃ i : Nat, i < k ∧ S i ∧ z = (i : Int) := by
  simp only [upTo, List.mem_map, List.mem_filter, List.mem_range]
  constructor
  · rintro ⟨i, ⟨h1, h2⟩, h3⟩; exact ⟨i, h1, of_yes h2, h3.symm⟩
  · rintro ⟨i, h1, h2, h3⟩; exact ⟨i, ⟨h1, yes_t h2⟩, h3.symm⟩
/-- What In answers. -/
def BIn (t : List Rx) (pts : List Int) (r : Bool × Int) : Prop :=
  (¬ Pat t ∧ r = (false, 8)) ∨ (Pat t ∧ 1024 < pts.length ∧ r = (false, 4)) ∨ (Pat t ∧ pts.length ≤ 1024 ∧ ∃ T : Tr, T.Ok 16 ∧ t = T.flat ∧ r = (yes (spT pts T 0 pts.length), 0))
/-- What Ends answers. -/
def BEnds (t : List Rx) (pts : List Int) (at' : Int) (r : List Int × Int) : Prop :=
  (¬ Pat t ∧ r = ([], 8)) ∨ (Pat t ∧ 1024 < pts.length ∧ r = ([], 4)) ∨ (Pat t ∧ pts.length ≤ 1024 ∧ (at' < 0 ∨ (pts.length : Int) < at') ∧ r = ([], 2)) ∨
    (Pat t ∧ pts.length ≤ 1024 ∧ ∃ (T : Tr) (a : Nat), at' = a ∧ a ≤ pts.length ∧ T.Ok 16 ∧ t = T.flat ∧ r = (upTo (spT pts T a) (pts.length + 1), 0))
end Pv
namespace Go.Proofs.Ytjnjbcigbnjmkaa
open Go.RowKit Pv

/-- The error of a pattern and numbers. -/
noncomputable def askE (t : List Rx) (np : Nat) : Int := if patB t = true then (if 1024 < np then 4 else 0) else 8
set_option maxHeartbeats 1000000 in
set_option maxRecDepth 100000 in
theorem ref08_asked (tA : Option Addr) (nt ct : Nat) (t : List Rx) (pA : Option Addr) (np cp : Nat) (w : World) (ht : AtRx w tA t) (HT : Hid (t.length = nt)) (hnp : np ≤ 100000) :
    Calls Try.prog 69 #[.slice tA nt ct, .slice pA np cp] w fun e w' => e = .returned (.int .i64 (askE t np)) ∧ Below w.heap.size w w' := by
  have HM := Lib.hid (ref07_May tA ct nt t w ht HT)
  obtain ⟨b, hb⟩ : ∃ b, patB t = b := ⟨_, rfl⟩
  rw [hb] at HM
  cases b
  · have HA := Lib.hid (show (8 : Int) = askE t np by rw [askE, hb]; rfl)
    clear ht hb
    go_enter Try.func69, Try.ntmps69
    go_wp2_with fail
    refine HM.out.mono ?_
    rintro e w1 ⟨rfl, hb1⟩
    go_wp2
    go_ret
    exact ⟨ret_int HA.out, hb1⟩
  · by_cases hn : 1024 < np
    · have HA := Lib.hid (show (4 : Int) = askE t np by rw [askE, hb, if_pos rfl, if_pos hn])
      clear ht hb
      go_enter Try.func69, Try.ntmps69
      go_wp2_with fail
      refine HM.out.mono ?_
      rintro e w1 ⟨rfl, hb1⟩
      go_wp2
      go_ret
      exact ⟨ret_int HA.out, hb1⟩
    · have HA := Lib.hid (show (0 : Int) = askE t np by rw [askE, hb, if_pos rfl, if_neg hn])
      clear ht hb
      go_enter Try.func69, Try.ntmps69
      go_wp2_with fail
      refine HM.out.mono ?_
      rintro e w1 ⟨rfl, hb1⟩
      go_wp2
      go_ret
      exact ⟨ret_int HA.out, hb1⟩

set_option maxHeartbeats 1000000 in
set_option maxRecDepth 100000 in
theorem ref08_Is (tA : Option Addr) (nt ct : Nat) (pA : Option Addr) (np cp : Nat) (pts : List Int) (T : Tr) (w : World) (hn : np ≤ 1000) (HC : Hid (SpanC w tA nt ct pA np cp pts T 0)) :
    Calls Try.prog 70 #[.slice tA nt ct, .slice pA np cp] w fun e w' => e = .returned (.bool (yes (spT pts T 0 np))) ∧ Below w.heap.size w w' := by
  have HS := Lib.hid (HC.out w (Keep.refl w))
  go_enter Try.func70, Try.ntmps70
  go_wp2_with fail
  refine HS.out.mono ?_
  rintro e w1 ⟨g, rfl, hg, tb, hb⟩
  have c0 := tb.rowCell (i := 0) (by omega)
  have c1 := tb.cell (i := 0) (j := np) (by omega) (Nat.le_refl _)
  simp only [Nat.add_zero] at c0 c1
  have BB := Lib.hid hb
  have q1 : (0 : Int) < (np : Int) + 1 := by omega
  have q2 : (np : Int) < (np : Int) + 1 := by omega
  clear tb hb
  go_wp2
  go_ret
  exact ⟨rfl, BB.out⟩

set_option maxHeartbeats 1000000 in
set_option maxRecDepth 100000 in
theorem ref08_In (tA : Option Addr) (nt ct : Nat) (t : List Rx) (pA : Option Addr) (np cp : Nat) (pts : List Int) (w : World) (ht : AtRx w tA t) (HT : Hid (t.length = nt)) (hp : At w pA RI pts) (HP : Hid (pts.length = np)) (hnp : np ≤ 1000 ∨ (1024 < np ∧ np ≤ 100000)) :
    Calls Try.prog 29 #[.slice tA nt ct, .slice pA np cp] w fun e w' => Below w.heap.size w w' ∧ ∃ r, BIn t pts r ∧ e = .returned (.tuple #[.bool r.1, .int .i64 r.2]) := by
  have HA := Lib.hid (ref08_asked tA nt ct t pA np cp w ht HT (by omega))
  by_cases hpt : Pat t
  · by_cases hn : 1024 < np
    · rw [show askE t np = 4 by rw [askE, patB_yes hpt, if_pos rfl, if_pos hn]] at HA
      have HR := Lib.hid (show BIn t pts (false, 4) from .inr (.inl ⟨hpt, by rw [HP.out]; exact hn, rfl⟩))
      clear ht hp hpt
      go_enter Try.func29, Try.ntmps29
      go_wp2_with fail
      refine HA.out.mono ?_
      rintro e w1 ⟨rfl, hb1⟩
      go_wp2
      go_ret2
      exact ⟨hb1, (false, 4), HR.out, rfl⟩
    · rw [show askE t np = 0 by rw [askE, patB_yes hpt, if_pos rfl, if_neg hn]] at HA
      have hn1 : np ≤ 1000 := by omega
      have hnt : nt ≤ 64 := by have := hpt.2.1; rwa [HT.out] at this
      obtain ⟨T, hT, hfl⟩ := hpt.tree
      have HR := Lib.hid (show BIn t pts (yes (spT pts T 0 np), 0) from .inr (.inr ⟨hpt, by rw [HP.out]; omega, T, hT, hfl, by rw [HP.out]⟩))
      have HI := Lib.hid (fun (W : World) (k : Keep w W) => ref08_Is tA nt ct pA np cp pts T W hn1 (Lib.hid (spans_all W tA nt ct t pA np cp pts (AtRx.keep ht k) (hp.keep k) HP HT hnt hn1 16 (Nat.le_refl _) T 0 [] hT (by show T.flat.length ≤ 64; rw [← hfl, HT.out]; exact hnt) (by simp [hfl]))))
      clear ht hp hpt hT hfl
      generalize yes (spT pts T 0 np) = v at *
      go_enter Try.func29, Try.ntmps29
      go_wp2_with fail
      refine HA.out.mono ?_
      rintro e w1 ⟨rfl, hb1⟩
      have B1 := Lib.hid hb1
      clear hb1
      go_wp2_with fail
      refine (HI.out w1 (Keep.of B1.out)).mono ?_
      rintro e w2 ⟨rfl, hb2⟩
      have B2 := Lib.hid (B1.out.trans (hb2.mono B1.out.size))
      clear hb2
      go_wp2
      go_ret2
      exact ⟨B2.out, (v, 0), HR.out, rfl⟩
  · rw [show askE t np = 8 by rw [askE, patB_no hpt]; rfl] at HA
    have HR := Lib.hid (show BIn t pts (false, 8) from .inl ⟨hpt, rfl⟩)
    clear ht hp hpt
    go_enter Try.func29, Try.ntmps29
    go_wp2_with fail
    refine HA.out.mono ?_
    rintro e w1 ⟨rfl, hb1⟩
    go_wp2
    go_ret2
    exact ⟨hb1, (false, 8), HR.out, rfl⟩

end Go.Proofs.Ytjnjbcigbnjmkaa
