/- Walks: a set cloned. -/
import Derived.Test.YtjnjbcigbnjmkaaAm
import Derived.Lib.SliceRun
namespace Go.Proofs.Ytjnjbcigbnjmkaa
open Go.RowKit Pv

theorem own_emptyK (w : World) (base : Nat) (e : TypeId) (k n : Nat) (hn : n = w.heap.size) (hb : base ≤ n) : (w.alloc (.cells #[] e)).ownsRow base e k (.slice (some ⟨n, 0, none⟩) 0 0) 0 [] := by
  subst hn
  exact ⟨by simp, .inr ⟨w.heap.size, 0, #[], rfl, hb, by show (w.heap.push _)[w.heap.size]? = _; simp, Nat.le_refl _, by simp only [maxLen]; omega, by simp, by simp⟩⟩

set_option maxHeartbeats 1000000 in
set_option maxRecDepth 100000 in
theorem slices_Clone_rng (A : Option Addr) (c n : Nat) (l : List Rng) (w : World) (h : AtSet w A l) (HL : Hid (l.length = n)) (hn : n ≤ 1000000) :
    Calls Try.prog 109 #[.slice A n c] w fun e w' => ∃ B c', e = .returned (.slice B n c') ∧ OwnSet w' w.heap.size (.slice B n c') l ∧ Below w.heap.size w w' := by
  have hnil := fun (W : World) (a : Option Addr) (n c : Nat) => Lib.run_eql_slice_nil (P := Try.prog) W 57 61 a n c 0 0 Try.underlying57
  obtain ⟨i0, hi0, hz0, hs0, hb0⟩ := info_parts info_range
  cases A with
  | none =>
    have hn0 : n = 0 := by
      rcases Nat.eq_zero_or_pos n with h0 | h0
      · exact h0
      · obtain ⟨b, o, e, _⟩ := h.2 (by rw [HL.out]; exact h0)
        cases e
    subst hn0
    have hl : l = [] := List.eq_nil_of_length_eq_zero HL.out
    subst hl
    clear h
    go_enter Try.func109, Try.ntmps109
    go_wp2
    go_ret
    exact ⟨none, 0, rfl, OwnK.nil, Below.refl _ _⟩
  | some ad =>
    obtain ⟨us, hr, src⟩ := AtK.src h (fun _ _ => RRng.one)
    rw [HL.out] at src
    have hba : Below w.heap.size w (w.alloc (.cells #[] TRng)) := (Below.refl _ _).alloc (Nat.le_refl _) _
    have S1 := Lib.hid (src.keep (Keep.of hba)); have R1 := Lib.hid hr
    have OW := Lib.hid (own_emptyK w w.heap.size TRng 2 w.heap.size rfl (Nat.le_refl _))
    have HB := Lib.hid hba
    have Q1 : Hid (0 + n ≤ maxLen) := Lib.hid (by simp only [maxLen]; omega)
    have Q2 : Hid ((0 + n) * 16 ≤ 140737488355328) := Lib.hid (by omega)
    clear src hr h hba
    go_enter Try.func109, Try.ntmps109
    go_wp2_with (at_builtin
                 go_must (refine wpList_append_src _ rfl (.tmp 5) (.tmp 6) 57 rfl w.heap.size TRng i0 (.agg #[.int .i64 0, .int .i64 0]) 2 16 Try.underlying57 hi0 hz0 hs0 hb0 rfl (by decide) (some ⟨w.heap.size, 0, none⟩) 0 0 [] rfl OW.out (some ad) n c us rfl S1.out Q1.out Q2.out HB.out.size ?_)
                 intro A1 c1 w1 own1 gr1 _
                 simp only [List.nil_append, Nat.zero_add] at own1
                 have G1 := Lib.hid (HB.out.grown gr1 HB.out.size (fun g hg => (OW.out.lt g hg).1)); have O1 := Lib.hid own1
                 clear gr1 own1)
    go_ret
    exact ⟨A1, c1, by simp, ⟨A1, c1, us, by rw [HL.out], by rw [HL.out]; exact O1.out, R1.out⟩, G1.out⟩

end Go.Proofs.Ytjnjbcigbnjmkaa
