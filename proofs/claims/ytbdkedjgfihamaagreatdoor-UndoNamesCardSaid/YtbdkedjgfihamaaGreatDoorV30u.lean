/- Walks: a record twinned. PUT1 -/
import Derived.Test.YtbdkedjgfihamaaGreatDoorV27u
import Derived.Test.YtbdkedjgfihamaaGreatDoorV28u
import Derived.Test.YtbdkedjgfihamaaGreatDoorSvu
namespace Go.Proofs.YtbdkedjgfihamaaGreatDoor
open Go.RowKit Pv Go.Maps
theorem mk_cel (n : Nat) (hn : n ≤ 100000) : ∃ cs : Array Value, cs.size = n * 5 ∧ ∀ W, (Instr.makeSlice 30 (.int .i64 (n : Int)) (.int .i64 (n : Int))).run Tryz.prog W = .ok (.slice (some ⟨W.heap.size, 0, none⟩) n n) (W.alloc (.cells cs TCe)) := by
  obtain ⟨i0, hi0, hz0, hs0, hb0⟩ := info_parts info_cell
  refine ⟨madeCells (Value.agg #[.int .u8 0, .string ByteArray.empty, .string ByteArray.empty, .int .i64 0, .int .i64 0]).cells (n * 5), size_madeCells _ _, fun W => ?_⟩
  have h := run_makeSlice (P := Tryz.prog) W 30 TCe i0 _ Tryz.underlying30 hi0 hz0 .i64 .i64 n n (by omega) (Int.le_refl _) (by rw [hs0]; simp; omega) (by rw [hb0]; omega) (by omega)
  rw [hs0] at h
  simpa using h
theorem size_cel : (Tryz.prog.info? TCe).map (·.size) = some 5 := by kernel_rfl
set_option maxHeartbeats 4000000 in
set_option maxRecDepth 100000 in
theorem rec_twin (D : Option Addr) (c m : Nat) (r : Rec) (w : World) (h : AtCel w D r.data) (HL : Hid (r.data.length = m)) (hm : m ≤ 100000) :
    Calls Tryz.prog 70 #[.agg #[.string r.id, .slice D m c]] w fun e w' => ∃ g, e = .returned (.agg #[.string r.id, .slice (some ⟨g, 0, none⟩) m m]) ∧ OwnC w' w.heap.size (.slice (some ⟨g, 0, none⟩) m m) r.data ∧ Below w.heap.size w w' := by
  obtain ⟨cs, hcs, hmk⟩ := mk_cel m hm
  obtain ⟨us, hrl, hsrc⟩ := AtK.src h (fun _ _ => RCel.one)
  rw [HL.out] at hsrc
  have hba : Below w.heap.size w (((w.alloc (.cells #[.string r.id, .slice D m c] TRe)).alloc (.cells #[.string ⟨#[]⟩, .slice none 0 0] TRe)).alloc (.cells cs TCe)) := (((Below.refl _ _).alloc (Nat.le_refl _) _).alloc (by simp) _).alloc (by simp; omega) _
  obtain ⟨b0, b1, b2⟩ := blk3 w #[.string r.id, .slice D m c] #[.string ⟨#[]⟩, .slice none 0 0] cs TRe TRe TCe
  have HBA := Lib.hid hba
  have HSR := Lib.hid (hsrc.keep (Keep.of hba)); have HRL := Lib.hid hrl
  have HB0 := Lib.hid b0; have HB1 := Lib.hid b1; have HB2 := Lib.hid b2
  have HCS := Lib.hid hcs
  obtain ⟨wz, hcp, hrs⟩ := run_copy_full (P := Tryz.prog) 30 30 3 TCe 5 Tryz.underlying30 size_cel (w.heap.size + 1 + 1) m m c D cs TCe HB2.out HCS.out us HSR.out
  have p0 := b0.cell 0; have p1 := b0.cell 1; have l0 := b0.lt
  have HRS := Lib.hid hrs
  have HX0 := Lib.hid (hrs.far HB0.out (by omega)); have HX1 := Lib.hid (hrs.far HB1.out (by omega))
  have q0 := HX0.out.cell 0; have q1 := HX1.out.cell 0; have q2 := HX1.out.cell 1
  have f1 := HX1.out.frozen 0; have f2 := HX1.out.frozen 1
  have ql := HX0.out.lt; have ql1 := HX1.out.lt
  clear h hrl hsrc hba b0 b1 b2 hcs hrs
  go_enter Tryz.func70, Tryz.ntmps70
  go_wp2
  have he := (HX1.out.set 0 (.string r.id)).set 1 (.slice (some ⟨w.heap.size + 1 + 1, 0, none⟩) m m)
  have HE2 := (HRS.out.blk.far (p := ⟨w.heap.size + 1, 0, none⟩) (by simp) (.string r.id)).far (p := ⟨w.heap.size + 1, 1, none⟩) (by simp) (.slice (some ⟨w.heap.size + 1 + 1, 0, none⟩) m m)
  have hb := ((HRS.out.below HBA.out (by omega)).setCell (p := ⟨w.heap.size + 1, 0, none⟩) (by simp) (.string r.id)).setCell (p := ⟨w.heap.size + 1, 1, none⟩) (by simp) (.slice (some ⟨w.heap.size + 1 + 1, 0, none⟩) m m)
  have k0 := he.cell 0; have k1 := he.cell 1
  simp at k0 k1
  refine bodyPost_ret (v := .agg #[.string r.id, .slice (some ⟨w.heap.size + 1 + 1, 0, none⟩) m m]) (by simp [results, Tryz.results70, go_sem, k0, k1]) rfl ⟨w.heap.size + 1 + 1, rfl, ?_, hb⟩
  have ho := own_of_blk (base := w.heap.size) (n := m) (k := 5) HE2 (by omega) (by have := HSR.out.1; simpa using this) (by simp only [maxLen]; omega)
  exact ⟨_, m, us, by rw [HL.out], by rw [HL.out]; simpa using ho, HRL.out⟩
end Go.Proofs.YtbdkedjgfihamaaGreatDoor

namespace Go.Proofs.YtbdkedjgfihamaaGreatDoor
open Go.RowKit Pv Go.Maps
theorem rel_map_strs {l : List ByteArray} (h : ∀ s, s ∈ l → s.size ≤ 140737488355328) : Rel RStr (l.map Value.string) l := ⟨by simp, fun i u x hu hx => by
  rw [List.getElem?_map, hx] at hu
  obtain rfl := Option.some.inj hu
  exact ⟨rfl, h x (mem_of_get hx)⟩⟩
theorem At.strs {w : World} {A : Option Addr} {l : List ByteArray} (h : At w A RStr l) : ∀ s, s ∈ l → s.size ≤ 140737488355328 := fun s hs => by
  obtain ⟨i, hi⟩ := List.getElem?_of_mem hs
  obtain ⟨_, _, _, x, _, _, _, hx, hX⟩ := At.gt h (Lib.hid rfl) (lt_of_get hi)
  have := hX.out
  rw [hi] at this
  obtain rfl := Option.some.inj this
  exact hx.2
theorem clone_strs (A : Option Addr) (c n : Nat) (l : List ByteArray) (w : World) (h : At w A RStr l) (HL : Hid (l.length = n)) (hn : n ≤ 1000000) :
    Calls Tryz.prog 88 #[.slice A n c] w fun e w' => ∃ B k, e = .returned (.slice B n k) ∧ Own w' w.heap.size TSt RStr (.slice B n k) l ∧ Below w.heap.size w w' := by
  have hstr := At.strs h
  rcases Nat.eq_zero_or_pos n with h0 | h0
  · subst h0
    have hl : l = [] := List.eq_nil_of_length_eq_zero HL.out
    subst hl
    cases A with
    | none =>
      refine (Tryz.slices_Clone_string_nil 0 c w).mono ?_
      rintro e w' ⟨rfl, rfl⟩
      exact ⟨none, 0, rfl, Own.nil, Below.refl _ _⟩
    | some a =>
      refine (Tryz.slices_Clone_string_zero a c w).mono ?_
      rintro e w' ⟨v, rfl, ho, _, hb⟩
      rcases Go.Joins.ownsRow_forms ho with ⟨rfl, _⟩ | ⟨g, cap, rfl⟩
      · exact ⟨none, 0, rfl, Own.nil, hb⟩
      · exact ⟨some ⟨g, 0, none⟩, cap, rfl, ⟨_, cap, [], rfl, ho, Rel.nil⟩, hb⟩
  · obtain ⟨b, off, rfl, hb, hc⟩ := h.2 (by rw [HL.out]; exact h0)
    refine (Tryz.slices_Clone_string b off n c l w (by rw [HL.out]; exact Nat.le_refl _) (by omega) (fun j hj => ?_)).mono ?_
    · obtain ⟨u, hu, hR⟩ := hc j l[j] (List.getElem?_eq_getElem hj)
      rw [hu, hR.1, List.getD_eq_getElem?_getD, List.getElem?_eq_getElem hj]
      rfl
    · rintro e w' ⟨v, rfl, ho, _, hbl⟩
      obtain ⟨g, cap, rfl⟩ := Go.Joins.ownsRow_form ho h0
      rw [List.take_of_length_le (by rw [HL.out]; exact Nat.le_refl _)] at ho
      exact ⟨some ⟨g, 0, none⟩, cap, rfl, ⟨_, cap, _, by rw [HL.out], by rw [HL.out]; exact ho, rel_map_strs hstr⟩, hbl⟩
end Go.Proofs.YtbdkedjgfihamaaGreatDoor
