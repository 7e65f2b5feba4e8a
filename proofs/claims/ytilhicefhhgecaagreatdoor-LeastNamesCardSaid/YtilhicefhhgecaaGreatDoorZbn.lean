/- Walks: a set of states as a rising list, out of a map's keys (the program's). -/
import Derived.Test.YtilhicefhhgecaaGreatDoorSln
import Derived.Test.YtilhicefhhgecaaGreatDoorGen
import Derived.Test.YtilhicefhhgecaaGreatDoorDfan
import Derived.Test.YtilhicefhhgecaaGreatDoorChecked
import Derived.WalkKit
import Derived.WalkSpells
import Derived.WalkLawsBesides
import Derived.Deep.QuietTactic
import Derived.BigQuiet
import Derived.Lib.Hide
import Derived.Outline
import Derived.Maps.RangeWalk
namespace Go.Proofs.YtilhicefhhgecaaGreatDoor
open Go.RowKit Go.Maps Go.Sort Go.Shelf Pv

theorem sorts_ints (m : Nat) : AnyZI.SortsIn Tryz.prog Tryz.sortedA_ren Fence.wide m :=
  ⟨fun blk off cap ss W hH hblk hsz => callsIn_wide.2 (AnyM.slices_Sort_int Tryz.sortA blk off cap ss W hH hblk hsz),
   fun p cap W => callsIn_wide.2 (AnyM.slices_Sort_int_none Tryz.sortA p cap W)⟩

set_option maxHeartbeats 1000000 in
theorem auto_list0 {H : Type} (b nn : Nat) (D0 : DataW H) (R : Value → Option (DataW H × List MemPlace)) (w : World) (hown : w.ownsMap Tryz.prog 3 R b nn D0) (hmax : Maps.size D0 ≤ maxLen) (hbytes : Maps.size D0 * 8 ≤ 140737488355328) :
    Calls Tryz.prog 127 #[.map (some b)] w fun e w' => ∃ (v : Value) (ss : List Int), e = .returned v ∧ ss.Perm (intKeys D0) ∧
      w'.ownsRow w.heap.size 3 1 v ss.length ((ss.mergeSort (fun x y => decide (x ≤ y))).map encZ) ∧ (v = .slice none 0 0 ↔ ss = []) ∧ Below w.heap.size w w' := by
  refine (callsIn_wide (n := 6)).1 ?_
  have hbl := hown.lt
  have hseq : SeqGives Fence.wide 2 Tryz.prog 204 #[.pointer (some ⟨w.heap.size, 0, none⟩)] encZ (fun ss => ss.Perm (intKeys D0)) (Maps.size D0) (w.alloc (.cells #[.map (some b)] 186)) :=
    AnyZI.keys_gives (ρ := Tryz.keysA_ren) { Tryz.keysA with } Fence.wide _ trivial rfl (by omega) w.heap.size b nn D0 _ (by simp) (by simp) (by
      obtain ⟨es, clock, hb, Ft, hs, hD⟩ := hown
      exact ⟨es, clock, (Below.heap_alloc _ _ b hbl).trans hb, Ft, hs, hD⟩)
  have cK : ∀ mb W, CallsIn Fence.wide 5 Tryz.prog 170 #[.map mb] W fun e w' => e = .returned (.func (.func 204) #[] #[.pointer (some ⟨W.heap.size, 0, none⟩)]) ∧ w' = W.alloc (.cells #[.map mb] 186) := fun mb W => AnyZI.keys_in Tryz.keysA Fence.wide 5 trivial rfl mb W
  have cS := AnyZI.sorted_in Tryz.sortedA Fence.wide 5 trivial trivial trivial trivial rfl (by omega) (sorts_ints _) (enters_of Tryz.func58 (by kernel_rfl) rfl) 204 #[.pointer (some ⟨w.heap.size, 0, none⟩)] trivial (enters_of Tryz.func204 (by kernel_rfl) rfl) _ _ hmax hbytes _ hseq
  change CallsIn _ _ Tryz.prog 169 _ _ _ at cS
  have hfK : Fence.wide.fn 170 := trivial
  have hfS : Fence.wide.fn 169 := trivial
  refine callsIn_of_wp Tryz.func127 rfl trivial ?_ rfl
  simp only [Tryz.ntmps127, List.size_toArray, List.length_cons, List.length_nil, Nat.reduceAdd, Nat.reduceSub, Array.replicate_succ, Array.replicate_zero, List.push_toArray, List.append_toArray, List.nil_append, List.cons_append]
  gi_wp2_with (first
    | (gi_at_call 170; refine (cK _ _).mono ?_; rintro e w' ⟨rfl, rfl⟩)
    | (gi_at_call 169; refine cS.mono ?_; rintro e w' ⟨v, ss, rfl, hS, hrow, hnil, hb⟩))
  go_ret
  exact ⟨v, ss, rfl, hS, ownsRow_base_a hrow (by simp), hnil, ((Below.refl _ w).alloc (Nat.le_refl _) _).trans (hb.mono (by simp))⟩

/-- A list of ints that the call made. -/
abbrev OwnI (w : World) (base : Nat) (v : Value) (l : List Int) : Prop := ∃ A c, v = .slice A l.length c ∧ w.ownsRow base 3 1 (.slice A l.length c) l.length (l.map (Value.int .i64))
theorem auto_list {n : Nat} {S : Nat → Prop} (b nn : Nat) (l : List Int) (w : World) (hown : w.ownsMap Tryz.prog 3 unitElem b nn (setM l)) (hl : l.length ≤ 10000000000) (h : ∀ x, x ∈ l ↔ x ∈ stL n S) :
    Calls Tryz.prog 127 #[.map (some b)] w fun e w' => ∃ v, e = .returned v ∧ OwnI w' w.heap.size v (stL n S) ∧ Below w.heap.size w w' := by
  have hz := setM_size l
  refine (auto_list0 b nn (setM l) unitElem w hown (by unfold maxLen; omega) (by omega)).mono fun e w' ⟨v, ss, h1, h2, h3, _, h5⟩ => ⟨v, h1, ?_, h5⟩
  have h6 := setM_sorted h h2
  rw [h6] at h3
  have h7 : ss.length = (stL n S).length := by rw [← h6]; exact (List.mergeSort_perm _ _).length_eq.symm
  rw [h7] at h3
  rcases h3.2 with ⟨e1, e2⟩ | ⟨g, cap, cur, e1, r⟩
  · exact ⟨none, 0, by rw [e1, e2], by rw [e2] at h3 ⊢; rw [e1] at h3; exact h3⟩
  · exact ⟨_, _, e1, by rw [← e1]; exact h3⟩
end Go.Proofs.YtilhicefhhgecaaGreatDoor
