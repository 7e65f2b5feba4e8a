/- Walks: a set in new memory. -/
import Derived.Test.YtjnjbcigbnjmkaaMem4y
import Derived.Test.YtjnjbcigbnjmkaaTay
import Derived.Test.YtjnjbcigbnjmkaaW0y
namespace Go.Proofs.Ytjnjbcigbnjmkaa
open Go.RowKit Pv

theorem ownsRow_setNe {w : World} {b : Nat} {e : TypeId} {s n : Nat} {v : Value} {us : List Value} (h : w.ownsRow b e s v n us) {g : Nat} (hne : v.ownBlock ≠ some g) (i : Nat) (u : Value) :
    (w.setCell ⟨g, i, none⟩ u).ownsRow b e s v n us := by
  refine ⟨h.1, ?_⟩
  rcases h.2 with h2 | ⟨g', cap, cur, rfl, hg, hh, r⟩
  · exact .inl h2
  · have hgg : g' ≠ g := fun he => hne (by subst he; rfl)
    exact .inr ⟨g', cap, cur, rfl, hg, by rw [Below.heap_setCell _ _ _ _ (by simpa using hgg)]; exact hh, r⟩
theorem Src.many {w : World} {arr : Array Value} {t : TypeId} {size : Nat} (h : ∀ u ∈ arr.toList, u.oneCell' = true) (hs : arr.size = size) : Src (w.alloc (.cells arr t)) (some ⟨w.heap.size, 0, none⟩) size 1 arr.toList := by
  refine ⟨by simp [hs], h, fun _ => ⟨w.heap.size, 0, rfl, by simp, fun j u hu => ?_⟩⟩
  have := (Blk.new w t arr).cell (0 + j)
  rw [this, Nat.zero_add]
  simpa using hu

theorem info_range : (Try.prog.info? 61).map (fun i => (i.zero, i.size, i.bytes)) = some (some (.agg #[.int .i64 0, .int .i64 0]), 2, 16) := by kernel_rfl
theorem RRng.one {f : Nat → Value} {r : Rng} (h : RRng f r) : ∀ j, j < 2 → (f j).oneCell' = true := by
  intro j hj
  obtain ⟨⟨h0, _⟩, ⟨h1, _⟩⟩ := h
  match j, hj with
  | 0, _ => rw [h0]; rfl
  | 1, _ => rw [h1]; rfl
/-- A set in new memory of the call's own. -/
abbrev OwnSet (w : World) (base : Nat) (v : Value) (l : List Rng) : Prop := OwnK w base 61 2 RRng v l

set_option maxHeartbeats 1000000 in
theorem ref06_Twin (A : Option Addr) (c n : Nat) (l : List Rng) (w : World) (h : AtSet w A l) (HL : Hid (l.length = n)) (hn : n * 16 ≤ 140737488355328) :
    Calls Try.prog 59 #[.slice A n c] w fun e w' => ∃ B c', e = .returned (.slice B n c') ∧ OwnSet w' w.heap.size (.slice B n c') l ∧ Below w.heap.size w w' := by
  obtain ⟨i0, hi0, hz0, hs0, hb0⟩ := info_parts info_range
  obtain ⟨us, hr, src⟩ := AtK.src h (fun _ _ => RRng.one)
  rw [HL.out] at src
  have S1 := Lib.hid src; have R1 := Lib.hid hr
  clear src hr h
  go_enter Try.func59, Try.ntmps59
  go_wp2_with (at_builtin
               refine wpList_append_src _ rfl (.tmp 4) (.tmp 5) 57 rfl w.heap.size 61 i0 (.agg #[.int .i64 0, .int .i64 0]) 2 16 Try.underlying57 hi0 hz0 hs0 hb0 rfl (by decide) none 0 0 [] rfl (World.ownsRow_nil _ _ _ _) A n c us rfl S1.out (by simp only [maxLen]; omega) (by omega) (Nat.le_refl _) ?_
               intro A1 c1 w1 own1 gr1 _
               simp only [List.nil_append, Nat.zero_add] at own1
               have G1 := Lib.hid gr1; have O1 := Lib.hid own1
               clear gr1 own1)
  go_ret
  exact ⟨A1, c1, rfl, ⟨A1, c1, us, by rw [HL.out], by rw [HL.out]; exact O1.out, R1.out⟩, (Below.refl _ _).grown G1.out (Nat.le_refl _) (by simp [Value.ownBlock])⟩

end Go.Proofs.Ytjnjbcigbnjmkaa
