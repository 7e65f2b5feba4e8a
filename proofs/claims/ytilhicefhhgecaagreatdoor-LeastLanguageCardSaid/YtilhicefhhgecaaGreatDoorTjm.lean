/- Walks: tables of places (the document's): of nothing, from each place to itself. -/
import Derived.Test.YtilhicefhhgecaaGreatDoorTbm
import Derived.Test.YtilhicefhhgecaaGreatDoorBam
import Derived.Test.YtilhicefhhgecaaGreatDoorHsm
import Derived.Test.YtilhicefhhgecaaGreatDoorQvm
import Derived.Deep.OwnRows
import Derived.StillTailTactics
import Derived.Lib.SliceRun
namespace Go.Proofs.YtilhicefhhgecaaGreatDoor
open Go.RowKit Pv

theorem info_bool : (Tryz.prog.info? 4).map (fun i => (i.zero, i.size, i.bytes)) = some (some (.bool false), 1, 1) := by kernel_rfl
theorem blk_five {w : World} {g : Nat} {t : TypeId} {a b c d e : Value} (h : Blk w g t #[a, b, c, d, e]) : w.cell? ⟨g, 0, none⟩ = some a ∧ w.cell? ⟨g, 1, none⟩ = some b ∧ w.cell? ⟨g, 2, none⟩ = some c ∧ w.cell? ⟨g, 3, none⟩ = some d ∧ w.cell? ⟨g, 4, none⟩ = some e := ⟨h.cell 0, h.cell 1, h.cell 2, h.cell 3, h.cell 4⟩
section
variable {w w' : World} {g n : Nat} {R R' : Nat → Nat → Prop}
end
end Go.Proofs.YtilhicefhhgecaaGreatDoor

namespace Go.Proofs.YtilhicefhhgecaaGreatDoor
open Go.RowKit Pv

/-- The error of a pattern and numbers. -/
noncomputable def askE (t : List Rx) (np : Nat) : Int := if patB t = true then (if 1024 < np then 4 else 0) else 8
end Go.Proofs.YtilhicefhhgecaaGreatDoor

namespace Pv
open Go Go.RowKit

/-- Places in a block of the call's own that may still turn. -/
def BRow (w : World) (t : TypeId) (b n : Nat) (S : Nat → Prop) : Prop := ∃ cs, Blk w b t cs ∧ n + 1 ≤ cs.size ∧ ∀ i, i ≤ n → cs[i]? = some (.bool (yes (S i)))
section
variable {w w' w'' : World} {t : TypeId} {b n : Nat} {S S' : Nat → Prop}
theorem BRow.lt (h : BRow w t b n S) : b < w.heap.size := by obtain ⟨cs, h1, _⟩ := h; exact h1.lt
theorem BRow.cell (h : BRow w t b n S) {i : Nat} (hi : i ≤ n) : w.cell? ⟨b, i, none⟩ = some (.bool (yes (S i))) := by
  obtain ⟨cs, h1, _, h3⟩ := h
  rw [h1.cell]; exact h3 i hi
theorem BRow.frozen (h : BRow w t b n S) (i : Nat) : w.frozen? ⟨b, i, none⟩ = false := by obtain ⟨cs, h1, _⟩ := h; exact h1.frozen i
theorem BRow.of (h : BRow w t b n S) (e : w'.heap[b]? = w.heap[b]?) : BRow w' t b n S := by obtain ⟨cs, h1, h2⟩ := h; exact ⟨cs, e.trans h1, h2⟩
theorem BRow.next (h : BRow w t b n S) (hb : Below w.heap.size w w') : BRow w' t b n S := h.of (hb.block b h.lt)
theorem BRow.congr (h : BRow w t b n S) (e : ∀ i, i ≤ n → (S i ↔ S' i)) : BRow w t b n S' := by
  obtain ⟨cs, h1, h2, h3⟩ := h
  exact ⟨cs, h1, h2, fun i hi => by rw [h3 i hi, show S i = S' i from propext (e i hi)]⟩
theorem BRow.set {j : Nat} {v : Bool} (h : BRow w t b n S) (h1 : S' j ↔ v = true) (h2 : ∀ i, i ≤ n → i ≠ j → (S i ↔ S' i)) : BRow (w.setCell ⟨b, j, none⟩ (.bool v)) t b n S' := by
  obtain ⟨cs, k1, k2, k3⟩ := h
  refine ⟨_, k1.set j (.bool v), by simpa using k2, fun i hi => ?_⟩
  rw [Array.getElem?_setIfInBounds]
  by_cases e : j = i
  · subst e
    rw [if_pos rfl, if_pos (by omega)]
    congr 2
    cases v with
    | true => exact (yes_t (h1.2 rfl)).symm
    | false => exact (yes_f fun h => by have := h1.1 h; cases this).symm
  · rw [if_neg e, k3 i hi, show S i = S' i from propext (h2 i hi (fun h => e h.symm))]
theorem BRow.reads (h : BRow w t b n S) (hn : n ≤ 1000) : At w (some ⟨b, 0, none⟩) RB (lst n S) := by
  refine ⟨by rw [lst_len]; omega, fun _ => ⟨b, 0, rfl, h.lt, fun i x hx => ?_⟩⟩
  have hi : i ≤ n := by have := lt_of_get hx; rw [lst_len] at this; omega
  rw [lst_get hi] at hx
  obtain rfl := Option.some.inj hx
  exact ⟨_, by rw [Nat.zero_add]; exact h.cell hi, rfl⟩
theorem BRow.made (w : World) (t : TypeId) (n : Nat) : BRow (w.alloc (.cells (madeCells #[.bool false] (n + 1)) t)) t w.heap.size n (fun _ => False) :=
  ⟨_, Blk.new w t _, by simp [madeCells], fun i hi => by rw [yes_f (by simp)]; simp [madeCells, show i < n + 1 by omega, Nat.mod_one]⟩
/-- A list of places somewhere. -/
theorem At.bit {A : Option Addr} (h : At w A RB (lst n S)) {i : Nat} (hi : i ≤ n) : ∃ g o, A = some ⟨g, o, none⟩ ∧ g < w.heap.size ∧ w.cell? ⟨g, o + i, none⟩ = some (.bool (yes (S i))) := by
  obtain ⟨g, o, e, hg, hc⟩ := h.2 (by rw [lst_len]; omega)
  obtain ⟨u, hu, hR⟩ := hc i _ (lst_get hi)
  exact ⟨g, o, e, hg, by rw [hu, show u = .bool (yes (S i)) from hR]⟩
end
end Pv
namespace Go.Proofs.YtilhicefhhgecaaGreatDoor
open Go.RowKit Pv

set_option maxHeartbeats 1000000 in
set_option maxRecDepth 100000 in
theorem tongue_add (b n c c' : Nat) (MA : Option Addr) (S S' : Nat → Prop) (w : World) (hn : n ≤ 1000) (hb : BRow w 4 b n S) (hm : At w MA RB (lst n S')) (hne : ∀ g o, MA = some ⟨g, o, none⟩ → g ≠ b) :
    Calls Tryz.prog 146 #[.slice (some ⟨b, 0, none⟩) (n + 1) c, .slice MA (n + 1) c'] w fun e w' => e = .returned (.bool (yes (∃ i, i ≤ n ∧ S' i ∧ ¬ S i))) ∧ BRow w' 4 b n (fun i => S i ∨ S' i) ∧ Only b w w' := by
  have HB := Lib.hid hb; have HM := Lib.hid hm; have HNE := Lib.hid hne
  clear hb hm hne
  go_enter Tryz.func146, Tryz.ntmps146
  go_wp2
  go_loopw [4, 9] (fun gv iv wr => ∃ k : Nat, iv = .int .i64 k ∧ k ≤ n + 1 ∧ gv = .bool (yes (∃ i, i < k ∧ S' i ∧ ¬ S i)) ∧ BRow wr 4 b n (fun i => S i ∨ (i < k ∧ S' i)) ∧ Only b w wr) (fun _ iv _ => n + 1 - (intOf iv).toNat)
  case atStart => exact ⟨0, rfl, by omega, by rw [yes_f (by simp)], HB.out.congr (fun i _ => by simp), Only.refl _ _⟩
  case round =>
    obtain ⟨k, rfl, hk, rfl, hrow, hon⟩ := hrel
    have R1 := Lib.hid hrow; have O1 := Lib.hid hon
    clear hrow hon
    by_cases hlt : k ≤ n
    · obtain ⟨g, o, eM, hg, hc⟩ := HM.out.bit hlt
      have hgb := HNE.out g o eM
      have c0 := (World.cell?_of_block (a := ⟨g, o + k, none⟩) (O1.out.block g hg hgb)).trans hc
      have c1 := R1.out.cell hlt
      have f1 := R1.out.frozen k
      subst eM
      have q1 : (k : Int) < (n : Int) + 1 := by omega
      clear hc hg
      by_cases h1 : S' k
      · rw [yes_t h1] at c0
        by_cases h2 : S k
        · rw [yes_t (.inl h2)] at c1
          have RS := Lib.hid (R1.out.congr (S' := fun i => S i ∨ (i < k + 1 ∧ S' i)) (fun i _ => by
            constructor
            · rintro (h | ⟨h3, h4⟩)
              · exact .inl h
              · exact .inr ⟨by omega, h4⟩
            · rintro (h | ⟨h3, h4⟩)
              · exact .inl h
              · by_cases e : i = k
                · subst e; exact .inl h2
                · exact .inr ⟨by omega, h4⟩))
          have HG := Lib.hid (show yes (∃ i, i < k ∧ S' i ∧ ¬ S i) = yes (∃ i, i < k + 1 ∧ S' i ∧ ¬ S i) from congrArg yes (propext ⟨fun ⟨i, h3, h4⟩ => ⟨i, by omega, h4⟩, fun ⟨i, h3, h4, h5⟩ => ⟨i, by
            by_cases e : i = k
            · subst e; exact absurd h2 h5
            · omega, h4, h5⟩⟩))
          generalize yes (∃ i, i < k ∧ S' i ∧ ¬ S i) = gv at *
          clear h1 h2
          go_wp2
          go_roundw
          case rel => exact ⟨k + 1, by go_num, by omega, by rw [HG.out], RS.out, O1.out⟩
          case measure => simp [intOf]; omega
        · rw [yes_f (by rintro (h | ⟨h, _⟩); exact h2 h; omega)] at c1
          have RS := Lib.hid (R1.out.set (j := k) (v := true) (S' := fun i => S i ∨ (i < k + 1 ∧ S' i)) ⟨fun _ => rfl, fun _ => .inr ⟨by omega, h1⟩⟩ (fun i _ hne => by
            constructor
            · rintro (h | ⟨h3, h4⟩)
              · exact .inl h
              · exact .inr ⟨by omega, h4⟩
            · rintro (h | ⟨h3, h4⟩)
              · exact .inl h
              · exact .inr ⟨by omega, h4⟩))
          have OS := Lib.hid (O1.out.set k (.bool true))
          have HG := Lib.hid (show true = yes (∃ i, i < k + 1 ∧ S' i ∧ ¬ S i) from (yes_t ⟨k, by omega, h1, h2⟩).symm)
          generalize yes (∃ i, i < k ∧ S' i ∧ ¬ S i) = gv at *
          clear h1 h2
          go_wp2
          go_roundw
          case rel => exact ⟨k + 1, by go_num, by omega, by rw [← HG.out], RS.out, OS.out⟩
          case measure => simp [intOf]; omega
      · rw [yes_f h1] at c0
        have RS := Lib.hid (R1.out.congr (S' := fun i => S i ∨ (i < k + 1 ∧ S' i)) (fun i _ => by
          constructor
          · rintro (h | ⟨h3, h4⟩)
            · exact .inl h
            · exact .inr ⟨by omega, h4⟩
          · rintro (h | ⟨h3, h4⟩)
            · exact .inl h
            · by_cases e : i = k
              · subst e; exact absurd h4 h1
              · exact .inr ⟨by omega, h4⟩))
        have HG := Lib.hid (show yes (∃ i, i < k ∧ S' i ∧ ¬ S i) = yes (∃ i, i < k + 1 ∧ S' i ∧ ¬ S i) from congrArg yes (propext ⟨fun ⟨i, h3, h4⟩ => ⟨i, by omega, h4⟩, fun ⟨i, h3, h4, h5⟩ => ⟨i, by
          by_cases e : i = k
          · subst e; exact absurd h4 h1
          · omega, h4, h5⟩⟩))
        generalize yes (∃ i, i < k ∧ S' i ∧ ¬ S i) = gv at *
        clear h1
        go_wp2
        go_roundw
        case rel => exact ⟨k + 1, by go_num, by omega, by rw [HG.out], RS.out, O1.out⟩
        case measure => simp [intOf]; omega
    · have hkn : k = n + 1 := by omega
      have RS := Lib.hid (R1.out.congr (S' := fun i => S i ∨ S' i) (fun i hi => by
        constructor
        · rintro (h | ⟨_, h⟩)
          · exact .inl h
          · exact .inr h
        · rintro (h | h)
          · exact .inl h
          · exact .inr ⟨by omega, h⟩))
      have HG := Lib.hid (show yes (∃ i, i < k ∧ S' i ∧ ¬ S i) = yes (∃ i, i ≤ n ∧ S' i ∧ ¬ S i) from congrArg yes (propext ⟨fun ⟨i, h3, h4⟩ => ⟨i, by omega, h4⟩, fun ⟨i, h3, h4⟩ => ⟨i, by omega, h4⟩⟩))
      generalize yes (∃ i, i < k ∧ S' i ∧ ¬ S i) = gv at *
      clear hkn
      go_wp2
      go_ret
      exact ⟨by rw [← HG.out]; rfl, RS.out, O1.out⟩

end Go.Proofs.YtilhicefhhgecaaGreatDoor

namespace Go.Proofs.YtilhicefhhgecaaGreatDoor
open Go.RowKit Pv

/-- Numbers of the call's own handed back, with an error. -/
def IntsPost (w : World) (r : List Int × Int) (e : Ending) (w' : World) : Prop :=
  Below w.heap.size w w' ∧ ∃ LA lc, e = .returned (.tuple #[.slice LA r.1.length lc, .int .i64 r.2]) ∧ w'.ownsRow w.heap.size 3 1 (.slice LA r.1.length lc) r.1.length (r.1.map (Value.int .i64))
theorem IntsPost.empty {w w' : World} (hb : Below w.heap.size w w') (n : Int) : IntsPost w ([], n) (.returned (.tuple #[.slice none 0 0, .int .i64 n])) w' := ⟨hb, none, 0, rfl, World.ownsRow_nil _ _ _ _⟩

end Go.Proofs.YtilhicefhhgecaaGreatDoor
