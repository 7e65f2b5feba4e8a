/- Walks: sets of states, by the document: the list of a table, whether a number is on a list, where a number leads. PUT1 -/
import Derived.Test.YtjnjbcigbnjmkaaZb
import Derived.Test.YtjnjbcigbnjmkaaEd
import Derived.Test.YtjnjbcigbnjmkaaMem3
import Derived.Test.YtjnjbcigbnjmkaaHs
import Derived.Test.YtjnjbcigbnjmkaaQg
import Derived.Test.YtjnjbcigbnjmkaaQt
import Derived.Deep.OwnRows
import Derived.StillTailTactics
namespace Go.Proofs.Ytjnjbcigbnjmkaa
open Go.RowKit Pv

theorem info_bool9 : (Try.prog.info? 4).map (fun i => (i.zero, i.size, i.bytes)) = some (some (.bool false), 1, 1) := by kernel_rfl
theorem info_int9 : (Try.prog.info? 3).map (fun i => (i.zero, i.size, i.bytes)) = some (some (.int .i64 0), 1, 8) := by kernel_rfl
/-- A set's table: a row of bools. -/
def TbS (w : World) (g n : Nat) (S : Nat → Prop) : Prop := w.rowIs g 4 n (fun i => .bool (yes (S i)))
section
variable {w w' : World} {g n : Nat} {S S' : Nat → Prop}
theorem TbS.cell (h : TbS w g n S) {i : Nat} (hi : i < n) : w.cell? ⟨g, i, none⟩ = some (.bool (yes (S i))) := World.rowIs.cell h hi
theorem TbS.frozen (h : TbS w g n S) (i : Nat) : w.frozen? ⟨g, i, none⟩ = false := World.rowIs.frozen h i
theorem TbS.lt (h : TbS w g n S) : g < w.heap.size := World.rowIs.lt h
theorem TbS.of_block (h : TbS w g n S) (e : w'.heap[g]? = w.heap[g]?) : TbS w' g n S := World.rowIs.of_block h e
theorem TbS.below (h : TbS w g n S) (hb : Below w.heap.size w w') : TbS w' g n S := h.of_block (hb.block _ h.lt)
theorem TbS.congr (h : TbS w g n S) (e : ∀ i, i < n → (S i ↔ S' i)) : TbS w g n S' := World.rowIs.congr h fun i hi => by rw [show S i = S' i from propext (e i hi)]
theorem TbS.set (h : TbS w g n S) (i : Nat) (e : ∀ j, j < n → (S' j ↔ (S j ∨ j = i))) : TbS (w.setCell ⟨g, i, none⟩ (.bool true)) g n S' := by
  refine World.rowIs.congr (World.rowIs.set h i (.bool true)) fun j hj => ?_
  by_cases hji : j = i
  · rw [if_pos hji, yes_t ((e j hj).2 (.inr hji))]
  · rw [if_neg hji, show S' j = S j from propext ((e j hj).trans ⟨fun h => h.resolve_right hji, .inl⟩)]
theorem TbS.made (w : World) (n : Nat) : TbS (w.alloc (.cells (madeCells #[.bool false] n) 4)) w.heap.size n (fun _ => False) :=
  World.rowIs.congr (World.rowIs_made w (.bool false) n 4) fun i _ => by rw [yes_f (fun h => h)]
end

set_option maxHeartbeats 1000000 in
set_option maxRecDepth 100000 in
theorem ref09_list (g c n : Nat) (S : Nat → Prop) (w : World) (hn : n ≤ 100000) (h : TbS w g n S) :
    Calls Try.prog 129 #[.slice (some ⟨g, 0, none⟩) n c] w fun e w' => ∃ v, e = .returned v ∧ OwnI w' w.heap.size v (stL n S) ∧ Below w.heap.size w w' := by
  obtain ⟨i0, hi0, hz0, hs0, hb0⟩ := info_parts info_int9
  have HT := Lib.hid h
  clear h
  go_enter Try.func129, Try.ntmps129
  go_wp2
  go_loopw [4, 3] (fun kv lv wr => ∃ (k m : Nat) (A : Option Addr) (c : Nat), kv = .int .i64 k ∧ k ≤ n ∧ lv = .slice A m c ∧ m ≤ k ∧ Hid (m = (stL k S).length) ∧ Hid (wr.ownsRow w.heap.size 3 1 (.slice A m c) m ((stL k S).map (Value.int .i64))) ∧ Hid (Below w.heap.size w wr)) (fun kv _ _ => n - (intOf kv).toNat)
  case atStart => exact ⟨0, 0, none, 0, rfl, by omega, rfl, by omega, Lib.hid rfl, Lib.hid (World.ownsRow_nil _ _ _ _), Lib.hid (Below.refl _ _)⟩
  case round =>
    obtain ⟨k, m, A, c', rfl, hk, rfl, hm, HM, HO, HB⟩ := hrel
    by_cases hlt : k < n
    · have hc := (HT.out.below HB.out).cell hlt
      have hg := HT.out.lt
      have i1 : (0 : Int) ≤ (k : Int) := by omega
      have i2 : (k : Int) < (n : Int) := by omega
      have HS := Lib.hid (stL_succ S k)
      have Q1 : Hid (m + 1 ≤ maxLen) := Lib.hid (by simp only [maxLen]; omega)
      have Q2 : Hid ((m + 1) * 8 ≤ 140737488355328) := Lib.hid (by omega)
      have Q3 : Hid (w.heap.size ≤ (wr.alloc (.cells #[.int .i64 k] 3)).heap.size) := Lib.hid (by have h1 := HB.out.size; simp; omega)
      have SRC := Lib.hid (Src.one (w := wr) (x := .int .i64 k) (t := 3) rfl)
      have OW := Lib.hid (HO.out.alloc (.cells #[.int .i64 k] 3))
      cases hy : yes (S k)
      case true =>
        rw [hy] at hc HS
        simp only [if_true] at HS
        clear hy
        go_wp2_with (first
          | (at_builtin
             go_must (refine wpList_append_src _ rfl (.tmp 15) (.tmp 17) 22 rfl w.heap.size 3 i0 (.int .i64 0) 1 8 Try.underlying22 hi0 hz0 hs0 hb0 rfl (by decide) A c' m _ rfl OW.out _ 1 1 _ rfl SRC.out Q1.out Q2.out Q3.out ?_)
             intro A4 c4 w4 own4 gr4 _
             have hb4 := ((HB.out.alloc HB.out.size (.cells #[.int .i64 k] 3)).grown gr4 Q3.out (fun g hg => (OW.out.lt g hg).1))
             have B4 := Lib.hid hb4; have O4 := Lib.hid own4
             clear gr4 own4 hb4))
        go_roundw
        case rel => exact ⟨k + 1, m + 1, A4, c4, by go_num, by omega, rfl, by omega, Lib.hid (by rw [HS.out, List.length_append, ← HM.out]; rfl), Lib.hid (by rw [HS.out, List.map_append]; exact O4.out), B4⟩
        case measure => simp [intOf]; omega
      case false =>
        rw [hy] at hc HS
        simp only [Bool.false_eq_true, if_false] at HS
        clear hy
        go_wp2
        go_roundw
        case rel => exact ⟨k + 1, m, A, c', by go_num, by omega, rfl, by omega, Lib.hid (by rw [HS.out]; exact HM.out), Lib.hid (by rw [HS.out]; exact HO.out), HB⟩
        case measure => simp [intOf]; omega
    · obtain rfl : k = n := by omega
      go_wp2
      go_ret
      have hm := HM.out
      subst hm
      exact ⟨_, rfl, ⟨A, c', rfl, HO.out⟩, HB.out⟩

set_option maxHeartbeats 1000000 in
set_option maxRecDepth 100000 in
theorem ref09_has (A : Option Addr) (c n : Nat) (l : List Int) (x : Int) (w : World) (h : At w A RI l) (HL : Hid (l.length = n)) :
    Calls Try.prog 82 #[.slice A n c, .int .i64 x] w fun e w' => e = .returned (.bool (decide (x ∈ l))) ∧ w' = w := by
  have hl : n ≤ 140737488355328 := by have := h.1; rwa [HL.out] at this
  obtain ⟨ans, hans⟩ : ∃ ans, decide (x ∈ l) = ans := ⟨_, rfl⟩
  rw [hans]
  have HANS := Lib.hid hans
  clear hans
  go_enter Try.func82, Try.ntmps82
  go_wp2
  go_loop [5] (fun i => ∃ k : Nat, i = .int .i64 k ∧ k ≤ n ∧ Hid (∀ (i : Nat) y, i < k → l[i]? = some y → y ≠ x)) (fun i => n - (intOf i).toNat)
  case atStart => exact ⟨0, rfl, by omega, Lib.hid (by intros; omega)⟩
  case round =>
    obtain ⟨k, rfl, hk, HNO⟩ := hrel
    by_cases hlt : k < n
    · obtain ⟨b, off, u, y, rfl, hbl, x0, ⟨rfl, _, _⟩, HX⟩ := h.gt HL hlt
      have i1 : (0 : Int) ≤ (k : Int) := by omega
      have i2 : (k : Int) < (n : Int) := by omega
      by_cases hxy : y = x
      · subst hxy
        have HY := Lib.hid (show true = ans by rw [← HANS.out]; exact (decide_eq_true (mem_of_get HX.out)).symm)
        go_wp2
        go_ret
        exact ⟨ret_bool HY.out, rfl⟩
      · have h1 : (y == x) = false := by simpa using hxy
        have HN := Lib.hid (fun (i : Nat) (z : Int) (hi : i < k + 1) (hz : l[i]? = some z) => show z ≠ x by
          by_cases e : i = k
          · subst e; obtain rfl := Option.some.inj (hz.symm.trans HX.out); exact hxy
          · exact HNO.out i z (by omega) hz)
        clear hxy
        go_wp2
        go_round
        case rel => exact ⟨k + 1, by go_num, by omega, HN⟩
        case measure => simp [intOf]; omega
    · have HY := Lib.hid (show false = ans by
        rw [← HANS.out]
        refine (decide_eq_false fun hm => ?_).symm
        obtain ⟨i, hi⟩ := List.getElem?_of_mem hm
        exact HNO.out i x (by have := lt_of_get hi; rw [HL.out] at this; omega) hi rfl)
      go_wp2
      go_ret
      exact ⟨ret_bool HY.out, rfl⟩

/-- Where a number leads: of the first states; of the first edges of one besides. -/
theorem stp_nil {a : Au} {p : Int} (t : Nat) : Stp a p (Of ([] : List Int)) t ↔ False := ⟨fun ⟨s, h, _⟩ => by simp [Of] at h, False.elim⟩
def StpE (a : Au) (p : Int) (S : Nat → Prop) (es : List Ed) (t : Nat) : Prop := Stp a p S t ∨ ∃ x, x ∈ es ∧ x.free = false ∧ InSet x.set p ∧ x.to = (t : Int)
theorem stpE_nil {a : Au} {p : Int} {S : Nat → Prop} (t : Nat) : StpE a p S [] t ↔ Stp a p S t := ⟨fun h => by rcases h with h | ⟨x, h, _⟩; exact h; simp at h, .inl⟩
theorem stpE_no {a : Au} {p : Int} {S : Nat → Prop} {es : List Ed} {x : Ed} (h : ¬ (x.free = false ∧ InSet x.set p)) (t : Nat) : StpE a p S (es ++ [x]) t ↔ StpE a p S es t := by
  constructor
  · rintro (h1 | ⟨y, h1, h2, h3, h4⟩)
    · exact .inl h1
    · rcases List.mem_append.1 h1 with h1 | h1
      · exact .inr ⟨y, h1, h2, h3, h4⟩
      · simp at h1; subst h1; exact absurd ⟨h2, h3⟩ h
  · rintro (h1 | ⟨y, h1, h2⟩)
    · exact .inl h1
    · exact .inr ⟨y, by simp [h1], h2⟩
theorem stpE_yes {a : Au} {p : Int} {S : Nat → Prop} {es : List Ed} {x : Ed} {q : Nat} (h : x.free = false) (h2 : InSet x.set p) (hq : x.to = (q : Int)) (t : Nat) : StpE a p S (es ++ [x]) t ↔ (StpE a p S es t ∨ t = q) := by
  constructor
  · rintro (h1 | ⟨y, h1, h2, h3, h4⟩)
    · exact .inl (.inl h1)
    · rcases List.mem_append.1 h1 with h1 | h1
      · exact .inl (.inr ⟨y, h1, h2, h3, h4⟩)
      · simp at h1; subst h1; right; omega
  · rintro ((h1 | ⟨y, h1, h2⟩) | rfl)
    · exact .inl h1
    · exact .inr ⟨y, by simp [h1], h2⟩
    · exact .inr ⟨x, by simp, h, h2, hq⟩
theorem stp_snoc {a : Au} {p : Int} {l : List Int} {s : Nat} {es : List Ed} (he : a[s]? = some es) (t : Nat) : StpE a p (Of l) es t ↔ Stp a p (Of (l ++ [(s : Int)])) t := by
  constructor
  · rintro (⟨q, h1, h2⟩ | ⟨x, h1, h2, h3, h4⟩)
    · exact ⟨q, by simp [Of] at h1 ⊢; exact .inl h1, h2⟩
    · exact ⟨s, by simp [Of], es, x, he, h1, h2, h3, h4⟩
  · rintro ⟨q, h1, h2⟩
    simp only [Of, List.mem_append, List.mem_singleton] at h1
    rcases h1 with h1 | h1
    · exact .inl ⟨q, h1, h2⟩
    · obtain rfl : q = s := by omega
      obtain ⟨es', x, e1, e2, e3, e4, e5⟩ := h2
      obtain rfl := Option.some.inj (e1.symm.trans he)
      exact .inr ⟨x, e2, e3, e4, e5⟩
end Go.Proofs.Ytjnjbcigbnjmkaa
