/- Walks: the program's walker begun. -/
import Derived.Test.YtjnjbcigbnjmkaaTm
namespace Go.Proofs.Ytjnjbcigbnjmkaa
open Go.RowKit Pv

abbrev TWk : TypeId := 167
abbrev TI : TypeId := 3
theorem ends_rel1 {t : List Rx} (h : t.length ≤ 64) : Rel RI ((endsL t).map (Value.int .i64)) (endsL t) := ⟨by simp, fun i u x hu hx => by
  rw [List.getElem?_map, hx] at hu
  obtain rfl := Option.some.inj hu
  have hi : i < t.length := by have := lt_of_get hx; simpa [endsL] using this
  simp only [endsL, List.getElem?_map, List.getElem?_range hi, Option.map_some, Option.some.injEq] at hx
  subst hx
  refine ⟨rfl, ?_⟩
  cases hb : behind t 16 i with
  | none => rw [bR_none]; omega
  | some e => rw [bR_some]; have := behind_lt hb; omega⟩
/-- The walker, its ends under way. -/
structure WB (w wr : World) (pm mb : Nat) (tA : Option Addr) (nt ct : Nat) (EA : Option Addr) (k ec : Nat) (pA : Option Addr) (np cp : Nat) (l : List Int) : Prop where
  be : Below w.heap.size w wr
  b : Blk wr pm TWk #[.slice tA nt ct, .slice EA k ec, .slice pA np cp, .map (some mb)]
  m : wr.heap[mb]? = some (.map #[] 0)
  oe : wr.ownsRow (pm + 1) TI 1 (.slice EA k ec) k (l.map (Value.int .i64))
section
variable {w wr w' : World} {pm mb nt ct k ec np cp : Nat} {tA EA pA : Option Addr} {l : List Int}
theorem obj_lt {w : World} {b : Nat} {o : Obj} (h : w.heap[b]? = some o) : b < w.heap.size := by
  rcases Nat.lt_or_ge b w.heap.size with hlt | hge
  · exact hlt
  · rw [Array.getElem?_eq_none hge] at h; cases h
theorem WB.next (h : WB w wr pm mb tA nt ct EA k ec pA np cp l) (hb : Below wr.heap.size wr w') : WB w w' pm mb tA nt ct EA k ec pA np cp l :=
  ⟨h.be.trans (hb.mono h.be.size), h.b.below hb h.b.lt, (hb.block mb (obj_lt h.m)).trans h.m, ownsRow_below h.oe hb⟩
theorem WB.push {EA' : Option Addr} {ec' : Nat} {z : Int} (h : WB w wr pm mb tA nt ct EA k ec pA np cp l) (hp : w.heap.size ≤ pm) (hmp : mb < pm) (g : wr.grownBy w' (Value.slice EA k ec).ownBlock) (own : w'.ownsRow (pm + 1) TI 1 (.slice EA' (k + 1) ec') (k + 1) (l.map (Value.int .i64) ++ [.int .i64 z])) :
    WB w (w'.setCell ⟨pm, 1, none⟩ (.slice EA' (k + 1) ec')) pm mb tA nt ct EA' (k + 1) ec' pA np cp (l ++ [z]) := by
  have hb := h.b.grown g (own_blk_ne h.oe h.b (by decide))
  refine ⟨(h.be.grown g h.be.size (fun q hq => by have := (h.oe.lt q hq).1; omega)).setCell hp _, hb.set 1 _, ?_, ownsRow_setFar (by simpa using own) hb (by decide) 1 _⟩
  have h1 := (g.block mb (obj_lt h.m) (fun e => by have := (h.oe.lt mb e.symm).1; omega)).trans h.m
  exact (Below.heap_setCell w' ⟨pm, 1, none⟩ _ mb (by simp only; omega)).trans h1
end

set_option maxHeartbeats 2000000 in
set_option maxRecDepth 100000 in
theorem tongue_begun (tA : Option Addr) (nt ct : Nat) (t : List Rx) (pA : Option Addr) (np cp : Nat) (w : World) (ht : AtRx w tA t) (HT : Hid (t.length = nt)) (hnp : np ≤ 1000 ∨ (1024 < np ∧ np ≤ 100000)) :
    Calls Try.prog 71 #[.slice tA nt ct, .slice pA np cp] w fun e w' => (e = .returned (.tuple #[.pointer none, .int .i64 (askE t np)]) ∧ (¬ Pat t ∨ 1024 < np) ∧ Below w.heap.size w w') ∨
      (Pat t ∧ np ≤ 1000 ∧ ∃ pm mb EA ec, e = .returned (.tuple #[.pointer (some ⟨pm, 0, none⟩), .int .i64 0]) ∧ w.heap.size ≤ mb ∧ mb < pm ∧ WB w w' pm mb tA nt ct EA nt ec pA np cp (endsL t)) := by
  obtain ⟨i0, hi0, hz0, hs0, hb0⟩ := info_parts info_int
  have HC := Lib.hid (pattern_Check tA ct nt t w ht HT)
  by_cases hpt : Pat t
  case neg =>
    rw [patE_no hpt] at HC
    have HA := Lib.hid (show (8 : Int) = askE t np by rw [askE, patB_no hpt]; rfl)
    have HN := Lib.hid hpt
    clear ht hpt
    go_enter Try.func71, Try.ntmps71
    go_wp2_with fail
    refine HC.out.mono ?_
    rintro e w1 ⟨rfl, hb1⟩
    have B1 := Lib.hid hb1
    clear hb1
    go_wp2
    go_ret2
    exact .inl ⟨by rw [← HA.out]; rfl, .inl HN.out, B1.out⟩
  rw [patE_yes hpt] at HC
  by_cases hn : 1024 < np
  · have HA := Lib.hid (show (4 : Int) = askE t np by rw [askE, patB_yes hpt, if_pos rfl, if_pos hn])
    clear ht hpt
    go_enter Try.func71, Try.ntmps71
    go_wp2_with fail
    refine HC.out.mono ?_
    rintro e w1 ⟨rfl, hb1⟩
    have B1 := Lib.hid hb1
    clear hb1
    go_wp2
    go_ret2
    exact .inl ⟨by rw [← HA.out]; rfl, .inr hn, B1.out⟩
  have hn1 : np ≤ 1000 := by omega
  have hnt : nt ≤ 64 := by have := hpt.2.1; rwa [HT.out] at this
  have hmm := @run_makeMap Try.prog
  have HPE := Lib.hid (fun (W : World) (kp : Keep w W) (i : Nat) (hi : i < nt) => pattern_End_yes tA ct nt i t W (AtRx.keep ht kp) HT (Lib.hid hpt) hi)
  have HGET := Lib.hid (fun i (hi : i < nt) => (show (endsL t)[i]? = some (bR (behind t 16 i)) by simp [endsL, HT.out, hi]))
  have HLE : Hid ((endsL t).length = nt) := Lib.hid (by simp [endsL, HT.out])
  have HPT := Lib.hid hpt
  clear ht hpt
  go_enter Try.func71, Try.ntmps71
  go_wp2_with fail
  refine HC.out.mono ?_
  rintro e w1 ⟨rfl, hb1⟩
  have hM1 : Below w1.heap.size w1 (w1.alloc (.map #[] 0)) := (Below.refl _ _).alloc (Nat.le_refl _) _
  have hM2 : Below w1.heap.size w1 ((w1.alloc (.map #[] 0)).alloc (.cells #[.slice tA nt ct, .slice none 0 0, .slice pA np cp, .map (some w1.heap.size)] TWk)) := hM1.alloc hM1.size _
  have P0 : Hid (WB w ((w1.alloc (.map #[] 0)).alloc (.cells #[.slice tA nt ct, .slice none 0 0, .slice pA np cp, .map (some w1.heap.size)] TWk)) (w1.heap.size + 1) w1.heap.size tA nt ct none 0 0 pA np cp []) := Lib.hid ⟨hb1.trans (hM2.mono hb1.size), by
    have := Blk.new (w1.alloc (.map #[] 0)) TWk #[.slice tA nt ct, .slice none 0 0, .slice pA np cp, .map (some w1.heap.size)]
    rwa [show (w1.alloc (.map #[] 0)).heap.size = w1.heap.size + 1 by simp] at this, (Below.heap_alloc _ _ w1.heap.size (by simp)).trans (by show (w1.heap.push _)[w1.heap.size]? = _; simp), World.ownsRow_nil _ _ _ _⟩
  have hp1 : w.heap.size ≤ w1.heap.size := hb1.size
  clear hb1 hM1 hM2
  go_wp2
  go_loopw [27] (fun iv wr => ∃ (k : Nat) (EA : Option Addr) (ec : Nat), iv = .int .i64 k ∧ k ≤ nt ∧ WB w wr (w1.heap.size + 1) w1.heap.size tA nt ct EA k ec pA np cp ((endsL t).take k)) (fun iv _ => nt - (intOf iv).toNat)
  case atStart => exact ⟨0, none, 0, rfl, by omega, by simpa using P0.out⟩
  case round =>
    obtain ⟨k, EA, ec, rfl, hk, hpe⟩ := hrel
    have PP := Lib.hid hpe
    clear hpe
    by_cases hlt : k < nt
    · have HE1 := Lib.hid (HPE.out wr (Keep.of PP.out.be) k hlt)
      have HTK := Lib.hid (take_snoc (HGET.out k hlt))
      go_wp2_with fail
      refine HE1.out.mono ?_
      rintro e w2 ⟨rfl, hb2⟩
      have P2 := PP.out.next hb2
      have hal : Below w2.heap.size w2 (w2.alloc (.cells #[.int .i64 (bR (behind t 16 k))] TI)) := (Below.refl _ _).alloc (Nat.le_refl _) _
      have PB := Lib.hid (P2.next hal)
      generalize bR (behind t 16 k) = z at *
      have SRC := Lib.hid (Src.one (w := w2) (x := .int .i64 z) (t := TI) rfl)
      have Q1 : Hid (k + 1 ≤ maxLen) := Lib.hid (by simp only [maxLen]; omega)
      have Q2 : Hid ((k + 1) * 8 ≤ 140737488355328) := Lib.hid (by omega)
      have Q3 : Hid (w1.heap.size + 1 + 1 ≤ (w2.alloc (.cells #[.int .i64 z] TI)).heap.size) := Lib.hid (by have := P2.b.lt; simp; omega)
      have m3 := PB.out.b.cell 1
      have m30 := P2.b.cell 1
      clear hb2 hal P2 PP
      go_wp2_with (at_builtin
                   go_must (refine wpList_append_src _ rfl (.tmp 41) (.tmp 43) 22 rfl (w1.heap.size + 1 + 1) TI i0 (.int .i64 0) 1 8 Try.underlying22 hi0 hz0 hs0 hb0 rfl (by decide) EA ec k _ rfl PB.out.oe _ 1 1 _ rfl SRC.out Q1.out Q2.out Q3.out ?_)
                   intro A8 c8 w8 own8 gr8 _
                   have P8 := Lib.hid (PB.out.push (by omega) (by omega) gr8 own8)
                   have b8 := PB.out.b.grown gr8 (own_blk_ne PB.out.oe PB.out.b (by decide))
                   have f8 := b8.frozen 1
                   have c8' := b8.cell 1
                   clear gr8 own8 b8 m3 m30)
      go_roundw
      case rel => exact ⟨k + 1, A8, c8, by go_num, by omega, by rw [HTK.out]; exact P8.out⟩
      case measure => simp [intOf]; omega
    have hkn : k = nt := by omega
    subst hkn
    rw [List.take_of_length_le (by rw [HLE.out]; exact Nat.le_refl _)] at PP
    go_wp2
    go_ret2
    exact .inr ⟨HPT.out, hn1, w1.heap.size + 1, w1.heap.size, EA, ec, rfl, hp1, by omega, PP.out⟩

end Go.Proofs.Ytjnjbcigbnjmkaa
