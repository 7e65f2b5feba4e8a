/- Walks: where matches end (the document's). -/
import Derived.Test.YtjnjbcigbnjmkaaTi
namespace Go.Proofs.Ytjnjbcigbnjmkaa
open Go.RowKit Pv

/-- Numbers of the call's own handed back, with an error. -/
def IntsPost (w : World) (r : List Int × Int) (e : Ending) (w' : World) : Prop :=
  Below w.heap.size w w' ∧ ∃ LA lc, e = .returned (.tuple #[.slice LA r.1.length lc, .int .i64 r.2]) ∧ w'.ownsRow w.heap.size 3 1 (.slice LA r.1.length lc) r.1.length (r.1.map (Value.int .i64))
theorem IntsPost.empty {w w' : World} (hb : Below w.heap.size w w') (n : Int) : IntsPost w ([], n) (.returned (.tuple #[.slice none 0 0, .int .i64 n])) w' := ⟨hb, none, 0, rfl, World.ownsRow_nil _ _ _ _⟩

set_option maxHeartbeats 2000000 in
set_option maxRecDepth 100000 in
theorem ref08_Ends (tA : Option Addr) (nt ct : Nat) (t : List Rx) (pA : Option Addr) (np cp : Nat) (pts : List Int) (a : Int) (w : World) (ht : AtRx w tA t) (HT : Hid (t.length = nt)) (hp : At w pA RI pts) (HP : Hid (pts.length = np)) (hnp : np ≤ 1000 ∨ (1024 < np ∧ np ≤ 100000)) :
    Calls Try.prog 31 #[.slice tA nt ct, .slice pA np cp, .int .i64 a] w fun e w' => ∃ r, BEnds t pts a r ∧ IntsPost w r e w' := by
  obtain ⟨i0, hi0, hz0, hs0, hb0⟩ := info_parts info_int
  have HA := Lib.hid (ref08_asked tA nt ct t pA np cp w ht HT (by omega))
  by_cases hpt : Pat t
  case neg =>
    rw [show askE t np = 8 by rw [askE, patB_no hpt]; rfl] at HA
    have HR := Lib.hid (show BEnds t pts a ([], 8) from .inl ⟨hpt, rfl⟩)
    clear ht hp hpt
    go_enter Try.func31, Try.ntmps31
    go_wp2_with fail
    refine HA.out.mono ?_
    rintro e w1 ⟨rfl, hb1⟩
    go_wp2
    go_ret2
    exact ⟨([], 8), HR.out, IntsPost.empty hb1 8⟩
  by_cases hn : 1024 < np
  · rw [show askE t np = 4 by rw [askE, patB_yes hpt, if_pos rfl, if_pos hn]] at HA
    have HR := Lib.hid (show BEnds t pts a ([], 4) from .inr (.inl ⟨hpt, by rw [HP.out]; exact hn, rfl⟩))
    clear ht hp hpt
    go_enter Try.func31, Try.ntmps31
    go_wp2_with fail
    refine HA.out.mono ?_
    rintro e w1 ⟨rfl, hb1⟩
    go_wp2
    go_ret2
    exact ⟨([], 4), HR.out, IntsPost.empty hb1 4⟩
  rw [show askE t np = 0 by rw [askE, patB_yes hpt, if_pos rfl, if_neg hn]] at HA
  have hn1 : np ≤ 1000 := by omega
  by_cases hlow : a < 0
  · have HR := Lib.hid (show BEnds t pts a ([], 2) from .inr (.inr (.inl ⟨hpt, by rw [HP.out]; omega, .inl hlow, rfl⟩)))
    clear ht hp hpt
    go_enter Try.func31, Try.ntmps31
    go_wp2_with fail
    refine HA.out.mono ?_
    rintro e w1 ⟨rfl, hb1⟩
    go_wp2
    go_ret2
    exact ⟨([], 2), HR.out, IntsPost.empty hb1 2⟩
  by_cases hhigh : (np : Int) < a
  · have HR := Lib.hid (show BEnds t pts a ([], 2) from .inr (.inr (.inl ⟨hpt, by rw [HP.out]; omega, .inr (by rw [HP.out]; exact hhigh), rfl⟩)))
    clear ht hp hpt
    go_enter Try.func31, Try.ntmps31
    go_wp2_with fail
    refine HA.out.mono ?_
    rintro e w1 ⟨rfl, hb1⟩
    go_wp2
    go_ret2
    exact ⟨([], 2), HR.out, IntsPost.empty hb1 2⟩
  obtain ⟨s, rfl⟩ := Int.eq_ofNat_of_zero_le (show 0 ≤ a by omega)
  have hs : s ≤ np := by omega
  have hnt : nt ≤ 64 := by have := hpt.2.1; rwa [HT.out] at this
  obtain ⟨T, hT, hfl⟩ := hpt.tree
  have HR := Lib.hid (show BEnds t pts s (upTo (spT pts T s) (np + 1), 0) from .inr (.inr (.inr ⟨hpt, by rw [HP.out]; omega, T, s, rfl, by rw [HP.out]; exact hs, hT, hfl, by rw [HP.out]⟩)))
  have HC := Lib.hid (spans_all w tA nt ct t pA np cp pts ht hp HP HT hnt hn1 16 (Nat.le_refl _) T 0 [] hT (by show T.flat.length ≤ 64; rw [← hfl, HT.out]; exact hnt) (by simp [hfl]))
  have HF := Lib.hid (spT_fwd pts T)
  clear ht hp hpt hT hfl
  go_enter Try.func31, Try.ntmps31
  go_wp2_with fail
  refine HA.out.mono ?_
  rintro e w1 ⟨rfl, hb1⟩
  have B1 := Lib.hid hb1
  clear hb1
  go_wp2_with fail
  refine (HC.out w1 (Keep.of B1.out)).mono ?_
  rintro e w2 ⟨g, rfl, hg, tb, hb2⟩
  have B2 := Lib.hid (B1.out.trans (hb2.mono B1.out.size))
  have T2 := Lib.hid tb
  have hg' : w.heap.size ≤ g := Nat.le_trans B1.out.size hg
  clear hb2 tb
  go_wp2
  go_loopw [10, 11] (fun ov iv wr => ∃ (j : Nat) (LA : Option Addr) (lc : Nat), iv = .int .i64 j ∧ s ≤ j ∧ j ≤ np + 1 ∧ ov = .slice LA (upTo (spT pts T s) j).length lc ∧ wr.ownsRow w.heap.size 3 1 (.slice LA (upTo (spT pts T s) j).length lc) (upTo (spT pts T s) j).length ((upTo (spT pts T s) j).map (Value.int .i64)) ∧ Below w.heap.size w wr ∧ Tab wr g np (spT pts T)) (fun _ iv _ => np + 1 - (intOf iv).toNat)
  case atStart =>
    have h0 : upTo (spT pts T s) s = [] := upTo_nil fun i hi h => by have := HF.out s i h; omega
    exact ⟨s, none, 0, rfl, Nat.le_refl _, by omega, by rw [h0]; rfl, by rw [h0]; exact World.ownsRow_nil _ _ _ _, B2.out, T2.out⟩
  case round =>
    obtain ⟨j, LA, lc, rfl, hsj, hj, rfl, hol, hbel, htb⟩ := hrel
    have O3 := Lib.hid hol; have B3 := Lib.hid hbel; have T3 := Lib.hid htb
    clear hol hbel htb
    have hln := upTo_len (spT pts T s) j
    by_cases hjt : j ≤ np
    · have c0 := T3.out.rowCell hs
      have c1 := T3.out.cell hs hjt
      have q1 : (s : Int) < (np : Int) + 1 := by omega
      have q2 : (j : Int) < (np : Int) + 1 := by omega
      by_cases hS : spT pts T s j
      · rw [yes_t hS] at c1
        have HU := Lib.hid (upTo_yes hS)
        obtain ⟨l, hl⟩ : ∃ l, upTo (spT pts T s) j = l := ⟨_, rfl⟩
        rw [hl] at O3 HU hln
        rw [hl]
        have hal : Below wr.heap.size wr (wr.alloc (.cells #[.int .i64 j] 3)) := (Below.refl _ _).alloc (Nat.le_refl _) _
        have OA := Lib.hid (ownsRow_below O3.out hal)
        have BA := Lib.hid (B3.out.trans (hal.mono B3.out.size))
        have TA' := Lib.hid (T3.out.next hal)
        have SRC := Lib.hid (Src.one (w := wr) (x := .int .i64 j) (t := 3) rfl)
        have Q1 : Hid (l.length + 1 ≤ maxLen) := Lib.hid (by simp only [maxLen]; omega)
        have Q2 : Hid ((l.length + 1) * 8 ≤ 140737488355328) := Lib.hid (by omega)
        have Q3 : Hid (w.heap.size ≤ (wr.alloc (.cells #[.int .i64 j] 3)).heap.size) := Lib.hid BA.out.size
        clear hal hS hl
        go_wp2_with (at_builtin
                     go_must (refine wpList_append_src _ rfl (.tmp 43) (.tmp 45) 22 rfl w.heap.size 3 i0 (.int .i64 0) 1 8 Try.underlying22 hi0 hz0 hs0 hb0 rfl (by decide) LA lc l.length _ rfl OA.out _ 1 1 _ rfl SRC.out Q1.out Q2.out Q3.out ?_)
                     intro A8 lc8 w8 own8 gr8 _
                     have O8 := Lib.hid own8
                     have B8 := Lib.hid (BA.out.grown gr8 BA.out.size (fun k hk => (OA.out.lt k hk).1))
                     have T8 : Hid (Tab w8 g np (spT pts T)) := Lib.hid ⟨TA'.out.out.of_block (gr8.block _ TA'.out.out.lt (fun e => own_blk_ne (t := 24) (cs := TA'.out.out.choose) OA.out TA'.out.out.choose_spec.1 (by decide) e)), fun i hi => (TA'.out.row i hi).of_block (gr8.block _ (TA'.out.row i hi).lt (fun e => own_blk_ne (t := 4) (cs := (TA'.out.row i hi).choose) OA.out (TA'.out.row i hi).choose_spec.1 (by decide) e))⟩
                     clear own8 gr8)
        go_roundw
        case rel => exact ⟨j + 1, A8, lc8, by go_num, by omega, by omega, by rw [HU.out]; simp, by rw [HU.out]; simpa using O8.out, B8.out, T8.out⟩
        case measure => simp [intOf]; omega
      · rw [yes_f hS] at c1
        have HU := Lib.hid (upTo_no hS)
        clear hS
        go_wp2
        go_roundw
        case rel => exact ⟨j + 1, LA, lc, by go_num, by omega, by omega, by rw [HU.out], by rw [HU.out]; exact O3.out, B3.out, T3.out⟩
        case measure => simp [intOf]; omega
    · have hjn : j = np + 1 := by omega
      subst hjn
      go_wp2
      go_ret2
      exact ⟨_, HR.out, B3.out, LA, lc, rfl, O3.out⟩

end Go.Proofs.Ytjnjbcigbnjmkaa
