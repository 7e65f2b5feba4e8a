/- Walks: the program's maker: a state. -/
import Derived.Test.YtjnjbcigbnjmkaaBq
namespace Go.Proofs.Ytjnjbcigbnjmkaa
open Go.RowKit Pv

abbrev TMk : TypeId := 105
/-- .. what the program's maker turns besides. -/
abbrev TB : List TypeId := [TRow, TEdge, TMk]
theorem TA_TB : ∀ e, e ∈ TA → e ∈ TB := by decide
theorem TA_mk : ∀ e, e ∈ TA → e ≠ TMk := by decide
/-- The maker: its automaton, what it reads. -/
structure MkAt (w : World) (base pm : Nat) (A : Option Addr) (n c : Nat) (acc : Int) (x2 x3 : Value) (a : Au) : Prop where
  b : Blk w pm TMk #[.slice A n c, .int .i64 acc, x2, x3]
  au : AuQ w base A n c a
  ge : base ≤ pm
theorem MkAt.next {w w' : World} {base pm n c : Nat} {A : Option Addr} {acc : Int} {x2 x3 : Value} {a : Au} (h : MkAt w base pm A n c acc x2 x3 a) (hb : Below w.heap.size w w') : MkAt w' base pm A n c acc x2 x3 a := ⟨h.b.below hb h.b.lt, h.au.next hb, h.ge⟩
theorem Chg.setT {T : List TypeId} {base g i : Nat} {w w' : World} {t : TypeId} {cs : Array Value} {u : Value} (h : Chg T base w w') (hb : Blk w g t cs) (ht : t ∈ T) (hg : base ≤ g) : Chg T base w (w'.setCell ⟨g, i, none⟩ u) :=
  ⟨h.os, h.tape, h.output, by simpa using h.size, fun b hbb hc => (Below.heap_setCell w' ⟨g, i, none⟩ u b (fun e => by
    simp only at e
    subst e
    rcases hc with hc | hc
    · omega
    · exact hc t ht ⟨cs, hb⟩)).trans (h.block b hbb hc)⟩
/-- What the maker's new state leaves. -/
def MkState (w : World) (base pm n : Nat) (acc : Int) (x2 x3 : Value) (a : Au) (e : Ending) (w' : World) : Prop :=
  ∃ A' c', e = .returned (.int .i64 n) ∧ MkAt w' base pm A' (n + 1) c' acc x2 x3 (a ++ [[]]) ∧ Chg TB base w w'

set_option maxHeartbeats 1000000 in
set_option maxRecDepth 100000 in
theorem maker_state (A : Option Addr) (n c base pm : Nat) (acc : Int) (x2 x3 : Value) (a : Au) (w : World) (h : MkAt w base pm A n c acc x2 x3 a) (hb : base ≤ w.heap.size) (hn : n ≤ 1000) :
    Calls Try.prog 64 #[.pointer (some ⟨pm, 0, none⟩)] w (MkState w base pm n acc x2 x3 a) := by
  obtain ⟨i0, hi0, hz0, hs0, hb0⟩ := info_parts info_row
  obtain ⟨rows, ow, hr⟩ := h.au
  have OW := Lib.hid (ow.alloc (.cells #[.slice none 0 0] TRow)); have OW0 := Lib.hid ow; have HR := Lib.hid hr
  have SRC := Lib.hid (Src.one (w := w) (x := .slice none 0 0) (t := TRow) rfl)
  have Q1 : Hid (n + 1 ≤ maxLen) := Lib.hid (by simp only [maxLen]; omega)
  have Q2 : Hid ((n + 1) * 24 ≤ 140737488355328) := Lib.hid (by omega)
  have Q3 : Hid (base ≤ (w.alloc (.cells #[.slice none 0 0] TRow)).heap.size) := Lib.hid (by simp; omega)
  have BK := Lib.hid h.b
  have HGE := Lib.hid h.ge
  have m0 := h.b.cell 0
  have m1 := h.b.frozen 0
  clear h ow hr
  go_enter Try.func64, Try.ntmps64
  go_wp2_with (at_builtin
               go_must (refine wpList_append_src _ rfl (.tmp 8) (.tmp 9) 48 rfl base TRow i0 (.slice none 0 0) 1 24 Try.underlying48 hi0 hz0 hs0 hb0 rfl (by decide) A c n rows rfl OW.out _ 1 1 _ rfl SRC.out Q1.out Q2.out Q3.out ?_)
               intro A4 c4 w4 own4 gr4 _
               have ST := Lib.hid (RowsQ.state OW0.out HR.out gr4 own4)
               have B1 := Lib.hid (ST.out.2.blk BK.out TA_mk)
               have f0 := B1.out.cell 0
               have f1 := B1.out.frozen 0
               clear gr4 own4 m0 m1)
  go_ret
  have B2 : Blk (w4.setCell ⟨pm, 0, none⟩ (.slice A4 (n + 1) c4)) pm TMk #[.slice A4 (n + 1) c4, .int .i64 acc, x2, x3] := B1.out.set 0 (.slice A4 (n + 1) c4)
  exact ⟨A4, c4, by simp, ⟨B2, ST.out.1.setFar (i := 0) (u := .slice A4 (n + 1) c4) B1.out TA_mk (by decide) HGE.out, HGE.out⟩, (ST.out.2.sub TA_TB).setT BK.out (by decide) HGE.out⟩

end Go.Proofs.Ytjnjbcigbnjmkaa
