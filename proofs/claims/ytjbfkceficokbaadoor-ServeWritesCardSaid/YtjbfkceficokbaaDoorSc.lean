/- A writer's methods, walked: WriteByte, WriteString, String. -/
import Derived.Test.YtjbfkceficokbaaDoorSb
import Derived.RegionTactic
namespace Go.Proofs.YtjbfkceficokbaaDoor
open Go.RowKit Pv

/-- The writer in its block, used. -/
def WrU (B b : Nat) (l : List UInt8) (w : World) : Prop := B ≤ b ∧ ∃ v, Blk w b TW #[.pointer (some ⟨b, 0, none⟩), v] ∧ w.ownsRow B T8 1 v l.length (Lib.byteCells l)
theorem WrU.wr {B b : Nat} {l : List UInt8} {w : World} (h : WrU B b l w) : Wr TW T8 B b l w := by
  obtain ⟨h0, v, h1, h2⟩ := h
  exact ⟨h0, _, v, .inr rfl, h1, h2⟩
theorem own_setFar {w : World} {B e s n : Nat} {v : Value} {us : List Value} (h : w.ownsRow B e s v n us) {g : Nat} {t : TypeId} {cs : Array Value} (hb : Blk w g t cs) (hne : e ≠ t) (i : Nat) (u : Value) : (w.setCell ⟨g, i, none⟩ u).ownsRow B e s v n us := ownsRow_setFar h hb hne i u

theorem writer_copyCheck (B b : Nat) (l : List UInt8) (w : World) (h : Wr TW T8 B b l w) (hBw : B ≤ w.heap.size) :
    Calls Tryd.prog 17 #[.pointer (some ⟨b, 0, none⟩)] w fun e w' => e = .returned (.tuple #[]) ∧ WrU B b l w' ∧ WrK TW T8 B b w w' := by
  obtain ⟨hB, p, v, hp, hb, hown⟩ := h
  rcases hp with rfl | rfl
  · refine (copyCheck_fresh b v w hb).mono ?_
    rintro e w' ⟨rfl, rfl⟩
    have h1 := hb.set 0 (.pointer (some ⟨b, 0, none⟩))
    simp at h1
    exact ⟨rfl, ⟨hB, v, h1, ownsRow_setFar hown hb (by decide) 0 _⟩, rfl, rfl, rfl, by simp, fun k _ hk _ => Below.heap_setCell _ _ _ _ (by simpa using hk)⟩
  · refine (copyCheck_used b v w hb).mono ?_
    rintro e w' ⟨rfl, rfl⟩
    exact ⟨rfl, ⟨hB, v, hb, hown⟩, WrK.refl _ _ _ _ _⟩

theorem wrk_append {B b n : Nat} {v : Value} {us : List Value} {w w2 : World} (hown : w.ownsRow B T8 1 v n us) (gr : w.grownBy w2 v.ownBlock) : WrK TW T8 B b w w2 :=
  ⟨gr.os, gr.tape, gr.output, gr.size, fun k hk hkb hc => gr.block k hk fun e => by
    rcases hown.2 with ⟨rfl, _⟩ | ⟨g, cap, cur, rfl, hg, hh, _⟩
    · simp [Value.ownBlock] at e
    · have : k = g := by simpa [Value.ownBlock] using e
      subst this
      rcases hc with hc | hc
      · omega
      · exact hc cur hh⟩

set_option maxHeartbeats 2000000 in
set_option maxRecDepth 100000 in
theorem writer_WriteByte (B b : Nat) (l : List UInt8) (c : UInt8) (w : World) (h : Wr TW T8 B b l w) (hlen : l.length + 1 ≤ 140737488355328) (hBw : B ≤ w.heap.size) :
    Calls Tryd.prog 8 #[.pointer (some ⟨b, 0, none⟩), .int .u8 c.toNat] w fun e w' => e = .returned .nilIface ∧ Wr TW T8 B b (l ++ [c]) w' ∧ WrK TW T8 B b w w' := by
  obtain ⟨i0, hi, hz0, hz1, hz2⟩ := info_parts info_byte
  have HC := Lib.hid (writer_copyCheck B b l w h hBw)
  clear h
  go_enter Tryd.func8, Tryd.ntmps8
  go_wp2_with fail
  refine HC.out.mono ?_
  rintro e w1 ⟨rfl, ⟨hB, v, hbk, hown⟩, hk1⟩
  have HK1 := Lib.hid hk1
  have hBw1 : B ≤ w1.heap.size := Nat.le_trans hBw hk1.size
  obtain ⟨c0, c1, _, f1⟩ := Blk.pair hbk
  have HBK := Lib.hid hbk; have HOW := Lib.hid (hown.alloc (.cells #[.int .u8 c.toNat] T8))
  have HOW0 := Lib.hid hown
  clear hk1 hbk hown
  go_wp2_with (at_builtin; refine wpList_append_own _ rfl _ _ 37 rfl B T8 i0 (.int .u8 0) 1 1 Tryd.underlying37 hi hz0 hz1 hz2 rfl (by decide) _ _ _ rfl HOW.out ⟨w1.heap.size, 0, none⟩ 1 1 [.int .u8 c.toNat] rfl rfl ?c1 ?c2 ?c3 ?c4 ?c5 ?_)
  case c1 =>
    intro j u hj
    match j, hj with
    | 0, hj => simp at hj; subst hj; simp [Addr.add]
  case c2 => intro u hu; simp at hu; subst hu; rfl
  case c3 => unfold maxLen; omega
  case c4 => omega
  case c5 => simp; omega
  intro v' w2 hown' hgrow _
  have hb2 : Blk w2 b TW #[.pointer (some ⟨b, 0, none⟩), v] := (HBK.out.alloc _).grown hgrow (own_blk_ne HOW.out (HBK.out.alloc _) (by decide))
  obtain ⟨d0, d1, _, f2⟩ := Blk.pair hb2
  have HB2 := Lib.hid hb2
  have HG := Lib.hid hgrow
  have HO2 := Lib.hid hown'
  have hlt2 := hb2.lt
  obtain ⟨g, cap, rfl⟩ : ∃ g cap, v' = .slice (some ⟨g, 0, none⟩) (l.length + 1) cap := by
    rcases hown'.2 with ⟨_, h0⟩ | ⟨g, cap, cur, hv, _⟩
    · omega
    · exact ⟨g, cap, hv⟩
  clear hb2 hgrow hown'
  go_wp2
  go_ret
  have h3 := HB2.out.set 1 (.slice (some ⟨g, 0, none⟩) (l.length + 1) cap)
  simp at h3
  refine ⟨rfl, ⟨hB, _, _, .inr rfl, h3, ?_⟩, ?_⟩
  · have := ownsRow_setFar HO2.out HB2.out (by decide) 1 (.slice (some ⟨g, 0, none⟩) (l.length + 1) cap)
    simpa [Lib.byteCells] using this
  · exact HK1.out.trans ((WrK.of ((Below.refl _ _).alloc (Nat.le_refl _) _)).trans ((wrk_append (n := l.length) HOW.out HG.out).trans ⟨rfl, rfl, rfl, by simp, fun k _ hk _ => Below.heap_setCell _ _ _ _ (by simpa using hk)⟩))

set_option maxHeartbeats 2000000 in
set_option maxRecDepth 100000 in
theorem writer_WriteString (B b : Nat) (l : List UInt8) (s : ByteArray) (w : World) (h : Wr TW T8 B b l w) (hlen : l.length + s.size ≤ 140737488355328) (hBw : B ≤ w.heap.size) :
    Calls Tryd.prog 9 #[.pointer (some ⟨b, 0, none⟩), .string s] w fun e w' => e = .returned (.tuple #[.int .i64 s.size, .nilIface]) ∧ Wr TW T8 B b (l ++ bsl s) w' ∧ WrK TW T8 B b w w' := by
  obtain ⟨i0, hi, hz0, hz1, hz2⟩ := info_parts info_byte
  have HC := Lib.hid (writer_copyCheck B b l w h hBw)
  clear h
  go_enter Tryd.func9, Tryd.ntmps9
  go_wp2_with fail
  refine HC.out.mono ?_
  rintro e w1 ⟨rfl, ⟨hB, v, hbk, hown⟩, hk1⟩
  have HK1 := Lib.hid hk1
  have hBw1 : B ≤ w1.heap.size := Nat.le_trans hBw hk1.size
  obtain ⟨c0, c1, _, f1⟩ := Blk.pair hbk
  have HBK := Lib.hid hbk; have HOW := Lib.hid hown
  clear hk1 hbk hown
  go_wp2_with (at_builtin; refine Lib.wpList_append_own_string _ rfl _ _ 37 9 rfl B T8 i0 Tryd.underlying37 Tryd.underlying9 hi hz0 hz1 hz2 _ _ _ rfl HOW.out s rfl ?c3 ?c4 ?c5 ?_)
  case c3 => unfold maxLen; omega
  case c4 => omega
  case c5 => omega
  intro v' w2 hown' hgrow _
  have hb2 : Blk w2 b TW #[.pointer (some ⟨b, 0, none⟩), v] := HBK.out.grown hgrow (own_blk_ne HOW.out HBK.out (by decide))
  obtain ⟨d0, d1, _, f2⟩ := Blk.pair hb2
  have HB2 := Lib.hid hb2
  have HG := Lib.hid hgrow
  have HO2 := Lib.hid hown'
  have hlt2 := hb2.lt
  obtain ⟨ao, n', cap, rfl⟩ : ∃ ao n' cap, v' = .slice ao n' cap := by
    rcases hown'.2 with ⟨hv, _⟩ | ⟨g, cap, cur, hv, _⟩
    · exact ⟨_, _, _, hv⟩
    · exact ⟨_, _, _, hv⟩
  clear hb2 hgrow hown'
  go_wp2
  go_ret2
  have h3 := HB2.out.set 1 (.slice ao n' cap)
  simp at h3
  refine ⟨rfl, ⟨hB, _, _, .inr rfl, h3, ?_⟩, ?_⟩
  · have := ownsRow_setFar HO2.out HB2.out (by decide) 1 (.slice ao n' cap)
    rw [List.length_append, bsl_len, show Lib.byteCells (l ++ bsl s) = Lib.byteCells l ++ Lib.strCells s by simp [Lib.byteCells, Lib.strCells]]
    exact this
  · exact HK1.out.trans ((wrk_append (n := l.length) HOW.out HG.out).trans ⟨rfl, rfl, rfl, by simp, fun k _ hk _ => Below.heap_setCell _ _ _ _ (by simpa using hk)⟩)

set_option maxHeartbeats 1000000 in
set_option maxRecDepth 100000 in
theorem writer_String (B b : Nat) (l : List UInt8) (w : World) (h : Wr TW T8 B b l w) (h0 : l ≠ []) :
    Calls Tryd.prog 14 #[.pointer (some ⟨b, 0, none⟩)] w fun e w' => e = .returned (.string ⟨l.toArray⟩) ∧ Below B w w' := by
  obtain ⟨hB, p, v, hp, hbk, hown⟩ := h
  have hl0 : l.length ≠ 0 := by simpa using h0
  obtain ⟨g, cap, cur, rfl, hbg, hg, hnc, hcm, hcs, htake⟩ : ∃ g cap cur, v = .slice (some ⟨g, 0, none⟩) l.length cap ∧ B ≤ g ∧ w.heap[g]? = some (.cells cur T8 (0, 0)) ∧ l.length ≤ cap ∧ cap ≤ maxLen ∧ cur.size = cap * 1 ∧ cur.toList.take (l.length * 1) = Lib.byteCells l := by
    rcases hown.2 with ⟨_, hz⟩ | ⟨g, cap, cur, hv, r⟩
    · exact absurd hz hl0
    · exact ⟨g, cap, cur, hv, r⟩
  have c1 : w.drew.cell? ⟨b, 1, none⟩ = some (.slice (some ⟨g, 0, none⟩) l.length cap) := (Blk.pair hbk).2.1
  have hSD : (Builtin.unsafeSliceData_ #[37] 61 #[.slice (some ⟨g, 0, none⟩) l.length cap]).run Tryd.prog w.drew = .ok (.pointer (some ⟨g, 0, none⟩)) w.drew :=
    Lib.run_unsafeSliceData_row _ _ _ _ _ _ (by omega)
  have hUS : (Builtin.unsafeString_ #[61, 3] 9 #[.pointer (some ⟨g, 0, none⟩), .int .i64 l.length]).run Tryd.prog w.drew = .ok (.string ⟨l.toArray⟩) (w.drew.freeze ⟨g, 0, none⟩ l.length) := by
    refine Lib.run_unsafeString_row w.drew 61 3 9 T8 Tryd.underlying61 (by kernel_rfl) g cur.size (by have hg' : w.drew.heap[g]? = some (.cells cur T8 (0, 0)) := hg; simp [World.shape?, hg']) l h0 (by omega) (by unfold maxLen at hcm; omega) ?_
    intro j x hx
    have := hown.cells (g := g) rfl j (.int .u8 x.toNat) (by simp [Lib.byteCells, hx])
    exact this
  clear hown hbk
  go_enter Tryd.func14, Tryd.ntmps14
  go_wp2
  go_region
  all_goals (go_wp2; go_ret; exact ⟨rfl, Lib.below_freeze (Below.drew (Below.refl B w)) (p := ⟨g, 0, none⟩) hbg _⟩)
end Go.Proofs.YtjbfkceficokbaaDoor
