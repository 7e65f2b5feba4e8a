/- Walks: the document's states and free edges. -/
import Derived.Test.YtjnjbcigbnjmkaaGreatBay
import Derived.RegionTactic
import Derived.ChangeAlike
namespace Go.Proofs.YtjnjbcigbnjmkaaGreat
open Go.RowKit Pv

theorem TA_auto : ∀ e, e ∈ TA → e ≠ TAuto := by decide
theorem AuAt.setFar {w : World} {base n c g i : Nat} {A : Option Addr} {a : Au} {t : TypeId} {cs : Array Value} {u : Value} (h : AuAt w base A n c a) (hb : Blk w g t cs) (ht : ∀ e, e ∈ TA → e ≠ t) (ht2 : t ≠ TRng) (hg : base ≤ g) : AuAt (w.setCell ⟨g, i, none⟩ u) base A n c a := by
  obtain ⟨rows, h1, h2⟩ := h
  have hold : ∀ b, b ≠ g → (w.setCell ⟨g, i, none⟩ u).heap[b]? = w.heap[b]? := fun b hb => Below.heap_setCell w ⟨g, i, none⟩ u b hb
  have hs : ∀ v l, SetIn w base v l → SetIn (w.setCell ⟨g, i, none⟩ u) base v l := fun v l ⟨A, c, e, hs, hc, hh⟩ => by
    have key : ∀ b o, A = some ⟨b, o, none⟩ → 0 < l.length → b ≠ g := fun b o e hp hbg => by
      rcases hh hp b o e with h | ⟨cs', hcs'⟩
      · omega
      · subst hbg
        unfold Blk at hb
        rw [hb] at hcs'
        injection hcs' with hcs'
        injection hcs' with _ h1
        exact ht2 h1
    refine ⟨A, c, e, AtK.chg hs (by simp) fun b o e hp _ => hold b (key b o e hp), hc, fun hp b o e => ?_⟩
    rcases hh hp b o e with h | ⟨cs', hcs'⟩
    · exact .inl h
    · exact .inr ⟨cs', (hold b (key b o e hp)).trans hcs'⟩
  refine ⟨rows, ownsRow_setFar h1 hb (ht TRow (by simp)) i u, h2.len, h2.n, fun j es he => ?_, h2.ne⟩
  obtain ⟨r, hr, A', c', us, rfl, ow, hk⟩ := h2.row j es he
  exact ⟨_, hr, A', c', us, rfl, ownsRow_setFar ow hb (ht TEdge (by simp)) i u, hk.mono fun f x _ h => ⟨h.1, h.2, hs _ _ h.3⟩⟩
theorem Chg.set {T : List TypeId} {base g i : Nat} {w w' : World} {u : Value} (h : Chg T base w w') (hg : w.heap.size ≤ g) : Chg T base w (w'.setCell ⟨g, i, none⟩ u) :=
  ⟨h.os, h.tape, h.output, by simpa using h.size, fun b hb hc => (Below.heap_setCell w' ⟨g, i, none⟩ u b (by simp only; omega)).trans (h.block b hb hc)⟩

theorem store2 {T : List TypeId} {w0 w : World} {base g n c : Nat} {A : Option Addr} {a : Au} {t : TypeId} {x0 x1 : Value} (y0 y1 : Value) (hb : Blk w g t #[x0, x1]) (ha : AuAt w base A n c a) (hc : Chg T base w0 w) (ht : ∀ e, e ∈ TA → e ≠ t) (ht2 : t ≠ TRng) (hbs : base ≤ w0.heap.size) (hg : w0.heap.size ≤ g) :
    Blk ((w.setCell ⟨g, 0, none⟩ y0).setCell ⟨g, 1, none⟩ y1) g t #[y0, y1] ∧ AuAt ((w.setCell ⟨g, 0, none⟩ y0).setCell ⟨g, 1, none⟩ y1) base A n c a ∧ Chg T base w0 ((w.setCell ⟨g, 0, none⟩ y0).setCell ⟨g, 1, none⟩ y1) :=
  ⟨(hb.set 0 y0).set 1 y1, (ha.setFar hb ht ht2 (by omega)).setFar (hb.set 0 y0) ht ht2 (by omega), (hc.set hg).set hg⟩
/-- What a new state leaves. -/
def StatePost (w : World) (base n : Nat) (acc : Int) (a : Au) (e : Ending) (w' : World) : Prop :=
  ∃ A' c', e = .returned (.tuple #[.agg #[.slice A' (n + 1) c', .int .i64 acc], .int .i64 n]) ∧ AuAt w' base A' (n + 1) c' (a ++ [[]]) ∧ Chg TA base w w'

set_option maxHeartbeats 1000000 in
set_option maxRecDepth 100000 in
theorem ref09_state (A : Option Addr) (n c base : Nat) (acc : Int) (a : Au) (w : World) (h : AuAt w base A n c a) (hb : base ≤ w.heap.size) (hn : n ≤ 1000) :
    Calls Tryz.prog 80 #[.agg #[.slice A n c, .int .i64 acc]] w (StatePost w base n acc a) := by
  obtain ⟨i0, hi0, hz0, hs0, hb0⟩ := info_parts info_row
  have hW : Below w.heap.size w ((w.alloc (.cells #[.slice A n c, .int .i64 acc] TAuto)).alloc (.cells #[.slice none 0 0, .int .i64 0] TAuto)) := ((Below.refl _ _).alloc (Nat.le_refl _) _).alloc (by simp) _
  have HW := Lib.hid hW
  obtain ⟨rows, ow, hr⟩ := h.next hW
  have OW := Lib.hid (ow.alloc (.cells #[.slice none 0 0] TRow)); have OW0 := Lib.hid ow; have HR := Lib.hid hr
  have SRC := Lib.hid (Src.one (w := (w.alloc (.cells #[.slice A n c, .int .i64 acc] TAuto)).alloc (.cells #[.slice none 0 0, .int .i64 0] TAuto)) (x := .slice none 0 0) (t := TRow) rfl)
  rw [show ((w.alloc (.cells #[.slice A n c, .int .i64 acc] TAuto)).alloc (.cells #[.slice none 0 0, .int .i64 0] TAuto)).heap.size = w.heap.size + 1 + 1 by simp] at SRC
  have Q1 : Hid (n + 1 ≤ maxLen) := Lib.hid (by simp only [maxLen]; omega)
  have Q2 : Hid ((n + 1) * 24 ≤ 140737488355328) := Lib.hid (by omega)
  have Q3 : Hid (base ≤ (((w.alloc (.cells #[.slice A n c, .int .i64 acc] TAuto)).alloc (.cells #[.slice none 0 0, .int .i64 0] TAuto)).alloc (.cells #[.slice none 0 0] TRow)).heap.size) := Lib.hid (by simp; omega)
  have BK := Lib.hid (blk2 w #[.slice A n c, .int .i64 acc] #[.slice none 0 0, .int .i64 0] TAuto TAuto)
  clear h hW ow hr
  go_enter Tryz.func80, Tryz.ntmps80
  go_wp2_with (at_builtin
               go_must (refine wpList_append_src _ rfl (.tmp 5) (.tmp 6) 38 rfl base TRow i0 (.slice none 0 0) 1 24 Tryz.underlying38 hi0 hz0 hs0 hb0 rfl (by decide) A c n rows rfl OW.out _ 1 1 _ rfl SRC.out Q1.out Q2.out Q3.out ?_)
               intro A4 c4 w4 own4 gr4 _
               have ST := Lib.hid (RowsAt.state OW0.out HR.out gr4 own4)
               have B1 := Lib.hid (ST.out.2.blk BK.out.1 TA_auto)
               have B2 := Lib.hid (ST.out.2.blk BK.out.2 TA_auto)
               clear gr4 own4
               obtain ⟨f0, f1, f2, f3⟩ := Blk.two B1.out)
  have B3 : Hid (Blk (w4.setCell ⟨w.heap.size, 0, none⟩ (.slice A4 (n + 1) c4)) w.heap.size TAuto #[.slice A4 (n + 1) c4, .int .i64 acc]) := Lib.hid (B1.out.set 0 (.slice A4 (n + 1) c4))
  have B4 := Lib.hid (B2.out.far (p := ⟨w.heap.size, 0, none⟩) (by simp) (.slice A4 (n + 1) c4))
  have CH := Lib.hid (((Chg.of_below (T := TA) (base := base) HW.out).trans ST.out.2).set (i := 0) (u := .slice A4 (n + 1) c4) (Nat.le_refl w.heap.size))
  have AU := Lib.hid (ST.out.1.setFar (i := 0) (u := .slice A4 (n + 1) c4) B1.out TA_auto (by decide) hb)
  generalize w4.setCell ⟨w.heap.size, 0, none⟩ (.slice A4 (n + 1) c4) = w5 at *
  clear f0 f1 f2 f3 ST B1 B2 OW OW0 HR SRC Q1 Q2 Q3 BK
  obtain ⟨g0, g1, g2, g3⟩ := Blk.two B4.out
  obtain ⟨e0, e1, e2, e3⟩ := Blk.two B3.out
  have S2 := Lib.hid (store2 (.slice A4 (n + 1) c4) (.int .i64 acc) B4.out AU.out CH.out TA_auto (by decide) hb (Nat.le_succ _))
  go_region
  all_goals
    go_wp2
    obtain ⟨k0, k1, _, _⟩ := Blk.two S2.out.1
    refine bodyPost_ret (v := .tuple #[.agg #[.slice A4 (n + 1) c4, .int .i64 acc], .int .i64 n]) (by simp [results, Tryz.results80, go_sem, k0, k1]) rfl ⟨A4, c4, rfl, S2.out.2.1.next (Below.refl _ _).drew, S2.out.2.2.drew⟩

end Go.Proofs.YtjnjbcigbnjmkaaGreat
