/- Walks: the program's maker: an edge. -/
import Derived.Test.YtjnjbcigbnjmkaaBb
namespace Go.Proofs.Ytjnjbcigbnjmkaa
open Go.RowKit Pv

/-- What the maker's new edge leaves. -/
def MkEdge (w : World) (base pm n c : Nat) (A : Option Addr) (acc : Int) (x2 x3 : Value) (a : Au) (s : Nat) (x : Ed) (e : Ending) (w' : World) : Prop :=
  e = .returned (.int .i64 x.to) ∧ MkAt w' base pm A n c acc x2 x3 (auEdge a s x) ∧ Chg TB base w w'

set_option maxHeartbeats 2000000 in
set_option maxRecDepth 100000 in
theorem maker_edge (A : Option Addr) (n c base pm s : Nat) (acc : Int) (x2 x3 : Value) (a : Au) (x : Ed) (sA : Option Addr) (sn sc : Nat) (w : World) (h : MkAt w base pm A n c acc x2 x3 a) (hb : base ≤ w.heap.size) (hs : s < n) (hto : -9223372036854775808 ≤ x.to ∧ x.to ≤ 9223372036854775807) (he : edgesN a ≤ 1000000) (hset : SetQ w base (.slice sA sn sc) x.set) :
    Calls Try.prog 108 #[.pointer (some ⟨pm, 0, none⟩), .int .i64 s, .agg #[.int .i64 x.to, .bool x.free, .slice sA sn sc]] w (MkEdge w base pm n c A acc x2 x3 a s x) := by
  obtain ⟨i0, hi0, hz0, hs0', hb0⟩ := info_parts info_edge
  have hW : Below w.heap.size w (w.alloc (.cells #[.int .i64 x.to, .bool x.free, .slice sA sn sc] TEdge)) := (Below.refl _ _).alloc (Nat.le_refl _) _
  obtain ⟨rows, ow, hr⟩ := h.au
  obtain ⟨g, B, m, cc, us, es, rfl, hbg, hgl, hcell, hfz, hes, hm, hrow, owr, hk⟩ := hr.get ow hs
  have hme : m ≤ 1000000 := by have := le_edgesN hes; omega
  have hbx := Blk.new w TEdge #[.int .i64 x.to, .bool x.free, .slice sA sn sc]
  have OW0 := Lib.hid (ow.alloc (.cells #[.int .i64 x.to, .bool x.free, .slice sA sn sc] TEdge)); have HR := Lib.hid (hr.below hW); have HES := Lib.hid hes; have HM := Lib.hid hm; have HROW := Lib.hid hrow
  have OWR := Lib.hid (owr.alloc (.cells #[.int .i64 x.to, .bool x.free, .slice sA sn sc] TEdge))
  have HK := Lib.hid (hk.mono fun f y _ h => (⟨h.1, h.2, h.3.next hW⟩ : REdgeQ (w.alloc (.cells #[.int .i64 x.to, .bool x.free, .slice sA sn sc] TEdge)) base f y))
  have SI := Lib.hid (hset.next hW)
  have HNB := Lib.hid (fun q (hq : (Value.slice B m cc).ownBlock = some q) => (owr.lt q hq).2)
  have OW : Hid ((((w.alloc (.cells #[.int .i64 x.to, .bool x.free, .slice sA sn sc] TEdge)).alloc (.cells #[.int .i64 x.to, .bool x.free, .slice sA sn sc] TEdge)).drew).ownsRow base TEdge 3 (.slice B m cc) m us) := Lib.hid (OWR.out.alloc (.cells #[.int .i64 x.to, .bool x.free, .slice sA sn sc] TEdge))
  have SRC0 := (Src.many (w := w.alloc (.cells #[.int .i64 x.to, .bool x.free, .slice sA sn sc] TEdge)) (arr := #[.int .i64 x.to, .bool x.free, .slice sA sn sc]) (t := TEdge) (size := 3) (by simp [Value.oneCell']) rfl).keep (Keep.drew _)
  rw [show (w.alloc (.cells #[.int .i64 x.to, .bool x.free, .slice sA sn sc] TEdge)).heap.size = w.heap.size + 1 by simp] at SRC0
  have SRC := Lib.hid SRC0
  have Q1 : Hid (m + 1 ≤ maxLen) := Lib.hid (by simp only [maxLen]; omega)
  have Q2 : Hid ((m + 1) * 40 ≤ 140737488355328) := Lib.hid (by omega)
  have Q3 : Hid (base ≤ (((w.alloc (.cells #[.int .i64 x.to, .bool x.free, .slice sA sn sc] TEdge)).alloc (.cells #[.int .i64 x.to, .bool x.free, .slice sA sn sc] TEdge)).drew).heap.size) := Lib.hid (by simp; omega)
  have hbm := h.b.alloc (.cells #[.int .i64 x.to, .bool x.free, .slice sA sn sc] TEdge)
  have hcell1 := ((Keep.alloc w (.cells #[.int .i64 x.to, .bool x.free, .slice sA sn sc] TEdge)).cell g s hgl).trans hcell
  have hgl1 : g < (w.alloc (.cells #[.int .i64 x.to, .bool x.free, .slice sA sn sc] TEdge)).heap.size := by simp; omega
  have K1 : Hid ((w.alloc (.cells #[.int .i64 x.to, .bool x.free, .slice sA sn sc] TEdge)).drew.cell? ⟨pm, 0, none⟩ = some (.slice (some ⟨g, 0, none⟩) n c) ∧ (w.alloc (.cells #[.int .i64 x.to, .bool x.free, .slice sA sn sc] TEdge)).drew.cell? ⟨g, s, none⟩ = some (.slice B m cc) ∧ (w.alloc (.cells #[.int .i64 x.to, .bool x.free, .slice sA sn sc] TEdge)).drew.cell? ⟨w.heap.size, 0, none⟩ = some (.int .i64 x.to) ∧ (w.alloc (.cells #[.int .i64 x.to, .bool x.free, .slice sA sn sc] TEdge)).drew.cell? ⟨w.heap.size, 1, none⟩ = some (.bool x.free) ∧ (w.alloc (.cells #[.int .i64 x.to, .bool x.free, .slice sA sn sc] TEdge)).drew.cell? ⟨w.heap.size, 2, none⟩ = some (.slice sA sn sc)) := Lib.hid ⟨hbm.cell 0, hcell1, hbx.cell 0, hbx.cell 1, hbx.cell 2⟩
  have BM2 := Lib.hid (hbm.alloc (.cells #[.int .i64 x.to, .bool x.free, .slice sA sn sc] TEdge))
  have BX2 := Lib.hid (hbx.alloc (.cells #[.int .i64 x.to, .bool x.free, .slice sA sn sc] TEdge))
  have HC2 := Lib.hid (((Keep.alloc (w.alloc (.cells #[.int .i64 x.to, .bool x.free, .slice sA sn sc] TEdge)) (.cells #[.int .i64 x.to, .bool x.free, .slice sA sn sc] TEdge)).cell g s hgl1).trans hcell1)
  have HF2 := Lib.hid ((World.frozen?_of_block (a := ⟨g, s, none⟩) (Below.heap_alloc (w.alloc (.cells #[.int .i64 x.to, .bool x.free, .slice sA sn sc] TEdge)) (.cells #[.int .i64 x.to, .bool x.free, .slice sA sn sc] TEdge) g hgl1)).trans ((World.frozen?_of_block (a := ⟨g, s, none⟩) (Below.heap_alloc w (.cells #[.int .i64 x.to, .bool x.free, .slice sA sn sc] TEdge) g hgl)).trans hfz))
  have K2 : Hid (((w.alloc (.cells #[.int .i64 x.to, .bool x.free, .slice sA sn sc] TEdge)).alloc (.cells #[.int .i64 x.to, .bool x.free, .slice sA sn sc] TEdge)).drew.cell? ⟨pm, 0, none⟩ = some (.slice (some ⟨g, 0, none⟩) n c) ∧ ((w.alloc (.cells #[.int .i64 x.to, .bool x.free, .slice sA sn sc] TEdge)).alloc (.cells #[.int .i64 x.to, .bool x.free, .slice sA sn sc] TEdge)).drew.cell? ⟨g, s, none⟩ = some (.slice B m cc) ∧ ((w.alloc (.cells #[.int .i64 x.to, .bool x.free, .slice sA sn sc] TEdge)).alloc (.cells #[.int .i64 x.to, .bool x.free, .slice sA sn sc] TEdge)).drew.cell? ⟨w.heap.size, 0, none⟩ = some (.int .i64 x.to) ∧ ((w.alloc (.cells #[.int .i64 x.to, .bool x.free, .slice sA sn sc] TEdge)).alloc (.cells #[.int .i64 x.to, .bool x.free, .slice sA sn sc] TEdge)).drew.cell? ⟨w.heap.size, 1, none⟩ = some (.bool x.free) ∧ ((w.alloc (.cells #[.int .i64 x.to, .bool x.free, .slice sA sn sc] TEdge)).alloc (.cells #[.int .i64 x.to, .bool x.free, .slice sA sn sc] TEdge)).drew.cell? ⟨w.heap.size, 2, none⟩ = some (.slice sA sn sc)) := Lib.hid ⟨BM2.out.cell 0, HC2.out, BX2.out.cell 0, BX2.out.cell 1, BX2.out.cell 2⟩
  have HGE := Lib.hid h.ge
  have HBK := Lib.hid h.b
  have HW := Lib.hid hW
  have hs0 : (0 : Int) ≤ (s : Int) := by omega
  clear h hW ow hr hes hm hrow owr hk SRC0 hset hbm hbx hcell1 hcell hfz
  go_enter Try.func108, Try.ntmps108
  go_wp2
  refine wp_region_T 18 (fun W => W.cell? ⟨pm, 0, none⟩ = some (.slice (some ⟨g, 0, none⟩) n c) ∧ W.cell? ⟨g, s, none⟩ = some (.slice B m cc) ∧ W.cell? ⟨w.heap.size, 0, none⟩ = some (.int .i64 x.to) ∧ W.cell? ⟨w.heap.size, 1, none⟩ = some (.bool x.free) ∧ W.cell? ⟨w.heap.size, 2, none⟩ = some (.slice sA sn sc)) (by kernel_rfl) ?_
  refine wpAnyT_take (i := 0) (v := ?_) rfl (by kernel_rfl) (by kernel_rfl) (by kernel_rfl) (by kernel_rfl) (by kernel_rfl) (fun _ _ _ h => h) (.inl ⟨rfl, ?_⟩) K1.out ?_
  rotate_left
  · intro W__ hW__
    obtain ⟨h1, h2, h3, h4, h5⟩ := hW__
    go_simp
    (try with_reducible rfl)
  simp only [Act.put, List.setIfInBounds_toArray, List.set_cons_zero, List.set_cons_succ]
  refine wpAnyT_take (i := 1) (v := ?_) rfl (by kernel_rfl) (by kernel_rfl) (by kernel_rfl) (by kernel_rfl) (by kernel_rfl) (fun _ _ _ h => h) (.inl ⟨rfl, ?_⟩) K1.out ?_
  rotate_left
  · intro W__ hW__
    obtain ⟨h1, h2, h3, h4, h5⟩ := hW__
    go_simp
    (try with_reducible rfl)
  simp only [Act.put, List.setIfInBounds_toArray, List.set_cons_zero, List.set_cons_succ]
  refine wpAnyT_take (i := 2) (v := ?_) rfl (by kernel_rfl) (by kernel_rfl) (by kernel_rfl) (by kernel_rfl) (by kernel_rfl) (fun _ _ _ h => h) (.inl ⟨rfl, ?_⟩) K1.out ?_
  rotate_left
  · intro W__ hW__
    obtain ⟨h1, h2, h3, h4, h5⟩ := hW__
    go_simp
    (try with_reducible rfl)
  simp only [Act.put, List.setIfInBounds_toArray, List.set_cons_zero, List.set_cons_succ]
  refine wpAnyT_take (i := 3) (v := ?_) rfl (by kernel_rfl) (by kernel_rfl) (by kernel_rfl) (by kernel_rfl) (by kernel_rfl) (fun _ _ _ h => h) (.inl ⟨rfl, ?_⟩) K1.out ?_
  rotate_left
  · intro W__ hW__
    obtain ⟨h1, h2, h3, h4, h5⟩ := hW__
    go_simp
    (try with_reducible rfl)
  simp only [Act.put, List.setIfInBounds_toArray, List.set_cons_zero, List.set_cons_succ]
  refine wpAnyT_take (i := 4) (v := ?_) rfl (by kernel_rfl) (by kernel_rfl) (by kernel_rfl) (by kernel_rfl) (by kernel_rfl) (fun _ _ _ h => h) (.inl ⟨rfl, ?_⟩) K1.out ?_
  rotate_left
  · intro W__ hW__
    obtain ⟨h1, h2, h3, h4, h5⟩ := hW__
    go_simp
    (try with_reducible rfl)
  simp only [Act.put, List.setIfInBounds_toArray, List.set_cons_zero, List.set_cons_succ]
  refine wpAnyT_take (i := 5) (v := ?_) rfl (by kernel_rfl) (by kernel_rfl) (by kernel_rfl) (by kernel_rfl) (by kernel_rfl) (fun _ _ _ h => h) (.inl ⟨rfl, ?_⟩) K1.out ?_
  rotate_left
  · intro W__ hW__
    obtain ⟨h1, h2, h3, h4, h5⟩ := hW__
    go_simp
    (try with_reducible rfl)
  simp only [Act.put, List.setIfInBounds_toArray, List.set_cons_zero, List.set_cons_succ]
  refine wpAnyT_take (i := 6) (v := ?_) rfl (by kernel_rfl) (by kernel_rfl) (by kernel_rfl) (by kernel_rfl) (by kernel_rfl) (fun _ _ _ h => h) (.inl ⟨rfl, ?_⟩) K1.out ?_
  rotate_left
  · intro W__ hW__
    obtain ⟨h1, h2, h3, h4, h5⟩ := hW__
    go_simp
    (try with_reducible rfl)
  simp only [Act.put, List.setIfInBounds_toArray, List.set_cons_zero, List.set_cons_succ]
  refine wpAnyT_take (i := 7) (v := ?_) rfl (by kernel_rfl) (by kernel_rfl) (by kernel_rfl) (by kernel_rfl) (by kernel_rfl) (fun _ _ _ h => h) (.inl ⟨rfl, ?_⟩) K1.out ?_
  rotate_left
  · intro W__ hW__
    obtain ⟨h1, h2, h3, h4, h5⟩ := hW__
    go_simp
    (try with_reducible rfl)
  simp only [Act.put, List.setIfInBounds_toArray, List.set_cons_zero, List.set_cons_succ]
  refine wpAnyT_take (i := 8) (v := ?_) rfl (by kernel_rfl) (by kernel_rfl) (by kernel_rfl) (by kernel_rfl) (by kernel_rfl) (fun _ _ _ h => h) (.inl ⟨rfl, ?_⟩) K1.out ?_
  rotate_left
  · intro W__ hW__
    obtain ⟨h1, h2, h3, h4, h5⟩ := hW__
    go_simp
    (try with_reducible rfl)
  simp only [Act.put, List.setIfInBounds_toArray, List.set_cons_zero, List.set_cons_succ]
  refine wpAnyT_take (i := 9) (v := ?_) rfl (by kernel_rfl) (by kernel_rfl) (by kernel_rfl) (by kernel_rfl) (by kernel_rfl) (fun _ _ _ h => h) (.inl ⟨rfl, ?_⟩) K1.out ?_
  rotate_left
  · intro W__ hW__
    obtain ⟨h1, h2, h3, h4, h5⟩ := hW__
    go_simp
    (try with_reducible rfl)
  simp only [Act.put, List.setIfInBounds_toArray, List.set_cons_zero, List.set_cons_succ]
  refine wpAnyT_take (i := 10) (v := ?_) rfl (by kernel_rfl) (by kernel_rfl) (by kernel_rfl) (by kernel_rfl) (by kernel_rfl) (fun _ _ _ h => h) (.inl ⟨rfl, ?_⟩) K1.out ?_
  rotate_left
  · intro W__ hW__
    obtain ⟨h1, h2, h3, h4, h5⟩ := hW__
    go_simp
    (try with_reducible rfl)
  simp only [Act.put, List.setIfInBounds_toArray, List.set_cons_zero, List.set_cons_succ]
  refine wpAnyT_take (i := 11) (v := ?_) rfl (by kernel_rfl) (by kernel_rfl) (by kernel_rfl) (by kernel_rfl) (by kernel_rfl) (fun _ _ _ h => h) (.inl ⟨rfl, ?_⟩) K1.out ?_
  rotate_left
  · intro W__ hW__
    obtain ⟨h1, h2, h3, h4, h5⟩ := hW__
    go_simp
    (try with_reducible rfl)
  simp only [Act.put, List.setIfInBounds_toArray, List.set_cons_zero, List.set_cons_succ]
  refine wpAnyT_take (i := 12) (v := ?_) rfl (by kernel_rfl) (by kernel_rfl) (by kernel_rfl) (by kernel_rfl) (by kernel_rfl) (fun _ _ _ h => h) (.inl ⟨rfl, ?_⟩) K1.out ?_
  rotate_left
  · intro W__ hW__
    obtain ⟨h1, h2, h3, h4, h5⟩ := hW__
    go_simp
    (try with_reducible rfl)
  simp only [Act.put, List.setIfInBounds_toArray, List.set_cons_zero, List.set_cons_succ]
  refine wpAnyT_take (i := 13) (v := ?_) rfl (by kernel_rfl) (by kernel_rfl) (by kernel_rfl) (by kernel_rfl) (by kernel_rfl) (fun _ _ _ h => h) (.inl ⟨rfl, ?_⟩) K1.out ?_
  rotate_left
  · intro W__ hW__
    obtain ⟨h1, h2, h3, h4, h5⟩ := hW__
    go_simp
    (try with_reducible rfl)
  simp only [Act.put, List.setIfInBounds_toArray, List.set_cons_zero, List.set_cons_succ]
  refine wpAnyT_take (i := 14) (v := ?_) rfl (by kernel_rfl) (by kernel_rfl) (by kernel_rfl) (by kernel_rfl) (by kernel_rfl) (fun _ _ _ h => h) (.inl ⟨rfl, ?_⟩) K1.out ?_
  rotate_left
  · intro W__ hW__
    obtain ⟨h1, h2, h3, h4, h5⟩ := hW__
    go_simp
    (try with_reducible rfl)
  simp only [Act.put, List.setIfInBounds_toArray, List.set_cons_zero, List.set_cons_succ]
  refine wpAnyT_one (i := 15) rfl (by kernel_rfl) rfl fun K__ hK__ => ?_
  unfold Oper.wp
  go_simp
  refine hK__ _ _ (K2.out) ?_
  clear hK__
  refine wpAnyT_one (i := 16) rfl (by kernel_rfl) rfl fun K hK => ?_
  refine wp_append_src _ (.tmp 20) (.tmp 22) 56 rfl base TEdge i0 (.agg #[.int .i64 0, .bool false, .slice none 0 0]) 3 40 Try.underlying56 hi0 hz0 hs0' hb0 rfl (by decide) B cc m us (by simp [Act.eval]) OW.out _ 1 1 _ (by simp [Act.eval]) SRC.out Q1.out Q2.out Q3.out ?_
  intro B4 c4 w4 own4 gr4 hnew4
  have ED := Lib.hid (RowsQ.edge (x := x) OW0.out HR.out hs HES.out HM.out HROW.out OWR.out HK.out SI.out hto rfl ⟨gr4.os, gr4.tape, gr4.output, gr4.size, gr4.block⟩ own4 hnew4)
  have hne : some g ≠ (Value.slice B m cc).ownBlock := fun e => by
    rcases own_ne OWR.out OW0.out (by decide) with h' | h'
    · rw [h'] at e; cases e
    · exact h' e.symm
  have hgk := gr4.block g (by simp; omega) hne
  have c4' : w4.cell? ⟨g, s, none⟩ = some (.slice B m cc) := (World.cell?_of_block (a := ⟨g, s, none⟩) hgk).trans HC2.out
  have f4' : w4.frozen? ⟨g, s, none⟩ = false := (World.frozen?_of_block (a := ⟨g, s, none⟩) hgk).trans HF2.out
  have BM4 := BM2.out.grown (w' := w4) ⟨gr4.os, gr4.tape, gr4.output, gr4.size, gr4.block⟩ (own_blk_ne OW.out BM2.out (by decide))
  have BX4 := BX2.out.grown (w' := w4) ⟨gr4.os, gr4.tape, gr4.output, gr4.size, gr4.block⟩ (fun e => by have := HNB.out _ e.symm; omega)
  have K3 := Lib.hid (And.intro (BM4.cell 0) (And.intro c4' (And.intro (BX4.cell 0) (And.intro (BX4.cell 1) (BX4.cell 2)))))
  have BX5 := Lib.hid (BX4.far (p := ⟨g, s, none⟩) (by simp; omega) (.slice B4 (m + 1) c4))
  refine hK _ _ K3.out ?_
  clear gr4 own4 hnew4 hne hgk BM4 BX4 hK
  simp only [Act.put, List.setIfInBounds_toArray, List.set_cons_zero, List.set_cons_succ]
  refine wpAnyT_take (i := 17) (v := ?_) rfl (by kernel_rfl) (by kernel_rfl) (by kernel_rfl) (by kernel_rfl) (by kernel_rfl) (fun _ _ _ h => h) (.inl ⟨rfl, ?_⟩) K3.out ?_
  rotate_left
  · intro W__ hW__
    obtain ⟨h1, h2, h3, h4, h5⟩ := hW__
    go_simp
    (try with_reducible rfl)
  simp only [Act.put, List.setIfInBounds_toArray, List.set_cons_zero, List.set_cons_succ]
  refine wpAnyT_end (i := 18) rfl (by kernel_rfl) rfl (by kernel_rfl) fun K__ hK__ => ?_
  unfold Oper.wp
  go_simp
  refine hK__ _ _ ?_
  clear hK__
  refine wpAnyT_done (by kernel_rfl) ?_ _
  have b0 := BX5.out.cell 0
  go_wp2
  go_ret
  exact ⟨rfl, ⟨ED.out.2.blk (HBK.out.alloc _) TA_mk, ED.out.1, HGE.out⟩, (Chg.of_below HW.out).trans (ED.out.2.sub TA_TB)⟩

end Go.Proofs.Ytjnjbcigbnjmkaa
