/- Walks: the document's free edges. -/
import Derived.Test.YtjnjbcigbnjmkaaGreatAny
import Derived.Test.YtjnjbcigbnjmkaaGreatQvy
import Derived.Test.YtjnjbcigbnjmkaaGreatBfy
namespace Go.Proofs.YtjnjbcigbnjmkaaGreat
open Go.RowKit Pv

theorem SetIn.nil (w : World) (base : Nat) : SetIn w base (.slice none 0 0) [] := ⟨none, 0, rfl, AtK.nil, by simp, fun h => by simp at h⟩

/-- What a free edge leaves. -/
def FreePost (w : World) (base n c s to : Nat) (A : Option Addr) (a : Au) (e : Ending) (w' : World) : Prop :=
  (∃ v, e = .returned v) ∧ AuAt w' base A n c (auEdge a s ⟨to, true, []⟩) ∧ Chg TA base w w'

set_option maxHeartbeats 1000000 in
set_option maxRecDepth 100000 in
theorem ref09_free (A : Option Addr) (n c base s to : Nat) (acc : Int) (a : Au) (w : World) (h : AuAt w base A n c a) (hb : base ≤ w.heap.size) (hs : s < n) (hto : to ≤ 1000) (he : edgesN a ≤ 1000000) :
    Calls Tryz.prog 81 #[.agg #[.slice A n c, .int .i64 acc], .int .i64 s, .int .i64 to] w (FreePost w base n c s to A a) := by
  obtain ⟨i0, hi0, hz0, hs0, hb0⟩ := info_parts info_edge
  have hW : Below w.heap.size w (w.alloc (.cells #[.slice A n c, .int .i64 acc] TAuto)) := (Below.refl _ _).alloc (Nat.le_refl _) _
  obtain ⟨rows, ow, hr⟩ := h.next hW
  obtain ⟨g, B, m, cc, us, es, rfl, hbg, hgl, hcell, hfz, hes, hm, hrow, owr, hk⟩ := hr.get ow hs
  have hme : m ≤ 1000000 := by have := le_edgesN hes; omega
  have HW := Lib.hid hW
  have OW0 := Lib.hid ow; have HR := Lib.hid hr; have HES := Lib.hid hes; have HM := Lib.hid hm; have HROW := Lib.hid hrow; have OWR := Lib.hid owr; have HK := Lib.hid hk
  have OW : Hid ((((w.alloc (.cells #[.slice (some ⟨g, 0, none⟩) n c, .int .i64 acc] TAuto)).alloc (.cells #[.int .i64 to, .bool true, .slice none 0 0] TEdge)).drew).ownsRow base TEdge 3 (.slice B m cc) m us) := Lib.hid (owr.alloc (.cells #[.int .i64 to, .bool true, .slice none 0 0] TEdge))
  have SRC0 := (Src.many (w := w.alloc (.cells #[.slice (some ⟨g, 0, none⟩) n c, .int .i64 acc] TAuto)) (arr := #[.int .i64 to, .bool true, .slice none 0 0]) (t := TEdge) (size := 3) (by simp [Value.oneCell']) rfl).keep (Keep.drew _)
  rw [show (w.alloc (.cells #[.slice (some ⟨g, 0, none⟩) n c, .int .i64 acc] TAuto)).heap.size = w.heap.size + 1 by simp] at SRC0
  have SRC := Lib.hid SRC0
  have Q1 : Hid (m + 1 ≤ maxLen) := Lib.hid (by simp only [maxLen]; omega)
  have Q2 : Hid ((m + 1) * 40 ≤ 140737488355328) := Lib.hid (by omega)
  have Q3 : Hid (base ≤ (((w.alloc (.cells #[.slice (some ⟨g, 0, none⟩) n c, .int .i64 acc] TAuto)).alloc (.cells #[.int .i64 to, .bool true, .slice none 0 0] TEdge)).drew).heap.size) := Lib.hid (by simp; omega)
  have hgl2 : g < w.heap.size + 1 := by simpa using hgl
  have HC1 := Lib.hid (((Keep.alloc (w.alloc (.cells #[.slice (some ⟨g, 0, none⟩) n c, .int .i64 acc] TAuto)) (.cells #[.int .i64 to, .bool true, .slice none 0 0] TEdge)).cell g s hgl).trans hcell)
  have HF1 := Lib.hid ((World.frozen?_of_block (a := ⟨g, s, none⟩) (Below.heap_alloc (w.alloc (.cells #[.slice (some ⟨g, 0, none⟩) n c, .int .i64 acc] TAuto)) (.cells #[.int .i64 to, .bool true, .slice none 0 0] TEdge) g hgl)).trans hfz)
  clear h hW ow hr hes hm hrow owr hk SRC0
  go_enter Tryz.func81, Tryz.ntmps81
  go_wp2
  have K1 : Hid ((w.alloc (.cells #[.slice (some ⟨g, 0, none⟩) n c, .int .i64 acc] TAuto)).drew.cell? ⟨w.heap.size, 0, none⟩ = some (.slice (some ⟨g, 0, none⟩) n c) ∧ (w.alloc (.cells #[.slice (some ⟨g, 0, none⟩) n c, .int .i64 acc] TAuto)).drew.cell? ⟨g, s, none⟩ = some (.slice B m cc)) := Lib.hid ⟨(Blk.new w TAuto #[.slice (some ⟨g, 0, none⟩) n c, .int .i64 acc]).cell 0, hcell⟩
  have K2 : Hid (((w.alloc (.cells #[.slice (some ⟨g, 0, none⟩) n c, .int .i64 acc] TAuto)).alloc (.cells #[.int .i64 to, .bool true, .slice none 0 0] TEdge)).drew.cell? ⟨w.heap.size, 0, none⟩ = some (.slice (some ⟨g, 0, none⟩) n c) ∧ ((w.alloc (.cells #[.slice (some ⟨g, 0, none⟩) n c, .int .i64 acc] TAuto)).alloc (.cells #[.int .i64 to, .bool true, .slice none 0 0] TEdge)).drew.cell? ⟨g, s, none⟩ = some (.slice B m cc)) := Lib.hid ⟨((Blk.new w TAuto #[.slice (some ⟨g, 0, none⟩) n c, .int .i64 acc]).alloc (.cells #[.int .i64 to, .bool true, .slice none 0 0] TEdge)).cell 0, HC1.out⟩
  refine wp_region_T 13 (fun W => W.cell? ⟨w.heap.size, 0, none⟩ = some (.slice (some ⟨g, 0, none⟩) n c) ∧ W.cell? ⟨g, s, none⟩ = some (.slice B m cc)) (by kernel_rfl) ?_
  refine wpAnyT_take (i := 0) (v := ?_) rfl (by kernel_rfl) (by kernel_rfl) (by kernel_rfl) (by kernel_rfl) (by kernel_rfl) (fun _ _ _ h => h) (.inl ⟨rfl, ?_⟩) K1.out ?_
  rotate_left
  · intro W__ hW__
    obtain ⟨h1, h2⟩ := hW__
    go_simp
    (try with_reducible rfl)
  simp only [Act.put, List.setIfInBounds_toArray, List.set_cons_zero, List.set_cons_succ]
  refine wpAnyT_take (i := 1) (v := ?_) rfl (by kernel_rfl) (by kernel_rfl) (by kernel_rfl) (by kernel_rfl) (by kernel_rfl) (fun _ _ _ h => h) (.inl ⟨rfl, ?_⟩) K1.out ?_
  rotate_left
  · intro W__ hW__
    obtain ⟨h1, h2⟩ := hW__
    go_simp
    (try with_reducible rfl)
  simp only [Act.put, List.setIfInBounds_toArray, List.set_cons_zero, List.set_cons_succ]
  refine wpAnyT_take (i := 2) (v := ?_) rfl (by kernel_rfl) (by kernel_rfl) (by kernel_rfl) (by kernel_rfl) (by kernel_rfl) (fun _ _ _ h => h) (.inl ⟨rfl, ?_⟩) K1.out ?_
  rotate_left
  · intro W__ hW__
    obtain ⟨h1, h2⟩ := hW__
    go_simp
    (try with_reducible rfl)
  simp only [Act.put, List.setIfInBounds_toArray, List.set_cons_zero, List.set_cons_succ]
  refine wpAnyT_take (i := 3) (v := ?_) rfl (by kernel_rfl) (by kernel_rfl) (by kernel_rfl) (by kernel_rfl) (by kernel_rfl) (fun _ _ _ h => h) (.inl ⟨rfl, ?_⟩) K1.out ?_
  rotate_left
  · intro W__ hW__
    obtain ⟨h1, h2⟩ := hW__
    go_simp
    (try with_reducible rfl)
  simp only [Act.put, List.setIfInBounds_toArray, List.set_cons_zero, List.set_cons_succ]
  refine wpAnyT_take (i := 4) (v := ?_) rfl (by kernel_rfl) (by kernel_rfl) (by kernel_rfl) (by kernel_rfl) (by kernel_rfl) (fun _ _ _ h => h) (.inl ⟨rfl, ?_⟩) K1.out ?_
  rotate_left
  · intro W__ hW__
    obtain ⟨h1, h2⟩ := hW__
    go_simp
    (try with_reducible rfl)
  simp only [Act.put, List.setIfInBounds_toArray, List.set_cons_zero, List.set_cons_succ]
  refine wpAnyT_take (i := 5) (v := ?_) rfl (by kernel_rfl) (by kernel_rfl) (by kernel_rfl) (by kernel_rfl) (by kernel_rfl) (fun _ _ _ h => h) (.inl ⟨rfl, ?_⟩) K1.out ?_
  rotate_left
  · intro W__ hW__
    obtain ⟨h1, h2⟩ := hW__
    go_simp
    (try with_reducible rfl)
  simp only [Act.put, List.setIfInBounds_toArray, List.set_cons_zero, List.set_cons_succ]
  refine wpAnyT_take (i := 6) (v := ?_) rfl (by kernel_rfl) (by kernel_rfl) (by kernel_rfl) (by kernel_rfl) (by kernel_rfl) (fun _ _ _ h => h) (.inl ⟨rfl, ?_⟩) K1.out ?_
  rotate_left
  · intro W__ hW__
    obtain ⟨h1, h2⟩ := hW__
    go_simp
    (try with_reducible rfl)
  simp only [Act.put, List.setIfInBounds_toArray, List.set_cons_zero, List.set_cons_succ]
  refine wpAnyT_take (i := 7) (v := ?_) rfl (by kernel_rfl) (by kernel_rfl) (by kernel_rfl) (by kernel_rfl) (by kernel_rfl) (fun _ _ _ h => h) (.inl ⟨rfl, ?_⟩) K1.out ?_
  rotate_left
  · intro W__ hW__
    obtain ⟨h1, h2⟩ := hW__
    go_simp
    (try with_reducible rfl)
  simp only [Act.put, List.setIfInBounds_toArray, List.set_cons_zero, List.set_cons_succ]
  refine wpAnyT_take (i := 8) (v := ?_) rfl (by kernel_rfl) (by kernel_rfl) (by kernel_rfl) (by kernel_rfl) (by kernel_rfl) (fun _ _ _ h => h) (.inl ⟨rfl, ?_⟩) K1.out ?_
  rotate_left
  · intro W__ hW__
    obtain ⟨h1, h2⟩ := hW__
    go_simp
    (try with_reducible rfl)
  simp only [Act.put, List.setIfInBounds_toArray, List.set_cons_zero, List.set_cons_succ]
  refine wpAnyT_take (i := 9) (v := ?_) rfl (by kernel_rfl) (by kernel_rfl) (by kernel_rfl) (by kernel_rfl) (by kernel_rfl) (fun _ _ _ h => h) (.inl ⟨rfl, ?_⟩) K1.out ?_
  rotate_left
  · intro W__ hW__
    obtain ⟨h1, h2⟩ := hW__
    go_simp
    (try with_reducible rfl)
  simp only [Act.put, List.setIfInBounds_toArray, List.set_cons_zero, List.set_cons_succ]
  refine wpAnyT_one (i := 10) rfl (by kernel_rfl) rfl fun K hK => ?_
  unfold Oper.wp
  go_simp
  refine hK _ _ K2.out ?_
  clear hK
  refine wpAnyT_one (i := 11) rfl (by kernel_rfl) rfl fun K hK => ?_
  refine wp_append_src _ (.tmp 13) (.tmp 16) 101 rfl base TEdge i0 (.agg #[.int .i64 0, .bool false, .slice none 0 0]) 3 40 Tryz.underlying101 hi0 hz0 hs0 hb0 rfl (by decide) B cc m us (by simp [Act.eval]) OW.out _ 1 1 _ (by simp [Act.eval]) SRC.out Q1.out Q2.out Q3.out ?_
  intro B4 c4 w4 own4 gr4 hnew4
  have ED := Lib.hid (RowsAt.edge (x := ⟨to, true, []⟩) OW0.out HR.out hs HES.out HM.out HROW.out OWR.out HK.out (SetIn.nil _ _) (by simp only; omega) rfl ⟨gr4.os, gr4.tape, gr4.output, gr4.size, gr4.block⟩ own4 hnew4)
  have hne : some g ≠ (Value.slice B m cc).ownBlock := fun e => by
    rcases own_ne OWR.out OW0.out (by decide) with h' | h'
    · rw [h'] at e; cases e
    · exact h' e.symm
  have hgk := gr4.block g (by simp; omega) hne
  have c4' : w4.cell? ⟨g, s, none⟩ = some (.slice B m cc) := (World.cell?_of_block (a := ⟨g, s, none⟩) hgk).trans HC1.out
  have f4' : w4.frozen? ⟨g, s, none⟩ = false := (World.frozen?_of_block (a := ⟨g, s, none⟩) hgk).trans HF1.out
  have BK4 := ((Blk.new w TAuto #[.slice (some ⟨g, 0, none⟩) n c, .int .i64 acc]).alloc (.cells #[.int .i64 to, .bool true, .slice none 0 0] TEdge)).grown (w' := w4) ⟨gr4.os, gr4.tape, gr4.output, gr4.size, gr4.block⟩ (own_blk_ne OWR.out (Blk.new w TAuto #[.slice (some ⟨g, 0, none⟩) n c, .int .i64 acc]) (by decide))
  obtain ⟨q0, q1, q2, q3⟩ := Blk.two BK4
  clear BK4
  have K3 := Lib.hid (And.intro q0 c4')
  refine hK _ _ K3.out ?_
  clear gr4 own4 hnew4 hne hgk hK
  simp only [Act.put, List.setIfInBounds_toArray, List.set_cons_zero, List.set_cons_succ]
  refine wpAnyT_take (i := 12) (v := ?_) rfl (by kernel_rfl) (by kernel_rfl) (by kernel_rfl) (by kernel_rfl) (by kernel_rfl) (fun _ _ _ h => h) (.inl ⟨rfl, ?_⟩) K3.out ?_
  rotate_left
  · intro W__ hW__
    obtain ⟨h1, h2⟩ := hW__
    go_simp
    (try with_reducible rfl)
  simp only [Act.put, List.setIfInBounds_toArray, List.set_cons_zero, List.set_cons_succ]
  refine wpAnyT_end (i := 13) rfl (by kernel_rfl) rfl (by kernel_rfl) fun K__ hK__ => ?_
  unfold Oper.wp
  go_simp
  refine hK__ _ _ ?_
  clear hK__
  refine wpAnyT_done (by kernel_rfl) ?_ _
  go_wp2
  go_end0
  first
    | exact ⟨⟨_, rfl⟩, ED.out.1, (Chg.of_below HW.out).trans ED.out.2⟩
    | exact ⟨⟨_, rfl⟩, ED.out.1.next (Below.refl _ _).drew, ((Chg.of_below HW.out).trans ED.out.2).drew⟩

end Go.Proofs.YtjnjbcigbnjmkaaGreat

namespace Go.Proofs.YtjnjbcigbnjmkaaGreat
open Go.RowKit Pv

/-- What leading leaves. -/
def LeadPost (W : World) (base : Nat) (acc : Int) (r : Au × Int) (e : Ending) (w' : World) : Prop :=
  ∃ A' c', e = .returned (.tuple #[.agg #[.slice A' r.1.length c', .int .i64 acc], .int .i64 r.2]) ∧ AuAt w' base A' r.1.length c' r.1 ∧ Chg TA base W w'
/-- .. whatever the automaton under way. -/
def LeadC (w0 : World) (base : Nat) (acc : Int) (At : Option Addr) (nt ct : Nat) (T : Tr) (i : Nat) : Prop :=
  ∀ (W : World) (A : Option Addr) (n c : Nat) (a : Au) (s : Int), Keep w0 W → base ≤ W.heap.size → AuAt W base A n c a → -1 ≤ s → s < n → n ≤ 300 → edgesN a ≤ 65 * n →
    Calls Tryz.prog 58 #[.agg #[.slice A n c, .int .i64 acc], .slice At nt ct, .int .i64 i, .int .i64 s] W (LeadPost W base acc (leadR T a s))

abbrev WL (w : World) (A : Option Addr) (n c : Nat) (acc : Int) : World := (w.alloc (.cells #[.slice A n c, .int .i64 acc] TAuto)).alloc (.cells #[.slice none 0 0, .int .i64 0] TAuto)
theorem WL_below (w : World) (A : Option Addr) (n c : Nat) (acc : Int) : Below w.heap.size w (WL w A n c acc) := ((Below.refl _ _).alloc (Nat.le_refl _) _).alloc (by simp) _

set_option maxHeartbeats 1000000 in
set_option maxRecDepth 100000 in
theorem lead_stop (w : World) (base : Nat) (acc : Int) (At : Option Addr) (nt ct : Nat) (T : Tr) (i : Nat) (A : Option Addr) (n c : Nat) (a : Au) (s : Int) (hb : base ≤ w.heap.size) (h : AuAt w base A n c a) (hn : n ≤ 300) (hst : s < 0 ∨ 256 < n) :
    Calls Tryz.prog 58 #[.agg #[.slice A n c, .int .i64 acc], .slice At nt ct, .int .i64 i, .int .i64 s] w (LeadPost w base acc (leadR T a s)) := by
  have hnl := h.len
  rw [leadR_stop (T := T) (a := a) (s := s) (by rw [← hnl]; exact hst)]
  have hW : Below w.heap.size w ((w.alloc (.cells #[.slice A n c, .int .i64 acc] TAuto)).alloc (.cells #[.slice A n c, .int .i64 acc] TAuto)) := ((Below.refl _ _).alloc (Nat.le_refl _) _).alloc (by simp) _
  have S2 := Lib.hid (And.intro (h.next hW) (Chg.of_below (T := TA) (base := base) hW))
  clear hW
  have HN := Lib.hid hnl
  clear h hnl
  by_cases h0 : s < 0
  case' pos => clear hst
  case' neg => have h1 : 256 < n := by omega
  case' neg => clear hst
  all_goals
    go_enter Tryz.func58, Tryz.ntmps58
    go_wp2
    refine bodyPost_ret (v := .tuple #[.agg #[.slice A n c, .int .i64 acc], .int .i64 (-1)]) (by simp [results, Tryz.results58, go_sem]) rfl ⟨A, c, by rw [HN.out], by simp only; rw [← HN.out]; exact S2.out.1, S2.out.2⟩

end Go.Proofs.YtjnjbcigbnjmkaaGreat
