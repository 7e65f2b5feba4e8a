/- Walks: the reader's piece (printed by genrl.py). PUT1 -/
import Derived.Test.YtilhicefhhgecaaGreatDoorRkq
import Derived.Test.YtilhicefhhgecaaGreatDoorP9q
import Derived.Test.YtilhicefhhgecaaGreatDoorRhq
namespace Pv
open Go Go.RowKit
theorem Only.setNew {w w' : World} {R X : Nat} (h : Only R w w') (hX : w.heap.size ≤ X) (i : Nat) (u : Value) : Only R w (w'.setCell ⟨X, i, none⟩ u) :=
  ⟨h.os, h.tape, h.output, by simpa using h.size, fun b hb hne => (Below.heap_setCell w' ⟨X, i, none⟩ u b (by show b ≠ X; omega)).trans (h.block b hb hne)⟩
end Pv
namespace Go.Proofs.YtilhicefhhgecaaGreatDoor
open Go.RowKit Pv
theorem rx_setNe {w : World} {b g i : Nat} {e : TypeId} {cs : Array Value} {u v : Value} {t : List Rx} (h : OwnRx w b v t) (hne : v.ownBlock ≠ some g) (hb : Blk w g e cs) (h2 : TRg ≠ e) : OwnRx (w.setCell ⟨g, i, none⟩ u) b v t := by
  obtain ⟨A, c, us, rfl, h1, hr⟩ := h
  exact ⟨A, c, us, rfl, ownsRow_setNe h1 hne i u, hr.mono fun _ _ _ hx => hx.up fun _ _ hs => OwnK.setFar hs hb h2 i u⟩
/-- A piece under way: the atom's nodes, the node ahead of them in its box. -/
structure PieceIn (w W : World) (R X : Nat) (l : Bs) (wd : Bool) (v : Value) (t : List Rx) (a b : Int) : Prop where
  rd : RdS W R l wd
  rx : OwnRx W (R + 1) v t
  on : Only R w W
  box : Blk W X TNx #[.int .u8 4, .slice none 0 0, .int .i64 1, .int .i64 a, .int .i64 b]
  ne : X ≠ R
  lo : w.heap.size ≤ X
  far : v.ownBlock ≠ some X
section
variable {w W W' : World} {R X : Nat} {l l' : Bs} {wd wd' : Bool} {v : Value} {t : List Rx} {a b : Int}
theorem PieceIn.only (h : PieceIn w W R X l wd v t a b) (k : Only R W W') (hr : RdS W' R l' wd') : PieceIn w W' R X l' wd' v t a b :=
  ⟨hr, only_rx k h.rd h.rx, h.on.step k, k.blk h.box h.ne, h.ne, h.lo, h.far⟩
theorem PieceIn.least (h : PieceIn w W R X l wd v t a b) (x : Int) : PieceIn w (W.setCell ⟨X, 3, none⟩ (.int .i64 x)) R X l wd v t x b :=
  ⟨by obtain ⟨s, hs, hb⟩ := h.rd; exact ⟨s, hs, hb.far (fun e => h.ne e.symm) _⟩, rx_setNe h.rx h.far h.box (by decide), h.on.setNew h.lo _ _, h.box.set 3 _, h.ne, h.lo, h.far⟩
theorem PieceIn.most (h : PieceIn w W R X l wd v t a b) (x : Int) : PieceIn w (W.setCell ⟨X, 4, none⟩ (.int .i64 x)) R X l wd v t a x :=
  ⟨by obtain ⟨s, hs, hb⟩ := h.rd; exact ⟨s, hs, hb.far (fun e => h.ne e.symm) _⟩, rx_setNe h.rx h.far h.box (by decide), h.on.setNew h.lo _ _, h.box.set 4 _, h.ne, h.lo, h.far⟩
theorem PieceIn.cells (h : PieceIn w W R X l wd v t a b) : W.cell? ⟨X, 0, none⟩ = some (.int .u8 4) ∧ W.cell? ⟨X, 1, none⟩ = some (.slice none 0 0) ∧ W.cell? ⟨X, 2, none⟩ = some (.int .i64 1) ∧ W.cell? ⟨X, 3, none⟩ = some (.int .i64 a) ∧ W.cell? ⟨X, 4, none⟩ = some (.int .i64 b) ∧ W.frozen? ⟨X, 3, none⟩ = false ∧ W.frozen? ⟨X, 4, none⟩ = false ∧ X < W.heap.size :=
  ⟨h.box.cell 0, h.box.cell 1, h.box.cell 2, h.box.cell 3, h.box.cell 4, h.box.frozen 3, h.box.frozen 4, h.box.lt⟩
theorem pieceIn {e : Ending} {n : Nat} (h : RdP R w t l wd e W) (hR : R < w.heap.size) (HN : Hid (t.length = n)) : ∃ A c, e = .returned (.slice A n c) ∧ Hid (OwnRx W (R + 1) (.slice A n c) t ∧ RdS W R l wd ∧ Only R w W) ∧
    Hid (PieceIn w (W.alloc (.cells #[.int .u8 4, .slice none 0 0, .int .i64 1, .int .i64 0, .int .i64 (-1)] TNx)) R W.heap.size l wd (.slice A n c) t 0 (-1)) := by
  obtain ⟨A, n', c, rfl, h1, h2, h3⟩ := h
  have h4 := h1
  obtain ⟨A', c', us, hv, ho, _⟩ := h4
  injection hv with e1 e2 e3
  subst e1; subst e2; subst e3
  rw [HN.out] at h1 ho ⊢
  have hs := h3.size
  refine ⟨A, c, rfl, Lib.hid ⟨h1, h2, h3⟩, Lib.hid ⟨h2.below ((Below.refl _ _).alloc (Nat.le_refl _) _), rx_alloc h1 _, h3.alloc _, Blk.new _ _ _, by omega, hs, fun hg => ?_⟩⟩
  have := (ho.lt _ hg).2
  omega
theorem PieceIn.src {A : Option Addr} {n c : Nat} (h : PieceIn w W R X l wd (.slice A n c) t a b) (HN : Hid (t.length = n)) (o : Obj) (hn : n ≤ 100000) : ∃ us, Hid (RelK 5 (ORx (W.alloc o) (R + 1)) us t) ∧ Hid (Pv.Src (W.alloc o) A 5 n us) := by
  obtain ⟨A', c', us, hv, ho, hr⟩ := rx_alloc h.rx o
  injection hv with e1 e2 e3
  subst e1; subst e2; subst e3
  obtain ⟨_, hat⟩ := AtK.of_own ho hr rfl (by rw [HN.out]; omega)
  obtain ⟨vs, hrv, hsrc⟩ := AtK.src hat (fun _ _ h => h.one)
  rw [HN.out] at hsrc
  exact ⟨vs, Lib.hid hrv, Lib.hid hsrc⟩
theorem own_fiveE {W : World} {N : Nat} (a b c d f : Value) (h : W.heap.size = N) : (W.alloc (.cells #[a, b, c, d, f] TNx)).ownsRow N TNx 5 (.slice (some ⟨N, 0, none⟩) 1 1) 1 [a, b, c, d, f] := by
  subst h
  exact own_five W _ _ _ _ _ _ _ (Nat.le_refl _)
theorem PieceIn.done {v0 v1 v2 v3 v4 : Value} {A9 : Option Addr} {n c9 N : Nat} {us : List Value} {x : Rx} {w9 : World} {a0 b0 : Int} (h : PieceIn w W R X l wd v t a0 b0) (HN : Hid (t.length = n)) (hN : W.heap.size = N)
    (ho : (W.alloc (.cells #[v0, v1, v2, v3, v4] TNx)).ownsRow N TNx 5 (.slice (some ⟨N, 0, none⟩) 1 1) 1 [v0, v1, v2, v3, v4])
    (hr : RelK 5 (ORx (W.alloc (.cells #[v0, v1, v2, v3, v4] TNx)) (R + 1)) us t) (own : w9.ownsRow N TNx 5 (.slice A9 (1 + n) c9) (1 + n) ([v0, v1, v2, v3, v4] ++ us)) (gr : (W.alloc (.cells #[v0, v1, v2, v3, v4] TNx)).grownBy w9 (Value.slice (some ⟨N, 0, none⟩) 1 1).ownBlock)
    (hx : RelK 5 (ORx w9 (R + 1)) [v0, v1, v2, v3, v4] [x]) : RdP R w (x :: t) l wd (.returned (.slice A9 (1 + n) c9)) w9 := by
  subst hN
  have hl : (x :: t).length = 1 + n := by rw [List.length_cons, HN.out]; omega
  have hs := h.on.size
  have hR := h.rd.lt
  refine ⟨A9, 1 + n, c9, rfl, ?_, ?_, (h.on.alloc _).grown gr (fun k hk => ?_)⟩
  · refine OwnK.lower (base := W.heap.size) ?_ (by omega)
    exact ⟨A9, c9, _, by rw [hl], by rw [hl]; exact own, hx.app (hr.mono fun f x _ hx => hx.up fun _ _ hs => OwnK.grown hs ho (by decide) gr)⟩
  · obtain ⟨s, h1, h2⟩ := h.rd
    exact ⟨s, h1, (h2.alloc _).grown gr (by simp [Value.ownBlock]; omega)⟩
  · have := (ho.lt k hk).1
    omega
theorem PieceIn.rcells (h : PieceIn w W R X l wd v t a b) : ∃ s : ByteArray, Hid (bsl s = l) ∧ R < W.heap.size ∧ W.cell? ⟨R, 0, none⟩ = some (.string s) := by
  obtain ⟨s, h1, _, h2, h3, _⟩ := h.rd.cells
  exact ⟨s, h1, h2, h3⟩
end
set_option maxHeartbeats 4000000 in
set_option maxRecDepth 100000 in
theorem rd_piece_star {R : Nat} {r : Bs} {wf : Bool} {t : List Rx} {w : World} (ha : Calls Tryz.prog 114 #[.pointer (some ⟨R, 0, none⟩)] w (RdP R w t (42 :: r) wf)) (hR : R < w.heap.size) (hn : t.length ≤ 100000) :
    Calls Tryz.prog 75 #[.pointer (some ⟨R, 0, none⟩)] w (RdP R w (⟨4, [], 1, 0, -1⟩ :: t) (r) wf) := by
  obtain ⟨i0, hi0, hz0, hs0, hb0⟩ := info_parts info_rx
  have HA := Lib.hid ha
  obtain ⟨k, hk⟩ : ∃ k, t.length = k := ⟨_, rfl⟩
  have HN := Lib.hid hk
  rw [hk] at hn
  have Z1 : Hid (1 + k ≤ maxLen) := Lib.hid (by simp only [maxLen]; omega)
  have Z2 : Hid ((1 + k) * 56 ≤ 140737488355328) := Lib.hid (by omega)
  clear ha hk
  go_enter Tryz.func75, Tryz.ntmps75
  go_wp2_with fail
  refine HA.out.mono ?_
  rintro e w0 hP
  obtain ⟨A, c, rfl, P0, P1⟩ := pieceIn hP hR HN
  clear hP
  have HI2 := Lib.hid (rd_is R _ _ 42 _ P1.out.rd)
  rw [isB_hit] at HI2
  go_wp2_with fail
  refine HI2.out.mono ?_
  rintro e w2 ⟨rfl, h2, h3⟩
  simp only [Option.getD_some] at h2
  have P2 := Lib.hid (P1.out.only h3 h2)
  clear h2 h3 HI2 P1
  have PO := Lib.hid (own_fiveE (W := w2) (N := w2.heap.size) (.int .u8 4) (.slice none 0 0) (.int .i64 1) (.int .i64 (0)) (.int .i64 (-1)) (by simp))
  obtain ⟨us, RV, SRA⟩ := P2.out.src HN (.cells #[.int .u8 4, .slice none 0 0, .int .i64 1, .int .i64 (0), .int .i64 (-1)] TNx) hn
  have hsz : w2.heap.size ≤ (w2.alloc (.cells #[.int .u8 4, .slice none 0 0, .int .i64 1, .int .i64 (0), .int .i64 (-1)] TNx)).heap.size := by simp
  obtain ⟨p0, p1, p2, p3, p4, f3, f4, hx⟩ := P2.out.cells
  go_wp2_with (first
  | (at_builtin
     go_must (refine wpList_append_src _ rfl (.tmp 50) (.tmp 51) 29 rfl w2.heap.size TNx i0 _ 5 56 Tryz.underlying29 hi0 hz0 hs0 hb0 rfl (by decide) (some ⟨w2.heap.size, 0, none⟩) 1 1 _ rfl PO.out A k c _ rfl SRA.out Z1.out Z2.out hsz ?_)
     intro A9 c9 w9 own9 gr9 _
     have HO9 := Lib.hid own9; have HG9 := Lib.hid gr9
     clear own9 gr9))
  go_ret
  exact P2.out.done HN (by simp) PO.out RV.out HO9.out HG9.out (rx_node OwnK.nil (by omega) (by omega) (by omega) (by omega))

set_option maxHeartbeats 4000000 in
set_option maxRecDepth 100000 in
theorem rd_piece_plus {R : Nat} {r : Bs} {wf : Bool} {t : List Rx} {w : World} (ha : Calls Tryz.prog 114 #[.pointer (some ⟨R, 0, none⟩)] w (RdP R w t (43 :: r) wf)) (hR : R < w.heap.size) (hn : t.length ≤ 100000) :
    Calls Tryz.prog 75 #[.pointer (some ⟨R, 0, none⟩)] w (RdP R w (⟨4, [], 1, 1, -1⟩ :: t) (r) wf) := by
  obtain ⟨i0, hi0, hz0, hs0, hb0⟩ := info_parts info_rx
  have HA := Lib.hid ha
  obtain ⟨k, hk⟩ : ∃ k, t.length = k := ⟨_, rfl⟩
  have HN := Lib.hid hk
  rw [hk] at hn
  have Z1 : Hid (1 + k ≤ maxLen) := Lib.hid (by simp only [maxLen]; omega)
  have Z2 : Hid ((1 + k) * 56 ≤ 140737488355328) := Lib.hid (by omega)
  clear ha hk
  go_enter Tryz.func75, Tryz.ntmps75
  go_wp2_with fail
  refine HA.out.mono ?_
  rintro e w0 hP
  obtain ⟨A, c, rfl, P0, P1⟩ := pieceIn hP hR HN
  clear hP
  have HI2 := Lib.hid (rd_is R _ _ 42 _ P1.out.rd)
  rw [isB_miss _ (by decide)] at HI2
  go_wp2_with fail
  refine HI2.out.mono ?_
  rintro e w2 ⟨rfl, h2, h3⟩
  simp only [Option.getD_none] at h2
  have P2 := Lib.hid (P1.out.only h3 h2)
  clear h2 h3 HI2 P1
  have HI3 := Lib.hid (rd_is R _ _ 43 _ P2.out.rd)
  rw [isB_hit] at HI3
  go_wp2_with fail
  refine HI3.out.mono ?_
  rintro e w3 ⟨rfl, h2, h3⟩
  simp only [Option.getD_some] at h2
  have P3 := Lib.hid (P2.out.only h3 h2)
  clear h2 h3 HI3 P2
  obtain ⟨p0, p1, p2, p3, p4, f3, f4, hx⟩ := P3.out.cells
  have Q1 := Lib.hid (P3.out.least (1))
  clear P3
  have PO := Lib.hid (own_fiveE (W := (w3.setCell ⟨w0.heap.size, 3, none⟩ (.int .i64 (1)))) (N := w3.heap.size) (.int .u8 4) (.slice none 0 0) (.int .i64 1) (.int .i64 (1)) (.int .i64 (-1)) (by simp))
  obtain ⟨us, RV, SRA⟩ := Q1.out.src HN (.cells #[.int .u8 4, .slice none 0 0, .int .i64 1, .int .i64 (1), .int .i64 (-1)] TNx) hn
  have hsz : w3.heap.size ≤ ((w3.setCell ⟨w0.heap.size, 3, none⟩ (.int .i64 (1))).alloc (.cells #[.int .u8 4, .slice none 0 0, .int .i64 1, .int .i64 (1), .int .i64 (-1)] TNx)).heap.size := by simp
  obtain ⟨q0, q1, q2, q3, q4, _, _, _⟩ := Q1.out.cells
  go_wp2_with (first
  | (at_builtin
     go_must (refine wpList_append_src _ rfl (.tmp 50) (.tmp 51) 29 rfl w3.heap.size TNx i0 _ 5 56 Tryz.underlying29 hi0 hz0 hs0 hb0 rfl (by decide) (some ⟨w3.heap.size, 0, none⟩) 1 1 _ rfl PO.out A k c _ rfl SRA.out Z1.out Z2.out hsz ?_)
     intro A9 c9 w9 own9 gr9 _
     have HO9 := Lib.hid own9; have HG9 := Lib.hid gr9
     clear own9 gr9))
  go_ret
  exact Q1.out.done HN (by simp) PO.out RV.out HO9.out HG9.out (rx_node OwnK.nil (by omega) (by omega) (by omega) (by omega))

set_option maxHeartbeats 4000000 in
set_option maxRecDepth 100000 in
theorem rd_piece_perh {R : Nat} {r : Bs} {wf : Bool} {t : List Rx} {w : World} (ha : Calls Tryz.prog 114 #[.pointer (some ⟨R, 0, none⟩)] w (RdP R w t (63 :: r) wf)) (hR : R < w.heap.size) (hn : t.length ≤ 100000) :
    Calls Tryz.prog 75 #[.pointer (some ⟨R, 0, none⟩)] w (RdP R w (⟨4, [], 1, 0, 1⟩ :: t) (r) wf) := by
  obtain ⟨i0, hi0, hz0, hs0, hb0⟩ := info_parts info_rx
  have HA := Lib.hid ha
  obtain ⟨k, hk⟩ : ∃ k, t.length = k := ⟨_, rfl⟩
  have HN := Lib.hid hk
  rw [hk] at hn
  have Z1 : Hid (1 + k ≤ maxLen) := Lib.hid (by simp only [maxLen]; omega)
  have Z2 : Hid ((1 + k) * 56 ≤ 140737488355328) := Lib.hid (by omega)
  clear ha hk
  go_enter Tryz.func75, Tryz.ntmps75
  go_wp2_with fail
  refine HA.out.mono ?_
  rintro e w0 hP
  obtain ⟨A, c, rfl, P0, P1⟩ := pieceIn hP hR HN
  clear hP
  have HI2 := Lib.hid (rd_is R _ _ 42 _ P1.out.rd)
  rw [isB_miss _ (by decide)] at HI2
  go_wp2_with fail
  refine HI2.out.mono ?_
  rintro e w2 ⟨rfl, h2, h3⟩
  simp only [Option.getD_none] at h2
  have P2 := Lib.hid (P1.out.only h3 h2)
  clear h2 h3 HI2 P1
  have HI3 := Lib.hid (rd_is R _ _ 43 _ P2.out.rd)
  rw [isB_miss _ (by decide)] at HI3
  go_wp2_with fail
  refine HI3.out.mono ?_
  rintro e w3 ⟨rfl, h2, h3⟩
  simp only [Option.getD_none] at h2
  have P3 := Lib.hid (P2.out.only h3 h2)
  clear h2 h3 HI3 P2
  have HI4 := Lib.hid (rd_is R _ _ 63 _ P3.out.rd)
  rw [isB_hit] at HI4
  go_wp2_with fail
  refine HI4.out.mono ?_
  rintro e w4 ⟨rfl, h2, h3⟩
  simp only [Option.getD_some] at h2
  have P4 := Lib.hid (P3.out.only h3 h2)
  clear h2 h3 HI4 P3
  obtain ⟨p0, p1, p2, p3, p4, f3, f4, hx⟩ := P4.out.cells
  have Q1 := Lib.hid (P4.out.most (1))
  clear P4
  have PO := Lib.hid (own_fiveE (W := (w4.setCell ⟨w0.heap.size, 4, none⟩ (.int .i64 (1)))) (N := w4.heap.size) (.int .u8 4) (.slice none 0 0) (.int .i64 1) (.int .i64 (0)) (.int .i64 (1)) (by simp))
  obtain ⟨us, RV, SRA⟩ := Q1.out.src HN (.cells #[.int .u8 4, .slice none 0 0, .int .i64 1, .int .i64 (0), .int .i64 (1)] TNx) hn
  have hsz : w4.heap.size ≤ ((w4.setCell ⟨w0.heap.size, 4, none⟩ (.int .i64 (1))).alloc (.cells #[.int .u8 4, .slice none 0 0, .int .i64 1, .int .i64 (0), .int .i64 (1)] TNx)).heap.size := by simp
  obtain ⟨q0, q1, q2, q3, q4, _, _, _⟩ := Q1.out.cells
  go_wp2_with (first
  | (at_builtin
     go_must (refine wpList_append_src _ rfl (.tmp 50) (.tmp 51) 29 rfl w4.heap.size TNx i0 _ 5 56 Tryz.underlying29 hi0 hz0 hs0 hb0 rfl (by decide) (some ⟨w4.heap.size, 0, none⟩) 1 1 _ rfl PO.out A k c _ rfl SRA.out Z1.out Z2.out hsz ?_)
     intro A9 c9 w9 own9 gr9 _
     have HO9 := Lib.hid own9; have HG9 := Lib.hid gr9
     clear own9 gr9))
  go_ret
  exact Q1.out.done HN (by simp) PO.out RV.out HO9.out HG9.out (rx_node OwnK.nil (by omega) (by omega) (by omega) (by omega))

set_option maxHeartbeats 4000000 in
set_option maxRecDepth 100000 in
theorem rd_piece_just {R : Nat} {r r3 : Bs} {a : Nat} {wf : Bool} {t : List Rx} {w : World} (ha : Calls Tryz.prog 114 #[.pointer (some ⟨R, 0, none⟩)] w (RdP R w t (123 :: r) wf)) (hR : R < w.heap.size) (hn : t.length ≤ 100000) (hc : countB r = some (a, 125 :: r3)) (hl : r.length ≤ 20000) :
    Calls Tryz.prog 75 #[.pointer (some ⟨R, 0, none⟩)] w (RdP R w (⟨4, [], 1, a, a⟩ :: t) (r3) wf) := by
  obtain ⟨i0, hi0, hz0, hs0, hb0⟩ := info_parts info_rx
  have HA := Lib.hid ha
  have HC := Lib.hid hc
  have ha16 := (countB_some hc).2.2.1
  clear hc
  obtain ⟨k, hk⟩ : ∃ k, t.length = k := ⟨_, rfl⟩
  have HN := Lib.hid hk
  rw [hk] at hn
  have Z1 : Hid (1 + k ≤ maxLen) := Lib.hid (by simp only [maxLen]; omega)
  have Z2 : Hid ((1 + k) * 56 ≤ 140737488355328) := Lib.hid (by omega)
  clear ha hk
  go_enter Tryz.func75, Tryz.ntmps75
  go_wp2_with fail
  refine HA.out.mono ?_
  rintro e w0 hP
  obtain ⟨A, c, rfl, P0, P1⟩ := pieceIn hP hR HN
  clear hP
  have HI2 := Lib.hid (rd_is R _ _ 42 _ P1.out.rd)
  rw [isB_miss _ (by decide)] at HI2
  go_wp2_with fail
  refine HI2.out.mono ?_
  rintro e w2 ⟨rfl, h2, h3⟩
  simp only [Option.getD_none] at h2
  have P2 := Lib.hid (P1.out.only h3 h2)
  clear h2 h3 HI2 P1
  have HI3 := Lib.hid (rd_is R _ _ 43 _ P2.out.rd)
  rw [isB_miss _ (by decide)] at HI3
  go_wp2_with fail
  refine HI3.out.mono ?_
  rintro e w3 ⟨rfl, h2, h3⟩
  simp only [Option.getD_none] at h2
  have P3 := Lib.hid (P2.out.only h3 h2)
  clear h2 h3 HI3 P2
  have HI4 := Lib.hid (rd_is R _ _ 63 _ P3.out.rd)
  rw [isB_miss _ (by decide)] at HI4
  go_wp2_with fail
  refine HI4.out.mono ?_
  rintro e w4 ⟨rfl, h2, h3⟩
  simp only [Option.getD_none] at h2
  have P4 := Lib.hid (P3.out.only h3 h2)
  clear h2 h3 HI4 P3
  have HI5 := Lib.hid (rd_is R _ _ 123 _ P4.out.rd)
  rw [isB_hit] at HI5
  go_wp2_with fail
  refine HI5.out.mono ?_
  rintro e w5 ⟨rfl, h2, h3⟩
  simp only [Option.getD_some] at h2
  have P5 := Lib.hid (P4.out.only h3 h2)
  clear h2 h3 HI5 P4
  have HI6 := Lib.hid (rd_count R _ _ a _ _ P5.out.rd HC.out (by omega))
  go_wp2_with fail
  refine HI6.out.mono ?_
  rintro e w6 ⟨rfl, h2, h3⟩
  have P6 := Lib.hid (P5.out.only h3 h2)
  clear h2 h3 HI6 P5
  obtain ⟨p0, p1, p2, p3, p4, f3, f4, hx⟩ := P6.out.cells
  have Q1 := Lib.hid (P6.out.least (a))
  clear P6
  have Q2 := Lib.hid (Q1.out.most (a))
  clear Q1
  have HI7 := Lib.hid (rd_is R _ _ 44 _ Q2.out.rd)
  rw [isB_miss _ (by decide)] at HI7
  go_wp2_with fail
  refine HI7.out.mono ?_
  rintro e w7 ⟨rfl, h2, h3⟩
  simp only [Option.getD_none] at h2
  have P7 := Lib.hid (Q2.out.only h3 h2)
  clear h2 h3 HI7 Q2
  clear p0 p1 p2 p3 p4 f3 f4 hx
  have HI8 := Lib.hid (rd_must R _ _ _ 125 _ P7.out.rd (isB_hit _ _))
  go_wp2_with fail
  refine HI8.out.mono ?_
  rintro e w8 ⟨rfl, h2, h3⟩
  have P8 := Lib.hid (P7.out.only h3 h2)
  clear h2 h3 HI8 P7
  have PO := Lib.hid (own_fiveE (W := w8) (N := w8.heap.size) (.int .u8 4) (.slice none 0 0) (.int .i64 1) (.int .i64 (a)) (.int .i64 (a)) (by simp))
  obtain ⟨us, RV, SRA⟩ := P8.out.src HN (.cells #[.int .u8 4, .slice none 0 0, .int .i64 1, .int .i64 (a), .int .i64 (a)] TNx) hn
  have hsz : w8.heap.size ≤ (w8.alloc (.cells #[.int .u8 4, .slice none 0 0, .int .i64 1, .int .i64 (a), .int .i64 (a)] TNx)).heap.size := by simp
  obtain ⟨p0, p1, p2, p3, p4, f3, f4, hx⟩ := P8.out.cells
  go_wp2_with (first
  | (at_builtin
     go_must (refine wpList_append_src _ rfl (.tmp 50) (.tmp 51) 29 rfl w8.heap.size TNx i0 _ 5 56 Tryz.underlying29 hi0 hz0 hs0 hb0 rfl (by decide) (some ⟨w8.heap.size, 0, none⟩) 1 1 _ rfl PO.out A k c _ rfl SRA.out Z1.out Z2.out hsz ?_)
     intro A9 c9 w9 own9 gr9 _
     have HO9 := Lib.hid own9; have HG9 := Lib.hid gr9
     clear own9 gr9))
  go_ret
  exact P8.out.done HN (by simp) PO.out RV.out HO9.out HG9.out (rx_node OwnK.nil (by omega) (by omega) (by omega) (by omega))

set_option maxHeartbeats 4000000 in
set_option maxRecDepth 100000 in
theorem rd_piece_from {R : Nat} {r r4 : Bs} {a : Nat} {wf : Bool} {t : List Rx} {w : World} (ha : Calls Tryz.prog 114 #[.pointer (some ⟨R, 0, none⟩)] w (RdP R w t (123 :: r) wf)) (hR : R < w.heap.size) (hn : t.length ≤ 100000) (hc : countB r = some (a, 44 :: 125 :: r4)) (hl : r.length ≤ 20000) :
    Calls Tryz.prog 75 #[.pointer (some ⟨R, 0, none⟩)] w (RdP R w (⟨4, [], 1, a, -1⟩ :: t) (r4) wf) := by
  obtain ⟨i0, hi0, hz0, hs0, hb0⟩ := info_parts info_rx
  have HA := Lib.hid ha
  have HC := Lib.hid hc
  have ha16 := (countB_some hc).2.2.1
  clear hc
  obtain ⟨k, hk⟩ : ∃ k, t.length = k := ⟨_, rfl⟩
  have HN := Lib.hid hk
  rw [hk] at hn
  have Z1 : Hid (1 + k ≤ maxLen) := Lib.hid (by simp only [maxLen]; omega)
  have Z2 : Hid ((1 + k) * 56 ≤ 140737488355328) := Lib.hid (by omega)
  clear ha hk
  go_enter Tryz.func75, Tryz.ntmps75
  go_wp2_with fail
  refine HA.out.mono ?_
  rintro e w0 hP
  obtain ⟨A, c, rfl, P0, P1⟩ := pieceIn hP hR HN
  clear hP
  have HI2 := Lib.hid (rd_is R _ _ 42 _ P1.out.rd)
  rw [isB_miss _ (by decide)] at HI2
  go_wp2_with fail
  refine HI2.out.mono ?_
  rintro e w2 ⟨rfl, h2, h3⟩
  simp only [Option.getD_none] at h2
  have P2 := Lib.hid (P1.out.only h3 h2)
  clear h2 h3 HI2 P1
  have HI3 := Lib.hid (rd_is R _ _ 43 _ P2.out.rd)
  rw [isB_miss _ (by decide)] at HI3
  go_wp2_with fail
  refine HI3.out.mono ?_
  rintro e w3 ⟨rfl, h2, h3⟩
  simp only [Option.getD_none] at h2
  have P3 := Lib.hid (P2.out.only h3 h2)
  clear h2 h3 HI3 P2
  have HI4 := Lib.hid (rd_is R _ _ 63 _ P3.out.rd)
  rw [isB_miss _ (by decide)] at HI4
  go_wp2_with fail
  refine HI4.out.mono ?_
  rintro e w4 ⟨rfl, h2, h3⟩
  simp only [Option.getD_none] at h2
  have P4 := Lib.hid (P3.out.only h3 h2)
  clear h2 h3 HI4 P3
  have HI5 := Lib.hid (rd_is R _ _ 123 _ P4.out.rd)
  rw [isB_hit] at HI5
  go_wp2_with fail
  refine HI5.out.mono ?_
  rintro e w5 ⟨rfl, h2, h3⟩
  simp only [Option.getD_some] at h2
  have P5 := Lib.hid (P4.out.only h3 h2)
  clear h2 h3 HI5 P4
  have HI6 := Lib.hid (rd_count R _ _ a _ _ P5.out.rd HC.out (by omega))
  go_wp2_with fail
  refine HI6.out.mono ?_
  rintro e w6 ⟨rfl, h2, h3⟩
  have P6 := Lib.hid (P5.out.only h3 h2)
  clear h2 h3 HI6 P5
  obtain ⟨p0, p1, p2, p3, p4, f3, f4, hx⟩ := P6.out.cells
  have Q1 := Lib.hid (P6.out.least (a))
  clear P6
  have Q2 := Lib.hid (Q1.out.most (a))
  clear Q1
  have HI7 := Lib.hid (rd_is R _ _ 44 _ Q2.out.rd)
  rw [isB_hit] at HI7
  go_wp2_with fail
  refine HI7.out.mono ?_
  rintro e w7 ⟨rfl, h2, h3⟩
  simp only [Option.getD_some] at h2
  have P7 := Lib.hid (Q2.out.only h3 h2)
  clear h2 h3 HI7 Q2
  clear p0 p1 p2 p3 p4 f3 f4 hx
  obtain ⟨p0, p1, p2, p3, p4, f3, f4, hx⟩ := P7.out.cells
  have Q3 := Lib.hid (P7.out.most (-1))
  clear P7
  obtain ⟨s1, hs1, hR1, r1⟩ := Q3.out.rcells
  have HI := Lib.hid (Tryz.strings_HasPrefix s1 ⟨#[125]⟩ (w7.setCell ⟨w0.heap.size, 4, none⟩ (.int .i64 (-1))))
  rw [show Lib.hasPrefix s1.data.toList #[125].toList = true from (pre1 125 (bsl s1)).trans (by rw [hs1.out, isB_hit]; rfl)] at HI
  go_wp2_with fail
  refine HI.out.mono ?_
  rintro e w' ⟨rfl, hw⟩
  have hw2 := hw.symm
  subst hw2
  clear hw HI hs1
  have HI8 := Lib.hid (rd_must R _ _ _ 125 _ Q3.out.rd (isB_hit _ _))
  go_wp2_with fail
  refine HI8.out.mono ?_
  rintro e w8 ⟨rfl, h2, h3⟩
  have P8 := Lib.hid (Q3.out.only h3 h2)
  clear h2 h3 HI8 Q3
  clear p0 p1 p2 p3 p4 f3 f4 hx
  have PO := Lib.hid (own_fiveE (W := w8) (N := w8.heap.size) (.int .u8 4) (.slice none 0 0) (.int .i64 1) (.int .i64 (a)) (.int .i64 (-1)) (by simp))
  obtain ⟨us, RV, SRA⟩ := P8.out.src HN (.cells #[.int .u8 4, .slice none 0 0, .int .i64 1, .int .i64 (a), .int .i64 (-1)] TNx) hn
  have hsz : w8.heap.size ≤ (w8.alloc (.cells #[.int .u8 4, .slice none 0 0, .int .i64 1, .int .i64 (a), .int .i64 (-1)] TNx)).heap.size := by simp
  obtain ⟨p0, p1, p2, p3, p4, f3, f4, hx⟩ := P8.out.cells
  go_wp2_with (first
  | (at_builtin
     go_must (refine wpList_append_src _ rfl (.tmp 50) (.tmp 51) 29 rfl w8.heap.size TNx i0 _ 5 56 Tryz.underlying29 hi0 hz0 hs0 hb0 rfl (by decide) (some ⟨w8.heap.size, 0, none⟩) 1 1 _ rfl PO.out A k c _ rfl SRA.out Z1.out Z2.out hsz ?_)
     intro A9 c9 w9 own9 gr9 _
     have HO9 := Lib.hid own9; have HG9 := Lib.hid gr9
     clear own9 gr9))
  go_ret
  exact P8.out.done HN (by simp) PO.out RV.out HO9.out HG9.out (rx_node OwnK.nil (by omega) (by omega) (by omega) (by omega))

set_option maxHeartbeats 4000000 in
set_option maxRecDepth 100000 in
theorem rd_piece_some {R : Nat} {r r3 r5 : Bs} {a b : Nat} {wf : Bool} {t : List Rx} {w : World} (ha : Calls Tryz.prog 114 #[.pointer (some ⟨R, 0, none⟩)] w (RdP R w t (123 :: r) wf)) (hR : R < w.heap.size) (hn : t.length ≤ 100000) (hc : countB r = some (a, 44 :: r3)) (e7 : isB 125 r3 = none) (hc2 : countB r3 = some (b, 125 :: r5)) (hab : a ≤ b) (hl : r.length ≤ 20000) :
    Calls Tryz.prog 75 #[.pointer (some ⟨R, 0, none⟩)] w (RdP R w (⟨4, [], 1, a, b⟩ :: t) (r5) wf) := by
  obtain ⟨i0, hi0, hz0, hs0, hb0⟩ := info_parts info_rx
  have HA := Lib.hid ha
  have HC := Lib.hid hc
  have ha16 := (countB_some hc).2.2.1
  clear hc
  have HC2 := Lib.hid hc2; have E7 := Lib.hid e7
  have hb16 := (countB_some hc2).2.2.1
  have hl3 : r3.length ≤ 20000 := by have := (countB_sfx HC.out).length_le; simp only [List.length_cons] at this; omega
  have hab2 : decide (b < a) = false := decide_eq_false (by omega)
  clear hc2 e7
  obtain ⟨k, hk⟩ : ∃ k, t.length = k := ⟨_, rfl⟩
  have HN := Lib.hid hk
  rw [hk] at hn
  have Z1 : Hid (1 + k ≤ maxLen) := Lib.hid (by simp only [maxLen]; omega)
  have Z2 : Hid ((1 + k) * 56 ≤ 140737488355328) := Lib.hid (by omega)
  clear ha hk
  go_enter Tryz.func75, Tryz.ntmps75
  go_wp2_with fail
  refine HA.out.mono ?_
  rintro e w0 hP
  obtain ⟨A, c, rfl, P0, P1⟩ := pieceIn hP hR HN
  clear hP
  have HI2 := Lib.hid (rd_is R _ _ 42 _ P1.out.rd)
  rw [isB_miss _ (by decide)] at HI2
  go_wp2_with fail
  refine HI2.out.mono ?_
  rintro e w2 ⟨rfl, h2, h3⟩
  simp only [Option.getD_none] at h2
  have P2 := Lib.hid (P1.out.only h3 h2)
  clear h2 h3 HI2 P1
  have HI3 := Lib.hid (rd_is R _ _ 43 _ P2.out.rd)
  rw [isB_miss _ (by decide)] at HI3
  go_wp2_with fail
  refine HI3.out.mono ?_
  rintro e w3 ⟨rfl, h2, h3⟩
  simp only [Option.getD_none] at h2
  have P3 := Lib.hid (P2.out.only h3 h2)
  clear h2 h3 HI3 P2
  have HI4 := Lib.hid (rd_is R _ _ 63 _ P3.out.rd)
  rw [isB_miss _ (by decide)] at HI4
  go_wp2_with fail
  refine HI4.out.mono ?_
  rintro e w4 ⟨rfl, h2, h3⟩
  simp only [Option.getD_none] at h2
  have P4 := Lib.hid (P3.out.only h3 h2)
  clear h2 h3 HI4 P3
  have HI5 := Lib.hid (rd_is R _ _ 123 _ P4.out.rd)
  rw [isB_hit] at HI5
  go_wp2_with fail
  refine HI5.out.mono ?_
  rintro e w5 ⟨rfl, h2, h3⟩
  simp only [Option.getD_some] at h2
  have P5 := Lib.hid (P4.out.only h3 h2)
  clear h2 h3 HI5 P4
  have HI6 := Lib.hid (rd_count R _ _ a _ _ P5.out.rd HC.out (by omega))
  go_wp2_with fail
  refine HI6.out.mono ?_
  rintro e w6 ⟨rfl, h2, h3⟩
  have P6 := Lib.hid (P5.out.only h3 h2)
  clear h2 h3 HI6 P5
  obtain ⟨p0, p1, p2, p3, p4, f3, f4, hx⟩ := P6.out.cells
  have Q1 := Lib.hid (P6.out.least (a))
  clear P6
  have Q2 := Lib.hid (Q1.out.most (a))
  clear Q1
  have HI7 := Lib.hid (rd_is R _ _ 44 _ Q2.out.rd)
  rw [isB_hit] at HI7
  go_wp2_with fail
  refine HI7.out.mono ?_
  rintro e w7 ⟨rfl, h2, h3⟩
  simp only [Option.getD_some] at h2
  have P7 := Lib.hid (Q2.out.only h3 h2)
  clear h2 h3 HI7 Q2
  clear p0 p1 p2 p3 p4 f3 f4 hx
  obtain ⟨p0, p1, p2, p3, p4, f3, f4, hx⟩ := P7.out.cells
  have Q3 := Lib.hid (P7.out.most (-1))
  clear P7
  obtain ⟨s1, hs1, hR1, r1⟩ := Q3.out.rcells
  have HI := Lib.hid (Tryz.strings_HasPrefix s1 ⟨#[125]⟩ (w7.setCell ⟨w0.heap.size, 4, none⟩ (.int .i64 (-1))))
  rw [show Lib.hasPrefix s1.data.toList #[125].toList = false from (pre1 125 (bsl s1)).trans (by rw [hs1.out, E7.out]; rfl)] at HI
  go_wp2_with fail
  refine HI.out.mono ?_
  rintro e w' ⟨rfl, hw⟩
  have hw2 := hw.symm
  subst hw2
  clear hw HI hs1
  have HI8 := Lib.hid (rd_count R _ _ b _ _ Q3.out.rd HC2.out (by omega))
  go_wp2_with fail
  refine HI8.out.mono ?_
  rintro e w8 ⟨rfl, h2, h3⟩
  have P8 := Lib.hid (Q3.out.only h3 h2)
  clear h2 h3 HI8 Q3
  clear p0 p1 p2 p3 p4 f3 f4 hx
  obtain ⟨p0, p1, p2, p3, p4, f3, f4, hx⟩ := P8.out.cells
  have Q4 := Lib.hid (P8.out.most (b))
  clear P8
  have HI9 := Lib.hid (rd_must R _ _ _ 125 _ Q4.out.rd (isB_hit _ _))
  go_wp2_with fail
  refine HI9.out.mono ?_
  rintro e w9 ⟨rfl, h2, h3⟩
  have P9 := Lib.hid (Q4.out.only h3 h2)
  clear h2 h3 HI9 Q4
  clear p0 p1 p2 p3 p4 f3 f4 hx
  have PO := Lib.hid (own_fiveE (W := w9) (N := w9.heap.size) (.int .u8 4) (.slice none 0 0) (.int .i64 1) (.int .i64 (a)) (.int .i64 (b)) (by simp))
  obtain ⟨us, RV, SRA⟩ := P9.out.src HN (.cells #[.int .u8 4, .slice none 0 0, .int .i64 1, .int .i64 (a), .int .i64 (b)] TNx) hn
  have hsz : w9.heap.size ≤ (w9.alloc (.cells #[.int .u8 4, .slice none 0 0, .int .i64 1, .int .i64 (a), .int .i64 (b)] TNx)).heap.size := by simp
  obtain ⟨p0, p1, p2, p3, p4, f3, f4, hx⟩ := P9.out.cells
  go_wp2_with (first
  | (at_builtin
     go_must (refine wpList_append_src _ rfl (.tmp 50) (.tmp 51) 29 rfl w9.heap.size TNx i0 _ 5 56 Tryz.underlying29 hi0 hz0 hs0 hb0 rfl (by decide) (some ⟨w9.heap.size, 0, none⟩) 1 1 _ rfl PO.out A k c _ rfl SRA.out Z1.out Z2.out hsz ?_)
     intro A9 c9 w9 own9 gr9 _
     have HO9 := Lib.hid own9; have HG9 := Lib.hid gr9
     clear own9 gr9))
  go_ret
  exact P9.out.done HN (by simp) PO.out RV.out HO9.out HG9.out (rx_node OwnK.nil (by omega) (by omega) (by omega) (by omega))

set_option maxHeartbeats 4000000 in
set_option maxRecDepth 100000 in
theorem rd_piece_once {R : Nat} {r : Bs} {wf : Bool} {t : List Rx} {w : World} (ha : Calls Tryz.prog 114 #[.pointer (some ⟨R, 0, none⟩)] w (RdP R w t (r) wf)) (hR : R < w.heap.size) (hn : t.length ≤ 100000) (e1 : isB 42 r = none) (e2 : isB 43 r = none) (e3 : isB 63 r = none) (e4 : isB 123 r = none) :
    Calls Tryz.prog 75 #[.pointer (some ⟨R, 0, none⟩)] w (RdP R w (t) (r) wf) := by
  obtain ⟨i0, hi0, hz0, hs0, hb0⟩ := info_parts info_rx
  have HA := Lib.hid ha
  have E1 := Lib.hid e1; have E2 := Lib.hid e2; have E3 := Lib.hid e3; have E4 := Lib.hid e4
  clear e1 e2 e3 e4
  obtain ⟨k, hk⟩ : ∃ k, t.length = k := ⟨_, rfl⟩
  have HN := Lib.hid hk
  rw [hk] at hn
  have Z1 : Hid (1 + k ≤ maxLen) := Lib.hid (by simp only [maxLen]; omega)
  have Z2 : Hid ((1 + k) * 56 ≤ 140737488355328) := Lib.hid (by omega)
  clear ha hk
  go_enter Tryz.func75, Tryz.ntmps75
  go_wp2_with fail
  refine HA.out.mono ?_
  rintro e w0 hP
  obtain ⟨A, c, rfl, P0, P1⟩ := pieceIn hP hR HN
  clear hP
  have HI2 := Lib.hid (rd_is R _ _ 42 _ P1.out.rd)
  rw [E1.out] at HI2
  go_wp2_with fail
  refine HI2.out.mono ?_
  rintro e w2 ⟨rfl, h2, h3⟩
  simp only [Option.getD_none] at h2
  have P2 := Lib.hid (P1.out.only h3 h2)
  clear h2 h3 HI2 P1
  have HI3 := Lib.hid (rd_is R _ _ 43 _ P2.out.rd)
  rw [E2.out] at HI3
  go_wp2_with fail
  refine HI3.out.mono ?_
  rintro e w3 ⟨rfl, h2, h3⟩
  simp only [Option.getD_none] at h2
  have P3 := Lib.hid (P2.out.only h3 h2)
  clear h2 h3 HI3 P2
  have HI4 := Lib.hid (rd_is R _ _ 63 _ P3.out.rd)
  rw [E3.out] at HI4
  go_wp2_with fail
  refine HI4.out.mono ?_
  rintro e w4 ⟨rfl, h2, h3⟩
  simp only [Option.getD_none] at h2
  have P4 := Lib.hid (P3.out.only h3 h2)
  clear h2 h3 HI4 P3
  have HI5 := Lib.hid (rd_is R _ _ 123 _ P4.out.rd)
  rw [E4.out] at HI5
  go_wp2_with fail
  refine HI5.out.mono ?_
  rintro e w5 ⟨rfl, h2, h3⟩
  simp only [Option.getD_none] at h2
  have P5 := Lib.hid (P4.out.only h3 h2)
  clear h2 h3 HI5 P4
  go_wp2
  go_ret
  exact ⟨A, k, c, rfl, P5.out.rx, P5.out.rd, P5.out.on⟩

end Go.Proofs.YtilhicefhhgecaaGreatDoor

namespace Go.Proofs.YtilhicefhhgecaaGreatDoor
open Go.RowKit Pv

/-- How much is to be read. -/
def rdLen (w : World) (R : Nat) : Nat := match w.cell? ⟨R, 0, none⟩ with
  | some (.string s) => s.size
  | _ => 0
section
variable {w w' : World} {R B b : Nat} {l : Bs} {wd : Bool}
theorem RdS.len (h : RdS w R l wd) : rdLen w R = l.length := by
  obtain ⟨s, h1, h2⟩ := h
  have h3 : w.cell? ⟨R, 0, none⟩ = some (.string s) := h2.cell 0
  unfold rdLen
  rw [h3, ← h1, bsl_len]
theorem RdS.grown {n s : Nat} {e : TypeId} {rv : Value} {us : List Value} (h : RdS w R l wd) (ho : w.ownsRow b e s rv n us) (he : e ≠ TRd) (gr : w.grownBy w' rv.ownBlock) : RdS w' R l wd := by
  obtain ⟨q, h1, h2⟩ := h
  exact ⟨q, h1, h2.grown gr (own_blk_ne ho h2 he)⟩
theorem RdS.alloc (h : RdS w R l wd) (o : Obj) : RdS (w.alloc o) R l wd := h.below ((Below.refl _ _).alloc (Nat.le_refl _) o)
end
end Go.Proofs.YtilhicefhhgecaaGreatDoor

namespace Go.Proofs.YtilhicefhhgecaaGreatDoor
open Go.RowKit Pv
theorem info_rl : (Tryz.prog.info? 29).map (fun i => (i.zero, i.size, i.bytes)) = some (some (.slice none 0 0), 1, 24) := by kernel_rfl

end Go.Proofs.YtilhicefhhgecaaGreatDoor
