/- Walks: the reader's piece (printed by genrl.py). PUT1 -/
import Derived.Test.YtilhicefhhgecaaGreatDoorRkn
import Derived.Test.YtilhicefhhgecaaGreatDoorRin
import Derived.Test.YtilhicefhhgecaaGreatDoorRjn
namespace Pv
open Go Go.RowKit
theorem Only.setNew {w w' : World} {R X : Nat} (h : Only R w w') (hX : w.heap.size ≤ X) (i : Nat) (u : Value) : Only R w (w'.setCell ⟨X, i, none⟩ u) :=
  ⟨h.os, h.tape, h.output, by simpa using h.size, fun b hb hne => (Below.heap_setCell w' ⟨X, i, none⟩ u b (by show b ≠ X; omega)).trans (h.block b hb hne)⟩
end Pv
namespace Go.Proofs.YtilhicefhhgecaaGreatDoor
open Go.RowKit Pv
theorem rx_setNe {w : World} {b g i : Nat} {e : TypeId} {cs : Array Value} {u v : Value} {t : List Rx} (h : OwnRx w b v t) (hne : v.ownBlock ≠ some g) (hb : Blk w g e cs) (h2 : TRg ≠ e) : OwnRx (w.setCell ⟨g, i, none⟩ u) b v t := by
  obtain ⟨A, c, us, rfl, h1, hr⟩ := h
  exact ⟨A, c, us, rfl, ownsRow_setNe h1 hne i u, hr.mono fun _ _ _ hx => hx.up fun _ _ hs => OwnK.setFar hs hb h2 i u⟩
/-- A piece under way: the atom's nodes, the node ahead of them in its box. -/
structure PieceIn (w W : World) (R X : Nat) (l : Bs) (wd : Bool) (v : Value) (t : List Rx) (a b : Int) : Prop where
  rd : RdS W R l wd
  rx : OwnRx W (R + 1) v t
  on : Only R w W
  box : Blk W X TNx #[.int .u8 4, .slice none 0 0, .int .i64 1, .int .i64 a, .int .i64 b]
  ne : X ≠ R
  lo : w.heap.size ≤ X
  far : v.ownBlock ≠ some X
section
variable {w W W' : World} {R X : Nat} {l l' : Bs} {wd wd' : Bool} {v : Value} {t : List Rx} {a b : Int}
theorem PieceIn.only (h : PieceIn w W R X l wd v t a b) (k : Only R W W') (hr : RdS W' R l' wd') : PieceIn w W' R X l' wd' v t a b :=
  ⟨hr, only_rx k h.rd h.rx, h.on.step k, k.blk h.box h.ne, h.ne, h.lo, h.far⟩
theorem PieceIn.least (h : PieceIn w W R X l wd v t a b) (x : Int) : PieceIn w (W.setCell ⟨X, 3, none⟩ (.int .i64 x)) R X l wd v t x b :=
  ⟨by obtain ⟨s, hs, hb⟩ := h.rd; exact ⟨s, hs, hb.far (fun e => h.ne e.symm) _⟩, rx_setNe h.rx h.far h.box (by decide), h.on.setNew h.lo _ _, h.box.set 3 _, h.ne, h.lo, h.far⟩
theorem PieceIn.most (h : PieceIn w W R X l wd v t a b) (x : Int) : PieceIn w (W.setCell ⟨X, 4, none⟩ (.int .i64 x)) R X l wd v t a x :=
  ⟨by obtain ⟨s, hs, hb⟩ := h.rd; exact ⟨s, hs, hb.far (fun e => h.ne e.symm) _⟩, rx_setNe h.rx h.far h.box (by decide), h.on.setNew h.lo _ _, h.box.set 4 _, h.ne, h.lo, h.far⟩
theorem PieceIn.cells (h : PieceIn w W R X l wd v t a b) : W.cell? ⟨X, 0, none⟩ = some (.int .u8 4) ∧ W.cell? ⟨X, 1, none⟩ = some (.slice none 0 0) ∧ W.cell? ⟨X, 2, none⟩ = some (.int .i64 1) ∧ W.cell? ⟨X, 3, none⟩ = some (.int .i64 a) ∧ W.cell? ⟨X, 4, none⟩ = some (.int .i64 b) ∧ W.frozen? ⟨X, 3, none⟩ = false ∧ W.frozen? ⟨X, 4, none⟩ = false ∧ X < W.heap.size :=
  ⟨h.box.cell 0, h.box.cell 1, h.box.cell 2, h.box.cell 3, h.box.cell 4, h.box.frozen 3, h.box.frozen 4, h.box.lt⟩
theorem pieceIn {e : Ending} {n : Nat} (h : RdP R w t l wd e W) (hR : R < w.heap.size) (HN : Hid (t.length = n)) : ∃ A c, e = .returned (.slice A n c) ∧ Hid (OwnRx W (R + 1) (.slice A n c) t ∧ RdS W R l wd ∧ Only R w W) ∧
    Hid (PieceIn w (W.alloc (.cells #[.int .u8 4, .slice none 0 0, .int .i64 1, .int .i64 0, .int .i64 (-1)] TNx)) R W.heap.size l wd (.slice A n c) t 0 (-1)) := by
  obtain ⟨A, n', c, rfl, h1, h2, h3⟩ := h
  have h4 := h1
  obtain ⟨A', c', us, hv, ho, _⟩ := h4
  injection hv with e1 e2 e3
  subst e1; subst e2; subst e3
  rw [HN.out] at h1 ho ⊢
  have hs := h3.size
  refine ⟨A, c, rfl, Lib.hid ⟨h1, h2, h3⟩, Lib.hid ⟨h2.below ((Below.refl _ _).alloc (Nat.le_refl _) _), rx_alloc h1 _, h3.alloc _, Blk.new _ _ _, by omega, hs, fun hg => ?_⟩⟩
  have := (ho.lt _ hg).2
  omega
theorem PieceIn.src {A : Option Addr} {n c : Nat} (h : PieceIn w W R X l wd (.slice A n c) t a b) (HN : Hid (t.length = n)) (o : Obj) (hn : n ≤ 50000) : ∃ us, Hid (RelK 5 (ORx (W.alloc o) (R + 1)) us t) ∧ Hid (Pv.Src (W.alloc o) A 5 n us) := by
  obtain ⟨A', c', us, hv, ho, hr⟩ := rx_alloc h.rx o
  injection hv with e1 e2 e3
  subst e1; subst e2; subst e3
  obtain ⟨_, hat⟩ := AtK.of_own ho hr rfl (by rw [HN.out]; omega)
  obtain ⟨vs, hrv, hsrc⟩ := AtK.src hat (fun _ _ h => h.one)
  rw [HN.out] at hsrc
  exact ⟨vs, Lib.hid hrv, Lib.hid hsrc⟩
theorem own_fiveE {W : World} {N : Nat} (a b c d f : Value) (h : W.heap.size = N) : (W.alloc (.cells #[a, b, c, d, f] TNx)).ownsRow N TNx 5 (.slice (some ⟨N, 0, none⟩) 1 1) 1 [a, b, c, d, f] := by
  subst h
  exact own_five W _ _ _ _ _ _ _ (Nat.le_refl _)
theorem PieceIn.done {v0 v1 v2 v3 v4 : Value} {A9 : Option Addr} {n c9 N : Nat} {us : List Value} {x : Rx} {w9 : World} {a0 b0 : Int} (h : PieceIn w W R X l wd v t a0 b0) (HN : Hid (t.length = n)) (hN : W.heap.size = N)
    (ho : (W.alloc (.cells #[v0, v1, v2, v3, v4] TNx)).ownsRow N TNx 5 (.slice (some ⟨N, 0, none⟩) 1 1) 1 [v0, v1, v2, v3, v4])
    (hr : RelK 5 (ORx (W.alloc (.cells #[v0, v1, v2, v3, v4] TNx)) (R + 1)) us t) (own : w9.ownsRow N TNx 5 (.slice A9 (1 + n) c9) (1 + n) ([v0, v1, v2, v3, v4] ++ us)) (gr : (W.alloc (.cells #[v0, v1, v2, v3, v4] TNx)).grownBy w9 (Value.slice (some ⟨N, 0, none⟩) 1 1).ownBlock)
    (hx : RelK 5 (ORx w9 (R + 1)) [v0, v1, v2, v3, v4] [x]) : RdP R w (x :: t) l wd (.returned (.slice A9 (1 + n) c9)) w9 := by
  subst hN
  have hl : (x :: t).length = 1 + n := by rw [List.length_cons, HN.out]; omega
  have hs := h.on.size
  have hR := h.rd.lt
  refine ⟨A9, 1 + n, c9, rfl, ?_, ?_, (h.on.alloc _).grown gr (fun k hk => ?_)⟩
  · refine OwnK.lower (base := W.heap.size) ?_ (by omega)
    exact ⟨A9, c9, _, by rw [hl], by rw [hl]; exact own, hx.app (hr.mono fun f x _ hx => hx.up fun _ _ hs => OwnK.grown hs ho (by decide) gr)⟩
  · obtain ⟨s, h1, h2⟩ := h.rd
    exact ⟨s, h1, (h2.alloc _).grown gr (by simp [Value.ownBlock]; omega)⟩
  · have := (ho.lt k hk).1
    omega
theorem PieceIn.rcells (h : PieceIn w W R X l wd v t a b) : ∃ s : ByteArray, Hid (bsl s = l) ∧ R < W.heap.size ∧ W.cell? ⟨R, 0, none⟩ = some (.string s) := by
  obtain ⟨s, h1, _, h2, h3, _⟩ := h.rd.cells
  exact ⟨s, h1, h2, h3⟩
end
set_option maxHeartbeats 4000000 in
set_option maxRecDepth 100000 in
theorem rd_piece_star {R : Nat} {r : Bs} {wf : Bool} {t : List Rx} {w : World} (ha : Calls Tryz.prog 114 #[.pointer (some ⟨R, 0, none⟩)] w (RdP R w t (42 :: r) wf)) (hR : R < w.heap.size) (hn : t.length ≤ 50000) :
    Calls Tryz.prog 75 #[.pointer (some ⟨R, 0, none⟩)] w (RdP R w (⟨4, [], 1, 0, -1⟩ :: t) (r) wf) := by
  obtain ⟨i0, hi0, hz0, hs0, hb0⟩ := info_parts info_rx
  have HA := Lib.hid ha
  obtain ⟨k, hk⟩ : ∃ k, t.length = k := ⟨_, rfl⟩
  have HN := Lib.hid hk
  rw [hk] at hn
  have Z1 : Hid (1 + k ≤ maxLen) := Lib.hid (by simp only [maxLen]; omega)
  have Z2 : Hid ((1 + k) * 56 ≤ 140737488355328) := Lib.hid (by omega)
  clear ha hk
  go_enter Tryz.func75, Tryz.ntmps75
  go_wp2_with fail
  refine HA.out.mono ?_
  rintro e w0 hP
  obtain ⟨A, c, rfl, P0, P1⟩ := pieceIn hP hR HN
  clear hP
  have HI2 := Lib.hid (rd_is R _ _ 42 _ P1.out.rd)
  rw [isB_hit] at HI2
  go_wp2_with fail
  refine HI2.out.mono ?_
  rintro e w2 ⟨rfl, h2, h3⟩
  simp only [Option.getD_some] at h2
  have P2 := Lib.hid (P1.out.only h3 h2)
  clear h2 h3 HI2 P1
  have PO := Lib.hid (own_fiveE (W := w2) (N := w2.heap.size) (.int .u8 4) (.slice none 0 0) (.int .i64 1) (.int .i64 (0)) (.int .i64 (-1)) (by simp))
  obtain ⟨us, RV, SRA⟩ := P2.out.src HN (.cells #[.int .u8 4, .slice none 0 0, .int .i64 1, .int .i64 (0), .int .i64 (-1)] TNx) hn
  have hsz : w2.heap.size ≤ (w2.alloc (.cells #[.int .u8 4, .slice none 0 0, .int .i64 1, .int .i64 (0), .int .i64 (-1)] TNx)).heap.size := by simp
  obtain ⟨p0, p1, p2, p3, p4, f3, f4, hx⟩ := P2.out.cells
  go_wp2_with (first
  | (at_builtin
     go_must (refine wpList_append_src _ rfl (.tmp 50) (.tmp 51) 29 rfl w2.heap.size TNx i0 _ 5 56 Tryz.underlying29 hi0 hz0 hs0 hb0 rfl (by decide) (some ⟨w2.heap.size, 0, none⟩) 1 1 _ rfl PO.out A k c _ rfl SRA.out Z1.out Z2.out hsz ?_)
     intro A9 c9 w9 own9 gr9 _
     have HO9 := Lib.hid own9; have HG9 := Lib.hid gr9
     clear own9 gr9))
  go_ret
  exact P2.out.done HN (by simp) PO.out RV.out HO9.out HG9.out (rx_node OwnK.nil (by omega) (by omega) (by omega) (by omega))

set_option maxHeartbeats 4000000 in
set_option maxRecDepth 100000 in
theorem rd_piece_plus {R : Nat} {r : Bs} {wf : Bool} {t : List Rx} {w : World} (ha : Calls Tryz.prog 114 #[.pointer (some ⟨R, 0, none⟩)] w (RdP R w t (43 :: r) wf)) (hR : R < w.heap.size) (hn : t.length ≤ 50000) :
    Calls Tryz.prog 75 #[.pointer (some ⟨R, 0, none⟩)] w (RdP R w (⟨4, [], 1, 1, -1⟩ :: t) (r) wf) := by
  obtain ⟨i0, hi0, hz0, hs0, hb0⟩ := info_parts info_rx
  have HA := Lib.hid ha
  obtain ⟨k, hk⟩ : ∃ k, t.length = k := ⟨_, rfl⟩
  have HN := Lib.hid hk
  rw [hk] at hn
  have Z1 : Hid (1 + k ≤ maxLen) := Lib.hid (by simp only [maxLen]; omega)
  have Z2 : Hid ((1 + k) * 56 ≤ 140737488355328) := Lib.hid (by omega)
  clear ha hk
  go_enter Tryz.func75, Tryz.ntmps75
  go_wp2_with fail
  refine HA.out.mono ?_
  rintro e w0 hP
  obtain ⟨A, c, rfl, P0, P1⟩ := pieceIn hP hR HN
  clear hP
  have HI2 := Lib.hid (rd_is R _ _ 42 _ P1.out.rd)
  rw [isB_miss _ (by decide)] at HI2
  go_wp2_with fail
  refine HI2.out.mono ?_
  rintro e w2 ⟨rfl, h2, h3⟩
  simp only [Option.getD_none] at h2
  have P2 := Lib.hid (P1.out.only h3 h2)
  clear h2 h3 HI2 P1
  have HI3 := Lib.hid (rd_is R _ _ 43 _ P2.out.rd)
  rw [isB_hit] at HI3
  go_wp2_with fail
  refine HI3.out.mono ?_
  rintro e w3 ⟨rfl, h2, h3⟩
  simp only [Option.getD_some] at h2
  have P3 := Lib.hid (P2.out.only h3 h2)
  clear h2 h3 HI3 P2
  obtain ⟨p0, p1, p2, p3, p4, f3, f4, hx⟩ := P3.out.cells
  have Q1 := Lib.hid (P3.out.least (1))
  clear P3
  have PO := Lib.hid (own_fiveE (W := (w3.setCell ⟨w0.heap.size, 3, none⟩ (.int .i64 (1)))) (N := w3.heap.size) (.int .u8 4) (.slice none 0 0) (.int .i64 1) (.int .i64 (1)) (.int .i64 (-1)) (by simp))
  obtain ⟨us, RV, SRA⟩ := Q1.out.src HN (.cells #[.int .u8 4, .slice none 0 0, .int .i64 1, .int .i64 (1), .int .i64 (-1)] TNx) hn
  have hsz : w3.heap.size ≤ ((w3.setCell ⟨w0.heap.size, 3, none⟩ (.int .i64 (1))).alloc (.cells #[.int .u8 4, .slice none 0 0, .int .i64 1, .int .i64 (1), .int .i64 (-1)] TNx)).heap.size := by simp
  obtain ⟨q0, q1, q2, q3, q4, _, _, _⟩ := Q1.out.cells
  go_wp2_with (first
  | (at_builtin
     go_must (refine wpList_append_src _ rfl (.tmp 50) (.tmp 51) 29 rfl w3.heap.size TNx i0 _ 5 56 Tryz.underlying29 hi0 hz0 hs0 hb0 rfl (by decide) (some ⟨w3.heap.size, 0, none⟩) 1 1 _ rfl PO.out A k c _ rfl SRA.out Z1.out Z2.out hsz ?_)
     intro A9 c9 w9 own9 gr9 _
     have HO9 := Lib.hid own9; have HG9 := Lib.hid gr9
     clear own9 gr9))
  go_ret
  exact Q1.out.done HN (by simp) PO.out RV.out HO9.out HG9.out (rx_node OwnK.nil (by omega) (by omega) (by omega) (by omega))

set_option maxHeartbeats 4000000 in
set_option maxRecDepth 100000 in
theorem rd_piece_perh {R : Nat} {r : Bs} {wf : Bool} {t : List Rx} {w : World} (ha : Calls Tryz.prog 114 #[.pointer (some ⟨R, 0, none⟩)] w (RdP R w t (63 :: r) wf)) (hR : R < w.heap.size) (hn : t.length ≤ 50000) :
    Calls Tryz.prog 75 #[.pointer (some ⟨R, 0, none⟩)] w (RdP R w (⟨4, [], 1, 0, 1⟩ :: t) (r) wf) := by
  obtain ⟨i0, hi0, hz0, hs0, hb0⟩ := info_parts info_rx
  have HA := Lib.hid ha
  obtain ⟨k, hk⟩ : ∃ k, t.length = k := ⟨_, rfl⟩
  have HN := Lib.hid hk
  rw [hk] at hn
  have Z1 : Hid (1 + k ≤ maxLen) := Lib.hid (by simp only [maxLen]; omega)
  have Z2 : Hid ((1 + k) * 56 ≤ 140737488355328) := Lib.hid (by omega)
  clear ha hk
  go_enter Tryz.func75, Tryz.ntmps75
  go_wp2_with fail
  refine HA.out.mono ?_
  rintro e w0 hP
  obtain ⟨A, c, rfl, P0, P1⟩ := pieceIn hP hR HN
  clear hP
  have HI2 := Lib.hid (rd_is R _ _ 42 _ P1.out.rd)
  rw [isB_miss _ (by decide)] at HI2
  go_wp2_with fail
  refine HI2.out.mono ?_
  rintro e w2 ⟨rfl, h2, h3⟩
  simp only [Option.getD_none] at h2
  have P2 := Lib.hid (P1.out.only h3 h2)
  clear h2 h3 HI2 P1
  have HI3 := Lib.hid (rd_is R _ _ 43 _ P2.out.rd)
  rw [isB_miss _ (by decide)] at HI3
  go_wp2_with fail
  refine HI3.out.mono ?_
  rintro e w3 ⟨rfl, h2, h3⟩
  simp only [Option.getD_none] at h2
  have P3 := Lib.hid (P2.out.only h3 h2)
  clear h2 h3 HI3 P2
  have HI4 := Lib.hid (rd_is R _ _ 63 _ P3.out.rd)
  rw [isB_hit] at HI4
  go_wp2_with fail
  refine HI4.out.mono ?_
  rintro e w4 ⟨rfl, h2, h3⟩
  simp only [Option.getD_some] at h2
  have P4 := Lib.hid (P3.out.only h3 h2)
  clear h2 h3 HI4 P3
  obtain ⟨p0, p1, p2, p3, p4, f3, f4, hx⟩ := P4.out.cells
  have Q1 := Lib.hid (P4.out.most (1))
  clear P4
  have PO := Lib.hid (own_fiveE (W := (w4.setCell ⟨w0.heap.size, 4, none⟩ (.int .i64 (1)))) (N := w4.heap.size) (.int .u8 4) (.slice none 0 0) (.int .i64 1) (.int .i64 (0)) (.int .i64 (1)) (by simp))
  obtain ⟨us, RV, SRA⟩ := Q1.out.src HN (.cells #[.int .u8 4, .slice none 0 0, .int .i64 1, .int .i64 (0), .int .i64 (1)] TNx) hn
  have hsz : w4.heap.size ≤ ((w4.setCell ⟨w0.heap.size, 4, none⟩ (.int .i64 (1))).alloc (.cells #[.int .u8 4, .slice none 0 0, .int .i64 1, .int .i64 (0), .int .i64 (1)] TNx)).heap.size := by simp
  obtain ⟨q0, q1, q2, q3, q4, _, _, _⟩ := Q1.out.cells
  go_wp2_with (first
  | (at_builtin
     go_must (refine wpList_append_src _ rfl (.tmp 50) (.tmp 51) 29 rfl w4.heap.size TNx i0 _ 5 56 Tryz.underlying29 hi0 hz0 hs0 hb0 rfl (by decide) (some ⟨w4.heap.size, 0, none⟩) 1 1 _ rfl PO.out A k c _ rfl SRA.out Z1.out Z2.out hsz ?_)
     intro A9 c9 w9 own9 gr9 _
     have HO9 := Lib.hid own9; have HG9 := Lib.hid gr9
     clear own9 gr9))
  go_ret
  exact Q1.out.done HN (by simp) PO.out RV.out HO9.out HG9.out (rx_node OwnK.nil (by omega) (by omega) (by omega) (by omega))

set_option maxHeartbeats 4000000 in
set_option maxRecDepth 100000 in
theorem rd_piece_just {R : Nat} {r r3 : Bs} {a : Nat} {wf : Bool} {t : List Rx} {w : World} (ha : Calls Tryz.prog 114 #[.pointer (some ⟨R, 0, none⟩)] w (RdP R w t (123 :: r) wf)) (hR : R < w.heap.size) (hn : t.length ≤ 50000) (hc : countB r = some (a, 125 :: r3)) (hl : r.length ≤ 1000) :
    Calls Tryz.prog 75 #[.pointer (some ⟨R, 0, none⟩)] w (RdP R w (⟨4, [], 1, a, a⟩ :: t) (r3) wf) := by
  obtain ⟨i0, hi0, hz0, hs0, hb0⟩ := info_parts info_rx
  have HA := Lib.hid ha
  have HC := Lib.hid hc
  have ha16 := (countB_some hc).2.2.1
  clear hc
  obtain ⟨k, hk⟩ : ∃ k, t.length = k := ⟨_, rfl⟩
  have HN := Lib.hid hk
  rw [hk] at hn
  have Z1 : Hid (1 + k ≤ maxLen) := Lib.hid (by simp only [maxLen]; omega)
  have Z2 : Hid ((1 + k) * 56 ≤ 140737488355328) := Lib.hid (by omega)
  clear ha hk
  go_enter Tryz.func75, Tryz.ntmps75
  go_wp2_with fail
  refine HA.out.mono ?_
  rintro e w0 hP
  obtain ⟨A, c, rfl, P0, P1⟩ := pieceIn hP hR HN
  clear hP
  have HI2 := Lib.hid (rd_is R _ _ 42 _ P1.out.rd)
  rw [isB_miss _ (by decide)] at HI2
  go_wp2_with fail
  refine HI2.out.mono ?_
  rintro e w2 ⟨rfl, h2, h3⟩
  simp only [Option.getD_none] at h2
  have P2 := Lib.hid (P1.out.only h3 h2)
  clear h2 h3 HI2 P1
  have HI3 := Lib.hid (rd_is R _ _ 43 _ P2.out.rd)
  rw [isB_miss _ (by decide)] at HI3
  go_wp2_with fail
  refine HI3.out.mono ?_
  rintro e w3 ⟨rfl, h2, h3⟩
  simp only [Option.getD_none] at h2
  have P3 := Lib.hid (P2.out.only h3 h2)
  clear h2 h3 HI3 P2
  have HI4 := Lib.hid (rd_is R _ _ 63 _ P3.out.rd)
  rw [isB_miss _ (by decide)] at HI4
  go_wp2_with fail
  refine HI4.out.mono ?_
  rintro e w4 ⟨rfl, h2, h3⟩
  simp only [Option.getD_none] at h2
  have P4 := Lib.hid (P3.out.only h3 h2)
  clear h2 h3 HI4 P3
  have HI5 := Lib.hid (rd_is R _ _ 123 _ P4.out.rd)
  rw [isB_hit] at HI5
  go_wp2_with fail
  refine HI5.out.mono ?_
  rintro e w5 ⟨rfl, h2, h3⟩
  simp only [Option.getD_some] at h2
  have P5 := Lib.hid (P4.out.only h3 h2)
  clear h2 h3 HI5 P4
  have HI6 := Lib.hid (rd_count R _ _ a _ _ P5.out.rd HC.out (by omega))
  go_wp2_with fail
  refine HI6.out.mono ?_
  rintro e w6 ⟨rfl, h2, h3⟩
  have P6 := Lib.hid (P5.out.only h3 h2)
  clear h2 h3 HI6 P5
  obtain ⟨p0, p1, p2, p3, p4, f3, f4, hx⟩ := P6.out.cells
  have Q1 := Lib.hid (P6.out.least (a))
  clear P6
  have Q2 := Lib.hid (Q1.out.most (a))
  clear Q1
  have HI7 := Lib.hid (rd_is R _ _ 44 _ Q2.out.rd)
  rw [isB_miss _ (by decide)] at HI7
  go_wp2_with fail
  refine HI7.out.mono ?_
  rintro e w7 ⟨rfl, h2, h3⟩
  simp only [Option.getD_none] at h2
  have P7 := Lib.hid (Q2.out.only h3 h2)
  clear h2 h3 HI7 Q2
  clear p0 p1 p2 p3 p4 f3 f4 hx
  have HI8 := Lib.hid (rd_must R _ _ _ 125 _ P7.out.rd (isB_hit _ _))
  go_wp2_with fail
  refine HI8.out.mono ?_
  rintro e w8 ⟨rfl, h2, h3⟩
  have P8 := Lib.hid (P7.out.only h3 h2)
  clear h2 h3 HI8 P7
  have PO := Lib.hid (own_fiveE (W := w8) (N := w8.heap.size) (.int .u8 4) (.slice none 0 0) (.int .i64 1) (.int .i64 (a)) (.int .i64 (a)) (by simp))
  obtain ⟨us, RV, SRA⟩ := P8.out.src HN (.cells #[.int .u8 4, .slice none 0 0, .int .i64 1, .int .i64 (a), .int .i64 (a)] TNx) hn
  have hsz : w8.heap.size ≤ (w8.alloc (.cells #[.int .u8 4, .slice none 0 0, .int .i64 1, .int .i64 (a), .int .i64 (a)] TNx)).heap.size := by simp
  obtain ⟨p0, p1, p2, p3, p4, f3, f4, hx⟩ := P8.out.cells
  go_wp2_with (first
  | (at_builtin
     go_must (refine wpList_append_src _ rfl (.tmp 50) (.tmp 51) 29 rfl w8.heap.size TNx i0 _ 5 56 Tryz.underlying29 hi0 hz0 hs0 hb0 rfl (by decide) (some ⟨w8.heap.size, 0, none⟩) 1 1 _ rfl PO.out A k c _ rfl SRA.out Z1.out Z2.out hsz ?_)
     intro A9 c9 w9 own9 gr9 _
     have HO9 := Lib.hid own9; have HG9 := Lib.hid gr9
     clear own9 gr9))
  go_ret
  exact P8.out.done HN (by simp) PO.out RV.out HO9.out HG9.out (rx_node OwnK.nil (by omega) (by omega) (by omega) (by omega))

set_option maxHeartbeats 4000000 in
set_option maxRecDepth 100000 in
theorem rd_piece_from {R : Nat} {r r4 : Bs} {a : Nat} {wf : Bool} {t : List Rx} {w : World} (ha : Calls Tryz.prog 114 #[.pointer (some ⟨R, 0, none⟩)] w (RdP R w t (123 :: r) wf)) (hR : R < w.heap.size) (hn : t.length ≤ 50000) (hc : countB r = some (a, 44 :: 125 :: r4)) (hl : r.length ≤ 1000) :
    Calls Tryz.prog 75 #[.pointer (some ⟨R, 0, none⟩)] w (RdP R w (⟨4, [], 1, a, -1⟩ :: t) (r4) wf) := by
  obtain ⟨i0, hi0, hz0, hs0, hb0⟩ := info_parts info_rx
  have HA := Lib.hid ha
  have HC := Lib.hid hc
  have ha16 := (countB_some hc).2.2.1
  clear hc
  obtain ⟨k, hk⟩ : ∃ k, t.length = k := ⟨_, rfl⟩
  have HN := Lib.hid hk
  rw [hk] at hn
  have Z1 : Hid (1 + k ≤ maxLen) := Lib.hid (by simp only [maxLen]; omega)
  have Z2 : Hid ((1 + k) * 56 ≤ 140737488355328) := Lib.hid (by omega)
  clear ha hk
  go_enter Tryz.func75, Tryz.ntmps75
  go_wp2_with fail
  refine HA.out.mono ?_
  rintro e w0 hP
  obtain ⟨A, c, rfl, P0, P1⟩ := pieceIn hP hR HN
  clear hP
  have HI2 := Lib.hid (rd_is R _ _ 42 _ P1.out.rd)
  rw [isB_miss _ (by decide)] at HI2
  go_wp2_with fail
  refine HI2.out.mono ?_
  rintro e w2 ⟨rfl, h2, h3⟩
  simp only [Option.getD_none] at h2
  have P2 := Lib.hid (P1.out.only h3 h2)
  clear h2 h3 HI2 P1
  have HI3 := Lib.hid (rd_is R _ _ 43 _ P2.out.rd)
  rw [isB_miss _ (by decide)] at HI3
  go_wp2_with fail
  refine HI3.out.mono ?_
  rintro e w3 ⟨rfl, h2, h3⟩
  simp only [Option.getD_none] at h2
  have P3 := Lib.hid (P2.out.only h3 h2)
  clear h2 h3 HI3 P2
  have HI4 := Lib.hid (rd_is R _ _ 63 _ P3.out.rd)
  rw [isB_miss _ (by decide)] at HI4
  go_wp2_with fail
  refine HI4.out.mono ?_
  rintro e w4 ⟨rfl, h2, h3⟩
  simp only [Option.getD_none] at h2
  have P4 := Lib.hid (P3.out.only h3 h2)
  clear h2 h3 HI4 P3
  have HI5 := Lib.hid (rd_is R _ _ 123 _ P4.out.rd)
  rw [isB_hit] at HI5
  go_wp2_with fail
  refine HI5.out.mono ?_
  rintro e w5 ⟨rfl, h2, h3⟩
  simp only [Option.getD_some] at h2
  have P5 := Lib.hid (P4.out.only h3 h2)
  clear h2 h3 HI5 P4
  have HI6 := Lib.hid (rd_count R _ _ a _ _ P5.out.rd HC.out (by omega))
  go_wp2_with fail
  refine HI6.out.mono ?_
  rintro e w6 ⟨rfl, h2, h3⟩
  have P6 := Lib.hid (P5.out.only h3 h2)
  clear h2 h3 HI6 P5
  obtain ⟨p0, p1, p2, p3, p4, f3, f4, hx⟩ := P6.out.cells
  have Q1 := Lib.hid (P6.out.least (a))
  clear P6
  have Q2 := Lib.hid (Q1.out.most (a))
  clear Q1
  have HI7 := Lib.hid (rd_is R _ _ 44 _ Q2.out.rd)
  rw [isB_hit] at HI7
  go_wp2_with fail
  refine HI7.out.mono ?_
  rintro e w7 ⟨rfl, h2, h3⟩
  simp only [Option.getD_some] at h2
  have P7 := Lib.hid (Q2.out.only h3 h2)
  clear h2 h3 HI7 Q2
  clear p0 p1 p2 p3 p4 f3 f4 hx
  obtain ⟨p0, p1, p2, p3, p4, f3, f4, hx⟩ := P7.out.cells
  have Q3 := Lib.hid (P7.out.most (-1))
  clear P7
  obtain ⟨s1, hs1, hR1, r1⟩ := Q3.out.rcells
  have HI := Lib.hid (Tryz.strings_HasPrefix s1 ⟨#[125]⟩ (w7.setCell ⟨w0.heap.size, 4, none⟩ (.int .i64 (-1))))
  rw [show Lib.hasPrefix s1.data.toList #[125].toList = true from (pre1 125 (bsl s1)).trans (by rw [hs1.out, isB_hit]; rfl)] at HI
  go_wp2_with fail
  refine HI.out.mono ?_
  rintro e w' ⟨rfl, hw⟩
  have hw2 := hw.symm
  subst hw2
  clear hw HI hs1
  have HI8 := Lib.hid (rd_must R _ _ _ 125 _ Q3.out.rd (isB_hit _ _))
  go_wp2_with fail
  refine HI8.out.mono ?_
  rintro e w8 ⟨rfl, h2, h3⟩
  have P8 := Lib.hid (Q3.out.only h3 h2)
  clear h2 h3 HI8 Q3
  clear p0 p1 p2 p3 p4 f3 f4 hx
  have PO := Lib.hid (own_fiveE (W := w8) (N := w8.heap.size) (.int .u8 4) (.slice none 0 0) (.int .i64 1) (.int .i64 (a)) (.int .i64 (-1)) (by simp))
  obtain ⟨us, RV, SRA⟩ := P8.out.src HN (.cells #[.int .u8 4, .slice none 0 0, .int .i64 1, .int .i64 (a), .int .i64 (-1)] TNx) hn
  have hsz : w8.heap.size ≤ (w8.alloc (.cells #[.int .u8 4, .slice none 0 0, .int .i64 1, .int .i64 (a), .int .i64 (-1)] TNx)).heap.size := by simp
  obtain ⟨p0, p1, p2, p3, p4, f3, f4, hx⟩ := P8.out.cells
  go_wp2_with (first
  | (at_builtin
     go_must (refine wpList_append_src _ rfl (.tmp 50) (.tmp 51) 29 rfl w8.heap.size TNx i0 _ 5 56 Tryz.underlying29 hi0 hz0 hs0 hb0 rfl (by decide) (some ⟨w8.heap.size, 0, none⟩) 1 1 _ rfl PO.out A k c _ rfl SRA.out Z1.out Z2.out hsz ?_)
     intro A9 c9 w9 own9 gr9 _
     have HO9 := Lib.hid own9; have HG9 := Lib.hid gr9
     clear own9 gr9))
  go_ret
  exact P8.out.done HN (by simp) PO.out RV.out HO9.out HG9.out (rx_node OwnK.nil (by omega) (by omega) (by omega) (by omega))

set_option maxHeartbeats 4000000 in
set_option maxRecDepth 100000 in
theorem rd_piece_some {R : Nat} {r r3 r5 : Bs} {a b : Nat} {wf : Bool} {t : List Rx} {w : World} (ha : Calls Tryz.prog 114 #[.pointer (some ⟨R, 0, none⟩)] w (RdP R w t (123 :: r) wf)) (hR : R < w.heap.size) (hn : t.length ≤ 50000) (hc : countB r = some (a, 44 :: r3)) (e7 : isB 125 r3 = none) (hc2 : countB r3 = some (b, 125 :: r5)) (hab : a ≤ b) (hl : r.length ≤ 1000) :
    Calls Tryz.prog 75 #[.pointer (some ⟨R, 0, none⟩)] w (RdP R w (⟨4, [], 1, a, b⟩ :: t) (r5) wf) := by
  obtain ⟨i0, hi0, hz0, hs0, hb0⟩ := info_parts info_rx
  have HA := Lib.hid ha
  have HC := Lib.hid hc
  have ha16 := (countB_some hc).2.2.1
  clear hc
  have HC2 := Lib.hid hc2; have E7 := Lib.hid e7
  have hb16 := (countB_some hc2).2.2.1
  have hl3 : r3.length ≤ 1000 := by have := (countB_sfx HC.out).length_le; simp only [List.length_cons] at this; omega
  have hab2 : decide (b < a) = false := decide_eq_false (by omega)
  clear hc2 e7
  obtain ⟨k, hk⟩ : ∃ k, t.length = k := ⟨_, rfl⟩
  have HN := Lib.hid hk
  rw [hk] at hn
  have Z1 : Hid (1 + k ≤ maxLen) := Lib.hid (by simp only [maxLen]; omega)
  have Z2 : Hid ((1 + k) * 56 ≤ 140737488355328) := Lib.hid (by omega)
  clear ha hk
  go_enter Tryz.func75, Tryz.ntmps75
  go_wp2_with fail
  refine HA.out.mono ?_
  rintro e w0 hP
  obtain ⟨A, c, rfl, P0, P1⟩ := pieceIn hP hR HN
  clear hP
  have HI2 := Lib.hid (rd_is R _ _ 42 _ P1.out.rd)
  rw [isB_miss _ (by decide)] at HI2
  go_wp2_with fail
  refine HI2.out.mono ?_
  rintro e w2 ⟨rfl, h2, h3⟩
  simp only [Option.getD_none] at h2
  have P2 := Lib.hid (P1.out.only h3 h2)
  clear h2 h3 HI2 P1
  have HI3 := Lib.hid (rd_is R _ _ 43 _ P2.out.rd)
  rw [isB_miss _ (by decide)] at HI3
  go_wp2_with fail
  refine HI3.out.mono ?_
  rintro e w3 ⟨rfl, h2, h3⟩
  simp only [Option.getD_none] at h2
  have P3 := Lib.hid (P2.out.only h3 h2)
  clear h2 h3 HI3 P2
  have HI4 := Lib.hid (rd_is R _ _ 63 _ P3.out.rd)
  rw [isB_miss _ (by decide)] at HI4
  go_wp2_with fail
  refine HI4.out.mono ?_
  rintro e w4 ⟨rfl, h2, h3⟩
  simp only [Option.getD_none] at h2
  have P4 := Lib.hid (P3.out.only h3 h2)
  clear h2 h3 HI4 P3
  have HI5 := Lib.hid (rd_is R _ _ 123 _ P4.out.rd)
  rw [isB_hit] at HI5
  go_wp2_with fail
  refine HI5.out.mono ?_
  rintro e w5 ⟨rfl, h2, h3⟩
  simp only [Option.getD_some] at h2
  have P5 := Lib.hid (P4.out.only h3 h2)
  clear h2 h3 HI5 P4
  have HI6 := Lib.hid (rd_count R _ _ a _ _ P5.out.rd HC.out (by omega))
  go_wp2_with fail
  refine HI6.out.mono ?_
  rintro e w6 ⟨rfl, h2, h3⟩
  have P6 := Lib.hid (P5.out.only h3 h2)
  clear h2 h3 HI6 P5
  obtain ⟨p0, p1, p2, p3, p4, f3, f4, hx⟩ := P6.out.cells
  have Q1 := Lib.hid (P6.out.least (a))
  clear P6
  have Q2 := Lib.hid (Q1.out.most (a))
  clear Q1
  have HI7 := Lib.hid (rd_is R _ _ 44 _ Q2.out.rd)
  rw [isB_hit] at HI7
  go_wp2_with fail
  refine HI7.out.mono ?_
  rintro e w7 ⟨rfl, h2, h3⟩
  simp only [Option.getD_some] at h2
  have P7 := Lib.hid (Q2.out.only h3 h2)
  clear h2 h3 HI7 Q2
  clear p0 p1 p2 p3 p4 f3 f4 hx
  obtain ⟨p0, p1, p2, p3, p4, f3, f4, hx⟩ := P7.out.cells
  have Q3 := Lib.hid (P7.out.most (-1))
  clear P7
  obtain ⟨s1, hs1, hR1, r1⟩ := Q3.out.rcells
  have HI := Lib.hid (Tryz.strings_HasPrefix s1 ⟨#[125]⟩ (w7.setCell ⟨w0.heap.size, 4, none⟩ (.int .i64 (-1))))
  rw [show Lib.hasPrefix s1.data.toList #[125].toList = false from (pre1 125 (bsl s1)).trans (by rw [hs1.out, E7.out]; rfl)] at HI
  go_wp2_with fail
  refine HI.out.mono ?_
  rintro e w' ⟨rfl, hw⟩
  have hw2 := hw.symm
  subst hw2
  clear hw HI hs1
  have HI8 := Lib.hid (rd_count R _ _ b _ _ Q3.out.rd HC2.out (by omega))
  go_wp2_with fail
  refine HI8.out.mono ?_
  rintro e w8 ⟨rfl, h2, h3⟩
  have P8 := Lib.hid (Q3.out.only h3 h2)
  clear h2 h3 HI8 Q3
  clear p0 p1 p2 p3 p4 f3 f4 hx
  obtain ⟨p0, p1, p2, p3, p4, f3, f4, hx⟩ := P8.out.cells
  have Q4 := Lib.hid (P8.out.most (b))
  clear P8
  have HI9 := Lib.hid (rd_must R _ _ _ 125 _ Q4.out.rd (isB_hit _ _))
  go_wp2_with fail
  refine HI9.out.mono ?_
  rintro e w9 ⟨rfl, h2, h3⟩
  have P9 := Lib.hid (Q4.out.only h3 h2)
  clear h2 h3 HI9 Q4
  clear p0 p1 p2 p3 p4 f3 f4 hx
  have PO := Lib.hid (own_fiveE (W := w9) (N := w9.heap.size) (.int .u8 4) (.slice none 0 0) (.int .i64 1) (.int .i64 (a)) (.int .i64 (b)) (by simp))
  obtain ⟨us, RV, SRA⟩ := P9.out.src HN (.cells #[.int .u8 4, .slice none 0 0, .int .i64 1, .int .i64 (a), .int .i64 (b)] TNx) hn
  have hsz : w9.heap.size ≤ (w9.alloc (.cells #[.int .u8 4, .slice none 0 0, .int .i64 1, .int .i64 (a), .int .i64 (b)] TNx)).heap.size := by simp
  obtain ⟨p0, p1, p2, p3, p4, f3, f4, hx⟩ := P9.out.cells
  go_wp2_with (first
  | (at_builtin
     go_must (refine wpList_append_src _ rfl (.tmp 50) (.tmp 51) 29 rfl w9.heap.size TNx i0 _ 5 56 Tryz.underlying29 hi0 hz0 hs0 hb0 rfl (by decide) (some ⟨w9.heap.size, 0, none⟩) 1 1 _ rfl PO.out A k c _ rfl SRA.out Z1.out Z2.out hsz ?_)
     intro A9 c9 w9 own9 gr9 _
     have HO9 := Lib.hid own9; have HG9 := Lib.hid gr9
     clear own9 gr9))
  go_ret
  exact P9.out.done HN (by simp) PO.out RV.out HO9.out HG9.out (rx_node OwnK.nil (by omega) (by omega) (by omega) (by omega))

set_option maxHeartbeats 4000000 in
set_option maxRecDepth 100000 in
theorem rd_piece_once {R : Nat} {r : Bs} {wf : Bool} {t : List Rx} {w : World} (ha : Calls Tryz.prog 114 #[.pointer (some ⟨R, 0, none⟩)] w (RdP R w t (r) wf)) (hR : R < w.heap.size) (hn : t.length ≤ 50000) (e1 : isB 42 r = none) (e2 : isB 43 r = none) (e3 : isB 63 r = none) (e4 : isB 123 r = none) :
    Calls Tryz.prog 75 #[.pointer (some ⟨R, 0, none⟩)] w (RdP R w (t) (r) wf) := by
  obtain ⟨i0, hi0, hz0, hs0, hb0⟩ := info_parts info_rx
  have HA := Lib.hid ha
  have E1 := Lib.hid e1; have E2 := Lib.hid e2; have E3 := Lib.hid e3; have E4 := Lib.hid e4
  clear e1 e2 e3 e4
  obtain ⟨k, hk⟩ : ∃ k, t.length = k := ⟨_, rfl⟩
  have HN := Lib.hid hk
  rw [hk] at hn
  have Z1 : Hid (1 + k ≤ maxLen) := Lib.hid (by simp only [maxLen]; omega)
  have Z2 : Hid ((1 + k) * 56 ≤ 140737488355328) := Lib.hid (by omega)
  clear ha hk
  go_enter Tryz.func75, Tryz.ntmps75
  go_wp2_with fail
  refine HA.out.mono ?_
  rintro e w0 hP
  obtain ⟨A, c, rfl, P0, P1⟩ := pieceIn hP hR HN
  clear hP
  have HI2 := Lib.hid (rd_is R _ _ 42 _ P1.out.rd)
  rw [E1.out] at HI2
  go_wp2_with fail
  refine HI2.out.mono ?_
  rintro e w2 ⟨rfl, h2, h3⟩
  simp only [Option.getD_none] at h2
  have P2 := Lib.hid (P1.out.only h3 h2)
  clear h2 h3 HI2 P1
  have HI3 := Lib.hid (rd_is R _ _ 43 _ P2.out.rd)
  rw [E2.out] at HI3
  go_wp2_with fail
  refine HI3.out.mono ?_
  rintro e w3 ⟨rfl, h2, h3⟩
  simp only [Option.getD_none] at h2
  have P3 := Lib.hid (P2.out.only h3 h2)
  clear h2 h3 HI3 P2
  have HI4 := Lib.hid (rd_is R _ _ 63 _ P3.out.rd)
  rw [E3.out] at HI4
  go_wp2_with fail
  refine HI4.out.mono ?_
  rintro e w4 ⟨rfl, h2, h3⟩
  simp only [Option.getD_none] at h2
  have P4 := Lib.hid (P3.out.only h3 h2)
  clear h2 h3 HI4 P3
  have HI5 := Lib.hid (rd_is R _ _ 123 _ P4.out.rd)
  rw [E4.out] at HI5
  go_wp2_with fail
  refine HI5.out.mono ?_
  rintro e w5 ⟨rfl, h2, h3⟩
  simp only [Option.getD_none] at h2
  have P5 := Lib.hid (P4.out.only h3 h2)
  clear h2 h3 HI5 P4
  go_wp2
  go_ret
  exact ⟨A, k, c, rfl, P5.out.rx, P5.out.rd, P5.out.on⟩

end Go.Proofs.YtilhicefhhgecaaGreatDoor

namespace Go.Proofs.YtilhicefhhgecaaGreatDoor
open Go.RowKit Pv

/-- The reader's rows, at texts that g reads. -/
def RowsOk (g : Bs → Bool → Option PR) (R : Nat) : Prop := ∀ (l r : Bs) (wd w2 : Bool) (t : List Rx) (w : World), PlainB l → l.length ≤ 1000 → g l wd = some (t, r, w2) → RdS w R l wd → Calls Tryz.prog 38 #[.pointer (some ⟨R, 0, none⟩)] w (RdP R w t r w2)
theorem rd_piece {g : Bs → Bool → Option PR} {R : Nat} {l r : Bs} {wd w2 : Bool} {t : List Rx} {w : World} (h : RdS w R l wd) (hs : pieceB g l wd = some (t, r, w2)) (hl : l.length ≤ 1000) (hp : PlainB l) (hg : RowsOk g R) (hf : FewB g) :
    Calls Tryz.prog 75 #[.pointer (some ⟨R, 0, none⟩)] w (RdP R w t r w2) := by
  obtain ⟨t1, r1, h1, h2⟩ := pieceB_steps hs
  have hn := atomB_few hf h1 hp
  have ha := rd_atom h (atomB_steps h1 hp) hl hp (fun r1 t1 r2 w3 w1 e h3 h4 => by
    subst e
    exact hg r1 r2 wd w3 t1 w1 hp.tail (by simp at hl; omega) h3 h4)
  have hR := h.lt
  have hr1 : r1.length ≤ 1000 := by omega
  rcases h2 with ⟨h2, rfl⟩ | ⟨a, b, h2, rfl⟩
  · have h3 := oftB_steps h2
    cases h3 with
    | once k1 k2 k3 k4 => exact rd_piece_once ha hR (by omega) k1 k2 k3 k4
  · have h3 := oftB_steps h2
    cases h3 with
    | star r e => subst e; exact rd_piece_star ha hR (by omega)
    | plus r e => subst e; exact rd_piece_plus ha hR (by omega)
    | perh r e => subst e; exact rd_piece_perh ha hR (by omega)
    | just r r3 a e k => subst e; exact rd_piece_just ha hR (by omega) k (by simp at hr1; omega)
    | «from» r r4 a e k => subst e; exact rd_piece_from ha hR (by omega) k (by simp at hr1; omega)
    | some r r3 r5 a b e k k2 k3 k4 => subst e; exact rd_piece_some ha hR (by omega) k k2 k3 k4 (by simp at hr1; omega)

/-- How much is to be read. -/
def rdLen (w : World) (R : Nat) : Nat := match w.cell? ⟨R, 0, none⟩ with
  | some (.string s) => s.size
  | _ => 0
section
variable {w w' : World} {R B b : Nat} {l : Bs} {wd : Bool}
theorem RdS.len (h : RdS w R l wd) : rdLen w R = l.length := by
  obtain ⟨s, h1, h2⟩ := h
  have h3 : w.cell? ⟨R, 0, none⟩ = some (.string s) := h2.cell 0
  unfold rdLen
  rw [h3, ← h1, bsl_len]
theorem RdS.grown {n s : Nat} {e : TypeId} {rv : Value} {us : List Value} (h : RdS w R l wd) (ho : w.ownsRow b e s rv n us) (he : e ≠ TRd) (gr : w.grownBy w' rv.ownBlock) : RdS w' R l wd := by
  obtain ⟨q, h1, h2⟩ := h
  exact ⟨q, h1, h2.grown gr (own_blk_ne ho h2 he)⟩
theorem RdS.alloc (h : RdS w R l wd) (o : Obj) : RdS (w.alloc o) R l wd := h.below ((Below.refl _ _).alloc (Nat.le_refl _) o)
end
end Go.Proofs.YtilhicefhhgecaaGreatDoor

namespace Go.Proofs.YtilhicefhhgecaaGreatDoor
open Go.RowKit Pv
theorem info_rl : (Tryz.prog.info? 29).map (fun i => (i.zero, i.size, i.bytes)) = some (some (.slice none 0 0), 1, 24) := by kernel_rfl

set_option maxHeartbeats 8000000 in
set_option maxRecDepth 100000 in
theorem rd_rows {g : Bs → Bool → Option PR} {R : Nat} (hg : RowsOk g R) (hf : FewB g) (hs : Sfx g) {f : Nat} {l r : Bs} {wd w2 : Bool} {t : List Rx} {w : World} (h : RdS w R l wd) (ha : altsB g f l wd [] = some (t, r, w2)) (hl : l.length ≤ 1000) (hp : PlainB l) :
    Calls Tryz.prog 38 #[.pointer (some ⟨R, 0, none⟩)] w (RdP R w t r w2) := by
  obtain ⟨i0, hi0, hz0, hs0, hb0⟩ := info_parts info_rl
  have HRD := Lib.hid h; have HA := Lib.hid ha; have HP := Lib.hid hp; have HG := Lib.hid hg; have HF := Lib.hid hf; have HSX := Lib.hid hs
  have HTL : Hid (t.length ≤ 3001) := Lib.hid (by have := altsB_few hf hs f ha hp (by simp); simp at this; omega)
  clear h ha hp hg hf hs
  go_enter Tryz.func38, Tryz.ntmps38
  go_wp2
  go_loopw [3] (fun av wr => ∃ (cur : Bs) (wc : Bool) (acc : List (List Rx)) (f' n c : Nat) (A : Option Addr), av = .slice A n c ∧ n + cur.length ≤ l.length ∧ Hid (altsB g f' cur wc acc = some (t, r, w2)) ∧ Hid (RdS wr R cur wc) ∧ Hid (OwnRows wr w.heap.size (R + 1) (.slice A n c) acc) ∧ Hid (acc.length = n) ∧ Hid (Only R w wr) ∧ Hid (PlainB cur) ∧ Hid (∀ p, p ∈ acc → 1 ≤ p.length)) (fun _ wr => rdLen wr R)
  case atStart => exact ⟨l, wd, [], f, 0, 0, none, rfl, by omega, HA, HRD, Lib.hid (OwnRows.nil _ _ _), Lib.hid rfl, Lib.hid (Only.refl R w), HP, Lib.hid (by simp)⟩
  case round =>
    clear HRD HA HP
    obtain ⟨cur, wc, acc, f', n, c, A, rfl, hn, HA, HRD, HOR, HN, HON, HP, HL1⟩ := hrel
    have hA := altsB_steps HA.out
    obtain ⟨f2, ps, r1, w3, h1, h2⟩ := hA
    have HPS := Lib.hid h1; have HAL := Lib.hid h2
    clear h1 h2
    have hcl : cur.length ≤ 1000 := by omega
    have HPF := Lib.hid (piecesB_few HF.out HSX.out _ HPS.out HP.out (by simp))
    obtain ⟨wo, rfl⟩ : ∃ wo : World, wo = wr := ⟨_, rfl⟩
    go_wp2
    go_loopw [4] (fun lv wr => ∃ (cu : Bs) (wd1 : Bool) (ac : List (List Rx)) (f3 m c1 : Nat) (A1 : Option Addr), lv = .slice A1 m c1 ∧ m + cu.length ≤ cur.length ∧ Hid (piecesB g f3 cu wd1 ac = some (ps, r1, w3)) ∧ Hid (RdS wr R cu wd1) ∧ Hid (OwnRows wr wo.heap.size (R + 1) (.slice A1 m c1) ac) ∧ Hid (ac.length = m) ∧ Hid (Only R wo wr) ∧ Hid (PlainB cu)) (fun _ wr => rdLen wr R)
    case atStart => exact ⟨cur, wc, [], _, 0, 0, none, rfl, by omega, HPS, HRD, Lib.hid (OwnRows.nil _ _ _), Lib.hid rfl, Lib.hid (Only.refl R wo), HP⟩
    case round =>
      obtain ⟨cu, wd1, ac, f3, m, c1, A1, rfl, hm, HPI, HRI, HOI, HM, HOO, HPU⟩ := hrel
      obtain ⟨s, hs, HB, hlt, p0, p1, f0, f1⟩ := HRI.out.cells
      have hsz : s.size = cu.length := by rw [← bsl_len, hs.out]
      rcases piecesB_steps HPI.out with ⟨hst, he⟩ | ⟨hst, f4, t1, r2, w4, h4, h5⟩
      · -- the end of a row
        simp only [Prod.mk.injEq] at he
        obtain ⟨e1, e2, e3⟩ := he
        subst e1; subst e2; subst e3
        have hpf := HPF.out.2
        simp only [List.flatten_nil, List.length_nil, Nat.mul_zero, Nat.add_zero] at hpf
        have hflat : ps.flatten.length ≤ 3000 := by omega
        have hRo := HRI.out.lt
        have HPT := Lib.hid (rd_put 2 _ wo.heap.size (R + 1) _ wr HOI.out (by omega) HPF.out.1 (by omega) (by omega))
        have HAR := Lib.hid (only_rows HOO.out HRD.out HOR.out)
        have HOO1 := Lib.hid (HON.out.step HOO.out)
        have hn1 : n ≤ 1000 := by omega
        have hcc : r1.length ≤ cur.length := by omega
        rcases (show r1 = [] ∨ (∃ rr, r1 = 124 :: rr) ∨ ∃ rr, r1 = 41 :: rr by
          cases r1 with
          | nil => exact .inl rfl
          | cons b rr =>
            simp only [stopB, Bool.or_eq_true, decide_eq_true_eq] at hst
            rcases hst with rfl | rfl
            · exact .inr (.inl ⟨rr, rfl⟩)
            · exact .inr (.inr ⟨rr, rfl⟩)) with hc0 | ⟨rr, hc0⟩ | ⟨rr, hc0⟩
        · have E1 : s.toList.isEmpty = true := by rw [toList_bsl, hs.out, hc0]; rfl
          clear hst hc0 hpf hflat
          go_wp2_with fail
          refine HPT.out.mono ?_
          rintro e w1 ⟨B, q, d, rfl, k1, k2⟩
          have K1 := Lib.hid k1; have K2 := Lib.hid k2
          obtain ⟨A', c', us, hv, ho, hr⟩ := rows_shape (rows_below HAR.out k2)
          injection hv with g1 g2 g3
          subst g1; subst g3; clear g2
          rw [HN.out] at ho
          have HO1 := Lib.hid ho; have HR1 := Lib.hid hr
          have HOA := Lib.hid (ho.alloc (.cells #[.slice B q d] TRL))
          have HSR := Lib.hid (Pv.Src.one (w := w1) (x := .slice B q d) (t := TRL) rfl)
          have HO2 := Lib.hid ((HOO1.out.then k2).alloc (.cells #[.slice B q d] TRL))
          have hz := HO2.out.size
          have Q1 : Hid (n + 1 ≤ maxLen) := Lib.hid (by simp only [maxLen]; omega)
          have Q2 : Hid ((n + 1) * 24 ≤ 140737488355328) := Lib.hid (by omega)
          have HRD1 := Lib.hid ((HRI.out.below k2).alloc (.cells #[.slice B q d] TRL))
          clear k1 k2 ho hr p0 p1 f0 f1 E1
          go_wp2_with (first
          | (at_builtin
             go_must (refine wpList_append_src _ rfl (.tmp 31) (.tmp 34) 125 rfl w.heap.size TRL i0 (.slice none 0 0) 1 24 Tryz.underlying125 hi0 hz0 hs0 hb0 rfl (by decide) A c n _ rfl HOA.out (some ⟨w1.heap.size, 0, none⟩) 1 1 _ rfl HSR.out Q1.out Q2.out hz ?_)
             intro A9 c9 w9 own9 gr9 _
             have HO9 := Lib.hid own9; have HG9 := Lib.hid gr9
             clear own9 gr9))
          have HRD9 := Lib.hid (HRD1.out.grown HOA.out (by decide) HG9.out)
          have HAR9 := Lib.hid (rows_push HO1.out HR1.out HN.out K1.out HO9.out HG9.out)
          have HO99 := Lib.hid (HO2.out.grown HG9.out (fun k hk => (HOA.out.lt k hk).1))
          have HIS := Lib.hid (rd_is R _ _ 124 w9 HRD9.out)
          cases hi : isB 124 r1 with
          | none =>
            rw [hi] at HIS
            have HE : Hid (t = putB 3 (acc ++ [putB 2 ps]) ∧ r = r1 ∧ w2 = w3) := Lib.hid (by
              rcases HAL.out with ⟨_, e⟩ | ⟨r2, e, _⟩
              · simp only [Prod.mk.injEq] at e; exact e
              · rw [e, isB_hit] at hi; cases hi)
            have HPL := Lib.hid (putB_len 2 ps HPF.out.1)
            have HL3 : Hid (∀ p, p ∈ acc ++ [putB 2 ps] → 1 ≤ p.length) := Lib.hid (fun p hp => by
              rcases List.mem_append.1 hp with hp | hp
              · exact HL1.out p hp
              · obtain rfl := List.mem_singleton.1 hp; exact HPL.out.1)
            clear hi
            go_wp2_with fail
            refine HIS.out.mono ?_
            rintro e w5 ⟨rfl, k3, k4⟩
            simp only [Option.getD_none] at k3
            have HPT3 := Lib.hid (rd_put 3 _ w.heap.size (R + 1) _ w5 (only_rows k4 HRD9.out HAR9.out) (by have := k3.lt; omega) HL3.out (by
              have h1 := putB_len 3 _ HL3.out
              have h2 := HTL.out
              rw [HE.out.1] at h2
              omega) (by omega))
            have K3 := Lib.hid k3; have K4 := Lib.hid (HO99.out.step k4)
            clear k3 k4
            go_wp2_with fail
            refine HPT3.out.mono ?_
            rintro e w6 ⟨B6, q6, d6, rfl, k1, k2⟩
            have K1 := Lib.hid k1; have K5 := Lib.hid (K4.out.then k2); have K6 := Lib.hid (K3.out.below k2)
            clear k1 k2
            go_wp2
            go_ret
            obtain ⟨e1, e2, e3⟩ := HE.out
            rw [e1, e2, e3]
            exact ⟨B6, q6, d6, rfl, K1.out, K6.out, K5.out⟩
          | some r2 =>
            rw [hi] at HIS
            have HE : Hid (altsB g f2 r2 w3 (acc ++ [putB 2 ps]) = some (t, r, w2)) := Lib.hid (by
              rcases HAL.out with ⟨e, _⟩ | ⟨r3, e, h⟩
              · rw [e] at hi; cases hi
              · rw [e, isB_hit] at hi; obtain rfl := Option.some.inj hi; exact h)
            have HCU := Lib.hid (isB_some hi)
            have HPL := Lib.hid (putB_len 2 ps HPF.out.1)
            have HL3 : Hid (∀ p, p ∈ acc ++ [putB 2 ps] → 1 ≤ p.length) := Lib.hid (fun p hp => by
              rcases List.mem_append.1 hp with hp | hp
              · exact HL1.out p hp
              · obtain rfl := List.mem_singleton.1 hp; exact HPL.out.1)
            have hr2 : r2.length + 1 ≤ cur.length := by
              have h1 : r1.length = r2.length + 1 := by rw [HCU.out]; rfl
              omega
            clear hi
            go_wp2_with fail
            refine HIS.out.mono ?_
            rintro e w5 ⟨rfl, k3, k4⟩
            simp only [Option.getD_some] at k3
            have K3 := Lib.hid k3; have K4 := Lib.hid (HO99.out.step k4)
            have HAR5 := Lib.hid (only_rows k4 HRD9.out HAR9.out)
            clear k3 k4
            go_wp2
            go_roundw
            case rel => exact ⟨r2, w3, _, f2, n + 1, c9, A9, rfl, by omega, HE, K3, HAR5, Lib.hid (by rw [List.length_append, HN.out]; rfl), K4, Lib.hid ((HPU.out.sfx (by rw [HCU.out]; exact List.suffix_cons _ _))), HL3⟩
            case measure =>
              show rdLen _ R < rdLen _ R
              rw [K3.out.len, HRD.out.len]
              omega
        · have E1 : s.toList.isEmpty = false := by rw [toList_bsl, hs.out, hc0]; rfl
          have h0 : 0 < s.size := by rw [hsz, hc0]; simp
          obtain ⟨hk0, hk1⟩ := bsl_at (s := s) (k := 0) (b := 124) (by rw [hs.out, hc0]; rfl)
          have T1 : (((s[0]'hk0).toNat : Int) == 124) = true := by rw [hk1]; rfl
          have T3 : (((s[0]'hk0).toNat : Int) != 124) = false := by rw [hk1]; rfl
          have T2 : (((s[0]'hk0).toNat : Int) == 41) = false := by rw [hk1]; rfl
          have T4 : (((s[0]'hk0).toNat : Int) != 41) = true := by rw [hk1]; rfl
          clear hst hc0 hpf hflat hk1
          go_wp2_with fail
          refine HPT.out.mono ?_
          rintro e w1 ⟨B, q, d, rfl, k1, k2⟩
          have K1 := Lib.hid k1; have K2 := Lib.hid k2
          obtain ⟨A', c', us, hv, ho, hr⟩ := rows_shape (rows_below HAR.out k2)
          injection hv with g1 g2 g3
          subst g1; subst g3; clear g2
          rw [HN.out] at ho
          have HO1 := Lib.hid ho; have HR1 := Lib.hid hr
          have HOA := Lib.hid (ho.alloc (.cells #[.slice B q d] TRL))
          have HSR := Lib.hid (Pv.Src.one (w := w1) (x := .slice B q d) (t := TRL) rfl)
          have HO2 := Lib.hid ((HOO1.out.then k2).alloc (.cells #[.slice B q d] TRL))
          have hz := HO2.out.size
          have Q1 : Hid (n + 1 ≤ maxLen) := Lib.hid (by simp only [maxLen]; omega)
          have Q2 : Hid ((n + 1) * 24 ≤ 140737488355328) := Lib.hid (by omega)
          have HRD1 := Lib.hid ((HRI.out.below k2).alloc (.cells #[.slice B q d] TRL))
          clear k1 k2 ho hr p0 p1 f0 f1 E1 T1 T2 T3 T4
          go_wp2_with (first
          | (at_builtin
             go_must (refine wpList_append_src _ rfl (.tmp 31) (.tmp 34) 125 rfl w.heap.size TRL i0 (.slice none 0 0) 1 24 Tryz.underlying125 hi0 hz0 hs0 hb0 rfl (by decide) A c n _ rfl HOA.out (some ⟨w1.heap.size, 0, none⟩) 1 1 _ rfl HSR.out Q1.out Q2.out hz ?_)
             intro A9 c9 w9 own9 gr9 _
             have HO9 := Lib.hid own9; have HG9 := Lib.hid gr9
             clear own9 gr9))
          have HRD9 := Lib.hid (HRD1.out.grown HOA.out (by decide) HG9.out)
          have HAR9 := Lib.hid (rows_push HO1.out HR1.out HN.out K1.out HO9.out HG9.out)
          have HO99 := Lib.hid (HO2.out.grown HG9.out (fun k hk => (HOA.out.lt k hk).1))
          have HIS := Lib.hid (rd_is R _ _ 124 w9 HRD9.out)
          cases hi : isB 124 r1 with
          | none =>
            rw [hi] at HIS
            have HE : Hid (t = putB 3 (acc ++ [putB 2 ps]) ∧ r = r1 ∧ w2 = w3) := Lib.hid (by
              rcases HAL.out with ⟨_, e⟩ | ⟨r2, e, _⟩
              · simp only [Prod.mk.injEq] at e; exact e
              · rw [e, isB_hit] at hi; cases hi)
            have HPL := Lib.hid (putB_len 2 ps HPF.out.1)
            have HL3 : Hid (∀ p, p ∈ acc ++ [putB 2 ps] → 1 ≤ p.length) := Lib.hid (fun p hp => by
              rcases List.mem_append.1 hp with hp | hp
              · exact HL1.out p hp
              · obtain rfl := List.mem_singleton.1 hp; exact HPL.out.1)
            clear hi
            go_wp2_with fail
            refine HIS.out.mono ?_
            rintro e w5 ⟨rfl, k3, k4⟩
            simp only [Option.getD_none] at k3
            have HPT3 := Lib.hid (rd_put 3 _ w.heap.size (R + 1) _ w5 (only_rows k4 HRD9.out HAR9.out) (by have := k3.lt; omega) HL3.out (by
              have h1 := putB_len 3 _ HL3.out
              have h2 := HTL.out
              rw [HE.out.1] at h2
              omega) (by omega))
            have K3 := Lib.hid k3; have K4 := Lib.hid (HO99.out.step k4)
            clear k3 k4
            go_wp2_with fail
            refine HPT3.out.mono ?_
            rintro e w6 ⟨B6, q6, d6, rfl, k1, k2⟩
            have K1 := Lib.hid k1; have K5 := Lib.hid (K4.out.then k2); have K6 := Lib.hid (K3.out.below k2)
            clear k1 k2
            go_wp2
            go_ret
            obtain ⟨e1, e2, e3⟩ := HE.out
            rw [e1, e2, e3]
            exact ⟨B6, q6, d6, rfl, K1.out, K6.out, K5.out⟩
          | some r2 =>
            rw [hi] at HIS
            have HE : Hid (altsB g f2 r2 w3 (acc ++ [putB 2 ps]) = some (t, r, w2)) := Lib.hid (by
              rcases HAL.out with ⟨e, _⟩ | ⟨r3, e, h⟩
              · rw [e] at hi; cases hi
              · rw [e, isB_hit] at hi; obtain rfl := Option.some.inj hi; exact h)
            have HCU := Lib.hid (isB_some hi)
            have HPL := Lib.hid (putB_len 2 ps HPF.out.1)
            have HL3 : Hid (∀ p, p ∈ acc ++ [putB 2 ps] → 1 ≤ p.length) := Lib.hid (fun p hp => by
              rcases List.mem_append.1 hp with hp | hp
              · exact HL1.out p hp
              · obtain rfl := List.mem_singleton.1 hp; exact HPL.out.1)
            have hr2 : r2.length + 1 ≤ cur.length := by
              have h1 : r1.length = r2.length + 1 := by rw [HCU.out]; rfl
              omega
            clear hi
            go_wp2_with fail
            refine HIS.out.mono ?_
            rintro e w5 ⟨rfl, k3, k4⟩
            simp only [Option.getD_some] at k3
            have K3 := Lib.hid k3; have K4 := Lib.hid (HO99.out.step k4)
            have HAR5 := Lib.hid (only_rows k4 HRD9.out HAR9.out)
            clear k3 k4
            go_wp2
            go_roundw
            case rel => exact ⟨r2, w3, _, f2, n + 1, c9, A9, rfl, by omega, HE, K3, HAR5, Lib.hid (by rw [List.length_append, HN.out]; rfl), K4, Lib.hid ((HPU.out.sfx (by rw [HCU.out]; exact List.suffix_cons _ _))), HL3⟩
            case measure =>
              show rdLen _ R < rdLen _ R
              rw [K3.out.len, HRD.out.len]
              omega
        · have E1 : s.toList.isEmpty = false := by rw [toList_bsl, hs.out, hc0]; rfl
          have h0 : 0 < s.size := by rw [hsz, hc0]; simp
          obtain ⟨hk0, hk1⟩ := bsl_at (s := s) (k := 0) (b := 41) (by rw [hs.out, hc0]; rfl)
          have T1 : (((s[0]'hk0).toNat : Int) == 124) = false := by rw [hk1]; rfl
          have T3 : (((s[0]'hk0).toNat : Int) != 124) = true := by rw [hk1]; rfl
          have T2 : (((s[0]'hk0).toNat : Int) == 41) = true := by rw [hk1]; rfl
          have T4 : (((s[0]'hk0).toNat : Int) != 41) = false := by rw [hk1]; rfl
          clear hst hc0 hpf hflat hk1
          go_wp2_with fail
          refine HPT.out.mono ?_
          rintro e w1 ⟨B, q, d, rfl, k1, k2⟩
          have K1 := Lib.hid k1; have K2 := Lib.hid k2
          obtain ⟨A', c', us, hv, ho, hr⟩ := rows_shape (rows_below HAR.out k2)
          injection hv with g1 g2 g3
          subst g1; subst g3; clear g2
          rw [HN.out] at ho
          have HO1 := Lib.hid ho; have HR1 := Lib.hid hr
          have HOA := Lib.hid (ho.alloc (.cells #[.slice B q d] TRL))
          have HSR := Lib.hid (Pv.Src.one (w := w1) (x := .slice B q d) (t := TRL) rfl)
          have HO2 := Lib.hid ((HOO1.out.then k2).alloc (.cells #[.slice B q d] TRL))
          have hz := HO2.out.size
          have Q1 : Hid (n + 1 ≤ maxLen) := Lib.hid (by simp only [maxLen]; omega)
          have Q2 : Hid ((n + 1) * 24 ≤ 140737488355328) := Lib.hid (by omega)
          have HRD1 := Lib.hid ((HRI.out.below k2).alloc (.cells #[.slice B q d] TRL))
          clear k1 k2 ho hr p0 p1 f0 f1 E1 T1 T2 T3 T4
          go_wp2_with (first
          | (at_builtin
             go_must (refine wpList_append_src _ rfl (.tmp 31) (.tmp 34) 125 rfl w.heap.size TRL i0 (.slice none 0 0) 1 24 Tryz.underlying125 hi0 hz0 hs0 hb0 rfl (by decide) A c n _ rfl HOA.out (some ⟨w1.heap.size, 0, none⟩) 1 1 _ rfl HSR.out Q1.out Q2.out hz ?_)
             intro A9 c9 w9 own9 gr9 _
             have HO9 := Lib.hid own9; have HG9 := Lib.hid gr9
             clear own9 gr9))
          have HRD9 := Lib.hid (HRD1.out.grown HOA.out (by decide) HG9.out)
          have HAR9 := Lib.hid (rows_push HO1.out HR1.out HN.out K1.out HO9.out HG9.out)
          have HO99 := Lib.hid (HO2.out.grown HG9.out (fun k hk => (HOA.out.lt k hk).1))
          have HIS := Lib.hid (rd_is R _ _ 124 w9 HRD9.out)
          cases hi : isB 124 r1 with
          | none =>
            rw [hi] at HIS
            have HE : Hid (t = putB 3 (acc ++ [putB 2 ps]) ∧ r = r1 ∧ w2 = w3) := Lib.hid (by
              rcases HAL.out with ⟨_, e⟩ | ⟨r2, e, _⟩
              · simp only [Prod.mk.injEq] at e; exact e
              · rw [e, isB_hit] at hi; cases hi)
            have HPL := Lib.hid (putB_len 2 ps HPF.out.1)
            have HL3 : Hid (∀ p, p ∈ acc ++ [putB 2 ps] → 1 ≤ p.length) := Lib.hid (fun p hp => by
              rcases List.mem_append.1 hp with hp | hp
              · exact HL1.out p hp
              · obtain rfl := List.mem_singleton.1 hp; exact HPL.out.1)
            clear hi
            go_wp2_with fail
            refine HIS.out.mono ?_
            rintro e w5 ⟨rfl, k3, k4⟩
            simp only [Option.getD_none] at k3
            have HPT3 := Lib.hid (rd_put 3 _ w.heap.size (R + 1) _ w5 (only_rows k4 HRD9.out HAR9.out) (by have := k3.lt; omega) HL3.out (by
              have h1 := putB_len 3 _ HL3.out
              have h2 := HTL.out
              rw [HE.out.1] at h2
              omega) (by omega))
            have K3 := Lib.hid k3; have K4 := Lib.hid (HO99.out.step k4)
            clear k3 k4
            go_wp2_with fail
            refine HPT3.out.mono ?_
            rintro e w6 ⟨B6, q6, d6, rfl, k1, k2⟩
            have K1 := Lib.hid k1; have K5 := Lib.hid (K4.out.then k2); have K6 := Lib.hid (K3.out.below k2)
            clear k1 k2
            go_wp2
            go_ret
            obtain ⟨e1, e2, e3⟩ := HE.out
            rw [e1, e2, e3]
            exact ⟨B6, q6, d6, rfl, K1.out, K6.out, K5.out⟩
          | some r2 =>
            rw [hi] at HIS
            have HE : Hid (altsB g f2 r2 w3 (acc ++ [putB 2 ps]) = some (t, r, w2)) := Lib.hid (by
              rcases HAL.out with ⟨e, _⟩ | ⟨r3, e, h⟩
              · rw [e] at hi; cases hi
              · rw [e, isB_hit] at hi; obtain rfl := Option.some.inj hi; exact h)
            have HCU := Lib.hid (isB_some hi)
            have HPL := Lib.hid (putB_len 2 ps HPF.out.1)
            have HL3 : Hid (∀ p, p ∈ acc ++ [putB 2 ps] → 1 ≤ p.length) := Lib.hid (fun p hp => by
              rcases List.mem_append.1 hp with hp | hp
              · exact HL1.out p hp
              · obtain rfl := List.mem_singleton.1 hp; exact HPL.out.1)
            have hr2 : r2.length + 1 ≤ cur.length := by
              have h1 : r1.length = r2.length + 1 := by rw [HCU.out]; rfl
              omega
            clear hi
            go_wp2_with fail
            refine HIS.out.mono ?_
            rintro e w5 ⟨rfl, k3, k4⟩
            simp only [Option.getD_some] at k3
            have K3 := Lib.hid k3; have K4 := Lib.hid (HO99.out.step k4)
            have HAR5 := Lib.hid (only_rows k4 HRD9.out HAR9.out)
            clear k3 k4
            go_wp2
            go_roundw
            case rel => exact ⟨r2, w3, _, f2, n + 1, c9, A9, rfl, by omega, HE, K3, HAR5, Lib.hid (by rw [List.length_append, HN.out]; rfl), K4, Lib.hid ((HPU.out.sfx (by rw [HCU.out]; exact List.suffix_cons _ _))), HL3⟩
            case measure =>
              show rdLen _ R < rdLen _ R
              rw [K3.out.len, HRD.out.len]
              omega
      · -- a piece
        obtain ⟨b, rr, hcu, hb1, hb2⟩ : ∃ b rr, cu = b :: rr ∧ b ≠ 124 ∧ b ≠ 41 := by
          cases cu with
          | nil => cases hst
          | cons b rr =>
            simp only [stopB, Bool.or_eq_false_iff, decide_eq_false_iff_not] at hst
            exact ⟨b, rr, rfl, hst.1, hst.2⟩
        subst hcu
        have h0 : 0 < s.size := by rw [hsz]; simp
        obtain ⟨hk0, hk1⟩ := bsl_at (s := s) (k := 0) (b := b) (by rw [hs.out]; rfl)
        have T1 : (((s[0]'hk0).toNat : Int) == 124) = false := by
          rw [hk1]; simp only [beq_eq_false_iff_ne, ne_eq]
          intro e; exact hb1 (UInt8.toNat_inj.1 (by simpa using (by omega : b.toNat = 124)))
        have T2 : (((s[0]'hk0).toNat : Int) == 41) = false := by
          rw [hk1]; simp only [beq_eq_false_iff_ne, ne_eq]
          intro e; exact hb2 (UInt8.toNat_inj.1 (by simpa using (by omega : b.toNat = 41)))
        have T3 : (((s[0]'hk0).toNat : Int) != 124) = true := by simp [bne, T1]
        have T4 : (((s[0]'hk0).toNat : Int) != 41) = true := by simp [bne, T2]
        have HPC := Lib.hid (rd_piece HRI.out h4 (by omega) HPU.out HG.out HF.out)
        have HSF := Lib.hid (pieceB_sfx HSX.out h4 HPU.out)
        have H5 := Lib.hid h5
        have E1 : s.toList.isEmpty = false := by rw [toList_bsl, hs.out]; rfl
        clear h4 h5 hst hk1 hb1 hb2
        have hm1 : m ≤ 1000 := by omega
        go_wp2_with fail
        refine HPC.out.mono ?_
        rintro e w1 ⟨B, q, d, rfl, k1, k2, k3⟩
        have K1 := Lib.hid k1; have K2 := Lib.hid k2
        have HOO1 := Lib.hid (HOO.out.step k3)
        obtain ⟨A', c', us, hv, ho, hr⟩ := rows_shape (only_rows k3 HRI.out HOI.out)
        injection hv with g1 g2 g3
        subst g1; subst g3; clear g2
        rw [HM.out] at ho
        have HO1 := Lib.hid ho; have HR1 := Lib.hid hr
        have HOA := Lib.hid (ho.alloc (.cells #[.slice B q d] TRL))
        have HSR := Lib.hid (Pv.Src.one (w := w1) (x := .slice B q d) (t := TRL) rfl)
        have hz := HOO1.out.size
        have hz2 : wo.heap.size ≤ (w1.alloc (.cells #[.slice B q d] TRL)).heap.size := by simp; omega
        have Q1 : Hid (m + 1 ≤ maxLen) := Lib.hid (by simp only [maxLen]; omega)
        have Q2 : Hid ((m + 1) * 24 ≤ 140737488355328) := Lib.hid (by omega)
        clear k1 k2 k3 ho hr p0 p1 f0 f1 T1 T2 T3 T4 E1
        go_wp2_with (first
        | (at_builtin
           go_must (refine wpList_append_src _ rfl (.tmp 26) (.tmp 29) 125 rfl wo.heap.size TRL i0 (.slice none 0 0) 1 24 Tryz.underlying125 hi0 hz0 hs0 hb0 rfl (by decide) A1 c1 m _ rfl HOA.out (some ⟨w1.heap.size, 0, none⟩) 1 1 _ rfl HSR.out Q1.out Q2.out hz2 ?_)
           intro A9 c9 w9 own9 gr9 _
           have HO9 := Lib.hid own9; have HG9 := Lib.hid gr9
           clear own9 gr9))
        have HRD9 := Lib.hid ((K2.out.alloc (.cells #[.slice B q d] TRL)).grown HOA.out (by decide) HG9.out)
        have hlen : r2.length < (b :: rr).length := HSF.out.2
        go_roundw
        case rel => exact ⟨r2, w4, ac ++ [t1], f4, m + 1, c9, A9, rfl, by simp only [List.length_cons] at hlen hm; omega, H5, HRD9, Lib.hid (rows_push HO1.out HR1.out HM.out K1.out HO9.out HG9.out), Lib.hid (by rw [List.length_append, HM.out]; rfl), Lib.hid ((HOO1.out.alloc _).grown HG9.out (fun k hk => (HOA.out.lt k hk).1)), Lib.hid (HPU.out.sfx HSF.out.1)⟩
        case measure =>
          show rdLen _ R < rdLen _ R
          rw [HRD9.out.len, HRI.out.len]
          exact hlen
end Go.Proofs.YtilhicefhhgecaaGreatDoor
