/- Walks: slices.Insert at records, where there is no room. PUT1 -/
import Derived.Test.YtbdkedjgfihamaaGreatDoorV41u
import Derived.Shelf.Spec.SlicesInsert
import Derived.Lib.AppendZerosOnto
import Derived.Laws.NewBlocks
import Derived.Test.YtbdkedjgfihamaaGreatDoorV38u
namespace Pv
open Go Go.RowKit
/-- A row put between: the lists that come of it. -/
theorem ins_rows {us Z : List Value} {a b : Value} {i n G : Nat} (hu : us.length = n * 2) (hi : i < n) (hG : n + 1 ≤ G) (hZ : Z.length = (G - i) * 2) :
    ∃ R1 R2 : List Value, R1 = (us.take (i * 2) ++ Z).take (i * 2) ++ [a, b] ++ (us.take (i * 2) ++ Z).drop (i * 2 + [a, b].length) ∧ R2 = R1.take ((i + 1) * 2) ++ us.drop (i * 2) ++ R1.drop ((i + 1) * 2 + (us.drop (i * 2)).length) ∧
      R1.length = G * 2 ∧ R2.length = G * 2 ∧ R2.take ((n + 1) * 2) = us.take (i * 2) ++ [a, b] ++ us.drop (i * 2) := by
  have e0 : (us.take (i * 2)).length = i * 2 := by rw [List.length_take]; omega
  have e1 : (us.take (i * 2) ++ Z).take (i * 2) = us.take (i * 2) := List.take_left' e0
  have hd : (us.drop (i * 2)).length = (n - i) * 2 := by rw [List.length_drop]; omega
  have l1 : ((us.take (i * 2) ++ Z).take (i * 2) ++ [a, b] ++ (us.take (i * 2) ++ Z).drop (i * 2 + [a, b].length)).length = G * 2 := by
    rw [e1, List.length_append, List.length_append, List.length_drop, List.length_append, e0, hZ]; simp; omega
  obtain ⟨R1, hR1⟩ : ∃ R1, R1 = (us.take (i * 2) ++ Z).take (i * 2) ++ [a, b] ++ (us.take (i * 2) ++ Z).drop (i * 2 + [a, b].length) := ⟨_, rfl⟩
  rw [← hR1] at l1
  have t1 : R1.take ((i + 1) * 2) = us.take (i * 2) ++ [a, b] := by
    rw [hR1, e1]
    exact List.take_left' (by rw [List.length_append, e0]; simp; omega)
  refine ⟨R1, _, hR1, rfl, l1, ?_, ?_⟩
  · rw [t1, List.length_append, List.length_append, List.length_append, e0, hd, List.length_drop, l1]; simp; omega
  · rw [t1]
    exact List.take_left' (by rw [List.length_append, List.length_append, e0, hd]; simp; omega)
end Pv
namespace Go.Proofs.YtbdkedjgfihamaaGreatDoor
open Go.RowKit Pv Go.Maps
set_option maxHeartbeats 4000000 in
set_option maxRecDepth 1000000 in
theorem recs_insert_end (g n vb base : Nat) (a b : Value) (us : List Value) (w : World) (h : w.ownsRow base TRe 2 (.slice (some ⟨g, 0, none⟩) n n) n us) (hv : Blk w vb TRe #[a, b]) (ha : a.oneCell' = true) (hb : b.oneCell' = true) (hn : n ≤ 100000) :
    Calls Tryz.prog 69 #[.slice (some ⟨g, 0, none⟩) n n, .int .i64 (n : Int), .slice (some ⟨vb, 0, none⟩) 1 1] w fun e w' =>
      ∃ A c, e = .returned (.slice A (n + 1) c) ∧ w'.ownsRow base TRe 2 (.slice A (n + 1) c) (n + 1) (us ++ [a, b]) ∧ w.grownBy w' (some g) := by
  obtain ⟨i0, hi0, hz0, hs0, hb0⟩ := info_parts info_rec
  have hbs : base ≤ w.heap.size := by have := h.lt g rfl; omega
  have S1 : Hid (Pv.Src w (some ⟨vb, 0, none⟩) 2 1 [a, b]) := Lib.hid (by
    refine ⟨rfl, by simp [ha, hb], fun _ => ⟨vb, 0, rfl, hv.lt, fun j u hu => ?_⟩⟩
    rw [Nat.zero_add, hv.cell, ← Array.getElem?_toList]
    exact hu)
  have OW := Lib.hid h
  have Q1 : Hid (n + 1 ≤ maxLen) := Lib.hid (by simp only [maxLen]; omega)
  have Q2 : Hid ((n + 1) * 40 ≤ 140737488355328) := Lib.hid (by omega)
  clear h hv
  go_enter Tryz.func69, Tryz.ntmps69
  go_wp2_with (at_builtin
               go_must (refine wpList_append_src _ rfl (.tmp 23) (.tmp 24) 45 rfl base TRe i0 (.agg #[.string ByteArray.empty, .slice none 0 0]) 2 40 Tryz.underlying45 hi0 hz0 hs0 hb0 rfl (by decide) (some ⟨g, 0, none⟩) n n us rfl OW.out (some ⟨vb, 0, none⟩) 1 1 [a, b] rfl S1.out Q1.out Q2.out hbs ?_)
               intro A1 c1 w1 own1 gr1 _
               have G1 := Lib.hid gr1; have O1 := Lib.hid own1
               clear gr1 own1)
  go_ret
  exact ⟨A1, c1, rfl, O1.out, G1.out⟩
set_option maxHeartbeats 4000000 in
set_option maxRecDepth 1000000 in
theorem recs_insert_mid (g i n vb base : Nat) (a b : Value) (us : List Value) (w : World) (h : w.ownsRow base TRe 2 (.slice (some ⟨g, 0, none⟩) n n) n us) (hv : Blk w vb TRe #[a, b]) (ha : a.oneCell' = true) (hb : b.oneCell' = true) (hi : i < n) (hn : n ≤ 100000) (h1 : ∀ u ∈ us, u.oneCell' = true) :
    Calls Tryz.prog 69 #[.slice (some ⟨g, 0, none⟩) n n, .int .i64 (i : Int), .slice (some ⟨vb, 0, none⟩) 1 1] w fun e w' =>
      ∃ A c, e = .returned (.slice A (n + 1) c) ∧ w'.ownsRow base TRe 2 (.slice A (n + 1) c) (n + 1) (us.take (i * 2) ++ [a, b] ++ us.drop (i * 2)) ∧ w.grownBy w' (some g) := by
  obtain ⟨i0, hi0, hz0, hs0, hb0⟩ := info_parts info_rec
  have hbs : base ≤ w.heap.size := by have := h.lt g rfl; omega
  have hgl : g < w.heap.size := (h.lt g rfl).2
  have hul : us.length = n * 2 := h.1
  have hcell : ∀ j v, us[j]? = some v → w.cell? ⟨g, j, none⟩ = some v := fun j v hj => by
    have h1 := h.cellAt j (by rw [← hul]; exact lt_of_get hj)
    rw [hj] at h1
    exact h1
  have hold : (Builtin.firstCells i0.size i (.slice (some ⟨g, 0, none⟩) i n)).run Tryz.prog w.drew = .ok (us.take (i * 2)).toArray w.drew := by
    rw [hs0]
    refine run_firstCells_some w.drew 2 i ⟨g, 0, none⟩ i n (us.take (i * 2)) (by rw [List.length_take]; omega) (fun j v hj => ?_)
    rw [Addr.add_lit, Nat.zero_add]
    rw [List.getElem?_take] at hj
    split at hj
    · exact hcell j v hj
    · cases hj
  have hik : i + (n + 1 - i) = n + 1 := by omega
  obtain ⟨G, hG⟩ : ∃ G, G = grownCap w (n + 1) n TRe := ⟨_, rfl⟩
  have hGn : n + 1 ≤ G := by rw [hG]; exact grownCap_ge w _ _ _
  have hGm : G ≤ maxLen := by rw [hG]; exact grownCap_le_maxLen w _ _ _ (by unfold maxLen; omega)
  obtain ⟨Z, hZ⟩ : ∃ Z, Z = (Builtin.zeroCells (Value.agg #[.string ByteArray.empty, .slice none 0 0]).cells (n + 1 - i) ++ Builtin.zeroCells (Value.agg #[.string ByteArray.empty, .slice none 0 0]).cells (G - (n + 1))).toList := ⟨_, rfl⟩
  have hZl : Z.length = (G - i) * 2 := by
    rw [hZ]
    simp [Builtin.zeroCells, Value.cells]
    omega
  have hrz : ∀ (ty : TypeId) (x : Int), x = ((n + 1 - i : Nat) : Int) → (Builtin.append_ #[45, 3] ty #[.slice (some ⟨g, 0, none⟩) i n, .int .i64 x]).run Tryz.prog w =
      .ok (.slice (some ⟨w.heap.size, 0, none⟩) (n + 1) G) (w.drew.alloc (.cells (us.take (i * 2) ++ Z).toArray TRe)) := fun ty x hx => by
    subst hx
    have h := Lib.run_append_grow_zeros w 45 3 ty TRe i0 _ .i64 .i64 Tryz.underlying45 Tryz.underlying3 hi0 hz0 (some ⟨g, 0, none⟩) i n (us.take (i * 2)) hold (n + 1 - i) (by omega) (by omega) (by omega) (by omega) (by rw [hb0]; omega) (by rw [hb0, hik]; exact growslice_fits (by omega) (by omega))
    rw [hik, ← hG] at h
    rw [h]
    congr 3
    rw [hZ]
    simp
  obtain ⟨R1, R2, hR1, hR2, r1, r2, r3⟩ := ins_rows (a := a) (b := b) hul hi hGn hZl
  have hRl : (us.take (i * 2) ++ Z).length = G * 2 := by rw [List.length_append, List.length_take, hZl]; omega
  have hcpA : ∀ (W : World), Blk W w.heap.size TRe (us.take (i * 2) ++ Z).toArray → Blk W vb TRe #[a, b] → ∀ ty dc, (Builtin.copy_ #[45, 45] ty #[.slice (some ⟨w.heap.size, i * 2, none⟩) (n + 1 - i) dc, .slice (some ⟨vb, 0, none⟩) 1 1]).run Tryz.prog W = .ok (goInt 1) (W.setRow w.heap.size R1.toArray) := fun W hW hV ty dc => by
    have h := run_copy_rowK W 45 45 ty TRe 2 w.heap.size (i * 2) (n + 1 - i) dc 1 ⟨vb, 0, none⟩ 1 1 _ TRe [a, b] Tryz.underlying45 (by rw [hi0]; simp [hs0]) hW (by simp only [Nat.min_def]; split <;> omega) rfl (fun j u hu => by rw [Addr.add_lit, Nat.zero_add, hV.cell, ← Array.getElem?_toList]; exact hu) (by simp only [List.size_toArray, hRl]; simp; omega) (by simp [ha, hb])
    rw [h, hR1]
    rfl
  have hcpB : ∀ (W : World), Blk W w.heap.size TRe R1.toArray → (∀ j v, us[j]? = some v → W.cell? ⟨g, j, none⟩ = some v) → ∀ ty dc sc, (Builtin.copy_ #[45, 45] ty #[.slice (some ⟨w.heap.size, (i + 1) * 2, none⟩) (n + 1 - (i + 1)) dc, .slice (some ⟨g, i * 2, none⟩) (n - i) sc]).run Tryz.prog W = .ok (goInt (n - i : Nat)) (W.setRow w.heap.size R2.toArray) := fun W hW hU ty dc sc => by
    have h := run_copy_rowK W 45 45 ty TRe 2 w.heap.size ((i + 1) * 2) (n + 1 - (i + 1)) dc (n - i) ⟨g, i * 2, none⟩ (n - i) sc _ TRe (us.drop (i * 2)) Tryz.underlying45 (by rw [hi0]; simp [hs0]) hW (by simp only [Nat.min_def]; split <;> omega) (by rw [List.length_drop]; omega) (fun j u hu => by
      rw [Addr.add_lit]
      rw [List.getElem?_drop] at hu
      exact hU _ _ hu) (by simp only [List.size_toArray, r1, List.length_drop]; omega) (fun u hu => h1 u (List.mem_of_mem_drop hu))
    rw [h, hR2]
  have hne : g ≠ w.heap.size := by omega
  have hN1 := Blk.new w TRe (us.take (i * 2) ++ Z).toArray
  have hN2 : Blk (w.alloc (.cells (us.take (i * 2) ++ Z).toArray TRe)) vb TRe #[a, b] := hv.alloc _
  have S1 := setRow_blk (w := (w.alloc (.cells (us.take (i * 2) ++ Z).toArray TRe)).drew) hN1 R1.toArray
  have S2 := setRow_blk (w := ((w.alloc (.cells (us.take (i * 2) ++ Z).toArray TRe)).drew.setRow w.heap.size R1.toArray).drew) S1.blk R2.toArray
  have hU1 : ∀ j v, us[j]? = some v → ((w.alloc (.cells (us.take (i * 2) ++ Z).toArray TRe)).drew.setRow w.heap.size R1.toArray).cell? ⟨g, j, none⟩ = some v := fun j v hj => by
    have e1 : ((w.alloc (.cells (us.take (i * 2) ++ Z).toArray TRe)).drew.setRow w.heap.size R1.toArray).heap[g]? = w.heap[g]? := (S1.other g hne).trans (Below.heap_alloc w _ g hgl)
    rw [World.cell?_of_block (w := w) (a := ⟨g, j, none⟩) e1]
    exact hcell j v hj
  have HA := Lib.hid (hcpA _ hN1 hN2)
  have HB := Lib.hid (hcpB _ S1.blk hU1)
  have hA2 : ∀ ty dc, (Builtin.copy_ #[45, 45] ty #[.slice (some ⟨w.heap.size, i * 2, none⟩) (n + 1 - i) dc, .slice (some ⟨vb, 0, none⟩) 1 1]).run Tryz.prog ((w.alloc (.cells (us.take (i * 2) ++ Z).toArray TRe)).drew) = .ok (goInt 1) ((w.alloc (.cells (us.take (i * 2) ++ Z).toArray TRe)).drew.setRow w.heap.size R1.toArray) := hcpA _ hN1 hN2
  have hB2 : ∀ ty dc sc, (Builtin.copy_ #[45, 45] ty #[.slice (some ⟨w.heap.size, (i + 1) * 2, none⟩) (n + 1 - (i + 1)) dc, .slice (some ⟨g, i * 2, none⟩) (n - i) sc]).run Tryz.prog (((w.alloc (.cells (us.take (i * 2) ++ Z).toArray TRe)).drew.setRow w.heap.size R1.toArray).drew) = .ok (goInt (n - i : Nat)) ((((w.alloc (.cells (us.take (i * 2) ++ Z).toArray TRe)).drew.setRow w.heap.size R1.toArray).drew).setRow w.heap.size R2.toArray) := hcpB _ S1.blk hU1
  have HGB : Hid (w.grownBy ((((w.alloc (.cells (us.take (i * 2) ++ Z).toArray TRe)).drew.setRow w.heap.size R1.toArray).drew).setRow w.heap.size R2.toArray) (some g)) := Lib.hid ⟨S2.os.trans S1.os, S2.tape.trans S1.tape, S2.output.trans S1.output, by
      have a1 := S2.size; have a2 := S1.size
      have a3 : ((w.alloc (.cells (us.take (i * 2) ++ Z).toArray TRe)).drew).heap.size = w.heap.size + 1 := by show (w.alloc _).heap.size = _; simp
      have a4 : (((w.alloc (.cells (us.take (i * 2) ++ Z).toArray TRe)).drew.setRow w.heap.size R1.toArray).drew).heap.size = ((w.alloc (.cells (us.take (i * 2) ++ Z).toArray TRe)).drew.setRow w.heap.size R1.toArray).heap.size := rfl
      omega, fun k hk _ => ((S2.other k (by omega)).trans (S1.other k (by omega))).trans (Below.heap_alloc w _ k hk)⟩
  have HOW : Hid (((((w.alloc (.cells (us.take (i * 2) ++ Z).toArray TRe)).drew.setRow w.heap.size R1.toArray).drew).setRow w.heap.size R2.toArray).ownsRow base TRe 2 (.slice (some ⟨w.heap.size, 0, none⟩) (n + 1) G) (n + 1) (us.take (i * 2) ++ [a, b] ++ us.drop (i * 2))) := Lib.hid ⟨by rw [← r3, List.length_take, r2]; omega, .inr ⟨w.heap.size, G, R2.toArray, rfl, hbs, S2.blk, hGn, hGm, by simpa using r2, by simpa using r3⟩⟩
  have hGi : ¬ (G = i) := by omega
  have hGi1 : ¬ (G = i + 1) := by omega
  have hni : ¬ (n = i) := by omega
  have hz2 : ¬ ((i : Int) = (n : Int)) := by omega
  have hz3 : (n : Int) < (n : Int) + 1 := by omega
  have hw1 : IntKind.i64.wrap ((i : Int) + 1) = (i : Int) + 1 := by rw [IntKind.wrap_i64]; omega
  have hb1 : (0 : Int) ≤ (i : Int) + 1 := by omega
  have hin : i ≤ n := by omega
  have htn : ((i : Int) + 1).toNat = i + 1 := by omega
  have mixed : Tryz.prog.follows Departure.mixedOrders = true := by kernel_rfl
  have HRZ := Lib.hid hrz
  clear hrz hcpA hcpB hN1 hN2 S1 S2 hU1 hold hZ hZl hR1 hR2 r1 r2 r3 hRl hcell h hv h1 hG
  generalize (us.take (i * 2) ++ Z).toArray = ROW at *
  go_enter Tryz.func69, Tryz.ntmps69
  go_wp2_with (first
    | (at_builtin; refine Lib.wpList_append_run _ rfl _ _ _ _ rfl _ _ rfl rfl _ _ (HRZ.out _ _ (by omega)) ?_)
    | (at_builtin; refine wpList_copy_runI _ rfl _ _ 45 45 rfl _ _ rfl rfl (HA.out _ _) ?_)
    | (at_builtin; refine wpList_copy_runI _ rfl _ _ 45 45 rfl _ _ rfl rfl (HB.out _ _ _) ?_))
  go_region_law_o (refine step_copy_runI rfl _ _ 45 45 rfl (.slice (some ⟨w.heap.size, (i + 1) * 2, none⟩) (n + 1 - (i + 1)) (G - (i + 1))) (.slice (some ⟨g, i * 2, none⟩) (n - i) (n - i)) (by simp [Act.eval, Act.put]) (by simp [Act.eval, Act.put]) (hB2 3 (G - (i + 1)) (n - i)) ?_)
  go_wp2
  go_ret
  exact ⟨_, _, rfl, HOW.out, HGB.out⟩
end Go.Proofs.YtbdkedjgfihamaaGreatDoor

namespace Pv
open Go Go.RowKit
theorem RelK.take {α : Type} {k : Nat} {R : (Nat → Value) → α → Prop} {us : List Value} {xs : List α} (h : RelK k R us xs) {i : Nat} (hi : i ≤ xs.length) : RelK k R (us.take (i * k)) (xs.take i) := by
  have hle : i * k ≤ xs.length * k := Nat.mul_le_mul_right k hi
  refine ⟨by rw [List.length_take, List.length_take, h.1, Nat.min_eq_left hle, Nat.min_eq_left hi], fun q x hx => ?_⟩
  have hq : q < i := by have := lt_of_get hx; rw [List.length_take] at this; omega
  rw [List.getElem?_take_of_lt hq] at hx
  obtain ⟨f, hf, hr⟩ := h.2 q x hx
  exact ⟨f, fun j hj => by rw [List.getElem?_take_of_lt (idx_lt hq hj)]; exact hf j hj, hr⟩
theorem RelK.drop {α : Type} {k : Nat} {R : (Nat → Value) → α → Prop} {us : List Value} {xs : List α} (h : RelK k R us xs) (i : Nat) : RelK k R (us.drop (i * k)) (xs.drop i) := by
  refine ⟨by rw [List.length_drop, List.length_drop, h.1, Nat.sub_mul], fun q x hx => ?_⟩
  rw [List.getElem?_drop] at hx
  obtain ⟨f, hf, hr⟩ := h.2 (i + q) x hx
  exact ⟨f, fun j hj => by rw [List.getElem?_drop, ← Nat.add_assoc, ← Nat.add_mul]; exact hf j hj, hr⟩
theorem RelK.oneR {w : World} {base : Nat} {tc : TypeId} {us : List Value} {xs : List Rec} (h : RelK 2 (ORec w base tc) us xs) : ∀ u ∈ us, u.oneCell' = true := fun u hu => by
  obtain ⟨q, hq⟩ := List.getElem?_of_mem hu
  have hl := lt_of_get hq
  rw [h.1] at hl
  have h2 : q / 2 < xs.length := by omega
  obtain ⟨f, hf, h3, h4⟩ := h.2 (q / 2) _ (List.getElem?_eq_getElem h2)
  have e : q = q / 2 * 2 + q % 2 := by omega
  rcases Nat.mod_two_eq_zero_or_one q with h0 | h0
  · have := hf 0 (by omega)
    rw [h0] at e
    rw [← e, hq] at this
    obtain rfl := Option.some.inj this
    rw [h3.1]; rfl
  · have := hf 1 (by omega)
    rw [h0] at e
    rw [← e, hq] at this
    obtain rfl := Option.some.inj this
    exact h4.one
/-- the rows of insR, of delR -/
theorem RelK.ins {α : Type} {R : (Nat → Value) → α → Prop} {us : List Value} {xs : List α} (h : RelK 2 R us xs) {i : Nat} (hi : i ≤ xs.length) {x : α} {a b : Value} {f : Nat → Value} (h0 : f 0 = a) (h1 : f 1 = b) (hx : R f x) :
    RelK 2 R (us.take (i * 2) ++ [a, b] ++ us.drop (i * 2)) (xs.take i ++ x :: xs.drop i) := by
  have hone : RelK 2 R [a, b] [x] := RelK.one (f := f) rfl (fun j hj => by match j, hj with | 0, _ => rw [h0]; rfl | 1, _ => rw [h1]; rfl) hx
  have := ((h.take hi).app hone).app (h.drop i)
  simpa using this
theorem RelK.del {α : Type} {R : (Nat → Value) → α → Prop} {us : List Value} {xs : List α} (h : RelK 2 R us xs) {i : Nat} (hi : i < xs.length) :
    RelK 2 R (us.take (i * 2) ++ us.drop ((i + 1) * 2)) (xs.eraseIdx i) := by
  rw [List.eraseIdx_eq_take_drop_succ]
  exact (h.take (by omega)).app (h.drop (i + 1))
end Pv
namespace Go.Proofs.YtbdkedjgfihamaaGreatDoor
open Go.RowKit Pv Go.Maps
theorem recs_insert (g i n vb base : Nat) (a b : Value) (us : List Value) (w : World) (h : w.ownsRow base TRe 2 (.slice (some ⟨g, 0, none⟩) n n) n us) (hv : Blk w vb TRe #[a, b]) (ha : a.oneCell' = true) (hb : b.oneCell' = true) (hi : i ≤ n) (hn : n ≤ 100000) (h1 : ∀ u ∈ us, u.oneCell' = true) :
    Calls Tryz.prog 69 #[.slice (some ⟨g, 0, none⟩) n n, .int .i64 (i : Int), .slice (some ⟨vb, 0, none⟩) 1 1] w fun e w' =>
      ∃ A c, e = .returned (.slice A (n + 1) c) ∧ w'.ownsRow base TRe 2 (.slice A (n + 1) c) (n + 1) (us.take (i * 2) ++ [a, b] ++ us.drop (i * 2)) ∧ w.grownBy w' (some g) := by
  rcases Nat.lt_or_ge i n with hlt | hge
  · exact recs_insert_mid g i n vb base a b us w h hv ha hb hlt hn h1
  · obtain rfl : i = n := by omega
    refine (recs_insert_end g i vb base a b us w h hv ha hb hn).mono ?_
    rintro e w' ⟨A, c, rfl, ho, hg⟩
    refine ⟨A, c, rfl, ?_, hg⟩
    have hul : us.length = i * 2 := h.1
    rw [List.take_of_length_le (by omega), List.drop_of_length_le (by omega), List.append_nil]
    exact ho
/-- A book of the call's own, its rows wherever. -/
structure BookG (w W : World) (bb : Nat) (V : Option Addr) (un vc : Nat) (A : Option Addr) (n c : Nat) (t : Tab) : Prop where
  ge : w.heap.size ≤ bb
  blk : Blk W bb TBo #[.string t.name, .int .i64 t.most, .slice V un vc, .slice A n c]
  own : Own W w.heap.size TSt RStr (.slice V un vc) t.uniques
  rows : OwnK W w.heap.size TRe 2 (ORec W w.heap.size TCe) (.slice A n c) t.rows
  k : Below w.heap.size w W
theorem BookO.rowU {w W : World} {bb : Nat} {V : Option Addr} {un vc g rn : Nat} {t : Tab} (h : BookO w W bb V un vc g rn t) : ∃ cur, Blk W g TRe cur ∧ cur.size = rn * 2 ∧ rn ≤ maxLen ∧ w.heap.size ≤ g ∧ W.ownsRow w.heap.size TRe 2 (.slice (some ⟨g, 0, none⟩) rn rn) rn cur.toList ∧ RelK 2 (ORec W w.heap.size TCe) cur.toList t.rows := by
  obtain ⟨hl, us, hown, hr⟩ := h.rows.slice
  rcases hown.2 with ⟨hv, _⟩ | ⟨g', cap, cur, hv, hg, hh, h1, h2, hsz, h3⟩
  · simp at hv
  · simp only [Value.slice.injEq, Option.some.injEq, Addr.mk.injEq, and_true, true_and] at hv
    obtain ⟨rfl, rfl⟩ := hv
    rw [List.take_of_length_le (by rw [Array.length_toList, hsz]; exact Nat.le_refl _)] at h3
    subst h3
    exact ⟨cur, hh, hsz, h2, hg, hown, hr⟩
/-- The rows put at another place (a slice that the call owns), and the book's box written. -/
theorem BookO.grow {w W W' : World} {bb : Nat} {V : Option Addr} {un vc g rn : Nat} {t : Tab} (h : BookO w W bb V un vc g rn t) {A : Option Addr} {n c : Nat} {us : List Value} {rows : List Rec} (ho : W'.ownsRow w.heap.size TRe 2 (.slice A n c) n us) (hr : RelK 2 (ORec W w.heap.size TCe) us rows) (hn : rows.length = n) (hg : W.grownBy W' (some g)) :
    BookG w (W'.setCell ⟨bb, 3, none⟩ (.slice A n c)) bb V un vc A n c { t with rows := rows } ∧ Blk W' bb TBo #[.string t.name, .int .i64 t.most, .slice V un vc, .slice (some ⟨g, 0, none⟩) rn rn] := by
  obtain ⟨cur, hcur, _, _, hge, hown, _⟩ := h.rowU
  have hne : bb ≠ g := fun e => h.blk.ne hcur (by decide) e
  have hb : Blk W' bb TBo #[.string t.name, .int .i64 t.most, .slice V un vc, .slice (some ⟨g, 0, none⟩) rn rn] := h.blk.grown hg (by simpa using hne)
  have hs := hb.set 3 (.slice A n c)
  have hk : Below w.heap.size w W' := h.k.grown hg h.k.size (fun k hk => by obtain rfl := Option.some.inj hk; exact hge)
  have far : ∀ f x, ORec W w.heap.size TCe f x → ORec (W'.setCell ⟨bb, 3, none⟩ (.slice A n c)) w.heap.size TCe f x := fun f x hx =>
    ORec.far (⟨hx.1, OwnK.grown hx.2 hown (by decide) hg⟩ : ORec W' w.heap.size TCe f x) hb (by decide)
  refine ⟨⟨h.ge, by simpa using hs, (Own.grown h.own hown (by decide) hg).setFar hb (by decide) _ _, ?_, hk.setCell h.ge _⟩, hb⟩
  subst hn
  exact ⟨A, c, us, rfl, ownsRow_setFar ho hb (by decide) _ _, hr.mono fun f x _ hx => far f x hx⟩
theorem BookG.give {w W0 W : World} {bb : Nat} {V : Option Addr} {un vc : Nat} {A : Option Addr} {n c : Nat} {t : Tab} (h : BookG W0 W bb V un vc A n c t) {b : Nat} {z0 z1 z2 z3 : Value} (hb : Blk W b TTb #[z0, z1, z2, z3]) (hl : w.heap.size ≤ W0.heap.size) (v0 v1 v2 v3 : Value) :
    TabV w (set4 W b v0 v1 v2 v3) (.agg #[.string t.name, .int .i64 t.most, .slice V un vc, .slice A n c]) t := by
  have a1 := hb.set 0 v0; have a2 := a1.set 1 v1; have a3 := a2.set 2 v2
  refine ⟨V, un, vc, A, n, c, rfl, Own.lowerS ((((h.own.setFar hb (by decide) _ _).setFar a1 (by decide) _ _).setFar a2 (by decide) _ _).setFar a3 (by decide) _ _) hl, ?_⟩
  exact (OwnK.lower ((((h.rows.setFar hb (by decide) _ _).setFar a1 (by decide) _ _).setFar a2 (by decide) _ _).setFar a3 (by decide) _ _) hl).monoR fun _ _ _ ho => (((((ho.far hb (by decide)).far a1 (by decide)).far a2 (by decide)).far a3 (by decide))).lower hl
theorem recs_delete_own (g i n base : Nat) (cs : Array Value) (w : World) (h : Blk w g TRe cs) (hs : cs.size = n * 2) (hi : i < n) (hn : n ≤ 100000) (hb : base ≤ g) (h1 : ∀ u ∈ cs.toList, u.oneCell' = true) :
    Calls Tryz.prog 74 #[.slice (some ⟨g, 0, none⟩) n n, .int .i64 (i : Int), .int .i64 ((i : Int) + 1)] w fun e w' =>
      e = .returned (.slice (some ⟨g, 0, none⟩) (n - 1) n) ∧ w'.ownsRow base TRe 2 (.slice (some ⟨g, 0, none⟩) (n - 1) n) (n - 1) (cs.toList.take (i * 2) ++ cs.toList.drop ((i + 1) * 2)) ∧ w.grownBy w' (some g) := by
  have hd := recs_delete g i n (i + 1) (Lib.hid rfl) cs w h hs hi hn h1
  rw [show ((i + 1 : Nat) : Int) = (i : Int) + 1 by omega] at hd
  refine hd.mono ?_
  rintro e w' ⟨rfl, cs', hr, hs', ht⟩
  refine ⟨rfl, ⟨?_, .inr ⟨g, n, cs', rfl, hb, hr.blk, by omega, by simp only [maxLen]; omega, hs', ht⟩⟩, hr.grown⟩
  rw [List.length_append, List.length_take, List.length_drop, Array.length_toList, hs]
  omega
end Go.Proofs.YtbdkedjgfihamaaGreatDoor
