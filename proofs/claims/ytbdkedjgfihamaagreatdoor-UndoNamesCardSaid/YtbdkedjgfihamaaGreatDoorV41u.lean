/- Walks: slices.Delete at records. PUT1 -/
import Derived.Test.YtbdkedjgfihamaaGreatDoorV34u
import Derived.Shelf.RegionOpenPlain
import Derived.Deep.RegionLaw
import Derived.Lib.SliceRun
namespace Pv
open Go Go.RowKit
theorem RowSet.refl {w : World} {g : Nat} {t : TypeId} {cs : Array Value} (h : Blk w g t cs) : RowSet w w g t cs := ⟨h, rfl, rfl, rfl, rfl, fun _ _ => rfl⟩
theorem RowSet.trans {a b c : World} {g : Nat} {t : TypeId} {cs cs' : Array Value} (h : RowSet a b g t cs) (k : RowSet b c g t cs') : RowSet a c g t cs' :=
  ⟨k.blk, k.os.trans h.os, k.tape.trans h.tape, k.output.trans h.output, k.size.trans h.size, fun i hi => (k.other i hi).trans (h.other i hi)⟩
theorem RowSet.grown {w w' : World} {g : Nat} {t : TypeId} {cs : Array Value} (h : RowSet w w' g t cs) : w.grownBy w' (some g) := ⟨h.os, h.tape, h.output, by rw [h.size]; exact Nat.le_refl _, fun k _ hk => h.other k (fun e => hk (by rw [e]))⟩
theorem RowSet.set {w : World} {g : Nat} {t : TypeId} {cs : Array Value} (h : Blk w g t cs) (i : Nat) (u : Value) : RowSet w (w.setCell ⟨g, i, none⟩ u) g t (cs.setIfInBounds i u) :=
  ⟨h.set i u, rfl, rfl, rfl, by simp [World.setCell], fun k hk => Below.heap_setCell w ⟨g, i, none⟩ u k hk⟩
theorem RowSet.cast {w w' : World} {g : Nat} {t : TypeId} {cs cs' : Array Value} (h : RowSet w w' g t cs) (e : cs = cs') : RowSet w w' g t cs' := e ▸ h
theorem setCells_row {g : Nat} {t : TypeId} : ∀ (vs : List Value) {w : World} {cs : Array Value} (o : Nat), Blk w g t cs → o + vs.length ≤ cs.size →
    RowSet w (w.setCells g o vs) g t (cs.toList.take o ++ vs ++ cs.toList.drop (o + vs.length)).toArray
  | [], w, cs, o, h, _ => (RowSet.refl h).cast (by simp)
  | v :: r, w, cs, o, h, hs => by
    have h1 := RowSet.set h o v
    have hl : o < cs.size := by simp at hs; omega
    have h2 := setCells_row r (o + 1) h1.blk (by simp at hs ⊢; omega)
    refine (h1.trans h2).cast ?_
    have t1 : (cs.setIfInBounds o v).toList.take (o + 1) = cs.toList.take o ++ [v] := by
      rw [Array.toList_setIfInBounds, take_snoc (x := v) (List.getElem?_set_self (by simpa using hl)), List.take_set_of_le (Nat.le_refl _)]
    have t2 : (cs.setIfInBounds o v).toList.drop (o + 1 + r.length) = cs.toList.drop (o + 1 + r.length) := by
      rw [Array.toList_setIfInBounds, List.drop_set_of_lt (by omega)]
    rw [t1, t2]
    simp [Nat.add_assoc, Nat.add_comm 1]
end Pv
namespace Go.Proofs.YtbdkedjgfihamaaGreatDoor
open Go.RowKit Pv Go.Maps
set_option maxRecDepth 100000 in
theorem clear_rec {w : World} {g o c : Nat} {t : TypeId} {cs : Array Value} (h : Blk w g t cs) (ho : o + 2 ≤ cs.size) (ty : TypeId) :
    (Builtin.clear_ #[45] ty #[.slice (some ⟨g, o, none⟩) 1 c]).run Tryz.prog w = .ok (.tuple #[]) (w.setCells g o [.string ByteArray.empty, .slice none 0 0]) := by
  have hv : ∀ w, (zeroValue TRe).run Tryz.prog w = .ok (.agg #[.string ByteArray.empty, .slice none 0 0]) w := fun w => by rfl
  have hst := run_storeCells_cells (P := Tryz.prog) g o [.string ByteArray.empty, .slice none 0 0] 0 w (fun j hj => by rw [h.cell]; simp at hj; rw [Array.getElem?_eq_getElem (by omega)]; rfl) (fun j _ => h.frozen _) (by simp [Value.oneCell'])
  simp only [Nat.add_zero] at hst
  have hz : (Builtin.zeroCells (Value.agg #[.string ByteArray.empty, .slice none 0 0]).cells 1).toList = [.string ByteArray.empty, .slice none 0 0] := by simp [Builtin.zeroCells, Value.cells, List.range, List.range.loop]
  simp [Builtin.clear_, run_underlying Tryz.underlying45, hv, hz, hst]
set_option maxHeartbeats 4000000 in
set_option maxRecDepth 1000000 in
theorem recs_delete (g i n : Nat) (j : Nat) (HJ : Hid (j = i + 1)) (cs : Array Value) (w : World) (h : Blk w g TRe cs) (hs : cs.size = n * 2) (hi : i < n) (hn : n ≤ 100000) (h1 : ∀ u ∈ cs.toList, u.oneCell' = true) :
    Calls Tryz.prog 74 #[.slice (some ⟨g, 0, none⟩) n n, .int .i64 (i : Int), .int .i64 (j : Int)] w fun e w' =>
      e = .returned (.slice (some ⟨g, 0, none⟩) (n - 1) n) ∧ ∃ cs', RowSet w w' g TRe cs' ∧ cs'.size = n * 2 ∧ cs'.toList.take ((n - 1) * 2) = cs.toList.take (i * 2) ++ cs.toList.drop (j * 2) := by
  have hji := HJ.out
  obtain ⟨i0, hi0, hz0, hs0, hb0⟩ := info_parts info_rec
  obtain ⟨news, hnews⟩ : ∃ news, news = cs.toList.drop (j * 2) := ⟨_, rfl⟩
  have hlen : news.length = (n - j) * 2 := by rw [hnews, List.length_drop, Array.length_toList, hs]; omega
  obtain ⟨A, hA, hsrc⟩ : ∃ A : Addr, (if n = j then (some ⟨g, 0, none⟩ : Option Addr) else some ⟨g, j * 2, none⟩) = some A ∧ Hid (∀ t u, news[t]? = some u → w.drew.cell? (A.add t) = some u) := by
    by_cases hh : n = j
    · refine ⟨⟨g, 0, none⟩, by simp [hh], Lib.hid fun t u hu => ?_⟩
      rw [List.length_eq_zero_iff.1 (show news.length = 0 by rw [hlen]; omega)] at hu
      simp at hu
    · refine ⟨⟨g, j * 2, none⟩, by simp [hh], Lib.hid fun t u hu => ?_⟩
      have e2 : (⟨g, j * 2, none⟩ : Addr).add t = ⟨g, j * 2 + t, none⟩ := by unfold Addr.add; split <;> simp_all
      rw [e2]
      show w.cell? _ = _
      rw [h.cell, ← Array.getElem?_toList]
      rw [hnews, List.getElem?_drop] at hu
      exact hu
  have s1 : Hid (news.length = (n - j) * 2) := Lib.hid hlen
  have s2 : Hid (∀ u ∈ news, u.oneCell' = true) := Lib.hid fun u hu => h1 u (by rw [hnews] at hu; exact List.mem_of_mem_drop hu)
  have s3 : Hid (∀ t, t < news.length → (w.drew.cell? ⟨g, 0 + i * 2 + t, none⟩).isSome = true ∧ w.drew.frozen? ⟨g, 0 + i * 2 + t, none⟩ = false) := Lib.hid fun t ht => by
    refine ⟨?_, h.frozen _⟩
    show (w.cell? _).isSome = true
    rw [h.cell, Array.getElem?_eq_getElem (by rw [hlen] at ht; omega)]
    rfl
  have hr1 := setCells_row (w := w.drew) news (0 + i * 2) h (by rw [hlen, hs]; omega)
  obtain ⟨cs1, hcs1⟩ : ∃ cs1, cs1 = (cs.toList.take (0 + i * 2) ++ news ++ cs.toList.drop (0 + i * 2 + news.length)).toArray := ⟨_, rfl⟩
  rw [← hcs1] at hr1
  have hcs1s : cs1.size = n * 2 := by rw [hcs1]; simp [hlen, hs]; omega
  obtain ⟨W1, hW1⟩ : ∃ W1, W1 = w.drew.setCells g (0 + i * 2) news := ⟨_, rfl⟩
  rw [← hW1] at hr1
  have HCL := Lib.hid (fun (c : Nat) (ty : TypeId) => clear_rec (c := c) hr1.blk (o := (n - 1) * 2) (by rw [hcs1s]; omega) ty)
  have hr2 := setCells_row [Value.string ByteArray.empty, Value.slice none 0 0] ((n - 1) * 2) hr1.blk (by rw [hcs1s]; simp; omega)
  have hend : (cs1.toList.take ((n - 1) * 2) ++ [Value.string ByteArray.empty, Value.slice none 0 0] ++ cs1.toList.drop ((n - 1) * 2 + [Value.string ByteArray.empty, Value.slice none 0 0].length)).toArray.toList.take ((n - 1) * 2) = cs.toList.take (i * 2) ++ news := by
    have e1 : cs1.toList = cs.toList.take (i * 2) ++ news ++ cs.toList.drop (i * 2 + news.length) := by rw [hcs1, Nat.zero_add]
    have e2 : (cs.toList.take (i * 2) ++ news).length = (n - 1) * 2 := by rw [List.length_append, List.length_take, Array.length_toList, hlen, hs]; omega
    have e3 : cs1.toList.take ((n - 1) * 2) = cs.toList.take (i * 2) ++ news := by rw [e1, ← e2, List.take_left]
    show List.take _ (_ ++ _ ++ _) = _
    rw [e3, List.append_assoc, ← e2, List.take_left]
  have hz : (cs1.toList.take ((n - 1) * 2) ++ [Value.string ByteArray.empty, Value.slice none 0 0] ++ cs1.toList.drop ((n - 1) * 2 + [Value.string ByteArray.empty, Value.slice none 0 0].length)).toArray.size = n * 2 := by
    simp [hcs1s]; omega
  rw [hnews] at hend
  have HFIN : Hid (∃ cs', RowSet w.drew (W1.setCells g ((n - 1) * 2) [.string ByteArray.empty, .slice none 0 0]) g TRe cs' ∧ cs'.size = n * 2 ∧ cs'.toList.take ((n - 1) * 2) = cs.toList.take (i * 2) ++ cs.toList.drop (j * 2)) := Lib.hid ⟨_, hr1.trans hr2, hz, hend⟩
  have hW : Hid (W1 = w.drew.setCells g (0 + i * 2) news) := Lib.hid hW1
  have hic : i ≤ n := by omega
  have hjc : j ≤ n := by omega
  have hij : i ≤ j := by omega
  have hne : ¬ ((i : Int) = (j : Int)) := by omega
  have hq : i + (n - j) = n - 1 := by omega
  have hlast : n - (n - 1) = 1 := by omega
  have hcl2 := HCL.out
  have mixed : Tryz.prog.follows Departure.mixedOrders = true := by kernel_rfl
  clear hji hr1 hr2 hend hz hW1 hcs1 hcs1s hlen hnews h h1 hs HCL
  go_enter Tryz.func74, Tryz.ntmps74
  go_wp2_with fail
  go_region_law_o (refine step_append_room rfl (.tmp 22) (.tmp 25) 45 rfl TRe i0 2 Tryz.underlying45 hi0 hs0 g 0 i n (by simp [Act.eval, Act.put]) A (n - j) (n - j) news (by simp [Act.eval, Act.put]) s1.out hsrc.out s2.out (by omega) s3.out ?_; rw [← hW.out])
  go_wp2
  go_ret
  obtain ⟨cs', z1, z2, z3⟩ := HFIN.out
  exact ⟨rfl, cs', ⟨z1.blk, z1.os, z1.tape, z1.output, z1.size, z1.other⟩, z2, z3⟩
end Go.Proofs.YtbdkedjgfihamaaGreatDoor
