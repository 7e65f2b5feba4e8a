/- Walks: tables of places (the document's): of nothing, from each place to itself. -/
import Derived.Test.YtjnjbcigbnjmkaaTb
import Derived.Test.YtjnjbcigbnjmkaaPj
import Derived.Test.YtjnjbcigbnjmkaaQt
import Derived.Deep.OwnRows
import Derived.StillTailTactics
namespace Go.Proofs.Ytjnjbcigbnjmkaa
open Go.RowKit Pv

abbrev TBool : TypeId := 4
abbrev TBs : TypeId := 24
theorem info_bool : (Try.prog.info? 4).map (fun i => (i.zero, i.size, i.bytes)) = some (some (.bool false), 1, 1) := by kernel_rfl
theorem info_bools : (Try.prog.info? 24).map (fun i => (i.zero, i.size, i.bytes)) = some (some (.slice none 0 0), 1, 24) := by kernel_rfl

theorem blk_five {w : World} {g : Nat} {t : TypeId} {a b c d e : Value} (h : Blk w g t #[a, b, c, d, e]) : w.cell? ⟨g, 0, none⟩ = some a ∧ w.cell? ⟨g, 1, none⟩ = some b ∧ w.cell? ⟨g, 2, none⟩ = some c ∧ w.cell? ⟨g, 3, none⟩ = some d ∧ w.cell? ⟨g, 4, none⟩ = some e := ⟨h.cell 0, h.cell 1, h.cell 2, h.cell 3, h.cell 4⟩
/-- A table: a block of rows, the rows behind it. -/
structure Tab (w : World) (g n : Nat) (R : Nat → Nat → Prop) : Prop where
  out : w.rowIs g TBs (n + 1) (fun i => .slice (some ⟨g + 1 + i, 0, none⟩) (n + 1) (n + 1))
  row : ∀ i, i ≤ n → w.rowIs (g + 1 + i) TBool (n + 1) (fun j => .bool (yes (R i j)))
section
variable {w w' : World} {g n : Nat} {R R' : Nat → Nat → Prop}
theorem Tab.drew (h : Tab w g n R) : Tab w.drew g n R := ⟨h.out.drew, fun i hi => (h.row i hi).drew⟩
theorem Tab.lt (h : Tab w g n R) : g + 1 + n < w.heap.size := (h.row n (Nat.le_refl _)).lt
theorem Tab.next (h : Tab w g n R) (hb : Below w.heap.size w w') : Tab w' g n R :=
  ⟨h.out.of_block (hb.block _ h.out.lt), fun i hi => (h.row i hi).of_block (hb.block _ (h.row i hi).lt)⟩
theorem Tab.congr (h : Tab w g n R) (e : ∀ i j, i ≤ n → j ≤ n → (R i j ↔ R' i j)) : Tab w g n R' :=
  ⟨h.out, fun i hi => (h.row i hi).congr fun j hj => by rw [show R i j = R' i j from propext (e i j hi (by omega))]⟩
theorem Tab.rowCell (h : Tab w g n R) {i : Nat} (hi : i ≤ n) : w.cell? ⟨g, i, none⟩ = some (.slice (some ⟨g + 1 + i, 0, none⟩) (n + 1) (n + 1)) := h.out.cell (by omega)
theorem Tab.cell (h : Tab w g n R) {i j : Nat} (hi : i ≤ n) (hj : j ≤ n) : w.cell? ⟨g + 1 + i, j, none⟩ = some (.bool (yes (R i j))) := (h.row i hi).cell (by omega)
theorem Tab.set {i j : Nat} {b : Bool} (h : Tab w g n R) (hi : i ≤ n) (h1 : R' i j ↔ b = true) (h2 : ∀ a c, a ≤ n → c ≤ n → ¬ (a = i ∧ c = j) → (R a c ↔ R' a c)) : Tab (w.setCell ⟨g + 1 + i, j, none⟩ (.bool b)) g n R' := by
  refine ⟨h.out.setOther (by simp only; omega) _, fun a ha => ?_⟩
  by_cases e : a = i
  · subst e
    refine ((h.row a ha).set j (.bool b)).congr fun c hc => ?_
    by_cases e2 : c = j
    · subst e2
      simp only [if_true]
      congr 1
      cases b with
      | true => exact (yes_t (h1.2 rfl)).symm
      | false => exact (yes_f (fun h3 => by have := h1.1 h3; cases this)).symm
    · simp only [if_neg e2]
      rw [show R a c = R' a c from propext (h2 a c ha (by omega) (fun h => e2 h.2))]
  · refine ((h.row a ha).setOther (by simp only; omega) _).congr fun c hc => ?_
    rw [show R a c = R' a c from propext (h2 a c ha (by omega) (fun h => e h.1))]
/-- A table handed back. -/
def TabPost (w : World) (n : Nat) (R : Nat → Nat → Prop) (e : Ending) (w' : World) : Prop :=
  ∃ g, e = .returned (.slice (some ⟨g, 0, none⟩) (n + 1) (n + 1)) ∧ w.heap.size ≤ g ∧ Tab w' g n R ∧ Below w.heap.size w w'
end
/-- A table under way: so many rows. -/
structure TabN (w wr : World) (n i : Nat) : Prop where
  sz : wr.heap.size = w.heap.size + 1 + i
  out : wr.rowIs w.heap.size TBs (n + 1) (fun k => if k < i then .slice (some ⟨w.heap.size + 1 + k, 0, none⟩) (n + 1) (n + 1) else .slice none 0 0)
  row : ∀ k, k < i → wr.rowIs (w.heap.size + 1 + k) TBool (n + 1) (fun _ => .bool false)
  be : Below w.heap.size w wr
theorem TabN.start (w : World) (n : Nat) : TabN w (w.alloc (.cells (madeCells #[.slice none 0 0] (n + 1)) TBs)) n 0 :=
  ⟨by simp, (World.rowIs_made w (.slice none 0 0) (n + 1) TBs).congr fun k _ => by simp, fun k hk => by omega, (Below.refl _ _).alloc (Nat.le_refl _) _⟩
theorem TabN.step {w wr : World} {n i : Nat} (h : TabN w wr n i) : TabN w ((wr.alloc (.cells (madeCells #[.bool false] (n + 1)) TBool)).setCell ⟨w.heap.size, i, none⟩ (.slice (some ⟨wr.heap.size, 0, none⟩) (n + 1) (n + 1))) n (i + 1) := by
  have hs := h.sz
  refine ⟨by simp; omega, ((h.out.alloc _).set i _).congr fun k hk => ?_, fun k hk => ?_, (h.be.alloc (by omega) _).setCell (Nat.le_refl _) _⟩
  · by_cases e : k = i
    · subst e; simp [hs]
    · simp only [if_neg e]
      by_cases e2 : k < i
      · simp [e2, show k < i + 1 by omega]
      · simp [e2, show ¬ k < i + 1 by omega]
  · by_cases e : k < i
    · exact ((h.row k e).alloc _).setOther (by simp only; omega) _
    · obtain rfl : k = i := by omega
      have := (World.rowIs_made wr (.bool false) (n + 1) TBool).setOther (a := ⟨w.heap.size, k, none⟩) (by simp only; omega) (.slice (some ⟨wr.heap.size, 0, none⟩) (n + 1) (n + 1))
      rwa [hs] at this ⊢
theorem TabN.done {w wr : World} {n : Nat} (h : TabN w wr n (n + 1)) : Tab wr w.heap.size n (fun _ _ => False) :=
  ⟨h.out.congr fun k hk => by simp [hk], fun i hi => (h.row i (by omega)).congr fun j _ => by rw [yes_f (by simp)]⟩

set_option maxHeartbeats 1000000 in
set_option maxRecDepth 100000 in
theorem ref08_none (n : Nat) (hn : n ≤ 1000) (w : World) : Calls Try.prog 119 #[.int .i64 n] w (TabPost w n (fun _ _ => False)) := by
  have hm1 := fun W : World => run_make_row' (P := Try.prog) 119 24 (.slice none 0 0) 24 Try.underlying119 info_bools rfl .i64 .i64 (n + 1) (by omega) (by omega) W
  have hm2 := fun W : World => run_make_row' (P := Try.prog) 24 4 (.bool false) 1 Try.underlying24 info_bool rfl .i64 .i64 (n + 1) (by omega) (by omega) W
  simp only [Int.natCast_add, Int.cast_ofNat_Int] at hm1 hm2
  have S0 := Lib.hid (TabN.start w n)
  go_enter Try.func119, Try.ntmps119
  go_wp2
  go_loopw [4] (fun iv wr => ∃ i : Nat, iv = .int .i64 i ∧ i ≤ n + 1 ∧ TabN w wr n i) (fun iv _ => n + 1 - (intOf iv).toNat)
  case atStart => exact ⟨0, rfl, by omega, S0.out⟩
  case round =>
    obtain ⟨i, rfl, hi, hs⟩ := hrel
    have SS := Lib.hid hs
    have hsz := hs.out.lt
    clear hs
    by_cases hlt : i ≤ n
    · have c0 := SS.out.out.cell (i := i) (by omega)
      have f0 := SS.out.out.frozen i
      have ST := SS.out.step
      rw [World.setCell_alloc_past _ _ _ _ (by have := SS.out.sz; omega)] at ST
      replace ST := Lib.hid ST
      have c1 := (SS.out.out.alloc (.cells (madeCells #[.bool false] (n + 1)) TBool)).cell (i := i) (by omega)
      have f1 := (SS.out.out.alloc (.cells (madeCells #[.bool false] (n + 1)) TBool)).frozen i
      go_wp2
      go_roundw
      case rel => exact ⟨i + 1, by go_num, by omega, ST.out⟩
      case measure => simp [intOf]; omega
    · have hin : i = n + 1 := by omega
      have SD := Lib.hid (show TabN w wr n (n + 1) from hin ▸ SS.out)
      clear hin
      go_wp2
      go_ret
      exact ⟨w.heap.size, rfl, Nat.le_refl _, TabN.done SD.out, SD.out.be⟩

set_option maxHeartbeats 1000000 in
set_option maxRecDepth 100000 in
theorem ref08_still (n : Nat) (hn : n ≤ 1000) (w : World) : Calls Try.prog 118 #[.int .i64 n] w (TabPost w n (fun i j => i = j)) := by
  have HN := Lib.hid (ref08_none n hn w)
  go_enter Try.func118, Try.ntmps118
  go_wp2_with fail
  refine HN.out.mono ?_
  rintro e w1 ⟨g, rfl, hg, tb, hb⟩
  have T0 := Lib.hid (tb.congr (R' := fun i j => i = j ∧ i < 0) (fun i j _ _ => by simp))
  have B0 := Lib.hid hb
  clear tb hb
  go_wp2
  go_loopw [4] (fun iv wr => ∃ i : Nat, iv = .int .i64 i ∧ i ≤ n + 1 ∧ Tab wr g n (fun a b => a = b ∧ a < i) ∧ Below w.heap.size w wr) (fun iv _ => n + 1 - (intOf iv).toNat)
  case atStart => exact ⟨0, rfl, by omega, T0.out, B0.out⟩
  case round =>
    obtain ⟨i, rfl, hi, htb, hb⟩ := hrel
    have TT := Lib.hid htb; have BB := Lib.hid hb
    clear htb hb
    by_cases hlt : i ≤ n
    · have c0 := TT.out.rowCell hlt
      have c1 := TT.out.cell hlt hlt
      have f1 := (TT.out.row i hlt).frozen i
      have TS := Lib.hid (TT.out.set (j := i) (b := true) (R' := fun a b => a = b ∧ a < i + 1) hlt (by simp) (fun a c _ _ h => by constructor <;> (rintro ⟨rfl, h2⟩; refine ⟨rfl, ?_⟩; omega)))
      have BS := Lib.hid (BB.out.setCell (p := ⟨g + 1 + i, i, none⟩) (by simp only; omega) (.bool true))
      go_wp2
      go_roundw
      case rel => exact ⟨i + 1, by go_num, by omega, TS.out, BS.out⟩
      case measure => simp [intOf]; omega
    · have TD := Lib.hid (TT.out.congr (R' := fun i j => i = j) (fun a b ha _ => by constructor; exact fun h => h.1; exact fun h => ⟨h, by omega⟩))
      go_wp2
      go_ret
      exact ⟨g, rfl, hg, TD.out, BB.out⟩

end Go.Proofs.Ytjnjbcigbnjmkaa
