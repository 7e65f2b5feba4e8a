/- A slice made new, of one-cell elements. Nothing of a program stands here. -/
import Derived.Laws.MakeOwn
import Derived.Test.YtbdkedjgfihamaaGreatDoorMem3u
namespace Pv
open Go Go.RowKit

theorem run_mk {P : Program} {t e : TypeId} {i : TypeInfo} {z : Value} {bytes : Nat} (ht : P.underlying t = some (.slice e)) (hi : P.info? e = some i) (hz : i.zero = some z) (hs : i.size = 1) (hb : i.bytes = bytes) (hzc : z.cells = #[z])
    (n : Nat) (hn : bytes * n ≤ 281474976710656) (h63 : n ≤ 9223372036854775807) :
    ∃ cs : Array Value, cs.size = n ∧ (∀ j, j < n → cs[j]? = some z) ∧ ∀ W : World, (Instr.makeSlice t (.int .i64 n) (.int .i64 n)).run P W = .ok (.slice (some ⟨W.heap.size, 0, none⟩) n n) (W.alloc (.cells cs e)) := by
  refine ⟨madeCells z.cells (n * i.size), by rw [size_madeCells, hs]; omega, fun j hj => ?_, fun W => ?_⟩
  · rw [hs, hzc]
    simp [madeCells, hj, Nat.mod_one]
  · have hb' : ((bytes * n : Nat) : Int) ≤ 281474976710656 := by omega
    rw [Int.natCast_mul] at hb'
    have := run_make (P := P) W t e i z ht hi hz .i64 .i64 (n : Int) (n : Int) (by omega) (by omega) (by rw [hb]; exact hb') (by omega)
    simp only [Int.toNat_natCast] at this
    exact this
end Pv
