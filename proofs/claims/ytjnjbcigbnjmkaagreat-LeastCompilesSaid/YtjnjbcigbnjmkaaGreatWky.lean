/- Walks: the document's Twin of a Dfa. -/
import Derived.Deep.RegionHeld3
import Derived.Deep.RegionLaw
import Derived.Test.YtjnjbcigbnjmkaaGreatBfy
import Derived.Test.YtjnjbcigbnjmkaaGreatDfay
import Derived.Test.YtjnjbcigbnjmkaaGreatWby
namespace Go.Proofs.YtjnjbcigbnjmkaaGreat
open Go.RowKit Pv

theorem info_intW : (Tryz.prog.info? 3).map (fun i => (i.zero, i.size, i.bytes)) = some (some (.int .i64 0), 1, 8) := by kernel_rfl
theorem info_bool : (Tryz.prog.info? 4).map (fun i => (i.zero, i.size, i.bytes)) = some (some (.bool false), 1, 1) := by kernel_rfl
theorem info_ints : (Tryz.prog.info? 26).map (fun i => (i.zero, i.size, i.bytes)) = some (some (.slice none 0 0), 1, 24) := by kernel_rfl

/-- What a twin is: new memory that reads alike. -/
def TwinPost (d : Dfa) (w : World) (e : Ending) (w' : World) : Prop :=
  ∃ v1 v2 v3, e = .returned (.agg #[v1, v2, v3]) ∧ IsDfa w' v1 v2 v3 d ∧ Below w.heap.size w w'

/-- What stands behind k rows: the argument's box, the result's variable, the twin under way. -/
def TwinInv (d : Dfa) (w wr : World) (v1 v2 v3 : Value) (T TI TB TS : Nat) (k : Nat) : Prop :=
  ∃ s1 A c s3, Blk wr w.heap.size T #[v1, v2, v3] ∧ Blk wr (w.heap.size + 1) T #[.slice none 0 0, .slice none 0 0, .slice none 0 0] ∧ Blk wr (w.heap.size + 1 + 1) T #[s1, .slice A k c, s3] ∧
    Own wr w.heap.size TI RI s1 d.cuts ∧ Own wr w.heap.size TB RB s3 d.accept ∧ Own wr w.heap.size TS (Own wr w.heap.size TI RI) (.slice A k c) (d.next.take k) ∧ Below w.heap.size w wr

end Go.Proofs.YtjnjbcigbnjmkaaGreat
