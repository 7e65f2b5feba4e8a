/- Walks: the deferred end of undo: a log cut. PUT1 -/
import Derived.Test.YtbdkedjgfihamaaGreatDoorV58u
import Derived.Defers
namespace Go.Proofs.YtbdkedjgfihamaaGreatDoor
open Go.RowKit Pv Go.Maps
set_option maxHeartbeats 1000000 in
set_option maxRecDepth 100000 in
theorem undo_last (pb nb ob m ln lc lg : Nat) (u : FrameMode) (w : World) (h0 : w.cell? ⟨pb, 0, none⟩ = some (.pointer (some ⟨ob, 0, none⟩))) (h1 : w.cell? ⟨nb, 0, none⟩ = some (.int .i64 (m : Int))) (h2 : w.cell? ⟨ob, 1, none⟩ = some (.slice (some ⟨lg, 0, none⟩) ln lc)) (h3 : w.frozen? ⟨ob, 1, none⟩ = false) (hm : m ≤ lc) :
    CallsD Tryz.prog 75 #[.pointer (some ⟨pb, 0, none⟩), .pointer (some ⟨nb, 0, none⟩)] u w fun e u' w' => u' = u ∧ (e = .returned (.tuple #[]) ∧ ∃ n, w' = (w.setCell ⟨ob, 1, none⟩ (.slice (some ⟨lg, 0, none⟩) m lc)).drewN n) := by
  have i1 : (0 : Int) ≤ (m : Int) := by omega
  have i2 : (m : Int) ≤ (lc : Int) := by omega
  go_enter_d Tryz.func75, Tryz.ntmps75
  go_wp2
  go_region
  all_goals
    go_wp2
    go_end0
    exact ⟨rfl, 1, rfl⟩
/-- What the deferred end leaves. -/
theorem undo_door {w W : World} {ob tn tc lg ln lc m pb nb : Nat} {T : Option Addr} {bad : Bool} {ts : List Tab} {log : List Chg} (h : StoIn w W ob T tn tc (some ⟨lg, 0, none⟩) ln lc bad ts log) (hp : Blk W pb 75 #[.pointer (some ⟨ob, 0, none⟩)]) (hn : Blk W nb 3 #[.int .i64 (m : Int)]) (hlc : m ≤ lc) (hml : m ≤ ln) :
    CallsD Tryz.prog 75 #[.pointer (some ⟨pb, 0, none⟩), .pointer (some ⟨nb, 0, none⟩)] .returning W fun e u' w' => u' = .returning ∧ e = .returned (.tuple #[]) ∧ StoIn w w' ob T tn tc (some ⟨lg, 0, none⟩) m lc bad ts (log.take m) := by
  refine (undo_last pb nb ob m ln lc lg .returning W (hp.cell 0) (hn.cell 0) (h.blk.cell 1) (h.blk.frozen 1) hlc).mono ?_
  rintro e u' w' ⟨rfl, rfl, n, rfl⟩
  exact ⟨rfl, rfl, (h.cut hml).drewN n⟩
end Go.Proofs.YtbdkedjgfihamaaGreatDoor
