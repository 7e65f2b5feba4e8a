/- Walks: the program's text.Check; the tables that Go's library reads. -/
import Derived.Test.YtjbfkceficokbaaDoorUe
namespace Go.Proofs.YtjbfkceficokbaaDoor
open Go.RowKit Pv

/-- The tables of Go's library stand as they are laid, whatever is made from B on. -/
def TabsB (B : Nat) (w : World) : Prop := ∀ w', Below B w w' → Lib.Utf8Tabs (Tryd.lays196_ren.g 3) (Tryd.lays196_ren.g 4) w' ∧ Lib.TabIs Tryd.prog w' "internal/strconv.uint64pow10" .u64 Lib.pow10Tab
theorem TabsB.utf {B : Nat} {w : World} (h : TabsB B w) : Lib.Utf8Tabs (Tryd.lays196_ren.g 3) (Tryd.lays196_ren.g 4) w := (h w (Below.refl _ _)).1
theorem TabsB.tab {B : Nat} {w : World} (h : TabsB B w) : Lib.TabIs Tryd.prog w "internal/strconv.uint64pow10" .u64 Lib.pow10Tab := (h w (Below.refl _ _)).2
theorem TabsB.next {B : Nat} {w w' : World} (h : TabsB B w) (hb : Below B w w') : TabsB B w' := fun w2 h2 => h w2 (hb.trans h2)
theorem TabsB.up {B B' : Nat} {w : World} (h : TabsB B w) (hb : B ≤ B') : TabsB B' w := fun w2 h2 => h w2 (h2.mono hb)
/-- .. behind a call made above B -/
theorem TabsB.then {B : Nat} {w w' : World} (h : TabsB B w) (hb : Below w.heap.size w w') (hB : B ≤ w.heap.size) : TabsB B w' := h.next (hb.mono hB)

/-- What text.Check tells. -/
def chk (l : List UInt8) : Int := if 16384 < l.length then 4 else if Lib.validD l then 0 else 10
set_option maxHeartbeats 400000 in
set_option maxRecDepth 100000 in
theorem text_Check (s : ByteArray) (w : World) (B : Nat) (hs : s.size ≤ 140737488355328) (hT : TabsB B w) :
    Calls Tryd.prog 33 #[.string s] w fun e w' => e = .returned (.int .i64 (chk (bsl s))) ∧ Below w.heap.size w w' := by
  have HV := Lib.hid (show Calls Tryd.prog 41 #[.string s] w fun e w' => e = .returned (.bool (Lib.validD (bsl s))) ∧ Below w.heap.size w w' from Tryd.utf8_ValidString s w (by omega) hT.utf)
  have HL : Hid ((bsl s).length = s.size) := Lib.hid (bsl_len s)
  clear hT
  by_cases h1 : 16384 < s.size
  · have HC := Lib.hid (show 4 = chk (bsl s) by unfold chk; rw [if_pos (by rw [HL.out]; exact h1)])
    have i1 : (16384 : Int) < (s.size : Int) := by omega
    generalize chk (bsl s) = r at *
    clear h1 hs HL
    go_enter Tryd.func33, Tryd.ntmps33
    go_wp2
    go_ret
    exact ⟨ret_int HC.out, Below.refl _ _⟩
  · have HC := Lib.hid (show (if Lib.validD (bsl s) then 0 else 10) = chk (bsl s) by unfold chk; rw [if_neg (show ¬ 16384 < (bsl s).length by rw [HL.out]; exact h1)])
    have i1 : (s.size : Int) ≤ 16384 := by omega
    generalize chk (bsl s) = r at *
    clear h1 hs HL
    cases hv : Lib.validD (bsl s)
    all_goals
      rw [hv] at HV HC
      clear hv
      go_enter Tryd.func33, Tryd.ntmps33
      go_wp2_with fail
      refine HV.out.mono ?_
      rintro e w1 ⟨rfl, hb⟩
      go_wp2
      go_ret
      exact ⟨ret_int HC.out, hb⟩
end Go.Proofs.YtjbfkceficokbaaDoor
