/- Walks: the document's leading: where it stops at once, and where a node has no nodes. -/
import Derived.Test.YtjnjbcigbnjmkaaAo
import Derived.Test.YtjnjbcigbnjmkaaAk
namespace Go.Proofs.Ytjnjbcigbnjmkaa
open Go.RowKit Pv

/-- What leading leaves. -/
def LeadPost (W : World) (base : Nat) (acc : Int) (r : Au × Int) (e : Ending) (w' : World) : Prop :=
  ∃ A' c', e = .returned (.tuple #[.agg #[.slice A' r.1.length c', .int .i64 acc], .int .i64 r.2]) ∧ AuAt w' base A' r.1.length c' r.1 ∧ Chg TA base W w'
/-- .. whatever the automaton under way. -/
def LeadC (w0 : World) (base : Nat) (acc : Int) (At : Option Addr) (nt ct : Nat) (T : Tr) (i : Nat) : Prop :=
  ∀ (W : World) (A : Option Addr) (n c : Nat) (a : Au) (s : Int), Keep w0 W → base ≤ W.heap.size → AuAt W base A n c a → -1 ≤ s → s < n → n ≤ 300 → edgesN a ≤ 65 * n →
    Calls Try.prog 112 #[.agg #[.slice A n c, .int .i64 acc], .slice At nt ct, .int .i64 i, .int .i64 s] W (LeadPost W base acc (leadR T a s))

abbrev WL (w : World) (A : Option Addr) (n c : Nat) (acc : Int) : World := (w.alloc (.cells #[.slice A n c, .int .i64 acc] TAuto)).alloc (.cells #[.slice none 0 0, .int .i64 0] TAuto)
theorem WL_below (w : World) (A : Option Addr) (n c : Nat) (acc : Int) : Below w.heap.size w (WL w A n c acc) := ((Below.refl _ _).alloc (Nat.le_refl _) _).alloc (by simp) _

set_option maxHeartbeats 1000000 in
set_option maxRecDepth 100000 in
theorem lead_stop (w : World) (base : Nat) (acc : Int) (At : Option Addr) (nt ct : Nat) (T : Tr) (i : Nat) (A : Option Addr) (n c : Nat) (a : Au) (s : Int) (hb : base ≤ w.heap.size) (h : AuAt w base A n c a) (hn : n ≤ 300) (hst : s < 0 ∨ 256 < n) :
    Calls Try.prog 112 #[.agg #[.slice A n c, .int .i64 acc], .slice At nt ct, .int .i64 i, .int .i64 s] w (LeadPost w base acc (leadR T a s)) := by
  have hnl := h.len
  rw [leadR_stop (T := T) (a := a) (s := s) (by rw [← hnl]; exact hst)]
  have hW : Below w.heap.size w ((w.alloc (.cells #[.slice A n c, .int .i64 acc] TAuto)).alloc (.cells #[.slice A n c, .int .i64 acc] TAuto)) := ((Below.refl _ _).alloc (Nat.le_refl _) _).alloc (by simp) _
  have S2 := Lib.hid (And.intro (h.next hW) (Chg.of_below (T := TA) (base := base) hW))
  clear hW
  have HN := Lib.hid hnl
  clear h hnl
  by_cases h0 : s < 0
  case' pos => clear hst
  case' neg => have h1 : 256 < n := by omega
  case' neg => clear hst
  all_goals
    go_enter Try.func112, Try.ntmps112
    go_wp2
    refine bodyPost_ret (v := .tuple #[.agg #[.slice A n c, .int .i64 acc], .int .i64 (-1)]) (by simp [results, Try.results112, go_sem]) rfl ⟨A, c, by rw [HN.out], by simp only; rw [← HN.out]; exact S2.out.1, S2.out.2⟩

end Go.Proofs.Ytjnjbcigbnjmkaa
