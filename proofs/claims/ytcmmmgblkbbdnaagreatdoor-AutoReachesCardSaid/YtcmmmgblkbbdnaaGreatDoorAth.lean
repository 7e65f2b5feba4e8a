/- Walks: the document's free edges. -/
import Derived.Test.YtcmmmgblkbbdnaaGreatDoorAnh
import Derived.Test.YtcmmmgblkbbdnaaGreatDoorQth
import Derived.Test.YtcmmmgblkbbdnaaGreatDoorBfh
namespace Go.Proofs.YtcmmmgblkbbdnaaGreatDoor
open Go.RowKit Pv

theorem SetIn.nil (w : World) (base : Nat) : SetIn w base (.slice none 0 0) [] := ⟨none, 0, rfl, AtK.nil, by simp, fun h => by simp at h⟩

end Go.Proofs.YtcmmmgblkbbdnaaGreatDoor

namespace Go.Proofs.YtcmmmgblkbbdnaaGreatDoor
open Go.RowKit Pv

theorem Blk.five {w : World} {g : Nat} {t : TypeId} {a b c d e : Value} (h : Blk w g t #[a, b, c, d, e]) : w.cell? ⟨g, 0, none⟩ = some a ∧ w.cell? ⟨g, 1, none⟩ = some b ∧ w.cell? ⟨g, 2, none⟩ = some c ∧ w.cell? ⟨g, 3, none⟩ = some d ∧ w.cell? ⟨g, 4, none⟩ = some e :=
  ⟨h.cell 0, h.cell 1, h.cell 2, h.cell 3, h.cell 4⟩

end Go.Proofs.YtcmmmgblkbbdnaaGreatDoor

namespace Go.Proofs.YtcmmmgblkbbdnaaGreatDoor
open Go.RowKit Pv

abbrev TInt : TypeId := 3
theorem ownsRow_chg {T : List TypeId} {base : Nat} {w w' : World} {b e s n : Nat} {v : Value} {us : List Value} (h : w.ownsRow b e s v n us) (hc : Chg T base w w') (ht : ∀ t, t ∈ T → t ≠ e) : w'.ownsRow b e s v n us := by
  refine ⟨h.1, ?_⟩
  rcases h.2 with h2 | ⟨g, cap, cur, hv, hg, hh, r⟩
  · exact .inl h2
  · have hb : Blk w g e cur := hh
    exact .inr ⟨g, cap, cur, hv, hg, hc.blk hb ht, r⟩
theorem own_get {w : World} {b e n k c : Nat} {A : Option Addr} {us : List Value} {u : Value} (h : w.ownsRow b e 1 (.slice A n c) n us) (hk : us[k]? = some u) : ∃ g, A = some ⟨g, 0, none⟩ ∧ g < w.heap.size ∧ w.cell? ⟨g, k, none⟩ = some u := by
  rcases h.2 with ⟨hv, h0⟩ | ⟨g, cap, cur, hv, hg, hh, hnc, hcm, hcs, htk⟩
  · have := h.1; have := lt_of_get hk; omega
  · injection hv with e1 e2 e3
    subst e1
    have hb : Blk w g e cur := hh
    refine ⟨g, rfl, hb.lt, ?_⟩
    rw [hb.cell k]
    rw [← htk, List.getElem?_take] at hk
    split at hk
    · simpa using hk
    · cases hk
end Go.Proofs.YtcmmmgblkbbdnaaGreatDoor

namespace Go.Proofs.YtcmmmgblkbbdnaaGreatDoor
open Go.RowKit Pv

theorem Chg.grow {T : List TypeId} {base : Nat} {w W W' : World} {row : Option Nat} (h : Chg T base w W) (g : W.grownBy W' row) (hr : ∀ k, row = some k → w.heap.size ≤ k) : Chg T base w W' :=
  ⟨g.os.trans h.os, g.tape.trans h.tape, g.output.trans h.output, Nat.le_trans h.size g.size, fun b hb hc => (g.block b (Nat.lt_of_lt_of_le hb h.size) (fun e => by have := hr b e.symm; omega)).trans (h.block b hb hc)⟩
section
variable {w wr w' : World} {base n c e0 ne ec : Nat} {acc : Int} {A EA : Option Addr} {a : Au} {x : Array Value} {es : List Int}
end

/-- .. with what a callee has left in a new box, wherever that lies -/
structure LM (w wr : World) (base : Nat) (acc : Int) (A : Option Addr) (n c : Nat) (A' : Option Addr) (n' c' : Nat) (a' : Au) (x : Array Value) (e0 : Nat) (EA : Option Addr) (ne ec : Nat) (es : List Int) (bb : Nat) : Prop where
  b0 : Blk wr w.heap.size TAuto #[.slice A n c, .int .i64 acc]
  b1 : Blk wr (w.heap.size + 1) TAuto #[.slice none 0 0, .int .i64 0]
  bx : Blk wr (w.heap.size + 1 + 1) 37 x
  au : AuAt wr base A' n' c' a'
  ow : wr.ownsRow e0 TInt 1 (.slice EA ne ec) ne (es.map (Value.int .i64))
  ch : Chg TA base w wr
  bb : Blk wr bb TAuto #[.slice A' n' c', .int .i64 acc]
section
variable {w wr w5 : World} {base n c e0 ne ec : Nat} {acc : Int} {A EA : Option Addr} {a : Au} {x : Array Value} {es : List Int} {A' : Option Addr} {n' c' : Nat} {a' : Au}
end

end Go.Proofs.YtcmmmgblkbbdnaaGreatDoor
