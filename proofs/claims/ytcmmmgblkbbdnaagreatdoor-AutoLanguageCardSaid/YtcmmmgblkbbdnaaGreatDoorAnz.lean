/- Walks: the document's states and free edges. -/
import Derived.Test.YtcmmmgblkbbdnaaGreatDoorRuz
import Derived.RegionTactic
import Derived.ChangeAlike
namespace Go.Proofs.YtcmmmgblkbbdnaaGreatDoor
open Go.RowKit Pv

theorem TA_auto : ∀ e, e ∈ TA → e ≠ TAuto := by decide
theorem AuAt.setFar {w : World} {base n c g i : Nat} {A : Option Addr} {a : Au} {t : TypeId} {cs : Array Value} {u : Value} (h : AuAt w base A n c a) (hb : Blk w g t cs) (ht : ∀ e, e ∈ TA → e ≠ t) (ht2 : t ≠ TRng) (hg : base ≤ g) : AuAt (w.setCell ⟨g, i, none⟩ u) base A n c a := by
  obtain ⟨rows, h1, h2⟩ := h
  have hold : ∀ b, b ≠ g → (w.setCell ⟨g, i, none⟩ u).heap[b]? = w.heap[b]? := fun b hb => Below.heap_setCell w ⟨g, i, none⟩ u b hb
  have hs : ∀ v l, SetIn w base v l → SetIn (w.setCell ⟨g, i, none⟩ u) base v l := fun v l ⟨A, c, e, hs, hc, hh⟩ => by
    have key : ∀ b o, A = some ⟨b, o, none⟩ → 0 < l.length → b ≠ g := fun b o e hp hbg => by
      rcases hh hp b o e with h | ⟨cs', hcs'⟩
      · omega
      · subst hbg
        unfold Blk at hb
        rw [hb] at hcs'
        injection hcs' with hcs'
        injection hcs' with _ h1
        exact ht2 h1
    refine ⟨A, c, e, AtK.chg hs (by simp) fun b o e hp _ => hold b (key b o e hp), hc, fun hp b o e => ?_⟩
    rcases hh hp b o e with h | ⟨cs', hcs'⟩
    · exact .inl h
    · exact .inr ⟨cs', (hold b (key b o e hp)).trans hcs'⟩
  refine ⟨rows, ownsRow_setFar h1 hb (ht TRow (by simp)) i u, h2.len, h2.n, fun j es he => ?_, h2.ne⟩
  obtain ⟨r, hr, A', c', us, rfl, ow, hk⟩ := h2.row j es he
  exact ⟨_, hr, A', c', us, rfl, ownsRow_setFar ow hb (ht TEdge (by simp)) i u, hk.mono fun f x _ h => ⟨h.1, h.2, hs _ _ h.3⟩⟩
theorem Chg.set {T : List TypeId} {base g i : Nat} {w w' : World} {u : Value} (h : Chg T base w w') (hg : w.heap.size ≤ g) : Chg T base w (w'.setCell ⟨g, i, none⟩ u) :=
  ⟨h.os, h.tape, h.output, by simpa using h.size, fun b hb hc => (Below.heap_setCell w' ⟨g, i, none⟩ u b (by simp only; omega)).trans (h.block b hb hc)⟩

theorem store2 {T : List TypeId} {w0 w : World} {base g n c : Nat} {A : Option Addr} {a : Au} {t : TypeId} {x0 x1 : Value} (y0 y1 : Value) (hb : Blk w g t #[x0, x1]) (ha : AuAt w base A n c a) (hc : Chg T base w0 w) (ht : ∀ e, e ∈ TA → e ≠ t) (ht2 : t ≠ TRng) (hbs : base ≤ w0.heap.size) (hg : w0.heap.size ≤ g) :
    Blk ((w.setCell ⟨g, 0, none⟩ y0).setCell ⟨g, 1, none⟩ y1) g t #[y0, y1] ∧ AuAt ((w.setCell ⟨g, 0, none⟩ y0).setCell ⟨g, 1, none⟩ y1) base A n c a ∧ Chg T base w0 ((w.setCell ⟨g, 0, none⟩ y0).setCell ⟨g, 1, none⟩ y1) :=
  ⟨(hb.set 0 y0).set 1 y1, (ha.setFar hb ht ht2 (by omega)).setFar (hb.set 0 y0) ht ht2 (by omega), (hc.set hg).set hg⟩
end Go.Proofs.YtcmmmgblkbbdnaaGreatDoor
