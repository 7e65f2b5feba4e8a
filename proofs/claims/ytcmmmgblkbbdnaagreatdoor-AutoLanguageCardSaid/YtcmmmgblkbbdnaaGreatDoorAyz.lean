/- Walks: the document's free edges. -/
import Derived.Test.YtcmmmgblkbbdnaaGreatDoorAnz
import Derived.Test.YtcmmmgblkbbdnaaGreatDoorQvz
import Derived.Test.YtcmmmgblkbbdnaaGreatDoorTbz
namespace Go.Proofs.YtcmmmgblkbbdnaaGreatDoor
open Go.RowKit Pv

theorem SetIn.nil (w : World) (base : Nat) : SetIn w base (.slice none 0 0) [] := ⟨none, 0, rfl, AtK.nil, by simp, fun h => by simp at h⟩

end Go.Proofs.YtcmmmgblkbbdnaaGreatDoor

namespace Go.Proofs.YtcmmmgblkbbdnaaGreatDoor
open Go.RowKit Pv

end Go.Proofs.YtcmmmgblkbbdnaaGreatDoor

namespace Go.Proofs.YtcmmmgblkbbdnaaGreatDoor
open Go.RowKit Pv

theorem SetIn.old {w0 W : World} {base c m : Nat} {A : Option Addr} {l : List Rng} (h : AtSet w0 A l) (k : Keep w0 W) (hb : w0.heap.size ≤ base) (hm : l.length = m) (hc : m ≤ c) : SetIn W base (.slice A m c) l := by
  subst hm
  refine ⟨A, c, rfl, AtK.keep h k, hc, fun hp b o e => .inl ?_⟩
  obtain ⟨b', o', e', hlt, _⟩ := h.2 hp
  rw [e] at e'
  injection e' with e'
  injection e' with e1 _
  omega
theorem TA_rx : ∀ e, e ∈ TA → e ≠ 37 := by decide
theorem Blk.five {w : World} {g : Nat} {t : TypeId} {a b c d e : Value} (h : Blk w g t #[a, b, c, d, e]) : w.cell? ⟨g, 0, none⟩ = some a ∧ w.cell? ⟨g, 1, none⟩ = some b ∧ w.cell? ⟨g, 2, none⟩ = some c ∧ w.cell? ⟨g, 3, none⟩ = some d ∧ w.cell? ⟨g, 4, none⟩ = some e :=
  ⟨h.cell 0, h.cell 1, h.cell 2, h.cell 3, h.cell 4⟩

end Go.Proofs.YtcmmmgblkbbdnaaGreatDoor

namespace Go.Proofs.YtcmmmgblkbbdnaaGreatDoor
open Go.RowKit Pv

abbrev TInt : TypeId := 3
theorem TA_int : ∀ e, e ∈ TA → e ≠ TInt := by decide
theorem ownsRow_chg {T : List TypeId} {base : Nat} {w w' : World} {b e s n : Nat} {v : Value} {us : List Value} (h : w.ownsRow b e s v n us) (hc : Chg T base w w') (ht : ∀ t, t ∈ T → t ≠ e) : w'.ownsRow b e s v n us := by
  refine ⟨h.1, ?_⟩
  rcases h.2 with h2 | ⟨g, cap, cur, hv, hg, hh, r⟩
  · exact .inl h2
  · have hb : Blk w g e cur := hh
    exact .inr ⟨g, cap, cur, hv, hg, hc.blk hb ht, r⟩
theorem own_get {w : World} {b e n k c : Nat} {A : Option Addr} {us : List Value} {u : Value} (h : w.ownsRow b e 1 (.slice A n c) n us) (hk : us[k]? = some u) : ∃ g, A = some ⟨g, 0, none⟩ ∧ g < w.heap.size ∧ w.cell? ⟨g, k, none⟩ = some u := by
  rcases h.2 with ⟨hv, h0⟩ | ⟨g, cap, cur, hv, hg, hh, hnc, hcm, hcs, htk⟩
  · have := h.1; have := lt_of_get hk; omega
  · injection hv with e1 e2 e3
    subst e1
    have hb : Blk w g e cur := hh
    refine ⟨g, rfl, hb.lt, ?_⟩
    rw [hb.cell k]
    rw [← htk, List.getElem?_take] at hk
    split at hk
    · simpa using hk
    · cases hk
end Go.Proofs.YtcmmmgblkbbdnaaGreatDoor

namespace Go.Proofs.YtcmmmgblkbbdnaaGreatDoor
open Go.RowKit Pv

theorem Chg.grow {T : List TypeId} {base : Nat} {w W W' : World} {row : Option Nat} (h : Chg T base w W) (g : W.grownBy W' row) (hr : ∀ k, row = some k → w.heap.size ≤ k) : Chg T base w W' :=
  ⟨g.os.trans h.os, g.tape.trans h.tape, g.output.trans h.output, Nat.le_trans h.size g.size, fun b hb hc => (g.block b (Nat.lt_of_lt_of_le hb h.size) (fun e => by have := hr b e.symm; omega)).trans (h.block b hb hc)⟩
theorem AuAt.grow {W W' : World} {base n c e0 m : Nat} {A : Option Addr} {a : Au} {v : Value} {us : List Value} (h : AuAt W base A n c a) (hv : W.ownsRow e0 TInt 1 v m us) (hb : base ≤ e0) (g : W.grownBy W' v.ownBlock) : AuAt W' base A n c a := by
  obtain ⟨rows, h1, h2⟩ := h
  refine ⟨rows, h1.kept g (own_ne h1 hv (by decide)), h2.len, h2.n, fun i es he => ?_, h2.ne⟩
  obtain ⟨r, hr, A', c', us', rfl, ow, hk⟩ := h2.row i es he
  refine ⟨_, hr, A', c', us', rfl, ow.kept g (own_ne ow hv (by decide)), hk.mono fun f x _ hx => ⟨hx.1, hx.2, ?_⟩⟩
  obtain ⟨S, sc, e, hs, hl, hh⟩ := hx.3
  have key : ∀ b o, S = some ⟨b, o, none⟩ → 0 < x.set.length → b < W.heap.size → W'.heap[b]? = W.heap[b]? := fun b o e hp hlt => by
    refine g.block b hlt fun e' => ?_
    rcases hh hp b o e with h3 | ⟨cs, h3⟩
    · have := (hv.lt b e'.symm).1; omega
    · exact own_blk_ne (t := TRng) (cs := cs) hv h3 (by decide) e'
  refine ⟨S, sc, e, AtK.chg hs g.size key, hl, fun hp b o e => ?_⟩
  rcases hh hp b o e with h3 | ⟨cs, h3⟩
  · exact .inl h3
  · obtain ⟨b', o', e', hlt, _⟩ := hs.2 hp
    rw [e] at e'
    injection e' with e'
    injection e' with e1 _
    subst e1
    exact .inr ⟨cs, (key b o e hp hlt).trans h3⟩

/-- The variables of leading, with ends under way. -/
structure LG (w wr : World) (base : Nat) (acc : Int) (A : Option Addr) (n c : Nat) (a : Au) (x : Array Value) (e0 : Nat) (EA : Option Addr) (ne ec : Nat) (es : List Int) : Prop where
  b0 : Blk wr w.heap.size TAuto #[.slice A n c, .int .i64 acc]
  b1 : Blk wr (w.heap.size + 1) TAuto #[.slice none 0 0, .int .i64 0]
  bx : Blk wr (w.heap.size + 1 + 1) 37 x
  au : AuAt wr base A n c a
  ow : wr.ownsRow e0 TInt 1 (.slice EA ne ec) ne (es.map (Value.int .i64))
  ch : Chg TA base w wr
section
variable {w wr w' : World} {base n c e0 ne ec : Nat} {acc : Int} {A EA : Option Addr} {a : Au} {x : Array Value} {es : List Int}
theorem LG.below (h : LG w wr base acc A n c a x e0 EA ne ec es) (hb : Below wr.heap.size wr w') : LG w w' base acc A n c a x e0 EA ne ec es :=
  ⟨h.b0.below hb h.b0.lt, h.b1.below hb h.b1.lt, h.bx.below hb h.bx.lt, h.au.next hb, ownsRow_below h.ow hb, h.ch.then hb⟩
/-- one end more -/
theorem LG.push {EA' : Option Addr} {ec' : Nat} {e : Int} (h : LG w wr base acc A n c a x e0 EA ne ec es) (hb : base ≤ e0) (hw : w.heap.size ≤ e0) (g : wr.grownBy w' (Value.slice EA ne ec).ownBlock) (own : w'.ownsRow e0 TInt 1 (.slice EA' (ne + 1) ec') (ne + 1) (es.map (Value.int .i64) ++ [.int .i64 e])) :
    LG w w' base acc A n c a x e0 EA' (ne + 1) ec' (es ++ [e]) :=
  ⟨h.b0.grown g (own_blk_ne h.ow h.b0 (by decide)), h.b1.grown g (own_blk_ne h.ow h.b1 (by decide)), h.bx.grown g (own_blk_ne h.ow h.bx (by decide)), h.au.grow h.ow hb g, by simpa using own, h.ch.grow g fun k hk => Nat.le_trans hw (h.ow.lt k hk).1⟩
/-- what the box of the automaton is turned to, behind a callee -/
theorem LG.call {A' : Option Addr} {n' c' : Nat} {a' : Au} (h : LG w wr base acc A n c a x e0 EA ne ec es) (hb : base ≤ w.heap.size) (hc : Chg TA base wr w') (au : AuAt w' base A' n' c' a') :
    LG w ((w'.setCell ⟨w.heap.size, 0, none⟩ (.slice A' n' c')).setCell ⟨w.heap.size, 1, none⟩ (.int .i64 acc)) base acc A' n' c' a' x e0 EA ne ec es := by
  have B0 := hc.blk h.b0 TA_auto
  have B1 := hc.blk h.b1 TA_auto
  have BX := hc.blk h.bx TA_rx
  have OW := ownsRow_chg h.ow hc TA_int
  have S2 := store2 (.slice A' n' c') (.int .i64 acc) B0 au (h.ch.trans hc) TA_auto (by decide) hb (Nat.le_refl _)
  exact ⟨S2.1, (B1.far (p := ⟨w.heap.size, 0, none⟩) (by simp) _).far (p := ⟨w.heap.size, 1, none⟩) (by simp) _, (BX.far (p := ⟨w.heap.size, 0, none⟩) (by simp; omega) _).far (p := ⟨w.heap.size, 1, none⟩) (by simp; omega) _, S2.2.1, ownsRow_setFar (ownsRow_setFar OW B0 (by decide) 0 _) (B0.set 0 _) (by decide) 1 _, S2.2.2⟩
end

/-- behind a callee that leaves the header as it is -/
theorem LG.same {w wr w' : World} {base n c e0 ne ec : Nat} {acc : Int} {A EA : Option Addr} {a a' : Au} {x : Array Value} {es : List Int} (h : LG w wr base acc A n c a x e0 EA ne ec es) (hc : Chg TA base wr w') (au : AuAt w' base A n c a') : LG w w' base acc A n c a' x e0 EA ne ec es :=
  ⟨hc.blk h.b0 TA_auto, hc.blk h.b1 TA_auto, hc.blk h.bx TA_rx, au, ownsRow_chg h.ow hc TA_int, h.ch.trans hc⟩
/-- .. with what a callee has left in a new box, wherever that lies -/
structure LM (w wr : World) (base : Nat) (acc : Int) (A : Option Addr) (n c : Nat) (A' : Option Addr) (n' c' : Nat) (a' : Au) (x : Array Value) (e0 : Nat) (EA : Option Addr) (ne ec : Nat) (es : List Int) (bb : Nat) : Prop where
  b0 : Blk wr w.heap.size TAuto #[.slice A n c, .int .i64 acc]
  b1 : Blk wr (w.heap.size + 1) TAuto #[.slice none 0 0, .int .i64 0]
  bx : Blk wr (w.heap.size + 1 + 1) 37 x
  au : AuAt wr base A' n' c' a'
  ow : wr.ownsRow e0 TInt 1 (.slice EA ne ec) ne (es.map (Value.int .i64))
  ch : Chg TA base w wr
  bb : Blk wr bb TAuto #[.slice A' n' c', .int .i64 acc]
section
variable {w wr w5 : World} {base n c e0 ne ec : Nat} {acc : Int} {A EA : Option Addr} {a : Au} {x : Array Value} {es : List Int} {A' : Option Addr} {n' c' : Nat} {a' : Au}
/-- the box's contents put where the automaton lies -/
theorem LM.put {bb : Nat} (h : LM w wr base acc A n c A' n' c' a' x e0 EA ne ec es bb) (hb : base ≤ w.heap.size) :
    LG w ((wr.setCell ⟨w.heap.size, 0, none⟩ (.slice A' n' c')).setCell ⟨w.heap.size, 1, none⟩ (.int .i64 acc)) base acc A' n' c' a' x e0 EA ne ec es := by
  have S2 := store2 (.slice A' n' c') (.int .i64 acc) h.b0 h.au h.ch TA_auto (by decide) hb (Nat.le_refl _)
  exact ⟨S2.1, (h.b1.far (p := ⟨w.heap.size, 0, none⟩) (by simp) _).far (p := ⟨w.heap.size, 1, none⟩) (by simp) _, (h.bx.far (p := ⟨w.heap.size, 0, none⟩) (by simp; omega) _).far (p := ⟨w.heap.size, 1, none⟩) (by simp; omega) _, S2.2.1, ownsRow_setFar (ownsRow_setFar h.ow h.b0 (by decide) 0 _) (h.b0.set 0 _) (by decide) 1 _, S2.2.2⟩
end

end Go.Proofs.YtcmmmgblkbbdnaaGreatDoor

namespace Go.Proofs.YtcmmmgblkbbdnaaGreatDoor
open Go.RowKit Pv

end Go.Proofs.YtcmmmgblkbbdnaaGreatDoor

namespace Go.Proofs.YtcmmmgblkbbdnaaGreatDoor
open Go.RowKit Pv

end Go.Proofs.YtcmmmgblkbbdnaaGreatDoor

namespace Go.Proofs.YtcmmmgblkbbdnaaGreatDoor
open Go.RowKit Pv

/-- Not too many states? -/
def Few (T : Tr) : Prop := 1 + statesT T ≤ 256
theorem AuAt.start (w : World) (base : Nat) (h : base ≤ w.heap.size) : AuAt (w.alloc (.cells #[.slice none 0 0] TRow)) base (some ⟨w.heap.size, 0, none⟩) 1 1 [[]] := by
  refine ⟨[.slice none 0 0], ⟨rfl, .inr ⟨w.heap.size, 1, #[.slice none 0 0], rfl, h, Blk.new w TRow #[.slice none 0 0], by omega, by simp only [maxLen]; omega, rfl, rfl⟩⟩, rfl, rfl, fun i es he => ?_, fun i j r r' hij hr hr' => ?_⟩
  · match i with
    | 0 => simp at he; subst he; exact ⟨_, rfl, OwnK.nil⟩
    | i + 1 => simp at he
  · match i, hr with
    | 0, hr => simp at hr; subst hr; exact .inl rfl

/-- Whether there is an automaton, and which, or the error. -/
def BuildPost (t : List Rx) (w : World) (e : Ending) (w' : World) : Prop :=
  Below w.heap.size w w' ∧ ((¬ Pat t ∧ e = .returned (.tuple #[.agg #[.slice none 0 0, .int .i64 0], .int .i64 8])) ∨
    (Pat t ∧ ∃ T : Tr, T.Ok 16 ∧ t = T.flat ∧ ((¬ Few T ∧ e = .returned (.tuple #[.agg #[.slice none 0 0, .int .i64 0], .int .i64 90])) ∨
      (Few T ∧ ∃ A' n' c', e = .returned (.tuple #[.agg #[.slice A' n' c', .int .i64 (leadT T [[]] 0).2], .int .i64 0]) ∧ AuAt w' w.heap.size A' n' c' (leadT T [[]] 0).1))))

end Go.Proofs.YtcmmmgblkbbdnaaGreatDoor
