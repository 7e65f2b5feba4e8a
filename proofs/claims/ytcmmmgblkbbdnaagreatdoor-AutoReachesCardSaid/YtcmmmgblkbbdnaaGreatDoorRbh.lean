/- Walks: the reader's take (a byte below 128). PUT1 -/
import Derived.Test.YtcmmmgblkbbdnaaGreatDoorRd4h
import Derived.Test.YtcmmmgblkbbdnaaGreatDoorAuh
namespace Go.Proofs.YtcmmmgblkbbdnaaGreatDoor
open Go.RowKit Pv

set_option maxHeartbeats 1000000 in
set_option maxRecDepth 100000 in
theorem rd_take (R : Nat) (b : UInt8) (r : Bs) (wd : Bool) (sno : ByteArray) (w : World) (h : RdS w R (b :: r) wd) (hb : b.toNat < 128) (hno : Lib.indexByte sno.data.toList b = -1) (hl : r.length ≤ 100000) :
    Calls Tryz.prog 150 #[.pointer (some ⟨R, 0, none⟩), .string sno] w fun e w' => e = .returned (.int .i64 b.toNat) ∧ RdS w' R r wd ∧ Only R w w' := by
  obtain ⟨s, hs, HB, hlt, p0, p1, f0, f1⟩ := h.cells
  have hsz : s.size = r.length + 1 := by rw [← bsl_len, hs.out]; rfl
  have h1 : 0 < s.size := by omega
  have h1' : s.size ≤ 140737488355328 := by omega
  have h2 : s[0]'h1 = b := by
    have : (bsl s)[0]? = some b := by rw [hs.out]; rfl
    have h3 : (bsl s)[0]? = some (s[0]'h1) := by
      simp only [bsl]
      rw [Array.getElem?_toList]
      exact Array.getElem?_eq_getElem _
    rw [h3] at this
    exact Option.some.inj this
  have HN := Lib.hid (text_Next s b w (by rw [hs.out]; rfl) hb (by omega))
  have H2 := Lib.hid h2
  have HSZ := Lib.hid hsz
  have hno' := Lib.hid hno
  clear h h2 hsz hno
  go_enter Tryz.func150, Tryz.ntmps150
  go_wp2_with fail
  refine HN.out.mono ?_
  rintro e w' ⟨rfl, rfl⟩
  have HI := Lib.hid (Tryz.strings_IndexByte sno (b.toNat : Int) w)
  rw [show ((b.toNat : Int)).toNat.toUInt8 = b by simp, hno'.out] at HI
  go_wp2_with fail
  rw [H2.out]
  refine HI.out.mono ?_
  rintro e w' ⟨rfl, hw⟩
  have hw2 := hw.symm
  subst hw2
  clear hw
  go_wp2
  go_ret
  refine ⟨rfl, ⟨_, ?_, HB.out.set 0 _⟩, (Only.refl R w).set 0 _⟩
  have e := hs.out
  have e2 := HSZ.out
  simp only [bsl] at e ⊢
  rw [ByteArray.data_extract, Array.toList_extract, e, e2]
  simp [List.extract]
end Go.Proofs.YtcmmmgblkbbdnaaGreatDoor

namespace Go.Proofs.YtcmmmgblkbbdnaaGreatDoor
open Go.RowKit Pv
/-- What a method that reads nodes leaves: the nodes, the rest, the mark. -/
def RdP (R : Nat) (w : World) (t : List Rx) (l : Bs) (wd : Bool) (e : Ending) (w' : World) : Prop :=
  ∃ A n c, e = .returned (.slice A n c) ∧ OwnRx w' (R + 1) (.slice A n c) t ∧ RdS w' R l wd ∧ Only R w w'

set_option maxHeartbeats 1000000 in
set_option maxRecDepth 100000 in
theorem rd_group (R : Nat) (w : World) (t : List Rx) (l l2 : Bs) (wd : Bool) (hr : Calls Tryz.prog 51 #[.pointer (some ⟨R, 0, none⟩)] w (RdP R w t l wd)) (hc : isB 41 l = some l2) :
    Calls Tryz.prog 147 #[.pointer (some ⟨R, 0, none⟩)] w (RdP R w t l2 wd) := by
  have HR := Lib.hid hr; have HC := Lib.hid hc
  clear hr hc
  go_enter Tryz.func147, Tryz.ntmps147
  go_wp2_with fail
  refine HR.out.mono ?_
  rintro e w1 ⟨A, n, c, rfl, h1, h2, h3⟩
  have H1 := Lib.hid h1; have H2 := Lib.hid h2; have H3 := Lib.hid h3
  have HM := Lib.hid (rd_must R l l2 wd 41 w1 h2 HC.out)
  clear h1 h2 h3
  go_wp2_with fail
  refine HM.out.mono ?_
  rintro e w2 ⟨rfl, h4, h5⟩
  have H4 := Lib.hid h4; have H5 := Lib.hid h5
  clear h4 h5
  go_wp2
  go_ret
  exact ⟨A, n, c, rfl, only_rx H5.out H2.out H1.out, H4.out, H3.out.step H5.out⟩
end Go.Proofs.YtcmmmgblkbbdnaaGreatDoor

namespace Pv
open Go Go.RowKit
theorem Only.grown {w w' w'' : World} {R : Nat} {row : Option Nat} (h : Only R w w') (hg : w'.grownBy w'' row) (hrow : ∀ k, row = some k → w.heap.size ≤ k) : Only R w w'' :=
  ⟨hg.os.trans h.os, hg.tape.trans h.tape, hg.output.trans h.output, Nat.le_trans h.size hg.size, fun b hb hne => (hg.block b (Nat.lt_of_lt_of_le hb h.size) (fun e => by have := hrow b e.symm; omega)).trans (h.block b hb hne)⟩
theorem Only.alloc {w w' : World} {R : Nat} (h : Only R w w') (o : Obj) : Only R w (w'.alloc o) := h.then ((Below.refl _ _).alloc (Nat.le_refl _) o)
end Pv
namespace Go.Proofs.YtcmmmgblkbbdnaaGreatDoor
open Go.RowKit Pv
abbrev TNx : TypeId := 37
abbrev TRL : TypeId := 23
abbrev TRg : TypeId := 93
section
variable {w w' : World} {R B b : Nat} {l : Bs} {wd : Bool} {v : Value} {t : List Rx} {ll : List (List Rx)}
theorem rx_below (h : OwnRx w b v t) (k : Below w.heap.size w w') : OwnRx w' b v t := (OwnK.below h k).monoR fun _ _ _ hx => hx.up fun _ _ hs => OwnK.below hs k
theorem rx_alloc (h : OwnRx w b v t) (o : Obj) : OwnRx (w.alloc o) b v t := rx_below h ((Below.refl _ _).alloc (Nat.le_refl _) o)
theorem rx_grown {b' s n : Nat} {e : TypeId} {rv : Value} {us : List Value} (h : OwnRx w b v t) (hr : w.ownsRow b' e s rv n us) (h1 : TNx ≠ e) (h2 : TRg ≠ e) (hg : w.grownBy w' rv.ownBlock) : OwnRx w' b v t :=
  (OwnK.grown h hr h1 hg).monoR fun _ _ _ hx => hx.up fun _ _ hs => OwnK.grown hs hr h2 hg
theorem rx_far {g i : Nat} {e : TypeId} {cs : Array Value} {u : Value} (h : OwnRx w b v t) (hb : Blk w g e cs) (h1 : TNx ≠ e) (h2 : TRg ≠ e) : OwnRx (w.setCell ⟨g, i, none⟩ u) b v t :=
  (OwnK.setFar h hb h1 i u).monoR fun _ _ _ hx => hx.up fun _ _ hs => OwnK.setFar hs hb h2 i u
theorem rx_lower {b' : Nat} (h : OwnRx w b v t) (hb : b' ≤ b) : OwnRx w b' v t := (OwnK.lower h hb).monoR fun _ _ _ hx => ⟨hx.kind, OwnK.lower hx.set hb, hx.many, hx.least, hx.most⟩
/-- A list of lists of nodes: its row lies from B on, the nodes and their sets from b on. -/
def OwnRows (w : World) (B b : Nat) (v : Value) (ll : List (List Rx)) : Prop := Own w B TRL (fun u t => OwnRx w b u t) v ll
theorem OwnRows.nil (w : World) (B b : Nat) : OwnRows w B b (.slice none 0 0) [] := Own.nil
theorem only_rows (k : Only R w w') (hr : RdS w R l wd) (h : OwnRows w B b v ll) : OwnRows w' B b v ll := by
  obtain ⟨A, c, us, rfl, h1, h2⟩ := h
  have h3 := hr
  obtain ⟨_, _, hb⟩ := h3
  exact ⟨A, c, us, rfl, k.own hb (by decide) h1, h2.mono fun _ _ h => only_rx k hr h⟩
theorem rows_below (h : OwnRows w B b v ll) (k : Below w.heap.size w w') : OwnRows w' B b v ll := by
  obtain ⟨A, c, us, rfl, h1, h2⟩ := h
  exact ⟨A, c, us, rfl, ownsRow_below h1 k, h2.mono fun _ _ h => rx_below h k⟩
/-- One list more. -/
theorem rows_push {A A' : Option Addr} {c c' k : Nat} {us : List Value} {u : Value} (h1 : w.ownsRow B TRL 1 (.slice A k c) k us) (h2 : Rel (fun u t => OwnRx w b u t) us ll) (hk : ll.length = k)
    (hu : OwnRx w b u t) (own : w'.ownsRow B TRL 1 (.slice A' (k + 1) c') (k + 1) (us ++ [u])) (gr : (w.alloc (.cells #[u] TRL)).grownBy w' (Value.slice A k c).ownBlock) :
    OwnRows w' B b (.slice A' (k + 1) c') (ll ++ [t]) := by
  have hb : Below w.heap.size w (w.alloc (.cells #[u] TRL)) := (Below.refl _ _).alloc (Nat.le_refl _) _
  have one : ∀ u t, OwnRx w b u t → OwnRx w' b u t := fun u t h => rx_grown (rx_below h hb) (ownsRow_below h1 hb) (by decide) (by decide) gr
  exact ⟨A', c', us ++ [u], by simp [hk], by rw [List.length_append, hk]; exact own, Rel.app (h2.mono fun u t h => one u t h) (Rel.one (one u t hu))⟩
/-- A list of these. -/
theorem rows_get {k : Nat} (h : OwnRows w B b v ll) (hk : ll[k]? = some t) : ∃ g n c u, v = .slice (some ⟨g, 0, none⟩) n c ∧ n = ll.length ∧ g < w.heap.size ∧ w.cell? ⟨g, k, none⟩ = some u ∧ OwnRx w b u t := by
  obtain ⟨A, c, us, rfl, h1, h2⟩ := h
  have hl : k < us.length := by rw [h2.1]; exact lt_of_get hk
  obtain ⟨g, rfl, hg, hc⟩ := own_get1 h1 (List.getElem?_eq_getElem hl)
  exact ⟨g, _, c, _, rfl, rfl, hg, hc, h2.2 k _ _ (List.getElem?_eq_getElem hl) hk⟩
theorem rows_shape (h : OwnRows w B b v ll) : ∃ A c us, v = .slice A ll.length c ∧ w.ownsRow B TRL 1 (.slice A ll.length c) ll.length us ∧ Rel (fun u t => OwnRx w b u t) us ll := h
end
end Go.Proofs.YtcmmmgblkbbdnaaGreatDoor
