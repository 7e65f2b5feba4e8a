/- Walks: is that the automaton of a pattern's text? (laws of the automata's chapter): set, is. PUT1 -/
import Derived.Test.YtilhicefhhgecaaGreatDoorRpn
import Derived.Test.YtilhicefhhgecaaGreatDoorBvn
import Derived.Test.YtilhicefhhgecaaGreatDoorHsn
import Derived.Test.YtilhicefhhgecaaGreatDoorPdn
import Derived.Test.YtilhicefhhgecaaGreatDoorQvn
import Derived.RegionTactic
import Derived.Test.YtilhicefhhgecaaGreatDoorGnn
import Derived.Test.YtilhicefhhgecaaGreatDoorWjn
import Derived.Test.YtilhicefhhgecaaGreatDoorO14n
namespace Pv
open Go Go.RowKit
theorem At.ofBlk {α : Type} {w : World} {g : Nat} {t : TypeId} {cs : Array Value} {R : Value → α → Prop} {xs : List α} (h : Blk w g t cs) (hr : Rel R cs.toList xs) (hl : xs.length ≤ 100000) : At w (some ⟨g, 0, none⟩) R xs := by
  refine ⟨by omega, fun _ => ⟨g, 0, rfl, h.lt, fun i x hx => ?_⟩⟩
  have hi : i < cs.toList.length := by rw [hr.1]; exact lt_of_get hx
  refine ⟨cs.toList[i], ?_, hr.2 i _ x (List.getElem?_eq_getElem hi) hx⟩
  rw [h.cell (0 + i), Nat.zero_add, ← Array.getElem?_toList, List.getElem?_eq_getElem hi]
end Pv
namespace Go.Proofs.YtilhicefhhgecaaGreatDoor
open Go.RowKit Pv

theorem known_build {T : Tr} {r : Au × Int × Int} (h : Known T) (hb : BR T.flat r) : r = ((leadT T [[]] 0).1, (((leadT T [[]] 0).2 : Nat) : Int), 0) :=
  BR.one hb (.inr ⟨h.pat, T, h.ok, rfl, .inr ⟨h.few, rfl⟩⟩)
/-- What the program's Build leaves, read. -/
theorem PBuild.read {t : List Rx} {w w' : World} {e : Ending} (h : PBuild t w e w') : Below w.heap.size w w' ∧ ∃ r A n c, BR t r ∧ e = .returned (.tuple #[.agg #[.slice A n c, .int .i64 r.2.1], .int .i64 r.2.2]) ∧ AtAu w' A r.1 ∧ r.1.length = n := by
  obtain ⟨hb, r, hbr, A, n, c, rfl, au⟩ := h.one
  obtain ⟨h1, h2⟩ := hbr.few
  have hn : n = r.1.length := by obtain ⟨rows, _, h2⟩ := au; exact h2.n
  exact ⟨hb, r, A, n, c, hbr, rfl, au.reads (by omega) (by omega), hn.symm⟩

end Go.Proofs.YtilhicefhhgecaaGreatDoor

namespace Pv
open Go Go.RowKit
/-- What is built of a known tree, reckoned. -/
def subB (T : Tr) (D : Dfa) : Bool := decide ((allSets (leadT T [[]] 0).1).length ≤ 256) && decide (plcL (allSets (leadT T [[]] 0).1) = D.cuts) && decide (D.cuts.length ≤ 256) && decide (madeC (leadT T [[]] 0).1 (((leadT T [[]] 0).2 : Nat) : Int) D.cuts = some (some (D.next, D.accept)))
theorem subB_is {T : Tr} {D : Dfa} (h : Known T) (hb : subB T D = true) : Out (leadT T [[]] 0).1 (((leadT T [[]] 0).2 : Nat) : Int) D 0 := by
  unfold subB at hb
  simp only [Bool.and_eq_true, decide_eq_true_eq] at hb
  obtain ⟨⟨⟨h1, h2⟩, h3⟩, h4⟩ := hb
  have hf : FitD (leadT T [[]] 0).1 (((leadT T [[]] 0).2 : Nat) : Int) := ⟨lead_ok h.ok h.few, h1, by rw [h2]; exact h3⟩
  have hm := madeC_is h4
  rw [← h2] at hm
  have := Out.made hf hm
  rwa [h2] at this
/-- All but one block's cells stay. -/
structure KeepBut (g : Nat) (w w' : World) : Prop where
  size : w.heap.size ≤ w'.heap.size
  cell : ∀ b o, b < w.heap.size → b ≠ g → w'.cell? ⟨b, o, none⟩ = w.cell? ⟨b, o, none⟩
theorem KeepBut.refl (g : Nat) (w : World) : KeepBut g w w := ⟨Nat.le_refl _, fun _ _ _ _ => rfl⟩
theorem KeepBut.set {g : Nat} {w w' : World} (h : KeepBut g w w') (i : Nat) (v : Value) : KeepBut g w (w'.setCell ⟨g, i, none⟩ v) :=
  ⟨by simpa using h.size, fun b o hb hne => (World.cell?_of_block (a := ⟨b, o, none⟩) (Below.heap_setCell w' ⟨g, i, none⟩ v b hne)).trans (h.cell b o hb hne)⟩
theorem At.but {α : Type} {w w' : World} {g : Nat} {A : Option Addr} {R R' : Value → α → Prop} {xs : List α} (h : At w A R xs) (k : KeepBut g w w') (hne : ∀ o u x, x ∈ xs → R u x → w.cell? ⟨g, o, none⟩ ≠ some u) (hr : ∀ u x, x ∈ xs → R u x → R' u x) : At w' A R' xs :=
  ⟨h.1, fun hp => by
    obtain ⟨b, off, e, hb, hc⟩ := h.2 hp
    have hbg : b ≠ g := by
      rintro rfl
      obtain ⟨u, hu, hR⟩ := hc 0 xs[0] (List.getElem?_eq_getElem hp)
      exact hne _ u _ (List.getElem_mem hp) hR hu
    exact ⟨b, off, e, Nat.lt_of_lt_of_le hb k.size, fun i x hx => by
      obtain ⟨u, hu, hR⟩ := hc i x hx
      exact ⟨u, (k.cell _ _ hb hbg).trans hu, hr u x (mem_of_get hx) hR⟩⟩⟩
/-- Three nils in a box: nothing of a Dfa lies there. -/
theorem DfaAt.box {w w' : World} {g : Nat} {t : TypeId} {A1 A2 A3 : Option Addr} {n1 n2 n3 : Nat} {d : Dfa} (h : DfaAt w A1 A2 A3 n1 n2 n3 d) (hok : d.Ok) (hb : Blk w g t #[.slice none 0 0, .slice none 0 0, .slice none 0 0]) (k : KeepBut g w w') : DfaAt w' A1 A2 A3 n1 n2 n3 d := by
  have key : ∀ o u, w.cell? ⟨g, o, none⟩ = some u → u = .slice none 0 0 := fun o u hu => by
    rw [hb.cell o] at hu
    rcases o with _ | _ | _ | o
    · simpa using hu.symm
    · simpa using hu.symm
    · simpa using hu.symm
    · simp at hu
  have int : ∀ o u (x : Int), RI u x → w.cell? ⟨g, o, none⟩ ≠ some u := fun o u x hx hu => by
    have := key o u hu
    rw [hx.1] at this
    cases this
  refine ⟨h.c.but k (fun o u x _ hx => int o u x hx) (fun _ _ _ h => h), h.n.but k (fun o u r hr hR hu => ?_) (fun u r _ hR => ?_), h.a.but k (fun o u x _ hx hu => ?_) (fun _ _ _ h => h), h.hc, h.hn, h.ha⟩
  · have := key o u hu
    obtain ⟨A, c, rfl, _, _⟩ := hR
    injection this with _ e _
    obtain ⟨i, hi⟩ := List.getElem?_of_mem hr
    have := hok.rl i r hi
    have := hok.c1
    omega
  · obtain ⟨A, c, e, hA, hc⟩ := hR
    exact ⟨A, c, e, hA.but k (fun o u x _ hx => int o u x hx) (fun _ _ _ h => h), hc⟩
  · have := key o u hu
    cases hx
    cases this
end Pv
namespace Go.Proofs.YtilhicefhhgecaaGreatDoor
open Go.RowKit Pv
/-- An automaton that goes one way handed back, with a mark. -/
def DfaB (w : World) (D : Dfa) (q : Bool) (e : Ending) (w' : World) : Prop := ∃ A1 n1 c1 A2 n2 c2 A3 n3 c3, e = .returned (.tuple #[.agg #[.slice A1 n1 c1, .slice A2 n2 c2, .slice A3 n3 c3], .bool q]) ∧ DfaAt w' A1 A2 A3 n1 n2 n3 D ∧ Below w.heap.size w w'

set_option maxHeartbeats 2000000 in
set_option maxRecDepth 100000 in
theorem law10_of (t : ByteArray) (T : Tr) (D : Dfa) (w : World) (B : Nat) (h : Tells (bsl t) T) (hD : Out (leadT T [[]] 0).1 (((leadT T [[]] 0).2 : Nat) : Int) D 0) (hok : D.Ok) (hT : TabU B w) (hB : B ≤ w.heap.size) :
    Calls Tryz.prog 11 #[.string t] w (DfaB w D true) := by
  have hW : Below w.heap.size w (w.alloc (.cells #[.slice none 0 0, .slice none 0 0, .slice none 0 0] TDfa)) := (Below.refl _ _).alloc (Nat.le_refl _) _
  have HW := Lib.hid hW
  have K0 := Lib.hid (Blk.new w TDfa #[.slice none 0 0, .slice none 0 0, .slice none 0 0])
  have HP := Lib.hid (pattern_Parse t T _ B h h.plain (hT.then hW hB) (by simp; omega))
  have HT := Lib.hid h
  have HD := Lib.hid hD; have HOK := Lib.hid hok
  obtain ⟨nt, hnt⟩ : ∃ nt, T.flat.length = nt := ⟨_, rfl⟩
  have HN := Lib.hid hnt
  have hn : nt ≤ 64 := by rw [← hnt]; exact h.known.size
  clear h hT hB hnt hW hD hok
  go_enter Tryz.func11, Tryz.ntmps11
  go_wp2_with fail
  refine HP.out.mono ?_
  rintro e w1 ⟨A1, c1, rfl, k1, k2⟩
  have HB1 := Lib.hid (HW.out.trans (k2.mono HW.out.size))
  have K1 := Lib.hid (K0.out.below k2 (by simp))
  have HAT := Lib.hid (rx_at k1 (by rw [HN.out]; omega) HT.out.sets)
  rw [HN.out]
  clear k1 k2
  have HBU := Lib.hid (auto_Build A1 nt c1 T.flat w1 HAT.out HN)
  go_wp2_with fail
  refine HBU.out.mono ?_
  intro e w2 hpb
  obtain ⟨k2, r, A2, n2, c2, hbr, rfl, hau, hl2⟩ := hpb.read
  obtain rfl := known_build HT.out.known hbr
  have HB2 := Lib.hid (HB1.out.trans (k2.mono HB1.out.size))
  have K2 := Lib.hid (K1.out.below k2 K1.out.lt)
  have HL2 := Lib.hid hl2
  obtain ⟨acc, hacc⟩ : ∃ acc : Int, (((leadT T [[]] 0).2 : Nat) : Int) = acc := ⟨_, rfl⟩
  rw [hacc] at HD
  simp only [hacc]
  have hb3 : Below w2.heap.size w2 (w2.alloc (.cells #[.slice A2 n2 c2, .int .i64 acc] TAuto)) := (Below.refl _ _).alloc (Nat.le_refl _) _
  have HB3 := Lib.hid (HB2.out.trans (hb3.mono HB2.out.size))
  have K3 := Lib.hid (K2.out.below hb3 K2.out.lt)
  have HSU := Lib.hid (subset_Build A2 c2 n2 acc (leadT T [[]] 0).1 _ (AtAu.keep hau (Keep.of hb3)) HL2)
  clear hpb k2 hbr hau hl2 hb3 hacc
  go_wp2_with fail
  refine HSU.out.mono ?_
  intro e w4 hsu
  obtain ⟨D', code, B1, m1, d1, B2, m2, d2, B3, m3, d3, rfl, hat, hout, k4⟩ := hsu.opens
  obtain ⟨e1, e2⟩ := hout.one HD.out
  subst e1; subst e2
  have HB4 := Lib.hid (HB3.out.trans (k4.mono HB3.out.size))
  have K4 := Lib.hid (K3.out.below k4 K3.out.lt)
  have hb5 : Below w4.heap.size w4 (w4.alloc (.cells #[.slice B1 m1 d1, .slice B2 m2 d2, .slice B3 m3 d3] TDfa)) := (Below.refl _ _).alloc (Nat.le_refl _) _
  have HB5 := Lib.hid (HB4.out.trans (hb5.mono HB4.out.size))
  have K5 := Lib.hid (K4.out.below hb5 K4.out.lt)
  have HD5 := Lib.hid (DfaAt.keep hat (Keep.of hb5))
  obtain ⟨p0, p1, p2, f0, f1, f2⟩ := Blk.three K5.out
  have p9 := K5.out.lt
  clear hsu hat hout k4 hb5
  go_wp2
  have K6 := Lib.hid (((K5.out.set 0 (.slice B1 m1 d1)).set 1 (.slice B2 m2 d2)).set 2 (.slice B3 m3 d3))
  obtain ⟨z0, z1, z2, _, _, _⟩ := Blk.three (a := .slice B1 m1 d1) (b := .slice B2 m2 d2) (c := .slice B3 m3 d3) K6.out
  have hne : w.heap.size ≤ w4.heap.size := HB4.out.size
  refine bodyPost_ret (v := .tuple #[.agg #[.slice B1 m1 d1, .slice B2 m2 d2, .slice B3 m3 d3], .bool true]) (by simp [results, Tryz.results11, go_sem, z0, z1, z2]) rfl ⟨B1, m1, d1, B2, m2, d2, B3, m3, d3, rfl, ?_, ((HB5.out.setCell (p := ⟨w.heap.size, 0, none⟩) (by simp) _).setCell (p := ⟨w.heap.size, 1, none⟩) (by simp) _).setCell (p := ⟨w.heap.size, 2, none⟩) (by simp) _⟩
  exact HD5.out.box HOK.out K5.out (((KeepBut.refl _ _).set 0 _).set 1 _ |>.set 2 _)
end Go.Proofs.YtilhicefhhgecaaGreatDoor

namespace Pv
open Go Go.RowKit
theorem blk_at {W : World} {n : Nat} (t : TypeId) (cs : Array Value) (h : W.heap.size = n) : Blk (W.alloc (.cells cs t)) n t cs := by
  subst h; exact Blk.new _ _ _
end Pv
namespace Go.Proofs.YtilhicefhhgecaaGreatDoor
open Go.RowKit Pv
end Go.Proofs.YtilhicefhhgecaaGreatDoor

namespace Pv
open Go Go.RowKit
def s12 : Bs := [97, 123, 48, 44, 50, 125]
def t12 : Tr := reX 0 2 (chX 97)
theorem tells12 : Tells s12 t12 := tellsT_is (by decide +kernel)
def s13 : Bs := [40, 97, 124, 98, 41, 42, 97, 40, 97, 124, 98, 41, 123, 54, 125]
def t13 : Tr := caX [t10, chX 97, reX 6 6 t8]
theorem tells13 : Tells s13 t13 := tellsT_is (by decide +kernel)
/-- What is built of a known tree, if there are too many states: reckoned. -/
def subN (T : Tr) (cuts : List Int) : Bool := decide ((allSets (leadT T [[]] 0).1).length ≤ 256) && decide (plcL (allSets (leadT T [[]] 0).1) = cuts) && decide (cuts.length ≤ 256) && decide (madeC (leadT T [[]] 0).1 (((leadT T [[]] 0).2 : Nat) : Int) cuts = some none)
theorem subN_is {T : Tr} {cuts : List Int} (h : Known T) (hb : subN T cuts = true) : Out (leadT T [[]] 0).1 (((leadT T [[]] 0).2 : Nat) : Int) ⟨[], [], []⟩ 90 := by
  unfold subN at hb
  simp only [Bool.and_eq_true, decide_eq_true_eq] at hb
  obtain ⟨⟨⟨h1, h2⟩, h3⟩, h4⟩ := hb
  have hm := madeC_is h4
  rw [← h2] at hm
  exact .bad (.states (lead_ok h.ok h.few) h1 (by rw [h2]; exact h3) hm)
theorem out13 : Out (leadT t13 [[]] 0).1 (((leadT t13 [[]] 0).2 : Nat) : Int) ⟨[], [], []⟩ 90 := subN_is (cuts := [0, 97, 98, 99]) tells13.known (by decide +kernel)
def d4 : Dfa := ⟨[0], [[1], [1]], [false, false]⟩
theorem d4_ok : d4.Ok := okC_is (by decide +kernel)
theorem d4_out : Out (leadT noX [[]] 0).1 (((leadT noX [[]] 0).2 : Nat) : Int) d4 0 := subB_is tells4.known (by decide +kernel)
end Pv
