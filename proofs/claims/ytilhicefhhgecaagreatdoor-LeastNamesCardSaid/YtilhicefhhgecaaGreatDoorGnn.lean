/- Walks: the closure by which the program numbers some states. PUT1 -/
import Derived.Test.YtilhicefhhgecaaGreatDoorFmn
import Derived.Test.YtilhicefhhgecaaGreatDoorFnn
import Derived.Test.YtilhicefhhgecaaGreatDoorQvn
import Derived.Test.YtilhicefhhgecaaGreatDoorDfan
import Derived.Test.YtilhicefhhgecaaGreatDoorGen
import Derived.Test.YtilhicefhhgecaaGreatDoorGcn
import Derived.Test.YtilhicefhhgecaaGreatDoorTbn
import Derived.Test.YtilhicefhhgecaaGreatDoorLsn
import Derived.Test.YtilhicefhhgecaaGreatDoorGin
import Derived.Deep.RegionHeld3
import Derived.Test.YtilhicefhhgecaaGreatDoorWhn
import Derived.Test.YtilhicefhhgecaaGreatDoorHsn
namespace Go.Proofs.YtilhicefhhgecaaGreatDoor
open Go.RowKit Go.ChangeMaps Pv

abbrev TLLs : TypeId := 23
/-- What the closure may turn: the map, its list's box, that list's own block. -/
structure Frm (mb L : Nat) (r : Option Nat) (w w' : World) : Prop where
  os : w'.os = w.os
  tape : w'.tape = w.tape
  output : w'.output = w.output
  size : w.heap.size ≤ w'.heap.size
  block : ∀ g, g < w.heap.size → g ≠ mb → g ≠ L → some g ≠ r → w'.heap[g]? = w.heap[g]?
theorem Frm.of {mb L : Nat} {r : Option Nat} {w w' : World} (h : Below w.heap.size w w') : Frm mb L r w w' := ⟨h.os, h.tape, h.output, h.size, fun g hg _ _ _ => h.block g hg⟩
theorem Frm.trans {mb L : Nat} {r : Option Nat} {a b c : World} (h : Frm mb L r a b) (k : Frm mb L r b c) : Frm mb L r a c :=
  ⟨k.os.trans h.os, k.tape.trans h.tape, k.output.trans h.output, Nat.le_trans h.size k.size, fun g h1 h2 h3 h4 => (k.block g (Nat.lt_of_lt_of_le h1 h.size) h2 h3 h4).trans (h.block g h1 h2 h3 h4)⟩
theorem Frm.grown {mb L : Nat} {r : Option Nat} {a b c : World} (h : Frm mb L r a b) (k : b.grownBy c r) : Frm mb L r a c := h.trans ⟨k.os, k.tape, k.output, k.size, fun g h1 _ _ h4 => k.block g h1 h4⟩
theorem Frm.set {mb L i : Nat} {r : Option Nat} {a b : World} (h : Frm mb L r a b) (u : Value) : Frm mb L r a (b.setCell ⟨L, i, none⟩ u) :=
  h.trans ⟨rfl, rfl, rfl, by simp [World.setCell], fun g _ _ h3 _ => Below.heap_setCell _ _ _ _ h3⟩
theorem Frm.below {mb L B : Nat} {r : Option Nat} {a b : World} (h : Frm mb L r a b) (h0 : B ≤ a.heap.size) (h1 : B ≤ mb) (h2 : B ≤ L) (h3 : ∀ g, r = some g → B ≤ g) : Below B a b :=
  ⟨h.os, h.tape, h.output, h.size, fun g hg => h.block g (by omega) (by omega) (by omega) (fun e => by have := h3 g e.symm; omega)⟩
section
variable {mb L : Nat} {r : Option Nat} {w w' : World} {n : Nat} {all : List (List Int)}
theorem MapM.ne {g : Nat} {t : TypeId} {cs : Array Value} (h : MapM w mb n all) (hb : Blk w g t cs) : g ≠ mb := by
  obtain ⟨es, ck, h1, _⟩ := h
  rintro rfl
  unfold Blk at hb
  rw [hb] at h1
  cases h1
theorem Frm.blk {g : Nat} {t : TypeId} {cs cl : Array Value} (h : Frm mb L r w w') (hm : MapM w mb n all) (hl : Blk w L TLLs cl) (hb : Blk w g t cs) (ht : t ≠ TLLs) (hr : some g ≠ r) : Blk w' g t cs :=
  (h.block g hb.lt (hm.ne hb) (hb.ne hl ht) hr).trans hb
theorem Frm.own {b s k : Nat} {e : TypeId} {v : Value} {us : List Value} {cl : Array Value} (h : Frm mb L r w w') (hm : MapM w mb n all) (hl : Blk w L TLLs cl) (ho : w.ownsRow b e s v k us) (he : e ≠ TLLs) (hr : v.ownBlock = none ∨ v.ownBlock ≠ r) : w'.ownsRow b e s v k us := by
  refine ⟨ho.1, ?_⟩
  rcases ho.2 with h2 | ⟨g, cap, cur, rfl, hg, hh, q⟩
  · exact .inl h2
  · refine .inr ⟨g, cap, cur, rfl, hg, ?_, q⟩
    exact h.blk hm hl (show Blk w g e cur from hh) he (by
      rcases hr with hr | hr
      · simp [Value.ownBlock] at hr
      · intro e; exact hr (by rw [← e]; rfl))
end

/-- What the closure gives. -/
def ComePost (mb L base n : Nat) (x : Option Nat) (r : Option Nat) (l : List Int) (all : List (List Int)) (w : World) (e : Ending) (w' : World) : Prop :=
  ∃ A2 c2 k2, e = .returned (.int .i64 (numS all l)) ∧ Hid ((addS all l).length = k2) ∧ MapM w' mb n (addS all l) ∧ Blk w' L TLLs #[.slice A2 k2 c2] ∧ Ls w' base x (.slice A2 k2 c2) (addS all l) ∧ ((Value.slice A2 k2 c2).ownBlock = r ∨ ∃ g, (Value.slice A2 k2 c2).ownBlock = some g ∧ w.heap.size ≤ g) ∧ Frm mb L r w w'

set_option maxHeartbeats 4000000 in
set_option maxRecDepth 100000 in
theorem come_at (lA : Option Addr) (q lc M L mb base n k c1 : Nat) (A1 : Option Addr) (x : Option Nat) (S : Nat → Prop) (all : List (List Int)) (w : World) (hn : n ≤ 256)
    (hu : OwnI w base (.slice lA q lc) (stL n S)) (hx : (Value.slice lA q lc).ownBlock = none ∨ (Value.slice lA q lc).ownBlock ≠ x) (hm : MapM w mb n all) (bM : Blk w M TMet #[.map (some mb)]) (bL : Blk w L TLLs #[.slice A1 k c1]) (hal : Ls w base x (.slice A1 k c1) all) (HK : Hid (all.length = k)) (hk : k ≤ 100000) (hbase : base ≤ w.heap.size) :
    Calls Tryz.prog 46 #[.slice lA q lc, .pointer (some ⟨M, 0, none⟩), .pointer (some ⟨L, 0, none⟩)] w (ComePost mb L base n x (Value.slice A1 k c1).ownBlock (stL n S) all w) := by
  obtain ⟨i0, hi0, hz0, hs0, hb0⟩ := info_parts info_ints9
  have HU := Lib.hid hu; have HX := Lib.hid hx; have HMM := Lib.hid hm; have HBM := Lib.hid bM; have HBL := Lib.hid bL; have HAL := Lib.hid hal; have HBS := Lib.hid hbase
  obtain ⟨A0, c0, e0, hat, _⟩ := hu.at' (stL_bd (by omega)) (by have := stL_len n S; omega)
  injection e0 with e1 e2 e3
  subst e1; subst e3
  have HOF := Lib.hid (subset_of lA lc q n (stL n S) w hat (Lib.hid e2.symm) stL_in hn)
  have HQ := Lib.hid e2
  obtain ⟨l, hl⟩ : ∃ l, stL n S = l := ⟨_, rfl⟩
  have HL := Lib.hid hl
  rw [hl] at HOF HU HQ ⊢
  obtain ⟨t0, t1, t2, t3, ht⟩ : ∃ t0 t1 t2 t3, wArr l = #[.int .u64 t0, .int .u64 t1, .int .u64 t2, .int .u64 t3] := ⟨_, _, _, _, rfl⟩
  have HT := Lib.hid ht
  rw [ht] at HOF
  clear hu hx hm bM bL hal hbase hat e2 hl ht
  go_enter Tryz.func46, Tryz.ntmps46
  go_wp2_with fail
  refine HOF.out.mono ?_
  rintro e w1 ⟨rfl, hb1⟩
  have hb2 := hb1.alloc hb1.size (.cells #[.int .u64 t0, .int .u64 t1, .int .u64 t2, .int .u64 t3] TSt)
  have HB := Lib.hid hb2
  have KM := Lib.hid (HBM.out.below hb2 HBM.out.lt); have KL := Lib.hid (HBL.out.below hb2 HBL.out.lt)
  have MM := Lib.hid (HMM.out.of_block (hb2.block _ HMM.out.lt))
  have AL := Lib.hid (HAL.out.below hb2)
  have UU := Lib.hid (OwnI.below HU.out hb2)
  have m0 := (HBM.out.below hb1 HBM.out.lt).cell 0
  have l0 := (HBL.out.below hb1 HBL.out.lt).cell 0
  have hNM1 := HBM.out.below hb1 HBM.out.lt |>.lt
  have hNL1 := HBL.out.below hb1 HBL.out.lt |>.lt
  simp only [List.getElem?_toArray, List.getElem?_cons_zero] at m0 l0
  clear hb1 hb2
  by_cases hin : l ∈ all
  · have LK := (MapM.in (S := S) MM.out hn (by rw [HL.out]; exact hin)).1
    rw [HL.out, HT.out] at LK
    have HRES : Hid (ComePost mb L base n x (Value.slice A1 k c1).ownBlock l all w (.returned (.int .i64 (numS all l))) (w1.alloc (.cells #[.int .u64 t0, .int .u64 t1, .int .u64 t2, .int .u64 t3] TSt))) := Lib.hid (by
      refine ⟨A1, c1, k, rfl, ?_⟩
      rw [addS_in hin]
      exact ⟨HK, MM.out, KL.out, AL.out, .inl rfl, Frm.of HB.out⟩)
    clear hin
    go_wp2
    go_ret
    exact HRES.out
  · have LK := MapM.out (S := S) MM.out hn (by rw [HL.out]; exact hin)
    obtain ⟨W3, hput, hm3, p1, p2, p3, p4, p5⟩ := MapM.put (S := S) MM.out hn (by rw [HL.out]; exact hin)
    rw [HL.out, HT.out] at LK hput
    rw [HL.out] at hm3
    rw [HK.out] at hput
    have F3 : Hid (Frm mb L (Value.slice A1 k c1).ownBlock w W3) := Lib.hid ((Frm.of HB.out).trans ⟨p1, p2, p3, by omega, fun g _ h2 _ _ => p5 g h2⟩)
    have bT := Blk.new w1 TSt #[.int .u64 t0, .int .u64 t1, .int .u64 t2, .int .u64 t3]
    have KT3 := Lib.hid (show Blk W3 w1.heap.size TSt _ from (p5 _ (MM.out.ne bT)).trans bT)
    have KM3 := Lib.hid (show Blk W3 M TMet _ from (p5 _ (MM.out.ne KM.out)).trans KM.out)
    have KL3 := Lib.hid (show Blk W3 L TLLs _ from (p5 _ (MM.out.ne KL.out)).trans KL.out)
    have keep3 : ∀ (b s k : Nat) (e : TypeId) (v : Value) (us : List Value), (w1.alloc (.cells #[.int .u64 t0, .int .u64 t1, .int .u64 t2, .int .u64 t3] TSt)).ownsRow b e s v k us → W3.ownsRow b e s v k us := fun b s k e v us h => by
      refine ⟨h.1, ?_⟩
      rcases h.2 with h2 | ⟨g, cap, cur, rfl, hg, hh, q⟩
      · exact .inl h2
      · exact .inr ⟨g, cap, cur, rfl, hg, (p5 g (MM.out.ne (show Blk _ g e cur from hh))).trans hh, q⟩
    have UU3 : Hid (OwnI W3 base (.slice lA q lc) l) := Lib.hid (by obtain ⟨B, d, e, h⟩ := UU.out; exact ⟨B, d, e, keep3 _ _ _ _ _ _ h⟩)
    obtain ⟨A1', c1', us, ev, ow, rel⟩ := AL.out
    rw [HK.out] at ev ow
    injection ev with ev1 _ ev3
    subst ev1; subst ev3
    have OW3 := Lib.hid (keep3 _ _ _ _ _ _ ow)
    have REL3 : Hid (Rel (fun u l => OwnI W3 base u l ∧ (u.ownBlock = none ∨ u.ownBlock ≠ x)) us all) := Lib.hid (rel.mono fun u l h => ⟨by obtain ⟨B, d, e, h⟩ := h.1; exact ⟨B, d, e, keep3 _ _ _ _ _ _ h⟩, h.2⟩)
    have M3 := Lib.hid hm3
    have hs3 : w1.heap.size + 1 ≤ W3.heap.size := by rw [p4]; simp
    have hsw := F3.out.size
    have OWA := Lib.hid (OW3.out.alloc (.cells #[.slice lA q lc] TLL))
    have SRA := Lib.hid (Pv.Src.one (w := W3) (x := .slice lA q lc) (t := TLL) rfl)
    have Q1 : Hid (k + 1 ≤ maxLen) := Lib.hid (by simp only [maxLen]; omega)
    have Q2 : Hid ((k + 1) * 24 ≤ 140737488355328) := Lib.hid (by omega)
    have Z1 : Hid (base ≤ (W3.alloc (.cells #[.slice lA q lc] TLL)).heap.size) := Lib.hid (by have := HBS.out; simp; omega)
    have HNEW := Lib.hid hin
    have HND := Lib.hid (show numS (all ++ [l]) l = k by
      obtain ⟨_, _, _, _, _, _, nd⟩ := hm3
      exact numS_get nd (by rw [← HK.out]; simp))
    obtain ⟨x0, x1, x2, x3, _, _, _, _⟩ := Blk.four KT3.out
    have m3 := KM3.out.cell 0
    have l3 := KL3.out.cell 0
    have f3 := KL3.out.frozen 0
    have hNM3 := KM3.out.lt; have hNL3 := KL3.out.lt
    simp only [List.getElem?_toArray, List.getElem?_cons_zero] at m3 l3
    clear hin hm3 p1 p2 p3 p4 p5 bT keep3 ow rel
    go_wp2_with (first
    | (at_builtin
       go_must (refine wpList_append_src _ rfl (.tmp 22) (.tmp 24) 23 rfl base TLL i0 (.slice none 0 0) 1 24 Tryz.underlying23 hi0 hz0 hs0 hb0 rfl (by decide) A1 c1 k us rfl OWA.out _ 1 1 _ rfl SRA.out Q1.out Q2.out Z1.out ?_)
       intro A4 c4 w4 own4 gr4 hn4
       have bA := Lib.hid ((Below.refl W3.heap.size W3).alloc (Nat.le_refl _) (.cells #[.slice lA q lc] TLL))
       have KT4 := Lib.hid ((KT3.out.alloc (.cells #[.slice lA q lc] TLL)).grown gr4 (own_blk_ne OWA.out (KT3.out.alloc (.cells #[.slice lA q lc] TLL)) (by decide)))
       have KM4 := Lib.hid ((KM3.out.alloc (.cells #[.slice lA q lc] TLL)).grown gr4 (own_blk_ne OWA.out (KM3.out.alloc (.cells #[.slice lA q lc] TLL)) (by decide)))
       have KL4 := Lib.hid ((KL3.out.alloc (.cells #[.slice lA q lc] TLL)).grown gr4 (own_blk_ne OWA.out (KL3.out.alloc (.cells #[.slice lA q lc] TLL)) (by decide)))
       have hmne : some mb ≠ (Value.slice A1 k c1).ownBlock := fun e => by
         rcases OWA.out.2 with ⟨h, _⟩ | ⟨g, cap, cur, h, _, hh, _⟩
         · rw [h] at e; cases e
         · rw [h] at e
           injection e with e
           subst e
           exact (M3.out.of_block (bA.out.block _ M3.out.lt)).ne (show Blk _ _ TLL cur from hh) rfl
       have MM4 := Lib.hid (M3.out.of_block ((gr4.block mb (by have := M3.out.lt; simp; omega) hmne).trans (bA.out.block _ M3.out.lt)))
       have LS4 := Lib.hid (Ls.push OW3.out REL3.out HK.out UU3.out HX.out own4 gr4)
       have F4 := Lib.hid ((F3.out.trans (Frm.of bA.out)).grown gr4)
       have HN4 := Lib.hid hn4
       have MM5 := Lib.hid (MM4.out.of_block (W' := w4.setCell ⟨L, 0, none⟩ (.slice A4 (k + 1) c4)) (Below.heap_setCell _ _ _ _ (fun e => MM4.out.ne KL4.out e.symm)))
       have KL5 := Lib.hid (KL4.out.set 0 (.slice A4 (k + 1) c4))
       have KT5 := Lib.hid (KT4.out.far (p := ⟨L, 0, none⟩) (KT4.out.ne KL4.out (by decide)) (.slice A4 (k + 1) c4))
       have KM5 := Lib.hid (KM4.out.far (p := ⟨L, 0, none⟩) (KM4.out.ne KL4.out (by decide)) (.slice A4 (k + 1) c4))
       have LS5 := Lib.hid (LS4.out.far (i := 0) (u := .slice A4 (k + 1) c4) KL4.out (by decide) (by decide))
       have F5 := Lib.hid (F4.out.set (i := 0) (.slice A4 (k + 1) c4))
       have LK5 := (MapM.in (S := S) MM5.out hn (by rw [HL.out]; simp)).2
       rw [HL.out, HT.out, HND.out] at LK5
       obtain ⟨x0, x1, x2, x3, _, _, _, _⟩ := Blk.four KT5.out
       have m5 := KM5.out.cell 0
       simp only [List.getElem?_toArray, List.getElem?_cons_zero] at m5
       have m4 := KM4.out.cell 0
       have l4 := KL4.out.cell 0
       have f4 := KL4.out.frozen 0
       have hNM4 := KM4.out.lt; have hNL4 := KL4.out.lt; have hNT4 := KT4.out.lt
       simp only [List.getElem?_toArray, List.getElem?_cons_zero] at m4 l4
       clear own4 gr4 hn4 hmne))
    have HRES : Hid (ComePost mb L base n x (Value.slice A1 k c1).ownBlock l all w (.returned (.int .i64 k)) (w4.setCell ⟨L, 0, none⟩ (.slice A4 (k + 1) c4))) := Lib.hid (by
      refine ⟨A4, c4, k + 1, ?_, ?_⟩
      · rw [numS_new HNEW.out, HK.out]
      · rw [addS_new HNEW.out]
        refine ⟨Lib.hid (by rw [List.length_append, HK.out]; rfl), MM5.out, KL5.out, LS5.out, ?_, F5.out⟩
        rcases HN4.out with e | e
        · exact .inl e
        · exact .inr ⟨_, e, by simp; omega⟩)
    go_ret
    exact HRES.out
end Go.Proofs.YtilhicefhhgecaaGreatDoor

namespace Pv
open Go Go.RowKit
/-- A row made whole, whose first numbers are written. -/
def rowCs (row : List Int) (nc : Nat) : Array Value := (row.map (Value.int .i64) ++ List.replicate (nc - row.length) (Value.int .i64 0)).toArray
theorem rowCs_size {row : List Int} {nc : Nat} (h : row.length ≤ nc) : (rowCs row nc).size = nc := by simp [rowCs]; omega
theorem rowCs_nil (nc : Nat) : rowCs [] nc = madeCells #[.int .i64 0] nc := by
  refine Array.ext (by simp [rowCs, size_madeCells]) fun i h1 h2 => ?_
  simp [rowCs, madeCells, Nat.mod_one]
theorem rowCs_put {row : List Int} {nc : Nat} (h : row.length < nc) (x : Int) : (rowCs row nc).setIfInBounds row.length (.int .i64 x) = rowCs (row ++ [x]) nc := by
  unfold rowCs
  obtain ⟨k, hk⟩ : ∃ k, nc - row.length = k + 1 := ⟨nc - row.length - 1, by omega⟩
  have h2 : nc - (row ++ [x]).length = k := by simp; omega
  rw [hk, h2, List.setIfInBounds_toArray, List.map_append, List.append_assoc]
  congr 1
  have e : row.length = (row.map (Value.int .i64)).length := by simp
  rw [e, List.set_append_right _ _ (Nat.le_refl _), Nat.sub_self]
  simp [List.replicate_succ]
theorem rowCs_full {row : List Int} {nc : Nat} (h : row.length = nc) : (rowCs row nc).toList = row.map (Value.int .i64) := by
  unfold rowCs; simp [h]
end Pv
namespace Go.Proofs.YtilhicefhhgecaaGreatDoor
open Go.RowKit Go.ChangeMaps Pv

theorem own_blkF {w : World} {g b m : Nat} {t : TypeId} {cs : Array Value} (h : Blk w g t cs) (hb : b ≤ g) (hs : cs.size = m) (hm : m ≤ maxLen) : w.ownsRow b t 1 (.slice (some ⟨g, 0, none⟩) m m) m cs.toList :=
  ⟨by simp [hs], .inr ⟨g, m, cs, rfl, hb, h, Nat.le_refl _, hm, by simp [hs], by rw [List.take_of_length_le (by simp [hs])]⟩⟩
theorem OwnI.put {w : World} {base g i : Nat} {v u : Value} {l : List Int} {cs : Array Value} (h : OwnI w base v l) (hne : v.ownBlock = none ∨ v.ownBlock ≠ some g) (_ : Blk w g TLI cs) : OwnI (w.setCell ⟨g, i, none⟩ u) base v l := by
  obtain ⟨B, d, rfl, h3⟩ := h
  refine ⟨B, d, rfl, h3.1, ?_⟩
  rcases h3.2 with h5 | ⟨g', cap, cur, hv, hg, hh, r⟩
  · exact .inl h5
  · have hne : g' ≠ g := fun e => by
      rcases hne with h4 | h4
      · rw [hv] at h4; simp [Value.ownBlock] at h4
      · exact h4 (by rw [hv, e]; rfl)
    exact .inr ⟨g', cap, cur, hv, hg, by rw [Below.heap_setCell _ _ _ _ (by simpa using hne)]; exact hh, r⟩

/-- The automaton's box, the answer's, the map and the list with their boxes; cuts, rows, what accepts. d2, d3: what the answer's box holds of these. -/
structure PrIn (w wr : World) (M L mb : Nat) (A : Option Addr) (n c : Nat) (acc : Int) (x : Option Nat) (v1 av d2 d3 v2 v3 : Value) (cuts : List Int) (all rows : List (List Int)) (accs : List Bool) : Prop where
  a : Blk wr w.heap.size TAuto #[.slice A n c, .int .i64 acc]
  d : Blk wr (w.heap.size + 1) TDfa #[v1, d2, d3]
  m : Blk wr M TMet #[.map (some mb)]
  l : Blk wr L TLLs #[av]
  mm : MapM wr mb n all
  u : OwnI wr w.heap.size v1 cuts
  ux : v1.ownBlock = none ∨ v1.ownBlock ≠ x
  r : Ls wr w.heap.size x v2 rows
  t : Own wr w.heap.size 4 RB v3 accs
  al : Ls wr w.heap.size x av all
  ne : v2.ownBlock = none ∨ v2.ownBlock ≠ av.ownBlock
  b : Below w.heap.size w wr
  gm : w.heap.size ≤ mb
  gl : w.heap.size ≤ L
theorem Ls.ge {w : World} {base : Nat} {x : Option Nat} {v : Value} {ll : List (List Int)} (h : Ls w base x v ll) {g : Nat} (hg : v.ownBlock = some g) : base ≤ g ∧ g < w.heap.size := by
  obtain ⟨A, c, us, rfl, h1, _⟩ := h
  exact h1.lt g hg
theorem Ls.row_ne {w : World} {base g : Nat} {x : Option Nat} {v : Value} {ll : List (List Int)} {t : TypeId} {cs : Array Value} (h : Ls w base x v ll) (hb : Blk w g t cs) (hne : TLL ≠ t) : some g ≠ v.ownBlock := by
  obtain ⟨A, c, us, rfl, h1, _⟩ := h
  exact own_blk_ne h1 hb hne
section
variable {w wr w' : World} {M L mb n c : Nat} {A : Option Addr} {acc : Int} {x : Option Nat} {v1 av d2 d3 v2 v3 : Value} {cuts : List Int} {all rows : List (List Int)} {accs : List Bool}
theorem PrIn.below (h : PrIn w wr M L mb A n c acc x v1 av d2 d3 v2 v3 cuts all rows accs) (hb : Below wr.heap.size wr w') : PrIn w w' M L mb A n c acc x v1 av d2 d3 v2 v3 cuts all rows accs :=
  ⟨h.a.below hb h.a.lt, h.d.below hb h.d.lt, h.m.below hb h.m.lt, h.l.below hb h.l.lt, h.mm.of_block (hb.block _ h.mm.lt), OwnI.below h.u hb, h.ux, h.r.below hb, h.t.below hb, h.al.below hb, h.ne, h.b.trans (hb.mono h.b.size), h.gm, h.gl⟩
theorem PrIn.free (h : PrIn w wr M L mb A n c acc x v1 av d2 d3 v2 v3 cuts all rows accs) : PrIn w wr M L mb A n c acc none v1 av d2 d3 v2 v3 cuts all rows accs :=
  ⟨h.a, h.d, h.m, h.l, h.mm, h.u, by cases v1.ownBlock <;> simp, h.r.bare, h.t, h.al.bare, h.ne, h.b, h.gm, h.gl⟩
/-- A new row's block. -/
theorem PrIn.fresh (h : PrIn w wr M L mb A n c acc x v1 av d2 d3 v2 v3 cuts all rows accs) (o : Obj) : PrIn w (wr.alloc o) M L mb A n c acc (some wr.heap.size) v1 av d2 d3 v2 v3 cuts all rows accs := by
  have hb : Below wr.heap.size wr (wr.alloc o) := (Below.refl _ _).alloc (Nat.le_refl _) o
  have h' := h.below hb
  refine ⟨h'.a, h'.d, h'.m, h'.l, h'.mm, h'.u, ?_, (h.r.fresh (Nat.le_refl _)).below hb, h'.t, (h.al.fresh (Nat.le_refl _)).below hb, h.ne, h'.b, h.gm, h.gl⟩
  cases hv : v1.ownBlock with
  | none => exact .inl rfl
  | some g => have := (h.u.lt hv).2; exact .inr (by simp; omega)
/-- A number written into the row under way. -/
theorem PrIn.put {R i : Nat} {cs : Array Value} (h : PrIn w wr M L mb A n c acc (some R) v1 av d2 d3 v2 v3 cuts all rows accs) (hb : Blk wr R TLI cs) (hR : w.heap.size ≤ R) (u : Value) : PrIn w (wr.setCell ⟨R, i, none⟩ u) M L mb A n c acc (some R) v1 av d2 d3 v2 v3 cuts all rows accs :=
  ⟨h.a.far (p := ⟨R, i, none⟩) (h.a.ne hb (by decide)) u, h.d.far (p := ⟨R, i, none⟩) (h.d.ne hb (by decide)) u, h.m.far (p := ⟨R, i, none⟩) (h.m.ne hb (by decide)) u, h.l.far (p := ⟨R, i, none⟩) (h.l.ne hb (by decide)) u,
    h.mm.of_block (Below.heap_setCell _ _ _ _ (fun e => h.mm.ne hb e.symm)), OwnI.put h.u h.ux hb, h.ux, h.r.put hb, h.t.setFar hb (by decide) i u, h.al.put hb, h.ne, h.b.setCell (p := ⟨R, i, none⟩) hR u, h.gm, h.gl⟩
/-- Some states numbered. -/
theorem PrIn.come {l : List Int} {e : Ending} (h : PrIn w wr M L mb A n c acc x v1 av d2 d3 v2 v3 cuts all rows accs) (hc : ComePost mb L w.heap.size n x av.ownBlock l all wr e w') :
    ∃ A2 c2 k2, e = .returned (.int .i64 (numS all l)) ∧ Hid ((addS all l).length = k2) ∧ PrIn w w' M L mb A n c acc x v1 (.slice A2 k2 c2) d2 d3 v2 v3 cuts (addS all l) rows accs ∧ ∀ g cs, Blk wr g TLI cs → Blk w' g TLI cs := by
  obtain ⟨A2, c2, k2, e1, hk, hmm, hl, hal, hn, hf⟩ := hc
  have hblk : ∀ {g : Nat} {t : TypeId} {cs : Array Value}, Blk wr g t cs → t ≠ TLLs → TLL ≠ t → Blk w' g t cs := fun hb h1 h2 => hf.blk h.mm h.l hb h1 (h.al.row_ne hb h2)
  refine ⟨A2, c2, k2, e1, hk, ⟨hblk h.a (by decide) (by decide), hblk h.d (by decide) (by decide), hblk h.m (by decide) (by decide), hl, hmm, ?_, h.ux, ?_, ?_, hal, ?_, h.b.trans (hf.below h.b.size h.gm h.gl (fun g hg => (h.al.ge hg).1)), h.gm, h.gl⟩, fun g cs hb => hblk hb (by decide) (by decide)⟩
  · obtain ⟨B, d, rfl, h3⟩ := h.u
    obtain ⟨_, _, _, e4, h4, _⟩ := h.al
    exact ⟨B, d, rfl, hf.own h.mm h.l h3 (by decide) (by rw [e4]; exact own_ne h3 h4 (by decide))⟩
  · obtain ⟨B, d, us, rfl, h3, h5⟩ := h.r
    obtain ⟨_, _, _, e4, h4, _⟩ := h.al
    refine ⟨B, d, us, rfl, hf.own h.mm h.l h3 (by decide) h.ne, h5.mono fun u l hu => ⟨?_, hu.2⟩⟩
    obtain ⟨B, d, rfl, h6⟩ := hu.1
    exact ⟨B, d, rfl, hf.own h.mm h.l h6 (by decide) (by rw [e4]; exact own_ne h6 h4 (by decide))⟩
  · obtain ⟨B, d, us, rfl, h3, h5⟩ := h.t
    obtain ⟨_, _, _, e4, h4, _⟩ := h.al
    exact ⟨B, d, us, rfl, hf.own h.mm h.l h3 (by decide) (by rw [e4]; exact own_ne h3 h4 (by decide)), h5⟩
  · rcases hn with e2 | ⟨g, e2, hg⟩
    · rw [e2]; exact h.ne
    · rw [e2]
      cases hv : v2.ownBlock with
      | none => exact .inl rfl
      | some q => have := (h.r.ge hv).2; exact .inr (by simp; omega)
/-- A row more. -/
theorem PrIn.row {A1 A2 : Option Addr} {c1 c2 k : Nat} {us : List Value} {u : Value} {l : List Int} (h : PrIn w wr M L mb A n c acc none v1 av d2 d3 (.slice A1 k c1) v3 cuts all rows accs) (h1 : wr.ownsRow w.heap.size TLL 1 (.slice A1 k c1) k us) (h2 : Rel (fun u l => OwnI wr w.heap.size u l ∧ (u.ownBlock = none ∨ u.ownBlock ≠ none)) us rows) (hk : rows.length = k)
    (hu : OwnI wr w.heap.size u l) (own : w'.ownsRow w.heap.size TLL 1 (.slice A2 (k + 1) c2) (k + 1) (us ++ [u])) (gr : (wr.alloc (.cells #[u] TLL)).grownBy w' (Value.slice A1 k c1).ownBlock)
    (hn : (Value.slice A2 (k + 1) c2).ownBlock = (Value.slice A1 k c1).ownBlock ∨ (Value.slice A2 (k + 1) c2).ownBlock = some (wr.alloc (.cells #[u] TLL)).heap.size) : PrIn w w' M L mb A n c acc none v1 av d2 d3 (.slice A2 (k + 1) c2) v3 cuts all (rows ++ [l]) accs := by
  have hb : Below wr.heap.size wr (wr.alloc (.cells #[u] TLL)) := (Below.refl _ _).alloc (Nat.le_refl _) _
  have h' := h.below hb
  have h1' := ownsRow_below h1 hb
  have hmne : some mb ≠ (Value.slice A1 k c1).ownBlock := fun e => by
    rcases h1'.2 with ⟨h, _⟩ | ⟨g, cap, cur, h, _, hh, _⟩
    · rw [h] at e; cases e
    · rw [h] at e
      injection e with e
      subst e
      exact h'.mm.ne (show Blk _ _ TLL cur from hh) rfl
  have hal : (av.ownBlock = none ∨ av.ownBlock ≠ (Value.slice A1 k c1).ownBlock) := by
    rcases h.ne with e | e
    · cases hv : av.ownBlock with
      | none => exact .inl rfl
      | some g => exact .inr (by rw [e]; simp)
    · exact .inr (Ne.symm e)
  refine ⟨h'.a.grown gr (own_blk_ne h1' h'.a (by decide)), h'.d.grown gr (own_blk_ne h1' h'.d (by decide)), h'.m.grown gr (own_blk_ne h1' h'.m (by decide)), h'.l.grown gr (own_blk_ne h1' h'.l (by decide)), h'.mm.of_block (gr.block mb h'.mm.lt hmne), ?_, h.ux, Ls.push h1 h2 hk hu (by cases u.ownBlock <;> simp) own gr, Own.grownB h'.t h1' (by decide) gr, h'.al.beside h1' hal gr, ?_, h'.b.grown gr h'.b.size (fun g hgg => (h1'.lt g hgg).1), h.gm, h.gl⟩
  · obtain ⟨B, d, e, h3⟩ := h'.u
    exact OwnI.grown ⟨B, d, e, h3⟩ gr (by rw [e]; exact own_ne h3 h1' (by decide))
  · rcases hn with e | e
    · rw [e]; exact h.ne
    · rw [e]
      refine .inr fun he => ?_
      have := (h.al.ge he.symm).2
      simp at this
      omega
/-- One more that accepts or not. -/
theorem PrIn.told {A1 A2 : Option Addr} {c1 c2 k : Nat} {us : List Value} {b : Bool} (h : PrIn w wr M L mb A n c acc none v1 av d2 d3 v2 (.slice A1 k c1) cuts all rows accs) (h1 : wr.ownsRow w.heap.size 4 1 (.slice A1 k c1) k us) (h2 : Rel RB us accs) (hk : accs.length = k)
    (own : w'.ownsRow w.heap.size 4 1 (.slice A2 (k + 1) c2) (k + 1) (us ++ [.bool b])) (gr : (wr.alloc (.cells #[.bool b] 4)).grownBy w' (Value.slice A1 k c1).ownBlock) : PrIn w w' M L mb A n c acc none v1 av d2 d3 v2 (.slice A2 (k + 1) c2) cuts all rows (accs ++ [b]) := by
  have hb : Below wr.heap.size wr (wr.alloc (.cells #[.bool b] 4)) := (Below.refl _ _).alloc (Nat.le_refl _) _
  have h' := h.below hb
  have h1' := ownsRow_below h1 hb
  have hmne : some mb ≠ (Value.slice A1 k c1).ownBlock := fun e => by
    rcases h1'.2 with ⟨h, _⟩ | ⟨g, cap, cur, h, _, hh, _⟩
    · rw [h] at e; cases e
    · rw [h] at e
      injection e with e
      subst e
      exact h'.mm.ne (show Blk _ _ 4 cur from hh) rfl
  refine ⟨h'.a.grown gr (own_blk_ne h1' h'.a (by decide)), h'.d.grown gr (own_blk_ne h1' h'.d (by decide)), h'.m.grown gr (own_blk_ne h1' h'.m (by decide)), h'.l.grown gr (own_blk_ne h1' h'.l (by decide)), h'.mm.of_block (gr.block mb h'.mm.lt hmne), ?_, h.ux, h'.r.other h1' (by decide) (by decide) gr, ⟨A2, c2, us ++ [.bool b], by simp [hk], by rw [List.length_append, hk]; exact own, Rel.app h2 (Rel.one (R := RB) (u := .bool b) (x := b) rfl)⟩, h'.al.other h1' (by decide) (by decide) gr, h.ne, h'.b.grown gr h'.b.size (fun g hgg => (h1'.lt g hgg).1), h.gm, h.gl⟩
  obtain ⟨B, d, e, h3⟩ := h'.u
  exact OwnI.grown ⟨B, d, e, h3⟩ gr (by rw [e]; exact own_ne h3 h1' (by decide))
/-- A store into the answer's box. -/
theorem PrIn.far {i : Nat} {y2 y3 u : Value} (h : PrIn w wr M L mb A n c acc x v1 av d2 d3 v2 v3 cuts all rows accs) (he : (#[v1, d2, d3] : Array Value).setIfInBounds i u = #[v1, y2, y3]) : PrIn w (wr.setCell ⟨w.heap.size + 1, i, none⟩ u) M L mb A n c acc x v1 av y2 y3 v2 v3 cuts all rows accs :=
  ⟨h.a.far (p := ⟨w.heap.size + 1, i, none⟩) (h.a.ne h.d (by decide)) u, by have := h.d.set i u; rwa [he] at this, h.m.far (p := ⟨w.heap.size + 1, i, none⟩) (h.m.ne h.d (by decide)) u, h.l.far (p := ⟨w.heap.size + 1, i, none⟩) (h.l.ne h.d (by decide)) u,
    h.mm.of_block (Below.heap_setCell _ _ _ _ (fun e => h.mm.ne h.d e.symm)), OwnI.far h.u h.d (by decide), h.ux, h.r.far h.d (by decide) (by decide), h.t.setFar h.d (by decide) i u, h.al.far h.d (by decide) (by decide), h.ne, h.b.setCell (p := ⟨w.heap.size + 1, i, none⟩) (Nat.le_succ _) u, h.gm, h.gl⟩
end
end Go.Proofs.YtilhicefhhgecaaGreatDoor

namespace Go.Proofs.YtilhicefhhgecaaGreatDoor
open Go.RowKit Go.ChangeMaps Pv

theorem Ls.blk {w : World} {base b o k c : Nat} {x : Option Nat} {ll : List (List Int)} (h : Ls w base x (.slice (some ⟨b, o, none⟩) k c) ll) : ∃ cs, Blk w b TLL cs := by
  obtain ⟨A, c', us, e, h1, _⟩ := h
  rcases h1.2 with ⟨h2, _⟩ | ⟨g, cap, cur, h2, _, hh, _⟩
  · rw [← e] at h2; cases h2
  · rw [← e] at h2
    injection h2 with h2
    injection h2 with h2
    injection h2 with h2
    subst h2
    exact ⟨cur, hh⟩
theorem addS_get {all : List (List Int)} {l m : List Int} {i : Nat} (h : all[i]? = some l) : (addS all m)[i]? = some l := by
  by_cases hm : m ∈ all
  · rw [addS_in hm]; exact h
  · rw [addS_new hm, List.getElem?_append_left (lt_of_get h)]; exact h

set_option maxHeartbeats 8000000 in
set_option maxRecDepth 100000 in
theorem subset_Build (A : Option Addr) (c n : Nat) (acc : Int) (a : Au) (w : World) (ha : AtAu w A a) (HL : Hid (a.length = n)) :
    Calls Tryz.prog 14 #[.agg #[.slice A n c, .int .i64 acc]] w (BuiltD a acc w) := by
  have hmm := @run_makeMap Tryz.prog
  have HA := Lib.hid ha
  have HB0 := Lib.hid (((Below.refl w.heap.size w).alloc (Nat.le_refl _) (.cells #[.slice A n c, .int .i64 acc] TAuto)).alloc (by simp) (.cells #[.slice none 0 0, .slice none 0 0, .slice none 0 0] TDfa))
  have KK := blk2 w #[.slice A n c, .int .i64 acc] #[.slice none 0 0, .slice none 0 0, .slice none 0 0] TAuto TDfa
  have KA := Lib.hid KK.1; have KO := Lib.hid KK.2
  have HMY := Lib.hid (auto_Check A c n acc a _ (ha.keep (Keep.of HB0.out)) HL)
  clear ha KK
  by_cases hok : AuOk a acc
  case neg =>
    rw [auE_no hok] at HMY
    have HE := Lib.hid (EndD.bad hok)
    clear hok
    go_enter Tryz.func14, Tryz.ntmps14
    go_wp2_with fail
    refine HMY.out.mono ?_
    rintro e w1 ⟨rfl, hb1⟩
    have HB1 := Lib.hid (HB0.out.trans (hb1.mono HB0.out.size))
    have KO1 := Lib.hid (KO.out.below hb1 KO.out.lt)
    obtain ⟨t0, t1, t2, f0, f1, f2⟩ := Blk.three KO1.out
    have hN := KO1.out.lt
    clear hb1
    go_wp2
    obtain ⟨y0, y1, y2, _, _, _⟩ := Blk.three (Blk.set3 (u0 := .slice none 0 0) (u1 := .slice none 0 0) (u2 := .slice none 0 0) KO1.out)
    exact bodyPost_ret (v := .tuple #[zDfa, .int .i64 8]) (by simp [results, Tryz.results14, go_sem, y0, y1, y2]) rfl ⟨.inl ⟨8, HE.out, rfl⟩, below3 HB1.out (by simp)⟩
  have hn : n ≤ 256 := by have := hok.few; rwa [HL.out] at this
  have hn1 : 1 ≤ n := by have := hok.pos; rwa [HL.out] at this
  rw [auE_yes hok] at HMY
  have HOK := Lib.hid hok
  obtain ⟨i0, hi0, hz0, hs0, hb0⟩ := info_parts info_ints9
  obtain ⟨i1', hi1, hz1, hs1, hb1'⟩ := info_parts info_bool9
  clear hok
  go_enter Tryz.func14, Tryz.ntmps14
  go_wp2_with fail
  refine HMY.out.mono ?_
  rintro e w1 ⟨rfl, hb1⟩
  have HB1 := Lib.hid (HB0.out.trans (hb1.mono HB0.out.size))
  have KA1 := Lib.hid (KA.out.below hb1 KA.out.lt); have KO1 := Lib.hid (KO.out.below hb1 KO.out.lt)
  obtain ⟨p0, p1, _, _⟩ := Blk.two KA1.out
  have HCU := Lib.hid (subset_cuts A c n acc a w1 (HA.out.keep (Keep.of HB1.out)) HL HOK.out)
  clear hb1 HMY HB0 KA KO
  go_wp2_with fail
  refine HCU.out.mono ?_
  rintro e w2 ⟨hr, hb2⟩
  have HB2 := Lib.hid (HB1.out.trans (hb2.mono HB1.out.size))
  have KA2 := Lib.hid (KA1.out.below hb2 KA1.out.lt); have KO2 := Lib.hid (KO1.out.below hb2 KO1.out.lt)
  have hw1 := HB1.out.size
  have hw2 := hb2.size
  clear p0 p1
  rcases hr with ⟨hmany, rfl⟩ | ⟨hmany, v, rfl, hv⟩
  case inl =>
    have HE := Lib.hid (EndD.many HOK.out hmany)
    obtain ⟨t0, t1, t2, f0, f1, f2⟩ := Blk.three KO2.out
    have hN := KO2.out.lt
    clear hb2 hmany
    go_wp2
    have KO3 := KO2.out.set 0 (.slice none 0 0)
    obtain ⟨y0, y1, y2, _, _, _⟩ := Blk.three (Blk.set3 (u0 := .slice none 0 0) (u1 := .slice none 0 0) (u2 := .slice none 0 0) (show Blk _ _ TDfa #[.slice none 0 0, .slice none 0 0, .slice none 0 0] from KO3))
    exact bodyPost_ret (v := .tuple #[zDfa, .int .i64 4]) (by simp [results, Tryz.results14, go_sem, y0, y1, y2]) rfl ⟨.inl ⟨4, HE.out, rfl⟩, below3 (HB2.out.setCell (p := ⟨w.heap.size + 1, 0, none⟩) (by simp) _) (by simp)⟩
  have HFT := Lib.hid (show FitD a acc from ⟨HOK.out, by unfold ManyC at hmany; omega, by unfold ManyC at hmany; omega⟩)
  have HVC := Lib.hid (hv.lower hw1)
  obtain ⟨C, cc, rfl, _⟩ := hv
  obtain ⟨cuts, hcuts⟩ : ∃ cuts, plcL (allSets a) = cuts := ⟨_, rfl⟩
  have HCT := Lib.hid hcuts
  rw [hcuts] at HVC
  obtain ⟨nc, hnc⟩ : ∃ nc, cuts.length = nc := ⟨_, rfl⟩
  have HNC := Lib.hid hnc
  have hnc2 : nc ≤ 256 := by have := HFT.out.p; rw [hcuts, hnc] at this; exact this
  have HCB := Lib.hid (show ∀ x, x ∈ cuts → -9223372036854775808 ≤ x ∧ x ≤ 9223372036854775807 from fun x hx => by
    rw [← hcuts] at hx
    have := plcL_in (allSets_ok HOK.out) hx
    omega)
  rw [hcuts, hnc]
  obtain ⟨R, hR⟩ : ∃ R, madeM a acc cuts = R := ⟨_, rfl⟩
  have HR := Lib.hid hR
  clear hb2 hmany hcuts hnc hR HCU HB1 KA1 KO1
  -- the map, its box, the list's box
  have KO3 := KO2.out.set 0 (.slice C nc cc)
  have K3a := KA2.out.far (p := ⟨w.heap.size + 1, 0, none⟩) (KA2.out.ne KO2.out (by decide)) (.slice C nc cc)
  have HB3 := HB2.out.setCell (p := ⟨w.heap.size + 1, 0, none⟩) (Nat.le_succ _) (.slice C nc cc)
  have HU3 : OwnI (w2.setCell ⟨w.heap.size + 1, 0, none⟩ (.slice C nc cc)) w.heap.size (.slice C nc cc) cuts := by
    have := HVC.out
    rw [HNC.out] at this
    exact OwnI.far this KO2.out (by decide)
  have hs3 : (w2.setCell ⟨w.heap.size + 1, 0, none⟩ (.slice C nc cc)).heap.size = w2.heap.size := by simp [World.setCell]
  have b1 := (Below.refl _ (w2.setCell ⟨w.heap.size + 1, 0, none⟩ (.slice C nc cc))).alloc (Nat.le_refl _) (.map #[] 0)
  have P0 : PrIn w (((w2.setCell ⟨w.heap.size + 1, 0, none⟩ (.slice C nc cc)).alloc (.map #[] 0)).alloc (.cells #[.map (some w2.heap.size)] TMet) |>.alloc (.cells #[.slice none 0 0] TLLs)) (w2.heap.size + 1) (w2.heap.size + 1 + 1) w2.heap.size A n c acc none (.slice C nc cc) (.slice none 0 0) (.slice none 0 0) (.slice none 0 0) (.slice none 0 0) (.slice none 0 0) cuts [] [] [] := by
    have e4 : ((w2.setCell ⟨w.heap.size + 1, 0, none⟩ (.slice C nc cc)).alloc (.map #[] 0)).heap.size = w2.heap.size + 1 := by simp [World.setCell]
    have e5 : (((w2.setCell ⟨w.heap.size + 1, 0, none⟩ (.slice C nc cc)).alloc (.map #[] 0)).alloc (.cells #[.map (some w2.heap.size)] TMet)).heap.size = w2.heap.size + 1 + 1 := by simp [World.setCell]
    have m1 := Blk.new ((w2.setCell ⟨w.heap.size + 1, 0, none⟩ (.slice C nc cc)).alloc (.map #[] 0)) TMet #[.map (some w2.heap.size)]
    have l1 := Blk.new (((w2.setCell ⟨w.heap.size + 1, 0, none⟩ (.slice C nc cc)).alloc (.map #[] 0)).alloc (.cells #[.map (some w2.heap.size)] TMet)) TLLs #[.slice none 0 0]
    have n1 := MapM.nil (w2.setCell ⟨w.heap.size + 1, 0, none⟩ (.slice C nc cc)) n
    rw [e4] at m1
    rw [e5] at l1
    rw [hs3] at n1 b1
    have b2 := b1.alloc (by rw [e4]; omega) (.cells #[.map (some w2.heap.size)] TMet)
    have b3 := b2.alloc (by rw [e5]; omega) (.cells #[.slice none 0 0] TLLs)
    have b4 := ((Below.refl _ ((w2.setCell ⟨w.heap.size + 1, 0, none⟩ (.slice C nc cc)).alloc (.map #[] 0))).alloc (Nat.le_refl _) (.cells #[.map (some w2.heap.size)] TMet)).alloc (by simp) (.cells #[.slice none 0 0] TLLs)
    exact ⟨((K3a.alloc _).alloc _).alloc _, ((KO3.alloc _).alloc _).alloc _, m1.alloc _, l1, n1.of_block (b4.block _ (by rw [e4]; omega)), OwnI.below HU3 (by rw [hs3]; exact b3), by cases (Value.slice C nc cc).ownBlock <;> simp, Ls.nil _ _ _, Own.nil, Ls.nil _ _ _, .inl rfl, HB3.trans (b3.mono (by omega)), by omega, by omega⟩
  have HP0 := Lib.hid P0
  have HB6 := Lib.hid P0.b
  have hw2' : w.heap.size + 1 < w2.heap.size := KO2.out.lt
  have HRC := fun W (hb : Below w.heap.size w W) (b : Nat) (hc : W.cell? ⟨b, 0, none⟩ = some (.int .i64 0)) => auto_Reach A c n acc a (some ⟨b, 0, none⟩) 1 1 [0] W (HA.out.keep (Keep.of hb)) HL ⟨by simp, fun _ => ⟨b, 0, rfl, World.block_lt_of_cell? _ _ hc, fun i x hx => by
    match i, hx with
    | 0, hx => simp at hx; subst hx; exact ⟨_, hc, rfl, by omega, by omega⟩
    | i + 1, hx => simp at hx⟩⟩ (Lib.hid rfl) (by omega)
  have h00 : askE a acc [0] = 0 := askE_yes HOK.out (fun s hs => by simp at hs; subst hs; rw [HL.out]; omega)
  rw [h00, reachL_yes h00, of_zero] at HRC
  have HRC := Lib.hid HRC
  obtain ⟨t0, t1, t2, f0, f1, f2⟩ := Blk.three KO2.out
  obtain ⟨p0, p1, _, _⟩ := Blk.two KA2.out
  obtain ⟨p2, p3, _, _⟩ := Blk.two K3a
  have hN := KO2.out.lt
  have g1 : w.heap.size < w2.heap.size + 1 := by omega
  have g2 : w.heap.size < w2.heap.size + 1 + 1 := by omega
  have g3 : w.heap.size < w2.heap.size + 1 + 1 + 1 := by omega
  have g4 : w.heap.size + 1 < w2.heap.size + 1 := by omega
  have g5 : w.heap.size + 1 < w2.heap.size + 1 + 1 := by omega
  have g6 : w.heap.size + 1 < w2.heap.size + 1 + 1 + 1 := by omega
  have hN2 := KA2.out.lt
  clear P0 KO3 K3a HB3 HU3 hs3 b1 h00
  have HC7 : Hid ((((((w2.setCell ⟨w.heap.size + 1, 0, none⟩ (.slice C nc cc)).alloc (.map #[] 0)).alloc (.cells #[.map (some w2.heap.size)] TMet)).alloc (.cells #[.slice none 0 0] TLLs)).alloc (.cells #[.int .i64 0] TLI)).cell? ⟨w2.heap.size + 1 + 1 + 1, 0, none⟩ = some (.int .i64 0)) := Lib.hid (by
    have h := (Blk.new ((((w2.setCell ⟨w.heap.size + 1, 0, none⟩ (.slice C nc cc)).alloc (.map #[] 0)).alloc (.cells #[.map (some w2.heap.size)] TMet)).alloc (.cells #[.slice none 0 0] TLLs)) TLI #[.int .i64 0]).cell 0
    rw [show ((((w2.setCell ⟨w.heap.size + 1, 0, none⟩ (.slice C nc cc)).alloc (.map #[] 0)).alloc (.cells #[.map (some w2.heap.size)] TMet)).alloc (.cells #[.slice none 0 0] TLLs)).heap.size = w2.heap.size + 1 + 1 + 1 by simp [World.setCell]] at h
    exact h)
  have HB7 := Lib.hid (HB6.out.alloc HB6.out.size (.cells #[.int .i64 0] TLI))
  have HP7 := Lib.hid (HP0.out.below ((Below.refl _ _).alloc (Nat.le_refl _) (.cells #[.int .i64 0] TLI)))
  have HS7 := Lib.hid (show w.heap.size ≤ (((((w2.setCell ⟨w.heap.size + 1, 0, none⟩ (.slice C nc cc)).alloc (.map #[] 0)).alloc (.cells #[.map (some w2.heap.size)] TMet)).alloc (.cells #[.slice none 0 0] TLLs)).alloc (.cells #[.int .i64 0] TLI)).heap.size from HB7.out.size)
  clear HP0 HB6
  go_wp2_with fail
  refine (HRC.out _ HB7.out _ HC7.out).mono ?_
  rintro e w8 ⟨⟨v8, rfl, hv8⟩, hb8⟩
  have HP8 := Lib.hid (HP7.out.below hb8)
  have hv8' := hv8.lower HS7.out
  have HFS : stL a.length (Clo a fun s => s = 0) = stL n (Clo a fun s => s = 0) := by rw [HL.out]
  rw [HFS] at hv8'
  obtain ⟨B8, bc8, e8, _⟩ := hv8
  rw [HFS] at e8
  obtain ⟨q8, hq8⟩ : ∃ q, (stL n (Clo a fun s => s = 0)).length = q := ⟨_, rfl⟩
  rw [hq8] at e8
  subst e8
  have HCM := Lib.hid (come_at B8 q8 bc8 (w2.heap.size + 1) (w2.heap.size + 1 + 1) w2.heap.size w.heap.size n 0 0 none none _ [] w8 hn hv8' (by cases (Value.slice B8 q8 bc8).ownBlock <;> simp) HP8.out.mm HP8.out.m HP8.out.l HP8.out.al (Lib.hid rfl) (by omega) HP8.out.b.size)
  have HFS2 : Hid (stL n (Clo a fun s => s = 0) = firstS a) := Lib.hid (by unfold firstS; rw [HL.out])
  rw [HFS2.out] at HCM
  clear hv8' hb8 HFS hq8 HP7 HB7 HS7 HC7 HRC p0 p1 p2 p3 t0 t1 t2 f0 f1 f2 g1 g2 g3 g4 g5 g6 hN hN2 hw2' HB2 KA2 KO2 hw1 hw2
  go_wp2_with fail
  refine HCM.out.mono ?_
  intro e w9 hc9
  obtain ⟨A9, c9, k9, rfl, HK9, hp9, _⟩ := HP8.out.come hc9
  have HAD : addS [] (firstS a) = [firstS a] := by rw [addS_new (by simp)]; rfl
  rw [HAD] at hp9 HK9
  obtain rfl : 1 = k9 := HK9.out
  have HP9 := Lib.hid hp9
  have HR0 : Hid (mkM a acc cuts 70 [firstS a] [] [] = R) := Lib.hid HR.out
  clear hc9 hp9 HAD HP8 HCM HK9
  generalize w2.heap.size = m2 at *
  go_wp2
  go_loopw [10] (fun iv wr => ∃ (i k : Nat) (A1 : Option Addr) (c1 : Nat) (v2 v3 : Value) (all rows : List (List Int)) (accs : List Bool), iv = .int .i64 i ∧ i ≤ k ∧ k ≤ 64 ∧ Hid (all.length = k) ∧ Hid (rows.length = i) ∧ Hid (accs.length = i) ∧ Hid (MetS a all) ∧ Hid (mkM a acc cuts (70 - i) all rows accs = R) ∧
      Hid (PrIn w wr (m2 + 1) (m2 + 1 + 1) m2 A n c acc none (.slice C nc cc) (.slice A1 k c1) v2 v3 v2 v3 cuts all rows accs)) (fun iv _ => 70 - (intOf iv).toNat)
  case atStart => exact ⟨0, 1, A9, c9, _, _, [firstS a], [], [], rfl, by omega, by omega, Lib.hid rfl, Lib.hid rfl, Lib.hid rfl, Lib.hid (MetS.one a), HR0, HP9⟩
  case round =>
    clear HP9 HR0
    obtain ⟨i, k, A1, c1, v2, v3, all, rows, accs, rfl, hik, hk, HK, HRW, HAC, HMT, HRE, HM⟩ := hrel
    have l0 := HM.out.l.cell 0
    have hNL := HM.out.l.lt
    obtain ⟨d0, d1, d2, df0, df1, df2⟩ := Blk.three HM.out.d
    have hND := HM.out.d.lt
    simp only [List.getElem?_toArray, List.getElem?_cons_zero] at l0
    by_cases hlt : i < k
    · obtain ⟨l, HLI⟩ : ∃ l, Hid (all[i]? = some l) := ⟨_, Lib.hid (List.getElem?_eq_getElem (by rw [HK.out]; exact hlt))⟩
      have HR1 : Hid (restM a acc cuts (69 - i) l cuts [] all rows accs = R) := Lib.hid (by
        rw [← HRE.out, show 70 - i = (69 - i) + 1 by omega, restM_begin (by rw [HRW.out]; exact HLI.out)])
      have i1 : (0 : Int) ≤ (i : Int) := by omega
      have i2 : (i : Int) < (k : Int) := by omega
      have hm1 := fun W : World => run_make_row' (P := Tryz.prog) 22 3 (.int .i64 0) 8 Tryz.underlying22 info_int9 rfl .i64 .i64 nc (by omega) (by omega) W
      have HMF := Lib.hid (HM.out.fresh (.cells (madeCells #[.int .i64 0] nc) TLI))
      have HBR := Lib.hid (Blk.new wr TLI (madeCells #[.int .i64 0] nc))
      have hwr := HM.out.b.size
      have HBR0 : Hid (Blk (wr.alloc (.cells (madeCells #[.int .i64 0] nc) TLI)) wr.heap.size TLI (rowCs [] nc)) := Lib.hid (by rw [rowCs_nil]; exact HBR.out)
      go_wp2
      generalize wr.heap.size = ro at *
      go_loopw [58] (fun pv wr2 => ∃ (p k : Nat) (A1 : Option Addr) (c1 : Nat) (all : List (List Int)) (row : List Int), pv = .int .i64 p ∧ p ≤ nc ∧ i < k ∧ k ≤ 64 ∧ Hid (all.length = k) ∧ Hid (row.length = p) ∧ Hid (all[i]? = some l) ∧ Hid (MetS a all) ∧ Hid (restM a acc cuts (69 - i) l (cuts.drop p) row all rows accs = R) ∧
          Hid (Blk wr2 ro TLI (rowCs row nc)) ∧ Hid (PrIn w wr2 (m2 + 1) (m2 + 1 + 1) m2 A n c acc (some ro) (.slice C nc cc) (.slice A1 k c1) v2 v3 v2 v3 cuts all rows accs)) (fun pv _ => nc - (intOf pv).toNat)
      case atStart => exact ⟨0, k, A1, c1, all, [], rfl, by omega, hlt, hk, HK, Lib.hid rfl, HLI, HMT, HR1, HBR0, HMF⟩
      case round =>
        clear HK HMT HR1 HM HRE HLI hk hlt i2 l0 hNL d0 d1 d2 df0 df1 df2 hND hm1 HMF HBR HBR0
        obtain ⟨p, k, A1, c1, all, row, rfl, hp, hik2, hk, HK, HRL, HLI, HMT, HRE, HBR, HM⟩ := hrel
        obtain ⟨A1', c1', e1, hat, _⟩ := HM.out.al.lists (MetS.bd HMT.out (by rw [HL.out]; omega)) (by rw [HK.out]; omega)
        rw [HK.out] at e1
        injection e1 with e1 _ e3
        subst e1; subst e3
        have HAT := Lib.hid hat
        have i3 : (0 : Int) ≤ (p : Int) := by omega
        have i4 : (i : Int) < (k : Int) := by omega
        obtain ⟨b1, o1, T1, tc1, q1, l1, rfl, hb1, cc1, hl1, HQ1, _, hq1, HX1⟩ := At.gtS HAT.out HK hik2
        obtain rfl : l1 = l := Option.some.inj (HX1.out.symm.trans HLI.out)
        have hInl : InAu n l1 := by have := MetS.in HMT.out (mem_of_get HX1.out); rwa [HL.out] at this
        have hqn : q1 ≤ n := by
          obtain ⟨S, rfl⟩ := HMT.out l1 (mem_of_get HX1.out)
          rw [← HQ1.out, HL.out]
          exact stL_len _ _
        have HIN := Lib.hid hInl
        obtain ⟨p0, p1, _, _⟩ := Blk.two HM.out.a
        have hN := HM.out.a.lt
        have hNw := HM.out.b.size
        have l0 := HM.out.l.cell 0
        simp only [List.getElem?_toArray, List.getElem?_cons_zero] at l0
        clear hat hInl
        by_cases hpl : p < nc
        · obtain ⟨C', cc', ec, hcu, _⟩ := HM.out.u.at' HCB.out (by rw [HNC.out]; omega)
          rw [HNC.out] at ec
          injection ec with ec1 _ ec3
          subst ec1; subst ec3
          obtain ⟨b3, o3, u3', y, rfl, hb3, cc3, ⟨rfl, _, _⟩, HY⟩ := hcu.gt HNC hpl
          have i5 : (p : Int) < (nc : Int) := by omega
          have HMD := Lib.hid (HM.out.below (Below.refl _ _).drew)
          have HS : Hid (wr.drew.cell? ⟨w.heap.size, 0, none⟩ = some (.slice A n c) ∧ wr.drew.cell? ⟨w.heap.size, 1, none⟩ = some (.int .i64 acc) ∧ wr.drew.cell? ⟨m2 + 1 + 1, 0, none⟩ = some (.slice (some ⟨b1, o1, none⟩) k c1) ∧ wr.drew.cell? ⟨b1, o1 + i, none⟩ = some (.slice T1 q1 tc1)) := Lib.hid ⟨p0, p1, l0, cc1⟩
          have h0 : askE a acc l1 = 0 := askE_yes HOK.out (by rw [HL.out]; exact HIN.out)
          have HCB' := auto_Step A c n acc a T1 tc1 q1 l1 y wr.drew (HA.out.keep (Keep.of HMD.out.b)) HL (hl1.keep (Keep.drew wr)) HQ1 (by omega)
          rw [h0, stepL_yes h0] at HCB'
          have HSTP := Lib.hid HCB'
          clear hl1 hcu h0 HCB'
          go_wp2
          refine wp_region_T 11 (fun W => W.cell? ⟨w.heap.size, 0, none⟩ = some (.slice A n c) ∧ W.cell? ⟨w.heap.size, 1, none⟩ = some (.int .i64 acc) ∧ W.cell? ⟨m2 + 1 + 1, 0, none⟩ = some (.slice (some ⟨b1, o1, none⟩) k c1) ∧ W.cell? ⟨b1, o1 + i, none⟩ = some (.slice T1 q1 tc1)) (by kernel_rfl) ?_
          refine wpAnyT_take (i := 0) (v := ?_) rfl (by kernel_rfl) (by kernel_rfl) (by kernel_rfl) (by kernel_rfl) (by kernel_rfl) (fun _ _ _ h => h) (.inl ⟨rfl, ?_⟩) HS.out ?_
          rotate_left
          · intro W__ hW__
            obtain ⟨h1, h2, h3, h4⟩ := hW__
            go_simp
            (try with_reducible rfl)
          try simp only [Act.put]
          refine wpAnyT_take (i := 1) (v := ?_) rfl (by kernel_rfl) (by kernel_rfl) (by kernel_rfl) (by kernel_rfl) (by kernel_rfl) (fun _ _ _ h => h) (.inl ⟨rfl, ?_⟩) HS.out ?_
          rotate_left
          · intro W__ hW__
            obtain ⟨h1, h2, h3, h4⟩ := hW__
            go_simp
            (try with_reducible rfl)
          try simp only [Act.put]
          refine wpAnyT_take (i := 2) (v := ?_) rfl (by kernel_rfl) (by kernel_rfl) (by kernel_rfl) (by kernel_rfl) (by kernel_rfl) (fun _ _ _ h => h) (.inl ⟨rfl, ?_⟩) HS.out ?_
          rotate_left
          · intro W__ hW__
            obtain ⟨h1, h2, h3, h4⟩ := hW__
            go_simp
            (try with_reducible rfl)
          try simp only [Act.put]
          refine wpAnyT_take (i := 5) (v := ?_) rfl (by kernel_rfl) (by kernel_rfl) (by kernel_rfl) (by kernel_rfl) (by kernel_rfl) (fun _ _ _ h => h) (.inl ⟨rfl, ?_⟩) HS.out ?_
          rotate_left
          · intro W__ hW__
            obtain ⟨h1, h2, h3, h4⟩ := hW__
            go_simp
            (try with_reducible rfl)
          try simp only [Act.put]
          refine wpAnyT_take (i := 3) (v := ?_) rfl (by kernel_rfl) (by kernel_rfl) (by kernel_rfl) (by kernel_rfl) (by kernel_rfl) (fun _ _ _ h => h) (.inl ⟨rfl, ?_⟩) HS.out ?_
          rotate_left
          · intro W__ hW__
            obtain ⟨h1, h2, h3, h4⟩ := hW__
            go_simp
            (try with_reducible rfl)
          try simp only [Act.put]
          refine wpAnyT_take (i := 4) (v := ?_) rfl (by kernel_rfl) (by kernel_rfl) (by kernel_rfl) (by kernel_rfl) (by kernel_rfl) (fun _ _ _ h => h) (.inl ⟨rfl, ?_⟩) HS.out ?_
          rotate_left
          · intro W__ hW__
            obtain ⟨h1, h2, h3, h4⟩ := hW__
            go_simp
            (try with_reducible rfl)
          try simp only [Act.put]
          refine wpAnyT_one (i := 6) rfl (by kernel_rfl) rfl fun K__ hK__ => ?_
          unfold Oper.wp
          go_simp
          refine HSTP.out.mono ?_
          rintro e w5 ⟨⟨v5, rfl, hv5⟩, hb5⟩
          have e5 : stL a.length (Stp a y (Of l1)) = stL n (Stp a y (Of l1)) := by rw [HL.out]
          rw [e5] at hv5
          have hz5 := stL_len n (Stp a y (Of l1))
          obtain ⟨B5, bc5, rfl, hat5, _⟩ := hv5.at' (stL_bd (by omega)) (by omega)
          have HM5 := Lib.hid (HMD.out.below hb5)
          have HBR5 := Lib.hid ((HBR.out.drewN 1).below hb5 HBR.out.lt)
          obtain ⟨q0, q1', _, _⟩ := Blk.two HM5.out.a
          have l5 := HM5.out.l.cell 0
          simp only [List.getElem?_toArray, List.getElem?_cons_zero] at l5
          have ce1 := ((Keep.of hb5).cell b1 (o1 + i) hb1).trans HS.out.2.2.2
          have HS5 : Hid (w5.cell? ⟨w.heap.size, 0, none⟩ = some (.slice A n c) ∧ w5.cell? ⟨w.heap.size, 1, none⟩ = some (.int .i64 acc) ∧ w5.cell? ⟨m2 + 1 + 1, 0, none⟩ = some (.slice (some ⟨b1, o1, none⟩) k c1) ∧ w5.cell? ⟨b1, o1 + i, none⟩ = some (.slice T1 q1 tc1)) := Lib.hid ⟨q0, q1', l5, ce1⟩
          obtain ⟨L5, hL5⟩ : ∃ L, stL n (Stp a y (Of l1)) = L := ⟨_, rfl⟩
          have HL5 := Lib.hid hL5
          rw [hL5] at hat5 hz5 ⊢
          obtain ⟨j5, hj5⟩ : ∃ j, L5.length = j := ⟨_, rfl⟩
          have HJ5 := Lib.hid hj5
          rw [hj5] at hz5 ⊢
          have hRC := auto_Reach A c n acc a B5 bc5 j5 L5 w5 (HA.out.keep (Keep.of HM5.out.b)) HL hat5 HJ5 (by omega)
          have h06 : askE a acc L5 = 0 := askE_yes HOK.out (by rw [HL.out, ← HL5.out]; exact stL_in)
          rw [h06, reachL_yes h06] at hRC
          have e6 : stL a.length (Clo a (Of L5)) = stL n (Clo a (Stp a y (Of l1))) := by
            rw [← HL5.out, of_stL (fun s hs => by have := stp_in HOK.out hs; rwa [HL.out] at this), HL.out]
          rw [e6] at hRC
          have HRC2 := Lib.hid hRC
          have HSS : Hid (stL n (Clo a (Stp a y (Of l1))) = stepS a l1 y) := Lib.hid (by unfold stepS; rw [HL.out])
          have hro5 : ro < w5.heap.size := HBR5.out.lt
          have hw5 : w.heap.size ≤ w5.heap.size := HM5.out.b.size
          clear hv5 hb5 hat5 hL5 hj5 e5 e6 h06 hRC
          refine hK__ _ _ HS5.out ?_
          clear hK__
          refine wpAnyT_take (i := 7) (v := ?_) rfl (by kernel_rfl) (by kernel_rfl) (by kernel_rfl) (by kernel_rfl) (by kernel_rfl) (fun _ _ _ h => h) (.inl ⟨rfl, ?_⟩) HS5.out ?_
          rotate_left
          · intro W__ hW__
            obtain ⟨h1, h2, h3, h4⟩ := hW__
            go_simp
            (try with_reducible rfl)
          try simp only [Act.put]
          refine wpAnyT_take (i := 8) (v := ?_) rfl (by kernel_rfl) (by kernel_rfl) (by kernel_rfl) (by kernel_rfl) (by kernel_rfl) (fun _ _ _ h => h) (.inl ⟨rfl, ?_⟩) HS5.out ?_
          rotate_left
          · intro W__ hW__
            obtain ⟨h1, h2, h3, h4⟩ := hW__
            go_simp
            (try with_reducible rfl)
          try simp only [Act.put]
          refine wpAnyT_take (i := 9) (v := ?_) rfl (by kernel_rfl) (by kernel_rfl) (by kernel_rfl) (by kernel_rfl) (by kernel_rfl) (fun _ _ _ h => h) (.inl ⟨rfl, ?_⟩) HS5.out ?_
          rotate_left
          · intro W__ hW__
            obtain ⟨h1, h2, h3, h4⟩ := hW__
            go_simp
            (try with_reducible rfl)
          try simp only [Act.put]
          refine wpAnyT_take (i := 10) (v := ?_) rfl (by kernel_rfl) (by kernel_rfl) (by kernel_rfl) (by kernel_rfl) (by kernel_rfl) (fun _ _ _ h => h) (.inl ⟨rfl, ?_⟩) HS5.out ?_
          rotate_left
          · intro W__ hW__
            obtain ⟨h1, h2, h3, h4⟩ := hW__
            go_simp
            (try with_reducible rfl)
          try simp only [Act.put]
          refine wpAnyT_end (i := 11) rfl (by kernel_rfl) rfl (by kernel_rfl) fun K__ hK__ => ?_
          unfold Oper.wp
          go_simp
          refine hK__ _ _ ?_
          clear hK__
          refine wpAnyT_done (by kernel_rfl) ?_ _
          clear p0 p1 l0 cc1 cc3 HS ce1 HMD
          go_wp2_with fail
          refine HRC2.out.mono ?_
          rintro e w6 ⟨⟨v6, rfl, hv6⟩, hb6⟩
          have HM6 := Lib.hid (HM5.out.below hb6)
          have HBR6 := Lib.hid (HBR5.out.below hb6 HBR5.out.lt)
          have hx6 : v6.ownBlock = none ∨ v6.ownBlock ≠ some ro := by
            cases hg : v6.ownBlock with
            | none => exact .inl rfl
            | some g => have := (hv6.lt hg).1; exact .inr (by simp; omega)
          have hu6 := hv6.lower hw5
          obtain ⟨B6, bc6, e7, _⟩ := hv6
          obtain ⟨q6, hq6⟩ : ∃ q, (stL n (Clo a (Stp a y (Of l1)))).length = q := ⟨_, rfl⟩
          rw [hq6] at e7
          subst e7
          have hCM := come_at B6 q6 bc6 (m2 + 1) (m2 + 1 + 1) m2 w.heap.size n k c1 (some ⟨b1, o1, none⟩) (some ro) _ all w6 hn hu6 hx6 HM6.out.mm HM6.out.m HM6.out.l HM6.out.al HK (by omega) HM6.out.b.size
          rw [HSS.out] at hCM
          have HCM := Lib.hid hCM
          clear hu6 hx6 hq6 hb6 hCM q0 q1' l5
          go_wp2_with fail
          refine HCM.out.mono ?_
          intro e w7 hc7
          obtain ⟨A7, c7, k7, rfl, HK7, hp7, hrow⟩ := HM6.out.come hc7
          have HM7 := Lib.hid hp7
          have HBR7 := Lib.hid (hrow _ _ HBR6.out)
          obtain ⟨j, hj⟩ : ∃ j, numS all (stepS a l1 y) = j := ⟨_, rfl⟩
          have HJ := Lib.hid hj
          rw [hj]
          have hpr : p < (rowCs row nc).size := by rw [rowCs_size (by rw [HRL.out]; exact hp)]; exact hpl
          obtain ⟨ur, hur⟩ : ∃ u, (rowCs row nc)[p]? = some u := ⟨_, Array.getElem?_eq_getElem hpr⟩
          have r7 := (HBR7.out.cell p).trans hur
          have f7 := HBR7.out.frozen p
          have HM8 := Lib.hid (HM7.out.put (i := p) HBR7.out (Nat.le_trans hwr (Nat.le_refl _)) (.int .i64 j))
          have HBR8 : Hid (Blk (w7.setCell ⟨ro, p, none⟩ (.int .i64 j)) ro TLI (rowCs (row ++ [(j : Int)]) nc)) := Lib.hid (by
            have h := HBR7.out.set p (.int .i64 j)
            have h2 := rowCs_put (nc := nc) (row := row) (by rw [HRL.out]; exact hpl) (j : Int)
            rw [HRL.out] at h2
            rwa [h2] at h)
          have l8 := HM8.out.l.cell 0
          have hNL8 := HM8.out.l.lt
          have hNR7 := HBR7.out.lt
          simp only [List.getElem?_toArray, List.getElem?_cons_zero] at l8
          have HDR : Hid (cuts.drop p = y :: cuts.drop (p + 1)) := Lib.hid (by
            have h1 := lt_of_get HY.out
            have h2 := HY.out
            rw [List.getElem?_eq_getElem h1] at h2
            rw [List.drop_eq_getElem_cons h1, Option.some.inj h2])
          clear hc7 hp7 hrow hj hur hpr HM6 HBR6 HCM
          by_cases h64 : 64 < k7
          · have d1 : (64 : Int) < (k7 : Int) := by omega
            have HE := Lib.hid (EndD.states HFT.out.ok HFT.out.s HFT.out.p (by
              rw [HCT.out, HR.out, ← HRE.out, HDR.out, restM_many (by rw [HK7.out]; exact h64)]))
            obtain ⟨d0, d1', d2, df0, df1, df2⟩ := Blk.three HM8.out.d
            have hND := HM8.out.d.lt
            go_wp2
            obtain ⟨y0, y1, y2, _, _, _⟩ := Blk.three (Blk.set3 (u0 := .slice none 0 0) (u1 := .slice none 0 0) (u2 := .slice none 0 0) HM8.out.d)
            exact bodyPost_ret (v := .tuple #[zDfa, .int .i64 90]) (by simp [results, Tryz.results14, go_sem, y0, y1, y2]) rfl ⟨.inl ⟨90, HE.out, rfl⟩, below3 HM8.out.b (by simp)⟩
          · have d1 : decide ((64 : Int) < (k7 : Int)) = false := decide_eq_false (by omega)
            have HLI7 : Hid ((addS all (stepS a l1 y))[i]? = some l1) := Lib.hid (addS_get HLI.out)
            have HREN : Hid (restM a acc cuts (69 - i) l1 (cuts.drop (p + 1)) (row ++ [(j : Int)]) (addS all (stepS a l1 y)) rows accs = R) := Lib.hid (by
              rw [← HRE.out, HDR.out, restM_next (by rw [HK7.out]; omega), HJ.out])
            have hik7 : i < k7 := by have := lt_of_get HLI7.out; rwa [HK7.out] at this
            go_wp2
            go_roundw
            case rel => exact ⟨p + 1, k7, A7, c7, addS all (stepS a l1 y), row ++ [(j : Int)], by go_num, by omega, hik7, by omega, HK7, Lib.hid (by rw [List.length_append, HRL.out]; rfl), HLI7, Lib.hid (MetS.add HMT.out l1 y), HREN, HBR8, HM8⟩
            case measure => simp [intOf]; omega
        · obtain rfl : p = nc := by omega
          have HDR : Hid (cuts.drop p = []) := Lib.hid (List.drop_eq_nil_of_le (by rw [HNC.out]; exact Nat.le_refl _))
          have HREN : Hid (mkM a acc cuts (69 - i) all (rows ++ [row]) (accs ++ [decide (acc ∈ l1)]) = R) := Lib.hid (by rw [← HRE.out, HDR.out, restM_end])
          have HF := Lib.hid (HM.out.free.below (Below.refl _ _).drew)
          obtain ⟨A2, c2, us2, ev2, ow2, rel2⟩ := HF.out.r
          obtain ⟨A3, c3, us3, ev3, ow3, rel3⟩ := HF.out.t
          rw [HRW.out] at ev2 ow2
          rw [HAC.out] at ev3 ow3
          subst ev2; subst ev3
          have OW2 := Lib.hid ow2; have REL2 := Lib.hid rel2
          have HU : Hid (OwnI wr.drew w.heap.size (.slice (some ⟨ro, 0, none⟩) p p) row) := Lib.hid (by
            have h := own_blkF (HBR.out.drewN 1) hwr (rowCs_size (by rw [HRL.out]; exact Nat.le_refl _)) (by simp only [maxLen]; omega)
            rw [rowCs_full HRL.out] at h
            have h2 := HRL.out
            subst h2
            exact ⟨_, _, rfl, h⟩)
          obtain ⟨d0, d1, d2, df0, df1, df2⟩ := Blk.three HM.out.d
          have hND := HM.out.d.lt
          have HS : Hid (wr.drew.cell? ⟨w.heap.size + 1, 1, none⟩ = some (.slice A2 i c2) ∧ wr.drew.cell? ⟨w.heap.size + 1, 2, none⟩ = some (.slice A3 i c3) ∧ wr.drew.cell? ⟨m2 + 1 + 1, 0, none⟩ = some (.slice (some ⟨b1, o1, none⟩) k c1) ∧ wr.drew.cell? ⟨b1, o1 + i, none⟩ = some (.slice T1 q1 tc1) ∧ wr.drew.cell? ⟨w.heap.size, 1, none⟩ = some (.int .i64 acc)) := Lib.hid ⟨d1, d2, l0, cc1, p1⟩
          have OWA := Lib.hid (ow2.alloc (.cells #[.slice (some ⟨ro, 0, none⟩) p p] TLL))
          have SRA := Lib.hid (Pv.Src.one (w := wr.drew) (x := .slice (some ⟨ro, 0, none⟩) p p) (t := TLL) rfl)
          have Q1 : Hid (i + 1 ≤ maxLen) := Lib.hid (by simp only [maxLen]; omega)
          have Q2 : Hid ((i + 1) * 24 ≤ 140737488355328) := Lib.hid (by omega)
          have Q4 : Hid ((i + 1) * 1 ≤ 140737488355328) := Lib.hid (by omega)
          have Z1 : Hid (w.heap.size ≤ (wr.drew.alloc (.cells #[.slice (some ⟨ro, 0, none⟩) p p] TLL)).heap.size) := Lib.hid (by have := HF.out.b.size; simp at this ⊢; omega)
          clear ow2 rel2 ow3 rel3 HRE
          go_wp2
          refine wp_region_T 17 (fun W => W.cell? ⟨w.heap.size + 1, 1, none⟩ = some (.slice A2 i c2) ∧ W.cell? ⟨w.heap.size + 1, 2, none⟩ = some (.slice A3 i c3) ∧ W.cell? ⟨m2 + 1 + 1, 0, none⟩ = some (.slice (some ⟨b1, o1, none⟩) k c1) ∧ W.cell? ⟨b1, o1 + i, none⟩ = some (.slice T1 q1 tc1) ∧ W.cell? ⟨w.heap.size, 1, none⟩ = some (.int .i64 acc)) (by kernel_rfl) ?_
          clear d0 d1 d2 df0 df1 df2 l0 cc1 p0 p1
          generalize wr.drew = W at *
          refine wpAnyT_takeC (i := 0) [17] (v := ?_) rfl (by kernel_rfl) (by kernel_rfl) (by kernel_rfl) (by kernel_rfl) (by kernel_rfl) (by kernel_rfl) (fun _ _ _ h => h) (.inl ⟨rfl, ?_⟩) HS.out ?_
          rotate_left
          · intro W__ hW__
            obtain ⟨h1, h2, h3, h4, h5⟩ := hW__
            go_simp
            (try with_reducible rfl)
          try simp only [Act.put]
          refine wpAnyT_takeC (i := 2) [17] (v := ?_) rfl (by kernel_rfl) (by kernel_rfl) (by kernel_rfl) (by kernel_rfl) (by kernel_rfl) (by kernel_rfl) (fun _ _ _ h => h) (.inl ⟨rfl, ?_⟩) HS.out ?_
          rotate_left
          · intro W__ hW__
            obtain ⟨h1, h2, h3, h4, h5⟩ := hW__
            go_simp
            (try with_reducible rfl)
          try simp only [Act.put]
          refine wpAnyT_takeC (i := 5) [17] (v := ?_) rfl (by kernel_rfl) (by kernel_rfl) (by kernel_rfl) (by kernel_rfl) (by kernel_rfl) (by kernel_rfl) (fun _ _ _ h => h) (.inl ⟨rfl, ?_⟩) HS.out ?_
          rotate_left
          · intro W__ hW__
            obtain ⟨h1, h2, h3, h4, h5⟩ := hW__
            go_simp
            (try with_reducible rfl)
          try simp only [Act.put]
          refine wpAnyT_takeC (i := 7) [17, 15, 13, 10, 9] (v := ?_) rfl (by kernel_rfl) (by kernel_rfl) (by kernel_rfl) (by kernel_rfl) (by kernel_rfl) (by kernel_rfl) (fun _ _ _ h => h) (.inl ⟨rfl, ?_⟩) HS.out ?_
          rotate_left
          · intro W__ hW__
            obtain ⟨h1, h2, h3, h4, h5⟩ := hW__
            go_simp
            (try with_reducible rfl)
          try simp only [Act.put]
          refine wpAnyT_takeC (i := 8) [17, 15, 13, 10, 9] (v := ?_) rfl (by kernel_rfl) (by kernel_rfl) (by kernel_rfl) (by kernel_rfl) (by kernel_rfl) (by kernel_rfl) (fun _ _ _ h => h) (.inl ⟨rfl, ?_⟩) HS.out ?_
          rotate_left
          · intro W__ hW__
            obtain ⟨h1, h2, h3, h4, h5⟩ := hW__
            go_simp
            (try with_reducible rfl)
          try simp only [Act.put]
          refine wpAnyT_takeC (i := 11) [17, 15, 13, 12] (v := ?_) rfl (by kernel_rfl) (by kernel_rfl) (by kernel_rfl) (by kernel_rfl) (by kernel_rfl) (by kernel_rfl) (fun _ _ _ h => h) (.inl ⟨rfl, ?_⟩) HS.out ?_
          rotate_left
          · intro W__ hW__
            obtain ⟨h1, h2, h3, h4, h5⟩ := hW__
            go_simp
            (try with_reducible rfl)
          try simp only [Act.put]
          refine wpAnyT_takeC (i := 1) [17] (v := ?_) rfl (by kernel_rfl) (by kernel_rfl) (by kernel_rfl) (by kernel_rfl) (by kernel_rfl) (by kernel_rfl) (fun _ _ _ h => h) (.inl ⟨rfl, ?_⟩) HS.out ?_
          rotate_left
          · intro W__ hW__
            obtain ⟨h1, h2, h3, h4, h5⟩ := hW__
            go_simp
            (try with_reducible rfl)
          try simp only [Act.put]
          refine wpAnyT_takeC (i := 6) [17] (v := ?_) rfl (by kernel_rfl) (by kernel_rfl) (by kernel_rfl) (by kernel_rfl) (by kernel_rfl) (by kernel_rfl) (fun _ _ _ h => h) (.inl ⟨rfl, ?_⟩) HS.out ?_
          rotate_left
          · intro W__ hW__
            obtain ⟨h1, h2, h3, h4, h5⟩ := hW__
            go_simp
            (try with_reducible rfl)
          try simp only [Act.put]
          refine wpAnyT_takeC (i := 9) [17, 15, 13, 10] (v := ?_) rfl (by kernel_rfl) (by kernel_rfl) (by kernel_rfl) (by kernel_rfl) (by kernel_rfl) (by kernel_rfl) (fun _ _ _ h => h) (.inl ⟨rfl, ?_⟩) HS.out ?_
          rotate_left
          · intro W__ hW__
            obtain ⟨h1, h2, h3, h4, h5⟩ := hW__
            go_simp
            (try with_reducible rfl)
          try simp only [Act.put]
          refine wpAnyT_takeC (i := 12) [17, 15, 13] (v := ?_) rfl (by kernel_rfl) (by kernel_rfl) (by kernel_rfl) (by kernel_rfl) (by kernel_rfl) (by kernel_rfl) (fun _ _ _ h => h) (.inl ⟨rfl, ?_⟩) HS.out ?_
          rotate_left
          · intro W__ hW__
            obtain ⟨h1, h2, h3, h4, h5⟩ := hW__
            go_simp
            (try with_reducible rfl)
          try simp only [Act.put]
          refine wpAnyT_takeC (i := 10) [17, 15, 13] (v := ?_) rfl (by kernel_rfl) (by kernel_rfl) (by kernel_rfl) (by kernel_rfl) (by kernel_rfl) (by kernel_rfl) (fun _ _ _ h => h) (.inl ⟨rfl, ?_⟩) HS.out ?_
          rotate_left
          · intro W__ hW__
            obtain ⟨h1, h2, h3, h4, h5⟩ := hW__
            go_simp
            (try with_reducible rfl)
          try simp only [Act.put]
          have KW := Lib.hid (fun (o : Obj) (p : Addr) (u : Value) (h : W.cell? ⟨p.block, p.off, none⟩ = some u) => show (W.alloc o).cell? ⟨p.block, p.off, none⟩ = some u from ((Keep.alloc W o).cell _ _ (World.block_lt_of_cell? _ _ h)).trans h)
          have HS1 := Lib.hid (And.intro (KW.out (.cells #[.slice (some ⟨ro, 0, none⟩) p p] TLL) ⟨w.heap.size + 1, 1, none⟩ _ HS.out.1) (And.intro (KW.out (.cells #[.slice (some ⟨ro, 0, none⟩) p p] TLL) ⟨w.heap.size + 1, 2, none⟩ _ HS.out.2.1) (And.intro (KW.out (.cells #[.slice (some ⟨ro, 0, none⟩) p p] TLL) ⟨m2 + 1 + 1, 0, none⟩ _ HS.out.2.2.1) (And.intro (KW.out (.cells #[.slice (some ⟨ro, 0, none⟩) p p] TLL) ⟨b1, o1 + i, none⟩ _ HS.out.2.2.2.1) (KW.out (.cells #[.slice (some ⟨ro, 0, none⟩) p p] TLL) ⟨w.heap.size, 1, none⟩ _ HS.out.2.2.2.2)))))
          obtain ⟨csb, hcsb⟩ := HF.out.al.blk
          have HCB1 := Lib.hid hcsb
          have hne2 : some b1 ≠ (Value.slice A2 i c2).ownBlock := by
            intro e
            rcases HF.out.ne with h | h
            · rw [h] at e; cases e
            · exact h e.symm
          have HN2 := Lib.hid hne2
          clear hcsb hne2
          refine wpAnyT_one (i := 3) rfl (by kernel_rfl) rfl fun K__ hK__ => ?_
          unfold Oper.wp
          go_simp
          refine hK__ _ _ HS1.out ?_
          clear hK__
          refine wpAnyT_one (i := 4) rfl (by kernel_rfl) rfl fun K__ hK__ => ?_
          refine wp_append_src _ (.tmp 91) (.tmp 93) 23 rfl w.heap.size TLL i0 (.slice none 0 0) 1 24 Tryz.underlying23 hi0 hz0 hs0 hb0 rfl (by decide) A2 c2 i us2 (by simp [Act.eval]) OWA.out _ 1 1 _ (by simp [Act.eval]) SRA.out Q1.out Q2.out Z1.out ?_
          intro A9 c9 w9 own9 gr9 hn9
          have HM9 := Lib.hid (PrIn.row HF.out OW2.out REL2.out HRW.out HU.out own9 gr9 hn9)
          have HCB9 := Lib.hid ((HCB1.out.alloc (.cells #[.slice (some ⟨ro, 0, none⟩) p p] TLL)).grown gr9 HN2.out)
          have cb9 := (World.cell?_of_block (a := ⟨b1, o1 + i, none⟩) (gr9.block b1 (by have := HCB1.out.lt; simp; omega) HN2.out)).trans HS1.out.2.2.2.1
          obtain ⟨x0, x1, x2, _, _, _⟩ := Blk.three HM9.out.d
          obtain ⟨y0, y1, _, _⟩ := Blk.two HM9.out.a
          have z0 := HM9.out.l.cell 0
          simp only [List.getElem?_toArray, List.getElem?_cons_zero] at z0
          have HS9 := Lib.hid (And.intro x1 (And.intro x2 (And.intro z0 (And.intro cb9 y1))))
          obtain ⟨A1', c1', e1, hat9, _⟩ := HM9.out.al.lists (MetS.bd HMT.out (by rw [HL.out]; omega)) (by rw [HK.out]; omega)
          rw [HK.out] at e1
          injection e1 with e1 _ e3
          subst e1; subst e3
          obtain ⟨b4, o4, T4, tc4, q4, l4, eA, hb4, cc4, hl4, HQ4, _, hq4, HX4⟩ := At.gtS hat9 HK hik2
          injection eA with eA
          injection eA with eA1 eA2
          subst eA1; subst eA2
          obtain rfl : l4 = l1 := Option.some.inj (HX4.out.symm.trans HLI.out)
          have ec := Option.some.inj (cc4.symm.trans cb9)
          injection ec with ec1 ec2 ec3
          subst ec1; subst ec2; subst ec3
          have HCO := contains_int T4 tc4 q4 l4 acc w9 hl4 HQ4
          obtain ⟨bb, hbb⟩ : ∃ bb, decide (acc ∈ l4) = bb := ⟨_, rfl⟩
          rw [hbb] at HCO HREN
          have HCO := Lib.hid HCO
          obtain ⟨A3', c3', us3', ev3', ow3', rel3'⟩ := HM9.out.t
          rw [HAC.out] at ev3' ow3'
          injection ev3' with ev31 _ ev33
          subst ev31; subst ev33
          have OW3 := Lib.hid ow3'; have REL3 := Lib.hid rel3'
          have OWB := Lib.hid (ow3'.alloc (.cells #[.bool bb] 4))
          have SRB := Lib.hid (Pv.Src.one (w := w9) (x := .bool bb) (t := 4) rfl)
          have Z3 : Hid (w.heap.size ≤ (w9.alloc (.cells #[.bool bb] 4)).heap.size) := Lib.hid (by have := HM9.out.b.size; simp; omega)
          have HMB := Lib.hid (HM9.out.below ((Below.refl _ _).alloc (Nat.le_refl _) (.cells #[.bool bb] 4)))
          have HCBB := Lib.hid (HCB9.out.alloc (.cells #[.bool bb] 4))
          have cbB := (World.cell?_of_block (a := ⟨b1, o1 + i, none⟩) (Below.heap_alloc w9 (.cells #[.bool bb] 4) b1 HCB9.out.lt)).trans cb9
          obtain ⟨x0', x1', x2', _, _, _⟩ := Blk.three HMB.out.d
          obtain ⟨y0', y1', _, _⟩ := Blk.two HMB.out.a
          have z0' := HMB.out.l.cell 0
          simp only [List.getElem?_toArray, List.getElem?_cons_zero] at z0'
          have HSB := Lib.hid (And.intro x1' (And.intro x2' (And.intro z0' (And.intro cbB y1'))))
          refine hK__ _ _ HS9.out ?_
          clear hK__ own9 gr9 hn9 cb9 x0 x1 x2 y0 y1 z0 hat9 cc4 hl4 hbb ow3' rel3' cbB x0' x1' x2' y0' y1' z0'
          simp only [Act.put]
          refine wpAnyT_takeC (i := 16) [17] (v := ?_) rfl (by kernel_rfl) (by kernel_rfl) (by kernel_rfl) (by kernel_rfl) (by kernel_rfl) (by kernel_rfl) (fun _ _ _ h => h) (.inl ⟨rfl, ?_⟩) HS9.out ?_
          rotate_left
          · intro W__ hW__
            obtain ⟨h1, h2, h3, h4, h5⟩ := hW__
            go_simp
            (try with_reducible rfl)
          try simp only [Act.put]
          refine wpAnyT_one (i := 13) rfl (by kernel_rfl) rfl fun K__ hK__ => ?_
          unfold Oper.wp
          go_simp
          refine HCO.out.mono ?_
          rintro e w10 ⟨rfl, rfl⟩
          refine hK__ _ _ HS9.out ?_
          clear hK__
          refine wpAnyT_one (i := 14) rfl (by kernel_rfl) rfl fun K__ hK__ => ?_
          unfold Oper.wp
          go_simp
          refine hK__ _ _ HSB.out ?_
          clear hK__
          refine wpAnyT_one (i := 15) rfl (by kernel_rfl) rfl fun K__ hK__ => ?_
          refine wp_append_src _ (.tmp 96) (.tmp 104) 24 rfl w.heap.size 4 i1' (.bool false) 1 1 Tryz.underlying24 hi1 hz1 hs1 hb1' rfl (by decide) A3 c3 i us3' (by simp [Act.eval]) OWB.out _ 1 1 _ (by simp [Act.eval]) SRB.out Q1.out Q4.out Z3.out ?_
          intro A11 c11 w11 own11 gr11 _
          have HM11 := Lib.hid (PrIn.told HM9.out OW3.out REL3.out HAC.out own11 gr11)
          have cb11 := (World.cell?_of_block (a := ⟨b1, o1 + i, none⟩) (gr11.block b1 HCBB.out.lt (own_blk_ne OWB.out HCBB.out (by decide)))).trans HSB.out.2.2.2.1
          obtain ⟨x0, x1, x2, xf0, xf1, xf2⟩ := Blk.three HM11.out.d
          obtain ⟨y0, y1, _, _⟩ := Blk.two HM11.out.a
          have z0 := HM11.out.l.cell 0
          simp only [List.getElem?_toArray, List.getElem?_cons_zero] at z0
          refine hK__ _ _ ⟨x1, x2, z0, cb11, y1⟩ ?_
          clear hK__ own11 gr11
          simp only [Act.put]
          have HM13 := Lib.hid (((HM11.out.far (i := 1) (u := .slice A9 (i + 1) c9) rfl).far (i := 2) (u := .slice A11 (i + 1) c11) rfl))
          refine wpAnyT_end (i := 17) rfl (by kernel_rfl) rfl (by kernel_rfl) fun K__ hK__ => ?_
          unfold Oper.wp
          go_simp
          refine hK__ _ _ ?_
          clear hK__
          refine wpAnyT_end (i := 18) rfl (by kernel_rfl) rfl (by kernel_rfl) fun K__ hK__ => ?_
          unfold Oper.wp
          go_simp
          refine hK__ _ _ ?_
          clear hK__
          refine wpAnyT_end (i := 19) rfl (by kernel_rfl) rfl (by kernel_rfl) fun K__ hK__ => ?_
          unfold Oper.wp
          go_simp
          refine hK__ _ _ ?_
          clear hK__
          refine wpAnyT_done (by kernel_rfl) ?_ _
          clear x0 x1 x2 xf0 xf1 xf2 y0 y1 z0 cb11
          go_wp2
          go_roundw
          case rel => exact ⟨i + 1, k, _, c1, _, _, all, rows ++ [row], accs ++ [bb], by go_num, by omega, hk, HK, Lib.hid (by rw [List.length_append, HRW.out]; rfl), Lib.hid (by rw [List.length_append, HAC.out]; rfl), HMT, Lib.hid (by rw [show 70 - (i + 1) = 69 - i by omega]; exact HREN.out), HM13⟩
          case measure => simp [intOf]; omega
    · have hik3 : i = k := by omega
      subst hik3
      have HSOME : Hid (madeM a acc (plcL (allSets a)) = some (rows, accs)) := Lib.hid (by rw [HCT.out, HR.out, ← HRE.out]; exact mkM_end (by rw [HK.out, HRW.out]; exact Nat.le_refl _) (by omega))
      have HRS := Lib.hid (show Res wr w.heap.size (.slice C nc cc) v2 v3 cuts rows accs from ⟨HM.out.u, HM.out.r, HM.out.t⟩)
      obtain ⟨A2, c2, us2, ev2, _, _⟩ := HM.out.r
      obtain ⟨A3, c3, us3, ev3, _, _⟩ := HM.out.t
      subst ev2; subst ev3
      have HD := Lib.hid HM.out.d; have HB := Lib.hid HM.out.b
      clear HM HRE
      go_wp2
      obtain ⟨y0, y1, y2, _, _, _⟩ := Blk.three (Blk.set3 (u0 := .slice C nc cc) (u1 := .slice A2 rows.length c2) (u2 := .slice A3 accs.length c3) HD.out)
      have HF := HRS.out.far3 (u0 := .slice C nc cc) (u1 := .slice A2 rows.length c2) (u2 := .slice A3 accs.length c3) HD.out
      have hcu := HF.c
      rw [← HCT.out] at hcu
      exact bodyPost_ret (v := .tuple #[.agg #[.slice C nc cc, .slice A2 rows.length c2, .slice A3 accs.length c3], .int .i64 0]) (by simp [results, Tryz.results14, go_sem, y0, y1, y2]) rfl ⟨.inr ⟨rows, accs, _, _, _, HFT.out, HSOME.out, rfl, hcu, HF.r, HF.t⟩, below3 HB.out (by simp)⟩
end Go.Proofs.YtilhicefhhgecaaGreatDoor

namespace Pv
open Go Go.RowKit
/-- What comes of building: no automaton and a code, or one. -/
inductive Out (a : Au) (acc : Int) : Dfa → Int → Prop where
  | bad {code : Int} (h : EndD a acc code) : Out a acc ⟨[], [], []⟩ code
  | made {rows : List (List Int)} {accs : List Bool} (h : FitD a acc) (g : madeM a acc (plcL (allSets a)) = some (rows, accs)) : Out a acc ⟨plcL (allSets a), rows, accs⟩ 0
theorem Out.one {a : Au} {acc : Int} {D D' : Dfa} {x y : Int} (h : Out a acc D x) (k : Out a acc D' y) : D = D' ∧ x = y := by
  cases h with
  | bad h => cases k with
    | bad k => exact ⟨rfl, h.one k⟩
    | made k g => exact (h.not k g).elim
  | made h g => cases k with
    | bad k => exact (k.not h g).elim
    | made k g' =>
      rw [g] at g'
      injection g' with g'
      injection g' with g1 g2
      subst g1; subst g2
      exact ⟨rfl, rfl⟩
end Pv
namespace Go.Proofs.YtilhicefhhgecaaGreatDoor
open Go.RowKit Pv
theorem At.none {α : Type} (w : World) (R : Value → α → Prop) : At w none R ([] : List α) := ⟨by simp, fun h => absurd h (by simp)⟩
theorem BuiltD.opens {a : Au} {acc : Int} {w w' : World} {e : Ending} (h : BuiltD a acc w e w') :
    ∃ D code A1 n1 c1 A2 n2 c2 A3 n3 c3, e = .returned (.tuple #[.agg #[.slice A1 n1 c1, .slice A2 n2 c2, .slice A3 n3 c3], .int .i64 code]) ∧ DfaAt w' A1 A2 A3 n1 n2 n3 D ∧ Out a acc D code ∧ Below w.heap.size w w' := by
  obtain ⟨hr, hb⟩ := h
  rcases hr with ⟨code, he, rfl⟩ | ⟨rows, accs, v1, v2, v3, hf, hm, rfl, h1, h2, h3⟩
  · exact ⟨_, code, none, 0, 0, none, 0, 0, none, 0, 0, rfl, (show DfaAt w' none none none 0 0 0 ⟨[], [], []⟩ from ⟨At.none _ _, At.none _ _, At.none _ _, Lib.hid rfl, Lib.hid rfl, Lib.hid rfl⟩), .bad he, hb⟩
  · obtain ⟨hin, hl, ha⟩ := madeM_bd hm
    have hp := hf.p
    obtain ⟨A1, c1, rfl, k1, _⟩ := h1.at' (fun x hx => by have := plcL_in (allSets_ok hf.ok) hx; omega) (by omega)
    obtain ⟨A2, c2, rfl, k2, _⟩ := h2.lists (fun l hl => by
      obtain ⟨g1, g2⟩ := hin.each l hl
      exact ⟨fun y hy => by have := g1 y hy; omega, by omega⟩) (by omega)
    obtain ⟨A3, c3, rfl, k3, _⟩ := h3.sl (by omega)
    exact ⟨_, 0, A1, _, c1, A2, _, c2, A3, _, c3, rfl, (show DfaAt w' A1 A2 A3 _ _ _ ⟨plcL (allSets a), rows, accs⟩ from ⟨k1, k2, k3, Lib.hid rfl, Lib.hid rfl, Lib.hid rfl⟩), .made hf hm, hb⟩
end Go.Proofs.YtilhicefhhgecaaGreatDoor

namespace Pv
open Go Go.RowKit

def inC (s : List Rng) (p : Int) : Bool := s.any fun r => decide (r.lo ≤ p) && decide (p ≤ r.hi)
def freeC (a : Au) (s : Nat) : List Nat := ((a.getD s []).filter fun x => x.free).map fun x => x.to.toNat
def numC (a : Au) (p : Int) (s : Nat) : List Nat := ((a.getD s []).filter fun x => !x.free && inC x.set p).map fun x => x.to.toNat
/-- All that some states lead to by free edges (those under way, those seen). -/
def cloC (a : Au) : Nat → List Nat → List Nat → List Nat
  | 0, _, seen => seen
  | _ + 1, [], seen => seen
  | f + 1, s :: todo, seen => if seen.contains s then cloC a f todo seen else cloC a f (freeC a s ++ todo) (s :: seen)
def shutC (a : Au) (l r : List Nat) : Bool := l.all (fun s => r.contains s) && r.all fun s => (freeC a s).all fun t => r.contains t
/-- Where edges lead is told by natural numbers. -/
def toOk (a : Au) : Bool := a.all fun es => es.all fun x => decide (0 ≤ x.to)
section
variable {a : Au}
theorem toOk_at (h : toOk a = true) {s : Nat} {es : List Ed} {x : Ed} (hs : a[s]? = some es) (hx : x ∈ es) : 0 ≤ x.to := by
  unfold toOk at h
  have := List.all_eq_true.1 (List.all_eq_true.1 h es (List.mem_of_getElem? hs)) x hx
  simpa using this
theorem freeC_iff (h : toOk a = true) {s t : Nat} : t ∈ freeC a s ↔ FreeTo a s t := by
  unfold freeC FreeTo
  simp only [List.mem_map, List.mem_filter]
  constructor
  · rintro ⟨x, ⟨h1, h2⟩, h3⟩
    cases hs : a[s]? with
    | none => simp [List.getD, hs] at h1
    | some es =>
      rw [getD_of hs] at h1
      have := toOk_at h hs h1
      exact ⟨es, x, rfl, h1, h2, by omega⟩
  · rintro ⟨es, x, h1, h2, h3, h4⟩
    exact ⟨x, ⟨by rw [getD_of h1]; exact h2, h3⟩, by omega⟩
theorem inC_iff (s : List Rng) (p : Int) : inC s p = true ↔ InSet s p := by
  unfold inC InSet
  simp only [List.any_eq_true, Bool.and_eq_true, decide_eq_true_eq]
  constructor
  · rintro ⟨r, h1, h2, h3⟩
    obtain ⟨i, hi⟩ := List.getElem?_of_mem h1
    exact ⟨i, r, hi, h2, h3⟩
  · rintro ⟨i, r, h1, h2, h3⟩
    exact ⟨r, List.mem_of_getElem? h1, h2, h3⟩
theorem numC_iff (h : toOk a = true) {p : Int} {s t : Nat} : t ∈ numC a p s ↔ NumTo a p s t := by
  unfold numC NumTo
  simp only [List.mem_map, List.mem_filter, Bool.and_eq_true, Bool.not_eq_true', inC_iff]
  constructor
  · rintro ⟨x, ⟨h1, h2, h2'⟩, h3⟩
    cases hs : a[s]? with
    | none => simp [List.getD, hs] at h1
    | some es =>
      rw [getD_of hs] at h1
      have := toOk_at h hs h1
      exact ⟨es, x, rfl, h1, h2, h2', by omega⟩
  · rintro ⟨es, x, h1, h2, h3, h3', h4⟩
    exact ⟨x, ⟨by rw [getD_of h1]; exact h2, h3, h3'⟩, by omega⟩
theorem cloC_sub (h : toOk a = true) {S : Nat → Prop} : ∀ (f : Nat) (todo seen : List Nat), (∀ s, s ∈ todo → Clo a S s) → (∀ s, s ∈ seen → Clo a S s) → ∀ s, s ∈ cloC a f todo seen → Clo a S s
  | 0, _, _, _, h2, s, hs => h2 s hs
  | _ + 1, [], _, _, h2, s, hs => h2 s hs
  | f + 1, x :: todo, seen, h1, h2, s, hs => by
    unfold cloC at hs
    split at hs
    · exact cloC_sub h f todo seen (fun y hy => h1 y (by simp [hy])) h2 s hs
    · refine cloC_sub h f _ _ (fun y hy => ?_) (fun y hy => ?_) s hs
      · rcases List.mem_append.1 hy with hy | hy
        · exact .step (h1 x (by simp)) ((freeC_iff h).1 hy)
        · exact h1 y (by simp [hy])
      · rcases List.mem_cons.1 hy with rfl | hy
        · exact h1 _ (by simp)
        · exact h2 y hy
theorem cloC_is (h : toOk a = true) {l r : List Nat} (hr : cloC a 100000 l [] = r) (hs : shutC a l r = true) (s : Nat) : s ∈ r ↔ Clo a (fun s => s ∈ l) s := by
  unfold shutC at hs
  simp only [Bool.and_eq_true, List.all_eq_true, List.contains_iff_mem] at hs
  refine Clo.is (T := fun s => s ∈ r) hs.1 (fun x y hx hxy => hs.2 x hx y ((freeC_iff h).2 hxy)) (fun x hx => ?_) s
  rw [← hr] at hx
  exact cloC_sub h _ _ _ (fun y hy => .base hy) (fun y hy => by simp at hy) x hx
end
/-- Some states as a rising list: those of which it is told. -/
def lstC (n : Nat) (r : List Nat) : List Int := ((List.range n).filter fun i => r.contains i).map fun i : Nat => (i : Int)
theorem lstC_is {n : Nat} {r : List Nat} {S : Nat → Prop} (h : ∀ s, s ∈ r ↔ S s) : lstC n r = stL n S := by
  unfold lstC stL
  congr 1
  refine List.filter_congr fun i _ => ?_
  by_cases hi : S i
  · rw [yes_t hi]; simpa using (h i).2 hi
  · rw [yes_f hi]
    have : i ∉ r := fun e => hi ((h i).1 e)
    simpa using this
/-- Where some states come to by a number, all free edges gone; none: not reckoned through. -/
def shutL (a : Au) (l : List Nat) : Option (List Int) := if shutC a l (cloC a 100000 l []) then some (lstC a.length (cloC a 100000 l [])) else none
theorem shutL_is {a : Au} (h : toOk a = true) {l : List Nat} {r : List Int} {S : Nat → Prop} (hS : ∀ s, s ∈ l ↔ S s) (hr : shutL a l = some r) : stL a.length (Clo a S) = r := by
  unfold shutL at hr
  split at hr
  · rename_i hs
    obtain rfl := Option.some.inj hr
    have e : S = fun s => s ∈ l := funext fun s => propext (hS s).symm
    rw [e]
    exact (lstC_is (cloC_is h rfl hs)).symm
  · cases hr
def stepC (a : Au) (l : List Int) (p : Int) : Option (List Int) := shutL a (l.flatMap fun s => numC a p s.toNat)
theorem stepC_is {a : Au} (h : toOk a = true) {l : List Int} {p : Int} {r : List Int} (hl : ∀ s, s ∈ l → 0 ≤ s) (hr : stepC a l p = some r) : stepS a l p = r := by
  refine shutL_is h (fun t => ?_) hr
  simp only [List.mem_flatMap]
  unfold Stp Of
  constructor
  · rintro ⟨s, h1, h2⟩
    have := hl s h1
    exact ⟨s.toNat, by rw [Int.toNat_of_nonneg this]; exact h1, (numC_iff h).1 h2⟩
  · rintro ⟨s, h1, h2⟩
    exact ⟨(s : Int), h1, by simpa using (numC_iff h).2 h2⟩
def addC (all : List (List Int)) (l : List Int) : List (List Int) := if all.contains l then all else all ++ [l]
theorem addC_is (all : List (List Int)) (l : List Int) : addS all l = addC all l := by
  unfold addC
  by_cases h : l ∈ all
  · rw [addS_in h, if_pos (by simpa using h)]
  · rw [addS_new h, if_neg (by simpa using h)]
/-- outer none: not reckoned through; inner: too many states -/
def rowC (a : Au) (l : List Int) : List Int → List Int → List (List Int) → Option (Option (List Int × List (List Int)))
  | [], row, all => some (some (row, all))
  | c :: cs, row, all => match stepC a l c with
    | none => none
    | some m => if 64 < (addC all m).length then some none else rowC a l cs (row ++ [(all.idxOf m : Int)]) (addC all m)
theorem rowC_is {a : Au} (h : toOk a = true) {l : List Int} (hl : ∀ s, s ∈ l → 0 ≤ s) : ∀ (cs row : List Int) (all : List (List Int)) (r : Option (List Int × List (List Int))), rowC a l cs row all = some r → rowM a l cs row all = r
  | [], row, all, r, hr => by unfold rowC at hr; obtain rfl := Option.some.inj hr; rfl
  | c :: cs, row, all, r, hr => by
    unfold rowC at hr
    cases hm : stepC a l c with
    | none => rw [hm] at hr; cases hr
    | some m =>
      rw [hm] at hr
      simp only at hr
      have e := stepC_is h hl hm
      unfold rowM
      rw [e, addC_is]
      split at hr
      · rename_i hlt
        obtain rfl := Option.some.inj hr
        rw [if_pos hlt]
      · rename_i hlt
        rw [if_neg hlt]
        exact rowC_is h hl cs _ _ r hr
def mkC (a : Au) (acc : Int) (cuts : List Int) : Nat → List (List Int) → List (List Int) → List Bool → Option (Option (List (List Int) × List Bool))
  | 0, _, _, _ => none
  | f + 1, all, rows, accs => match all[rows.length]? with
    | none => some (some (rows, accs))
    | some l => match rowC a l cuts [] all with
      | none => none
      | some none => some none
      | some (some (row, all')) => mkC a acc cuts f all' (rows ++ [row]) (accs ++ [l.contains acc])
theorem lstC_nn {n : Nat} {r : List Nat} : ∀ s, s ∈ lstC n r → 0 ≤ s := fun s hs => by
  obtain ⟨i, _, rfl⟩ := List.mem_map.1 hs
  omega
theorem mkC_is {a : Au} (h : toOk a = true) {acc : Int} {cuts : List Int} : ∀ (f : Nat) (all rows : List (List Int)) (accs : List Bool) (r : Option (List (List Int) × List Bool)), (∀ l, l ∈ all → ∀ s, s ∈ l → 0 ≤ s) → mkC a acc cuts f all rows accs = some r → mkM a acc cuts f all rows accs = r
  | 0, _, _, _, _, _, hr => by unfold mkC at hr; cases hr
  | f + 1, all, rows, accs, r, hn, hr => by
    unfold mkC at hr
    unfold mkM
    cases hx : all[rows.length]? with
    | none => rw [hx] at hr; exact Option.some.inj hr
    | some l =>
      rw [hx] at hr
      simp only at hr ⊢
      have hl := hn l (List.mem_of_getElem? hx)
      cases hy : rowC a l cuts [] all with
      | none => rw [hy] at hr; cases hr
      | some q =>
        rw [hy] at hr
        rw [rowC_is h hl _ _ _ _ hy]
        cases q with
        | none => exact Option.some.inj hr
        | some q =>
          obtain ⟨row, all'⟩ := q
          simp only at hr ⊢
          have hc : l.contains acc = decide (acc ∈ l) := by simp
          rw [hc] at hr
          refine mkC_is h f all' _ _ r (fun m hm s hs => ?_) hr
          have key : ∀ (cs row : List Int) (all : List (List Int)) (row' : List Int) (all' : List (List Int)), (∀ l, l ∈ all → ∀ s, s ∈ l → 0 ≤ s) → rowC a l cs row all = some (some (row', all')) → ∀ l, l ∈ all' → ∀ s, s ∈ l → 0 ≤ s := by
            intro cs
            induction cs with
            | nil => intro row all row' all' h1 h2; unfold rowC at h2; injection h2 with h2; injection h2 with h2; injection h2 with _ h2; subst h2; exact h1
            | cons c cs ih =>
              intro row all row' all' h1 h2
              unfold rowC at h2
              cases hm : stepC a l c with
              | none => rw [hm] at h2; cases h2
              | some m =>
                rw [hm] at h2
                simp only at h2
                split at h2
                · cases h2
                · refine ih _ _ _ _ (fun z hz s hs => ?_) h2
                  unfold addC at hz
                  split at hz
                  · exact h1 z hz s hs
                  · rcases List.mem_append.1 hz with hz | hz
                    · exact h1 z hz s hs
                    · simp at hz
                      subst hz
                      unfold stepC shutL at hm
                      split at hm
                      · obtain rfl := Option.some.inj hm
                        exact lstC_nn s hs
                      · cases hm
          exact key _ _ _ _ _ hn hy m hm s hs
def madeC (a : Au) (acc : Int) (cuts : List Int) : Option (Option (List (List Int) × List Bool)) := if toOk a then (match shutL a [0] with
  | none => none
  | some l => mkC a acc cuts 70 [l] [] []) else none
theorem madeC_is {a : Au} {acc : Int} {cuts : List Int} {r : Option (List (List Int) × List Bool)} (hr : madeC a acc cuts = some r) : madeM a acc cuts = r := by
  unfold madeC at hr
  split at hr
  · rename_i h
    cases hl : shutL a [0] with
    | none => rw [hl] at hr; cases hr
    | some l =>
      rw [hl] at hr
      simp only at hr
      have e : firstS a = l := shutL_is h (fun s => by simp) hl
      unfold madeM
      rw [e]
      refine mkC_is h _ _ _ _ _ (fun m hm s hs => ?_) hr
      simp at hm
      subst hm
      unfold shutL at hl
      split at hl
      · obtain rfl := Option.some.inj hl
        exact lstC_nn s hs
      · cases hl
  · cases hr
end Pv

namespace Pv
open Go Go.RowKit
theorem rowM_mono {a : Au} {l : List Int} : ∀ (cs row : List Int) (all : List (List Int)) (row' : List Int) (all' : List (List Int)), rowM a l cs row all = some (row', all') → all.length ≤ all'.length
  | [], row, all, row', all', e => by
    unfold rowM at e
    injection e with e
    injection e with e1 e2
    subst e2
    omega
  | c :: cs, row, all, row', all', e => by
    by_cases h64 : 64 < (addS all (stepS a l c)).length
    · rw [rowM_many h64] at e; cases e
    · rw [rowM_next (by omega)] at e
      have h1 := rowM_mono cs _ _ _ _ e
      have h2 := addS_len all (stepS a l c)
      omega
theorem rowM_in {a : Au} {l : List Int} : ∀ (cs row : List Int) (all : List (List Int)) (row' : List Int) (all' : List (List Int)), rowM a l cs row all = some (row', all') → (∀ y, y ∈ row → 0 ≤ y ∧ y < (all.length : Int)) → ∀ y, y ∈ row' → 0 ≤ y ∧ y < (all'.length : Int)
  | [], row, all, row', all', e, h => by
    unfold rowM at e
    injection e with e
    injection e with e1 e2
    subst e1; subst e2
    exact h
  | c :: cs, row, all, row', all', e, h => by
    by_cases h64 : 64 < (addS all (stepS a l c)).length
    · rw [rowM_many h64] at e; cases e
    · rw [rowM_next (by omega)] at e
      refine rowM_in cs _ _ row' all' e fun y hy => ?_
      have h2 := addS_len all (stepS a l c)
      rcases List.mem_append.1 hy with hy | hy
      · have := h y hy; omega
      · simp at hy
        have := numS_lt all (stepS a l c)
        omega
theorem mkM_in {a : Au} {acc : Int} {cuts : List Int} : ∀ (f : Nat) (all rows : List (List Int)) (accs : List Bool) (rows' : List (List Int)) (accs' : List Bool), mkM a acc cuts f all rows accs = some (rows', accs') → rows.length ≤ all.length → (∀ r, r ∈ rows → ∀ y, y ∈ r → 0 ≤ y ∧ y < (all.length : Int)) → all.length ≤ rows'.length ∧ ∀ r, r ∈ rows' → ∀ y, y ∈ r → 0 ≤ y ∧ y < (rows'.length : Int)
  | 0, _, _, _, _, _, e, _, _ => by unfold mkM at e; cases e
  | f + 1, all, rows, accs, rows', accs', e, hr, h => by
    cases hx : all[rows.length]? with
    | none =>
      unfold mkM at e
      rw [hx] at e
      injection e with e
      injection e with e1 e2
      subst e1; subst e2
      have hge : all.length ≤ rows.length := by simpa using hx
      have he : all.length = rows.length := by omega
      exact ⟨hge, fun r hm y hy => by have := h r hm y hy; omega⟩
    | some l =>
      rw [mkM_row hx] at e
      cases hy : rowM a l cuts [] all with
      | none => rw [hy] at e; cases e
      | some q =>
        obtain ⟨row, all'⟩ := q
        rw [hy] at e
        have hmono := rowM_mono _ _ _ _ _ hy
        have hin := rowM_in _ _ _ _ _ hy (fun y hy => by simp at hy)
        have hlt := lt_of_get hx
        obtain ⟨k1, k2⟩ := mkM_in f all' _ _ rows' accs' e (by simp; omega) fun r hm z hz => by
          rcases List.mem_append.1 hm with hm | hm
          · have := h r hm z hz; omega
          · simp at hm; rw [hm] at hz; exact hin z hz
        exact ⟨by omega, k2⟩
theorem madeM_in {a : Au} {acc : Int} {cuts : List Int} {rows : List (List Int)} {accs : List Bool} (e : madeM a acc cuts = some (rows, accs)) : 1 ≤ rows.length ∧ ∀ r, r ∈ rows → ∀ y, y ∈ r → 0 ≤ y ∧ y < (rows.length : Int) := by
  obtain ⟨h1, h2⟩ := mkM_in 70 _ _ _ _ _ e (by simp) (fun r hr => by simp at hr)
  exact ⟨by simpa using h1, h2⟩
theorem Out.ok {a : Au} {acc : Int} {D : Dfa} (h : Out a acc D 0) : D.Ok := by
  generalize hc : (0 : Int) = code at h
  cases h with
  | bad h => exfalso; cases h <;> omega
  | made h g =>
    obtain ⟨b1, b2, b3⟩ := madeM_bd g
    obtain ⟨m1, m2⟩ := madeM_in g
    have hS := allSets_ok h.ok
    obtain ⟨l, hl⟩ := plcL_head hS
    have hr := plcL_rise (allSets a)
    refine ⟨by simp only [hl]; simp, h.p, by simp only [hl]; simp, m1, b2, b3, fun i x y hx hy => ⟨?_, (plcL_in hS (mem_of_get hy)).2⟩, fun i r hi => (b1.each r (mem_of_get hi)).2, fun i r hi j x hj => m2 r (mem_of_get hi) x (mem_of_get hj)⟩
    have h1 := lt_of_get hx; have h2 := lt_of_get hy
    have e1 := (List.getElem?_eq_some_iff.1 hx).2; have e2 := (List.getElem?_eq_some_iff.1 hy).2
    have := List.pairwise_iff_getElem.1 hr i (i + 1) h1 h2 (by omega)
    simp only at e1 e2
    rw [e1, e2] at this
    exact this
end Pv

namespace Pv
open Go Go.RowKit

/-- Numbers of code points. -/
def Pnt (p : Int) : Prop := 0 ≤ p ∧ p ≤ 1114111
def Pnts (l : List Int) : Prop := ∀ p, p ∈ l → Pnt p
section
variable {d o : Dfa}
/-- Two states, of one or of two, from which words are accepted alike. -/
def Res (d o : Dfa) (s t : Nat) : Prop := ∀ l, Pnts l → d.acc (d.to s l) = o.acc (o.to t l)
end
end Pv

namespace Pv
open Go Go.RowKit

/-- The word. -/
def knownC (l : List Pr) (x : Pr) : Bool := l.any fun y => decide (y.a = x.a) && decide (y.b = x.b)
def addPC (l : List Pr) (x : Pr) : List Pr := if knownC l x then l else l ++ [x]
theorem addPC_is (l : List Pr) (x : Pr) : addP l x = addPC l x := by
  have e : knownC l x = true ↔ knownP l x.a x.b := by
    unfold knownC knownP
    simp
  unfold addPC
  by_cases h : knownP l x.a x.b
  · rw [addP_in h, if_pos (e.2 h)]
  · rw [addP_new h, if_neg (fun k => h (e.1 k))]
def wordFC (d o : Dfa) (ps : List Int) : Nat → Nat → List Pr → Option (List Int)
  | 0, _, _ => none
  | f + 1, i, l => match l[i]? with
    | none => none
    | some x => if d.acc x.a = o.acc x.b then wordFC d o ps f (i + 1) (ps.foldl (fun l p => addPC l (nxtPr d o x p)) l) else some x.w
theorem wordFC_is (d o : Dfa) (ps : List Int) : ∀ (f i : Nat) (l : List Pr), wordF d o ps f i l = wordFC d o ps f i l
  | 0, _, _ => rfl
  | f + 1, i, l => by
    unfold wordF wordFC
    cases l[i]? with
    | none => rfl
    | some x =>
      simp only
      split
      · rw [wordFC_is]
        congr 1
        unfold rowP
        have key : ∀ (qs : List Int) (l : List Pr), qs.foldl (fun l p => addP l (nxtPr d o x p)) l = qs.foldl (fun l p => addPC l (nxtPr d o x p)) l := fun qs => by
          induction qs with
          | nil => intro l; rfl
          | cons q qs ih => intro l; rw [List.foldl_cons, List.foldl_cons, addPC_is]; exact ih _
        exact key ps l
      · rfl
/-- All cuts of both, in order (by fuel, so that it can be reckoned). -/
def mergeC : Nat → List Int → List Int → List Int
  | 0, _, _ => []
  | _ + 1, [], ys => ys
  | _ + 1, x :: xs, [] => x :: xs
  | f + 1, x :: xs, y :: ys => if x < y then x :: mergeC f xs (y :: ys) else if x = y then y :: mergeC f xs ys else y :: mergeC f (x :: xs) ys
theorem mergeC_is : ∀ (f : Nat) (xs ys : List Int), xs.length + ys.length < f → mergeL xs ys = mergeC f xs ys
  | 0, _, _, h => by omega
  | f + 1, [], ys, _ => by simp [mergeL, mergeC]
  | f + 1, x :: xs, [], _ => by simp [mergeL, mergeC]
  | f + 1, x :: xs, y :: ys, h => by
    simp only [List.length_cons] at h
    rw [mergeL, mergeC, mergeC_is f xs (y :: ys) (by simp; omega), mergeC_is f xs ys (by omega), mergeC_is f (x :: xs) ys (by simp; omega)]
def wordC (d o : Dfa) : Option (List Int) := wordFC d o (mergeC (d.cuts.length + o.cuts.length + 1) d.cuts o.cuts) (d.next.length * o.next.length + 1) 0 [⟨0, 0, []⟩]
theorem wordC_is (d o : Dfa) : wordD d o = wordC d o := by
  unfold wordD wordC
  rw [wordFC_is, mergeC_is _ _ _ (Nat.lt_succ_self _)]

/-- May a Dfa be, reckoned. -/
def okC (d : Dfa) : Bool :=
  decide (1 ≤ d.cuts.length) && decide (d.cuts.length ≤ 256) && decide (d.cuts[0]? = some 0) && decide (1 ≤ d.next.length) && decide (d.next.length ≤ 64) && decide (d.accept.length = d.next.length) &&
  ((List.range d.cuts.length).all fun i => match d.cuts[i]?, d.cuts[i + 1]? with | some a, some b => decide (a < b) && decide (b ≤ 1114111) | _, _ => true) &&
  (d.next.all fun r => decide (r.length = d.cuts.length) && r.all fun x => decide (0 ≤ x) && decide (x < (d.next.length : Int)))
theorem okC_is {d : Dfa} (h : okC d = true) : d.Ok := by
  unfold okC at h
  simp only [Bool.and_eq_true, decide_eq_true_eq, List.all_eq_true, List.mem_range] at h
  obtain ⟨⟨⟨⟨⟨⟨⟨h1, h2⟩, h3⟩, h4⟩, h5⟩, h6⟩, h7⟩, h8⟩ := h
  refine ⟨h1, h2, h3, h4, h5, h6, fun i a b ha hb => ?_, fun i r hr => (h8 r (mem_of_get hr)).1, fun i r hr j x hx => (h8 r (mem_of_get hr)).2 x (mem_of_get hx)⟩
  have := h7 i (lt_of_get ha)
  rw [ha, hb] at this
  simpa using this
def lkC (d : Dfa) : Nat → Nat → Nat → Bool
  | 0, s, t => d.acc s == d.acc t
  | k + 1, s, t => lkC d k s t && (List.range d.cuts.length).all fun c => lkC d k (d.go s c) (d.go t c)
theorem lkC_iff (d : Dfa) : ∀ k s t, lkC d k s t = true ↔ Lk d k s t
  | 0, s, t => by simp [lkC, Lk]
  | k + 1, s, t => by
    unfold lkC Lk
    simp only [Bool.and_eq_true, List.all_eq_true, List.mem_range, lkC_iff d k]
def stillC (d : Dfa) (k : Nat) : Bool := (List.range d.next.length).all fun s => (List.range d.next.length).all fun t => !lkC d k s t || lkC d (k + 1) s t
theorem stillC_is {d : Dfa} (hok : d.Ok) {k : Nat} (h : stillC d k = true) {s t : Nat} (hs : s < d.next.length) (ht : t < d.next.length) : lkC d k s t = true ↔ Lks d s t := by
  rw [lkC_iff]
  refine Lks.still hok (fun s t hs ht hk => ?_) hs ht
  unfold stillC at h
  simp only [List.all_eq_true, List.mem_range, Bool.or_eq_true, Bool.not_eq_true'] at h
  rcases h s hs t ht with h | h
  · rw [(lkC_iff d k s t).2 hk] at h; cases h
  · exact (lkC_iff d (k + 1) s t).1 h
def repC (d : Dfa) (k s : Nat) : Nat := ((List.range (s + 1)).find? fun t => lkC d k t s).getD s
theorem repC_is {d : Dfa} (hok : d.Ok) {k : Nat} (h : stillC d k = true) {s : Nat} (hs : s < d.next.length) : repC d k s = rep d s := by
  unfold repC
  have hr := rep_self (d := d) s
  cases e : (List.range (s + 1)).find? (fun t => lkC d k t s) with
  | none =>
    have := List.find?_eq_none.1 e (rep d s) (by simp; omega)
    exact absurd ((stillC_is hok h (by omega) hs).2 (rep_alike s)) this
  | some t =>
    obtain ⟨h1, us, vs, h2, h3⟩ := List.find?_eq_some_iff_append.1 e
    have hmem : t ∈ List.range (s + 1) := by rw [h2]; simp
    have htl : t < s + 1 := by simpa using hmem
    have hk := (stillC_is hok h (by omega) hs).1 h1
    show t = rep d s
    refine Nat.le_antisymm ?_ (rep_le hk) |>.symm ▸ rfl
    rcases Nat.lt_or_ge (rep d s) t with h4 | h4
    · exfalso
      have h5 : rep d s ∈ us := by
        have h6 : rep d s ∈ List.range (s + 1) := by simp; omega
        rw [h2] at h6
        rcases List.mem_append.1 h6 with h6 | h6
        · exact h6
        · exfalso
          have hp : (us ++ t :: vs).Pairwise (· < ·) := h2 ▸ List.pairwise_lt_range
          rcases List.mem_cons.1 h6 with h7 | h7
          · omega
          · have := (List.pairwise_cons.1 (List.pairwise_append.1 hp).2.1).1 _ h7; omega
      have h7 := h3 _ h5
      rw [(stillC_is hok h (by omega) hs).2 (rep_alike s)] at h7
      simp at h7
    · exact h4
/-- The least automaton by whatever tells a state's place. -/
def metRG (r : Nat → Nat) (d : Dfa) (m : Nat) (met : List Nat) (c : Nat) : List Nat := (List.range c).foldl (fun l c => addN l (r (d.go m c))) met
def metFG (r : Nat → Nat) (d : Dfa) : Nat → Nat → List Nat → List Nat
  | 0, _, met => met
  | f + 1, i, met => match met[i]? with
    | none => met
    | some m => metFG r d f (i + 1) (metRG r d m met d.cuts.length)
def turnG (r : Nat → Nat) (d : Dfa) (met : List Nat) (c : Nat) : Bool := decide (c = 0) || met.any fun m => !decide (r (d.go m c) = r (d.go m (c - 1)))
def leastG (r : Nat → Nat) (d : Dfa) : Dfa :=
  let met := metFG r d (d.next.length + 1) 0 [r 0]
  let cls := (List.range d.cuts.length).filter fun c => turnG r d met c
  ⟨cls.map fun c => d.cuts.getD c 0, met.map fun m => cls.map fun c => (met.idxOf (r (d.go m c)) : Int), met.map d.acc⟩
theorem metRG_is {d : Dfa} (hok : d.Ok) {r : Nat → Nat} (hr : ∀ s, s < d.next.length → r s = rep d s) {m : Nat} (hm : m < d.next.length) (met : List Nat) {c : Nat} (hc : c ≤ d.cuts.length) : metRG r d m met c = metRow d m met c := by
  induction c with
  | zero => rfl
  | succ c ih =>
    have e1 : metRG r d m met (c + 1) = addN (metRG r d m met c) (r (d.go m c)) := by simp [metRG, List.range_succ, List.foldl_append]
    obtain ⟨_, _, _, _, h4⟩ := hok.cell hm (show c < d.cuts.length by omega)
    rw [e1, metRow_succ, ih (by omega), hr _ h4]
theorem metFG_is {d : Dfa} (hok : d.Ok) {r : Nat → Nat} (hr : ∀ s, s < d.next.length → r s = rep d s) : ∀ (f i : Nat) (met : List Nat), MetOk d met → metFG r d f i met = metF d f i met
  | 0, _, _, _ => rfl
  | f + 1, i, met, h => by
    cases e : met[i]? with
    | none => unfold metFG metF; rw [e]
    | some m =>
      have hm := h.lt m (mem_of_get e)
      rw [metF_row e, ← metFG_is hok hr f (i + 1) _ (h.row hok hm (Nat.le_refl _)), ← metRG_is hok hr hm met (Nat.le_refl _)]
      conv => lhs; unfold metFG
      rw [e]
theorem leastG_is {d : Dfa} (hok : d.Ok) {r : Nat → Nat} (hr : ∀ s, s < d.next.length → r s = rep d s) : leastD d = leastG r d := by
  have h0 : r 0 = rep d 0 := hr 0 (by have := hok.n1; omega)
  have hmet : metFG r d (d.next.length + 1) 0 [r 0] = metL d := by rw [h0]; exact metFG_is hok hr _ _ _ (MetOk.one hok)
  have hlt := (metL_ok hok).lt
  have hgo : ∀ m, m ∈ metL d → ∀ c, c < d.cuts.length → r (d.go m c) = rep d (d.go m c) := fun m hm c hc => by
    obtain ⟨_, _, _, _, h4⟩ := hok.cell (hlt m hm) hc
    exact hr _ h4
  have hcls : (List.range d.cuts.length).filter (fun c => turnG r d (metL d) c) = clsN d (metL d) d.cuts.length := by
    unfold clsN
    refine List.filter_congr fun c hc => ?_
    have hc' : c < d.cuts.length := by simpa using hc
    have e : turnG r d (metL d) c = true ↔ TurnsC d (metL d) c := by
      unfold turnG TurnsC
      simp only [Bool.or_eq_true, decide_eq_true_eq, List.any_eq_true, Bool.not_eq_true', decide_eq_false_iff_not]
      constructor
      · rintro (h | ⟨m, hm, h⟩)
        · exact .inl h
        · exact .inr ⟨m, hm, by rwa [hgo m hm c hc', hgo m hm (c - 1) (by omega)] at h⟩
      · rintro (h | ⟨m, hm, h⟩)
        · exact .inl h
        · exact .inr ⟨m, hm, by rwa [hgo m hm c hc', hgo m hm (c - 1) (by omega)]⟩
    by_cases h : TurnsC d (metL d) c
    · rw [yes_t h]; exact e.2 h
    · rw [yes_f h]
      cases hh : turnG r d (metL d) c with
      | false => rfl
      | true => exact absurd (e.1 hh) h
  unfold leastG leastD
  simp only [hmet, hcls, Dfa.mk.injEq, true_and, and_true]
  refine List.map_congr_left fun m hm => ?_
  unfold rowN
  refine List.map_congr_left fun c hc => ?_
  have hc' : c < d.cuts.length := by
    have := (List.mem_filter.1 (show c ∈ (List.range d.cuts.length).filter _ from hc)).1
    simpa using this
  rw [hgo m hm c hc']
/-- The least automaton, reckoned; none: not reckoned through. -/
def leastC (d : Dfa) (k : Nat) : Option Dfa := if okC d && stillC d k then some (leastG (repC d k) d) else none
theorem leastC_is {d o : Dfa} {k : Nat} (h : leastC d k = some o) : d.Ok ∧ leastD d = o := by
  unfold leastC at h
  split at h
  · rename_i h1
    simp only [Bool.and_eq_true] at h1
    obtain rfl := Option.some.inj h
    have hok := okC_is h1.1
    exact ⟨hok, leastG_is hok fun s hs => repC_is hok h1.2 hs⟩
  · cases h
end Pv

namespace Pv
open Go Go.RowKit

def setC (l : List Rng) : Bool := decide (l.length ≤ 256) && (l.all fun x => decide (0 ≤ x.lo) && decide (x.lo ≤ x.hi) && decide (x.hi ≤ 1114111)) &&
  ((List.range l.length).all fun i => match l[i]?, l[i + 1]? with | some x, some y => decide (x.hi + 2 ≤ y.lo) | _, _ => true)
theorem setC_is {l : List Rng} (h : setC l = true) : SetOk l := by
  unfold setC at h
  simp only [Bool.and_eq_true, decide_eq_true_eq, List.all_eq_true, List.mem_range] at h
  obtain ⟨⟨h1, h2⟩, h3⟩ := h
  refine ⟨h1, fun i x hx => ?_, fun i x y hx hy => ?_⟩
  · have := h2 x (mem_of_get hx)
    exact ⟨this.1.1, this.1.2, this.2⟩
  · have := h3 i (lt_of_get hx)
    rw [hx, hy] at this
    simpa using this
def oneXC (x : Rx) : Bool :=
  (decide (x.kind = 0) && decide (x.set = []) && decide (x.many = 0) && decide (x.least = 0) && decide (x.most = 0)) ||
  (decide (x.kind = 1) && setC x.set && decide (x.many = 0) && decide (x.least = 0) && decide (x.most = 0)) ||
  ((decide (x.kind = 2) || decide (x.kind = 3)) && decide (x.set = []) && decide (2 ≤ x.many) && decide (x.least = 0) && decide (x.most = 0)) ||
  (decide (x.kind = 4) && decide (x.set = []) && decide (x.many = 1) && decide (0 ≤ x.least) && decide (x.least ≤ 16) && (decide (x.most = -1) || (decide (x.least ≤ x.most) && decide (x.most ≤ 16))))
theorem oneXC_is {x : Rx} (h : oneXC x = true) : x.One := by
  unfold oneXC at h
  simp only [Bool.or_eq_true, Bool.and_eq_true, decide_eq_true_eq] at h
  unfold Rx.One
  rcases h with ((h | h) | h) | h
  · left; simp_all
  · right; left
    obtain ⟨⟨⟨⟨a, b⟩, c⟩, d⟩, e⟩ := h
    have := setC_is b
    simp_all
  · right; right; left; simp_all
  · right; right; right
    obtain ⟨⟨⟨⟨⟨a, b⟩, c⟩, d⟩, e⟩, f⟩ := h
    simp_all
def okTr : Nat → Tr → Bool
  | 0, .mk x ks => oneXC x && decide (x.many = 0) && ks.isEmpty
  | d + 1, .mk x ks => oneXC x && decide ((ks.length : Int) = x.many) && ks.all fun k => okTr d k
theorem okTr_is : ∀ {d : Nat} {T : Tr}, okTr d T = true → T.Ok d
  | 0, .mk x ks, h => by
    unfold okTr at h
    simp only [Bool.and_eq_true, decide_eq_true_eq, List.isEmpty_iff] at h
    exact ⟨oneXC_is h.1.1, h.1.2, h.2⟩
  | d + 1, .mk x ks, h => by
    unfold okTr at h
    simp only [Bool.and_eq_true, decide_eq_true_eq, List.all_eq_true] at h
    exact ⟨oneXC_is h.1.1, h.1.2, fun k hk => okTr_is (h.2 k hk)⟩
/-- A tree that is known. -/
structure Known (T : Tr) : Prop where
  ok : T.Ok 16
  size : T.size ≤ 64
  few : 1 + statesT T ≤ 256
def knownT (T : Tr) : Bool := okTr 16 T && decide (T.flat.length ≤ 64) && decide (1 + statesT T ≤ 256)
theorem knownT_is {T : Tr} (h : knownT T = true) : Known T := by
  unfold knownT at h
  simp only [Bool.and_eq_true, decide_eq_true_eq] at h
  exact ⟨okTr_is h.1.1, h.1.2, h.2⟩
theorem Known.pat {T : Tr} (h : Known T) : Pat T.flat := Pat.of_tree h.ok h.size
end Pv

namespace Go.Proofs.YtilhicefhhgecaaGreatDoor
open Go.RowKit Pv

theorem ownsRow_drew {w : World} {b : Nat} {e : TypeId} {s n : Nat} {v : Value} {us : List Value} (h : w.ownsRow b e s v n us) : w.drew.ownsRow b e s v n us := h
section
variable {w wr w' : World} {D : Nat} {x : Option Nat} {v1 kv v2 v3 : Value} {cuts cls : List Int} {rows : List (List Int)} {accs : List Bool}
theorem off_none (v : Value) : v.ownBlock = none ∨ v.ownBlock ≠ none := by cases v.ownBlock <;> simp
theorem off_new {v : Value} {r s : Option Nat} {g : Nat} (h : v.ownBlock = none ∨ v.ownBlock ≠ r) (hl : ∀ k, v.ownBlock = some k → k < g) (hn : s = r ∨ s = some g) : v.ownBlock = none ∨ v.ownBlock ≠ s := by
  rcases hn with e | e
  · rw [e]; exact h
  · rw [e]
    cases hv : v.ownBlock with
    | none => exact .inl rfl
    | some k => have := hl k hv; exact .inr (by simp; omega)
theorem off_symm {u v : Value} (h : u.ownBlock = none ∨ u.ownBlock ≠ v.ownBlock) : v.ownBlock = none ∨ v.ownBlock ≠ u.ownBlock := by
  rcases h with h | h
  · cases hv : v.ownBlock with
    | none => exact .inl rfl
    | some g => exact .inr (by rw [h]; simp)
  · exact .inr (Ne.symm h)
end
theorem Res.lower {w : World} {b b' : Nat} {v1 v2 v3 : Value} {cuts : List Int} {rows : List (List Int)} {accs : List Bool} (h : Res w b v1 v2 v3 cuts rows accs) (hb : b' ≤ b) : Res w b' v1 v2 v3 cuts rows accs := ⟨OwnI.lower h.c hb, h.r.lower hb, Own.lower h.t hb⟩
end Go.Proofs.YtilhicefhhgecaaGreatDoor

namespace Pv
open Go Go.RowKit
end Pv
namespace Go.Proofs.YtilhicefhhgecaaGreatDoor
open Go.RowKit Pv

/-- Two automata's boxes. -/
structure Two (w W : World) (a b : Array Value) : Prop where
  a : Blk W w.heap.size TDfa a
  b : Blk W (w.heap.size + 1) TDfa b
  be : Below w.heap.size w W
theorem Two.next {w W W' : World} {a b : Array Value} (h : Two w W a b) (hb : Below W.heap.size W W') : Two w W' a b := ⟨h.a.below hb h.a.lt, h.b.below hb h.b.lt, h.be.trans (hb.mono h.be.size)⟩
theorem Two.grown {w W W' : World} {a b : Array Value} {base s n : Nat} {e : TypeId} {v : Value} {us : List Value} (h : Two w W a b) (hr : W.ownsRow base e s v n us) (he : e ≠ TDfa) (hg : W.grownBy W' v.ownBlock) (hb : w.heap.size ≤ base) : Two w W' a b :=
  ⟨h.a.grown hg (own_blk_ne hr h.a he), h.b.grown hg (own_blk_ne hr h.b he), h.be.grown hg h.be.size (fun g hgg => Nat.le_trans hb (hr.lt g hgg).1)⟩

end Go.Proofs.YtilhicefhhgecaaGreatDoor

namespace Go.Proofs.YtilhicefhhgecaaGreatDoor
open Go.RowKit Pv

theorem rowP_pre (d o : Dfa) (x : Pr) (ps : List Int) : ∀ l, l <+: rowP d o x l ps := by
  induction ps with
  | nil => intro l; exact List.prefix_refl l
  | cons p ps ih => intro l; exact (addP_pre l _).trans (ih _)
/-- Words are no longer than the list. -/
def WOk (l : List Pr) : Prop := ∀ x, x ∈ l → x.w.length ≤ l.length
theorem WOk.add {l : List Pr} {x : Pr} (h : WOk l) (hx : x.w.length ≤ l.length + 1) : WOk (addP l x) := by
  unfold addP
  split
  · exact h
  · intro y hy
    rw [List.length_append]
    rcases List.mem_append.1 hy with hy | hy
    · have := h y hy; simp; omega
    · simp at hy; subst hy; simpa using hx
theorem WOk.row {d o : Dfa} {x : Pr} (ps : List Int) : ∀ {l : List Pr}, x.w.length ≤ l.length → WOk l → WOk (rowP d o x l ps) := by
  induction ps with
  | nil => intro l _ h; exact h
  | cons p ps ih =>
    intro l hx h
    have h1 : WOk (addP l (nxtPr d o x p)) := h.add (by show (x.w ++ [p]).length ≤ _; simp; exact hx)
    exact ih (Nat.le_trans hx (addP_pre l _).length_le) h1
theorem OwnI.atL {w : World} {b n c : Nat} {A : Option Addr} {l : List Int} (h : OwnI w b (.slice A n c) l) (hr : ∀ x, x ∈ l → -9223372036854775808 ≤ x ∧ x ≤ 9223372036854775807) (HN : Hid (l.length = n)) (hn : n ≤ 1000000) : At w A RI l := by
  obtain ⟨A', c', e, hat, _⟩ := h.at' hr (by rw [HN.out]; omega)
  injection e with e1 _ _
  subst e1
  exact hat
theorem OwnI.keepQ {w w' : World} {b b' n s : Nat} {t : TypeId} {v rv : Value} {l : List Int} {us : List Value} (h : OwnI w b v l) (hr : w.ownsRow b' t s rv n us) (hne : TLI ≠ t) (hg : w.grownBy w' rv.ownBlock) : OwnI w' b v l := by
  obtain ⟨B, d, rfl, h3⟩ := h
  exact OwnI.grown ⟨B, d, rfl, h3⟩ hg (own_ne h3 hr hne)
end Go.Proofs.YtilhicefhhgecaaGreatDoor

namespace Pv
open Go Go.RowKit
end Pv
namespace Go.Proofs.YtilhicefhhgecaaGreatDoor
open Go.RowKit Pv

/-- The least automaton, of the call's own. -/
def LeastPost (d : Dfa) (w : World) (e : Ending) (w' : World) : Prop :=
  ∃ v1 v2 v3, e = .returned (.agg #[v1, v2, v3]) ∧ Res w' w.heap.size v1 v2 v3 (leastD d).cuts (leastD d).next (leastD d).accept ∧ Below w.heap.size w w'
theorem numI_bd {n : Nat} {l : List Nat} (h : ∀ s, s ∈ l → s < n) (hn : n ≤ 1000000) : ∀ x, x ∈ numI l → -9223372036854775808 ≤ x ∧ x ≤ 9223372036854775807 := fun x hx => by
  obtain ⟨s, hs, rfl⟩ := List.mem_map.1 hx
  have := h s hs
  omega
/-- A row of states of the call's own, as a list in memory. -/
theorem clsN_lt {d : Dfa} {met : List Nat} {k x : Nat} (h : x ∈ clsN d met k) : x < k := by
  unfold clsN at h
  have := (List.mem_filter.1 h).1
  simpa using this
theorem own_states {w : World} {base n m c : Nat} {B : Option Addr} {l : List Nat} (h : w.ownsRow base TLI 1 (.slice B m c) m ((numI l).map (Value.int .i64))) (hl : ∀ s, s ∈ l → s < n) (hn : n ≤ 1000000) (hm : l.length = m) (hm2 : m ≤ 1000000) : At w B RI (numI l) ∧ m ≤ c := by
  have h1 : Rel RI ((numI l).map (Value.int .i64)) (numI l) := ⟨by simp, fun i u x hu hx => by
    rw [List.getElem?_map, hx] at hu
    obtain rfl := Option.some.inj hu
    exact ⟨rfl, numI_bd hl hn x (mem_of_get hx)⟩⟩
  obtain ⟨_, h3, h4⟩ := At.of_own h h1 (by simp; omega)
  exact ⟨h4, h3⟩

end Go.Proofs.YtilhicefhhgecaaGreatDoor

namespace Go.Proofs.YtilhicefhhgecaaGreatDoor
open Go.RowKit Pv

/-- A block of lists of the call's own, no two in one block, none in block x. -/
def Cols (w : World) (base g m : Nat) (x : Option Nat) (f : Nat → List Int) : Prop :=
  ∃ vs : List Value, vs.length = m ∧ Blk w g TLL vs.toArray ∧ base ≤ g ∧ (∀ (i : Nat) (u : Value), vs[i]? = some u → OwnI w base u (f i) ∧ (u.ownBlock = none ∨ u.ownBlock ≠ x)) ∧ ∀ (i j : Nat) (u v : Value), i ≠ j → vs[i]? = some u → vs[j]? = some v → u.ownBlock = none ∨ u.ownBlock ≠ v.ownBlock
/-- What turns only blocks of one type, and makes memory. -/
structure Oth (T : TypeId) (w w' : World) : Prop where
  os : w'.os = w.os
  tape : w'.tape = w.tape
  output : w'.output = w.output
  size : w.heap.size ≤ w'.heap.size
  blk : ∀ g t cs, t ≠ T → Blk w g t cs → Blk w' g t cs
theorem Oth.of {T : TypeId} {w w' : World} (h : Below w.heap.size w w') : Oth T w w' := ⟨h.os, h.tape, h.output, h.size, fun _ _ _ _ hb => hb.below h hb.lt⟩
theorem Oth.refl (T : TypeId) (w : World) : Oth T w w := .of (Below.refl _ _)
theorem Oth.trans {T : TypeId} {a b c : World} (h : Oth T a b) (k : Oth T b c) : Oth T a c :=
  ⟨k.os.trans h.os, k.tape.trans h.tape, k.output.trans h.output, Nat.le_trans h.size k.size, fun g t cs ht hb => k.blk g t cs ht (h.blk g t cs ht hb)⟩
theorem Oth.own {T : TypeId} {w w' : World} {b s k : Nat} {e : TypeId} {v : Value} {us : List Value} (h : Oth T w w') (he : e ≠ T) (ho : w.ownsRow b e s v k us) : w'.ownsRow b e s v k us := by
  refine ⟨ho.1, ?_⟩
  rcases ho.2 with h2 | ⟨g, cap, cur, rfl, hg, hh, q⟩
  · exact .inl h2
  · exact .inr ⟨g, cap, cur, rfl, hg, h.blk g e cur he hh, q⟩
theorem Oth.ownI {T : TypeId} {w w' : World} {b : Nat} {v : Value} {l : List Int} (h : Oth T w w') (he : TLI ≠ T) (ho : OwnI w b v l) : OwnI w' b v l := by
  obtain ⟨A, c, rfl, h1⟩ := ho
  exact ⟨A, c, rfl, h.own he h1⟩
section
variable {w w' : World} {base g m : Nat} {x : Option Nat} {f : Nat → List Int}
theorem Cols.lt (h : Cols w base g m x f) : g < w.heap.size := by obtain ⟨vs, _, h2, _⟩ := h; exact h2.lt
theorem Cols.blk (h : Cols w base g m x f) : ∃ cs, Blk w g TLL cs := by obtain ⟨vs, _, h2, _⟩ := h; exact ⟨_, h2⟩
theorem Cols.made (h : Blk w g TLL (madeCells #[.slice none 0 0] m)) (hb : base ≤ g) : Cols w base g m x fun _ => [] := by
  refine ⟨List.replicate m (.slice none 0 0), by simp, ?_, hb, fun i u hu => ?_, fun i j u v _ hu _ => ?_⟩
  · have e : madeCells #[.slice none 0 0] m = (List.replicate m (Value.slice none 0 0)).toArray := by
      refine Array.ext (by simp [size_madeCells]) fun i h1 h2 => ?_
      simp [madeCells, Nat.mod_one]
    rw [← e]; exact h
  · rw [List.getElem?_replicate] at hu
    split at hu
    · obtain rfl := Option.some.inj hu; exact ⟨OwnI.nil _ _, .inl rfl⟩
    · cases hu
  · rw [List.getElem?_replicate] at hu
    split at hu
    · obtain rfl := Option.some.inj hu; exact .inl rfl
    · cases hu
theorem Cols.below (h : Cols w base g m x f) (hb : Below w.heap.size w w') : Cols w' base g m x f := by
  obtain ⟨vs, h1, h2, h3, h4, h5⟩ := h
  exact ⟨vs, h1, h2.below hb h2.lt, h3, fun i u hu => ⟨OwnI.below (h4 i u hu).1 hb, (h4 i u hu).2⟩, h5⟩
theorem Cols.get (h : Cols w base g m x f) {i k : Nat} (hi : i < m) (hk : (f i).length = k) : ∃ A c, w.cell? ⟨g, i, none⟩ = some (.slice A k c) ∧ w.frozen? ⟨g, i, none⟩ = false ∧ w.ownsRow base TLI 1 (.slice A k c) k ((f i).map (Value.int .i64)) ∧ ((Value.slice A k c).ownBlock = none ∨ (Value.slice A k c).ownBlock ≠ x) := by
  obtain ⟨vs, h1, h2, h3, h4, h5⟩ := h
  obtain ⟨u, hu⟩ : ∃ u, vs[i]? = some u := ⟨_, List.getElem?_eq_getElem (by omega)⟩
  obtain ⟨⟨A, c, rfl, h6⟩, h7⟩ := h4 i u hu
  rw [hk] at h6 h7 hu
  exact ⟨A, c, (h2.cell i).trans (by simp [hu]), h2.frozen i, h6, h7⟩
theorem Cols.row {b n : Nat} {rv rv' : Value} {us' : List Value} (h : Cols w base g m rv.ownBlock f) (hr : w.ownsRow b TLI 1 rv n us') (hg : w.grownBy w' rv.ownBlock) (hn : rv'.ownBlock = rv.ownBlock ∨ rv'.ownBlock = some w.heap.size) : Cols w' base g m rv'.ownBlock f := by
  obtain ⟨vs, h1, h2, h3, h4, h5⟩ := h
  exact ⟨vs, h1, h2.grown hg (own_blk_ne hr h2 (by decide)), h3, fun i u hu => ⟨(h4 i u hu).1.grown hg (h4 i u hu).2, off_new (h4 i u hu).2 (fun _ e => ((h4 i u hu).1.lt e).2) hn⟩, h5⟩
theorem Cols.other {b s n : Nat} {e : TypeId} {rv : Value} {us' : List Value} (h : Cols w base g m x f) (hr : w.ownsRow b e s rv n us') (h1 : TLL ≠ e) (h2 : TLI ≠ e) (hg : w.grownBy w' rv.ownBlock) : Cols w' base g m x f := by
  obtain ⟨vs, k1, k2, k3, k4, k5⟩ := h
  refine ⟨vs, k1, k2.grown hg (own_blk_ne hr k2 (fun e => h1 e.symm)), k3, fun i u hu => ⟨?_, (k4 i u hu).2⟩, k5⟩
  obtain ⟨B, d, rfl, h3⟩ := (k4 i u hu).1
  exact OwnI.grown ⟨B, d, rfl, h3⟩ hg (own_ne h3 hr h2)
theorem Cols.far {g' i : Nat} {t : TypeId} {cs : Array Value} {u : Value} (h : Cols w base g m x f) (hb : Blk w g' t cs) (h1 : TLL ≠ t) (h2 : TLI ≠ t) : Cols (w.setCell ⟨g', i, none⟩ u) base g m x f := by
  obtain ⟨vs, k1, k2, k3, k4, k5⟩ := h
  exact ⟨vs, k1, k2.far (p := ⟨g', i, none⟩) (k2.ne hb h1) u, k3, fun i u hu => ⟨OwnI.far (k4 i u hu).1 hb h2, (k4 i u hu).2⟩, k5⟩
theorem Cols.free (h : Cols w base g m x f) : Cols w base g m none f := by
  obtain ⟨vs, k1, k2, k3, k4, k5⟩ := h
  exact ⟨vs, k1, k2, k3, fun i u hu => ⟨(k4 i u hu).1, off_none _⟩, k5⟩
theorem Cols.congr {f' : Nat → List Int} (h : Cols w base g m x f) (e : ∀ i, i < m → f' i = f i) : Cols w base g m x f' := by
  obtain ⟨vs, k1, k2, k3, k4, k5⟩ := h
  exact ⟨vs, k1, k2, k3, fun i u hu => by rw [e i (by have := lt_of_get hu; omega)]; exact k4 i u hu, k5⟩
/-- A number more in row i. -/
theorem Cols.push {w2 : World} {A1 A2 : Option Addr} {c1 c2 k i : Nat} {y : Int} (h : Cols w base g m x f) (hi : i < m) (hk : (f i).length = k) (hc : w.cell? ⟨g, i, none⟩ = some (.slice A1 k c1)) (h1 : w.ownsRow base TLI 1 (.slice A1 k c1) k ((f i).map (Value.int .i64)))
    (own : w2.ownsRow base TLI 1 (.slice A2 (k + 1) c2) (k + 1) ((f i).map (Value.int .i64) ++ [.int .i64 y])) (gr : (w.alloc (.cells #[.int .i64 y] TLI)).grownBy w2 (Value.slice A1 k c1).ownBlock)
    (hn : (Value.slice A2 (k + 1) c2).ownBlock = (Value.slice A1 k c1).ownBlock ∨ (Value.slice A2 (k + 1) c2).ownBlock = some (w.alloc (.cells #[.int .i64 y] TLI)).heap.size) (hx : ∀ b, x = some b → b < w.heap.size) :
    Cols (w2.setCell ⟨g, i, none⟩ (.slice A2 (k + 1) c2)) base g m x fun j => if j = i then f i ++ [y] else f j := by
  obtain ⟨vs, k1, k2, k3, k4, k5⟩ := h
  have hb : Below w.heap.size w (w.alloc (.cells #[.int .i64 y] TLI)) := (Below.refl _ _).alloc (Nat.le_refl _) _
  have hu : vs[i]? = some (.slice A1 k c1) := by
    have h2 := k2.cell i
    rw [h2] at hc
    simpa using hc
  have h1' := ownsRow_below h1 hb
  have hd := (k2.below hb k2.lt).grown gr (own_blk_ne h1' (k2.below hb k2.lt) (by decide))
  have hN : ∀ v : Value, (v.ownBlock = none ∨ v.ownBlock ≠ (Value.slice A1 k c1).ownBlock) → (∀ b, v.ownBlock = some b → b < w.heap.size) → v.ownBlock = none ∨ v.ownBlock ≠ (Value.slice A2 (k + 1) c2).ownBlock := fun v h2 h3 => off_new h2 (fun b hb => by have := h3 b hb; simp; omega) hn
  have hl : (if i = i then f i ++ [y] else f i).length = k + 1 := by rw [if_pos rfl]; simp [hk]
  refine ⟨vs.set i (.slice A2 (k + 1) c2), by simp [k1], ?_, k3, fun j u hj => ?_, fun j j' u v hne hj hj' => ?_⟩
  · have := hd.set i (.slice A2 (k + 1) c2)
    rw [List.setIfInBounds_toArray] at this
    exact this
  · by_cases e : j = i
    · subst e
      rw [List.getElem?_set_self (by omega)] at hj
      obtain rfl := Option.some.inj hj
      refine ⟨⟨A2, c2, by rw [hl], ?_⟩, ?_⟩
      · show (w2.setCell ⟨g, j, none⟩ _).ownsRow base TLI 1 (.slice A2 _ c2) _ (List.map (Value.int .i64) (if j = j then f j ++ [y] else f j))
        rw [hl, if_pos rfl, List.map_append]
        exact ownsRow_setFar own hd (by decide) _ _
      · rcases hn with e | e
        · rw [e]; exact (k4 j _ hu).2
        · rw [e]; right; intro e2
          have := hx _ e2.symm
          simp at this
          omega
    · rw [List.getElem?_set_ne (Ne.symm e)] at hj
      have h4 := k4 j u hj
      show OwnI _ base u (if j = i then f i ++ [y] else f j) ∧ _
      rw [if_neg e]
      exact ⟨OwnI.far (OwnI.grown (OwnI.below h4.1 hb) gr (k5 j i u _ e hj hu)) hd (by decide), h4.2⟩
  · by_cases e : j = i
    · subst e
      rw [List.getElem?_set_self (by omega)] at hj
      obtain rfl := Option.some.inj hj
      rw [List.getElem?_set_ne hne] at hj'
      exact off_symm (hN v (k5 j' j v _ (Ne.symm hne) hj' hu) (fun b hb => ((k4 j' v hj').1.lt hb).2))
    · rw [List.getElem?_set_ne (Ne.symm e)] at hj
      by_cases e' : j' = i
      · subst e'
        rw [List.getElem?_set_self (by omega)] at hj'
        obtain rfl := Option.some.inj hj'
        exact hN u (k5 j j' u _ hne hj hu) (fun b hb => ((k4 j u hj).1.lt hb).2)
      · rw [List.getElem?_set_ne (Ne.symm e')] at hj'
        exact k5 j j' u v hne hj hj'
/-- All rows, as a list of lists. -/
theorem Cols.ls (h : Cols w base g m x f) (hm : m ≤ maxLen) {rows : List (List Int)} (hr : rows.length = m) (he : ∀ i r, rows[i]? = some r → r = f i) : Ls w base none (.slice (some ⟨g, 0, none⟩) m m) rows := by
  obtain ⟨vs, k1, k2, k3, k4, k5⟩ := h
  have h1 := own_blkF k2 k3 (m := m) (by simp [k1]) hm
  refine ⟨some ⟨g, 0, none⟩, m, vs, by rw [hr], by rw [hr]; simpa using h1, by rw [k1, hr], fun i u r hu hr => ?_⟩
  rw [he i r hr]
  exact ⟨(k4 i u hu).1, off_none _⟩
end
end Go.Proofs.YtilhicefhhgecaaGreatDoor
