/- Walks: the closure by which the program numbers some states. PUT1 -/
import Derived.Test.YtjnjbcigbnjmkaaGreatFmy
import Derived.Test.YtjnjbcigbnjmkaaGreatFny
import Derived.Test.YtjnjbcigbnjmkaaGreatQvy
namespace Go.Proofs.YtjnjbcigbnjmkaaGreat
open Go.RowKit Go.ChangeMaps Pv

abbrev TLLs : TypeId := 27
/-- What the closure may turn: the map, its list's box, that list's own block. -/
structure Frm (mb L : Nat) (r : Option Nat) (w w' : World) : Prop where
  os : w'.os = w.os
  tape : w'.tape = w.tape
  output : w'.output = w.output
  size : w.heap.size ≤ w'.heap.size
  block : ∀ g, g < w.heap.size → g ≠ mb → g ≠ L → some g ≠ r → w'.heap[g]? = w.heap[g]?
theorem Frm.of {mb L : Nat} {r : Option Nat} {w w' : World} (h : Below w.heap.size w w') : Frm mb L r w w' := ⟨h.os, h.tape, h.output, h.size, fun g hg _ _ _ => h.block g hg⟩
theorem Frm.trans {mb L : Nat} {r : Option Nat} {a b c : World} (h : Frm mb L r a b) (k : Frm mb L r b c) : Frm mb L r a c :=
  ⟨k.os.trans h.os, k.tape.trans h.tape, k.output.trans h.output, Nat.le_trans h.size k.size, fun g h1 h2 h3 h4 => (k.block g (Nat.lt_of_lt_of_le h1 h.size) h2 h3 h4).trans (h.block g h1 h2 h3 h4)⟩
theorem Frm.grown {mb L : Nat} {r : Option Nat} {a b c : World} (h : Frm mb L r a b) (k : b.grownBy c r) : Frm mb L r a c := h.trans ⟨k.os, k.tape, k.output, k.size, fun g h1 _ _ h4 => k.block g h1 h4⟩
theorem Frm.set {mb L i : Nat} {r : Option Nat} {a b : World} (h : Frm mb L r a b) (u : Value) : Frm mb L r a (b.setCell ⟨L, i, none⟩ u) :=
  h.trans ⟨rfl, rfl, rfl, by simp [World.setCell], fun g _ _ h3 _ => Below.heap_setCell _ _ _ _ h3⟩
theorem Frm.below {mb L B : Nat} {r : Option Nat} {a b : World} (h : Frm mb L r a b) (h0 : B ≤ a.heap.size) (h1 : B ≤ mb) (h2 : B ≤ L) (h3 : ∀ g, r = some g → B ≤ g) : Below B a b :=
  ⟨h.os, h.tape, h.output, h.size, fun g hg => h.block g (by omega) (by omega) (by omega) (fun e => by have := h3 g e.symm; omega)⟩
section
variable {mb L : Nat} {r : Option Nat} {w w' : World} {n : Nat} {all : List (List Int)}
theorem MapM.ne {g : Nat} {t : TypeId} {cs : Array Value} (h : MapM w mb n all) (hb : Blk w g t cs) : g ≠ mb := by
  obtain ⟨es, ck, h1, _⟩ := h
  rintro rfl
  unfold Blk at hb
  rw [hb] at h1
  cases h1
theorem Frm.blk {g : Nat} {t : TypeId} {cs cl : Array Value} (h : Frm mb L r w w') (hm : MapM w mb n all) (hl : Blk w L TLLs cl) (hb : Blk w g t cs) (ht : t ≠ TLLs) (hr : some g ≠ r) : Blk w' g t cs :=
  (h.block g hb.lt (hm.ne hb) (hb.ne hl ht) hr).trans hb
theorem Frm.own {b s k : Nat} {e : TypeId} {v : Value} {us : List Value} {cl : Array Value} (h : Frm mb L r w w') (hm : MapM w mb n all) (hl : Blk w L TLLs cl) (ho : w.ownsRow b e s v k us) (he : e ≠ TLLs) (hr : v.ownBlock = none ∨ v.ownBlock ≠ r) : w'.ownsRow b e s v k us := by
  refine ⟨ho.1, ?_⟩
  rcases ho.2 with h2 | ⟨g, cap, cur, rfl, hg, hh, q⟩
  · exact .inl h2
  · refine .inr ⟨g, cap, cur, rfl, hg, ?_, q⟩
    exact h.blk hm hl (show Blk w g e cur from hh) he (by
      rcases hr with hr | hr
      · simp [Value.ownBlock] at hr
      · intro e; exact hr (by rw [← e]; rfl))
end

/-- What the closure gives. -/
def ComePost (mb L base n : Nat) (x : Option Nat) (r : Option Nat) (l : List Int) (all : List (List Int)) (w : World) (e : Ending) (w' : World) : Prop :=
  ∃ A2 c2 k2, e = .returned (.int .i64 (numS all l)) ∧ Hid ((addS all l).length = k2) ∧ MapM w' mb n (addS all l) ∧ Blk w' L TLLs #[.slice A2 k2 c2] ∧ Ls w' base x (.slice A2 k2 c2) (addS all l) ∧ ((Value.slice A2 k2 c2).ownBlock = r ∨ ∃ g, (Value.slice A2 k2 c2).ownBlock = some g ∧ w.heap.size ≤ g) ∧ Frm mb L r w w'

set_option maxHeartbeats 4000000 in
set_option maxRecDepth 100000 in
theorem come_at (lA : Option Addr) (q lc M L mb base n k c1 : Nat) (A1 : Option Addr) (x : Option Nat) (S : Nat → Prop) (all : List (List Int)) (w : World) (hn : n ≤ 256)
    (hu : OwnI w base (.slice lA q lc) (stL n S)) (hx : (Value.slice lA q lc).ownBlock = none ∨ (Value.slice lA q lc).ownBlock ≠ x) (hm : MapM w mb n all) (bM : Blk w M TMet #[.map (some mb)]) (bL : Blk w L TLLs #[.slice A1 k c1]) (hal : Ls w base x (.slice A1 k c1) all) (HK : Hid (all.length = k)) (hk : k ≤ 100000) (hbase : base ≤ w.heap.size) :
    Calls Tryz.prog 23 #[.slice lA q lc, .pointer (some ⟨M, 0, none⟩), .pointer (some ⟨L, 0, none⟩)] w (ComePost mb L base n x (Value.slice A1 k c1).ownBlock (stL n S) all w) := by
  obtain ⟨i0, hi0, hz0, hs0, hb0⟩ := info_parts info_ints9
  have HU := Lib.hid hu; have HX := Lib.hid hx; have HMM := Lib.hid hm; have HBM := Lib.hid bM; have HBL := Lib.hid bL; have HAL := Lib.hid hal; have HBS := Lib.hid hbase
  obtain ⟨A0, c0, e0, hat, _⟩ := hu.at' (stL_bd (by omega)) (by have := stL_len n S; omega)
  injection e0 with e1 e2 e3
  subst e1; subst e3
  have HOF := Lib.hid (subset_of lA lc q n (stL n S) w hat (Lib.hid e2.symm) stL_in hn)
  have HQ := Lib.hid e2
  obtain ⟨l, hl⟩ : ∃ l, stL n S = l := ⟨_, rfl⟩
  have HL := Lib.hid hl
  rw [hl] at HOF HU HQ ⊢
  obtain ⟨t0, t1, t2, t3, ht⟩ : ∃ t0 t1 t2 t3, wArr l = #[.int .u64 t0, .int .u64 t1, .int .u64 t2, .int .u64 t3] := ⟨_, _, _, _, rfl⟩
  have HT := Lib.hid ht
  rw [ht] at HOF
  clear hu hx hm bM bL hal hbase hat e2 hl ht
  go_enter Tryz.func23, Tryz.ntmps23
  go_wp2_with fail
  refine HOF.out.mono ?_
  rintro e w1 ⟨rfl, hb1⟩
  have hb2 := hb1.alloc hb1.size (.cells #[.int .u64 t0, .int .u64 t1, .int .u64 t2, .int .u64 t3] TSt)
  have HB := Lib.hid hb2
  have KM := Lib.hid (HBM.out.below hb2 HBM.out.lt); have KL := Lib.hid (HBL.out.below hb2 HBL.out.lt)
  have MM := Lib.hid (HMM.out.of_block (hb2.block _ HMM.out.lt))
  have AL := Lib.hid (HAL.out.below hb2)
  have UU := Lib.hid (OwnI.below HU.out hb2)
  have m0 := (HBM.out.below hb1 HBM.out.lt).cell 0
  have l0 := (HBL.out.below hb1 HBL.out.lt).cell 0
  have hNM1 := HBM.out.below hb1 HBM.out.lt |>.lt
  have hNL1 := HBL.out.below hb1 HBL.out.lt |>.lt
  simp only [List.getElem?_toArray, List.getElem?_cons_zero] at m0 l0
  clear hb1 hb2
  by_cases hin : l ∈ all
  · have LK := (MapM.in (S := S) MM.out hn (by rw [HL.out]; exact hin)).1
    rw [HL.out, HT.out] at LK
    have HRES : Hid (ComePost mb L base n x (Value.slice A1 k c1).ownBlock l all w (.returned (.int .i64 (numS all l))) (w1.alloc (.cells #[.int .u64 t0, .int .u64 t1, .int .u64 t2, .int .u64 t3] TSt))) := Lib.hid (by
      refine ⟨A1, c1, k, rfl, ?_⟩
      rw [addS_in hin]
      exact ⟨HK, MM.out, KL.out, AL.out, .inl rfl, Frm.of HB.out⟩)
    clear hin
    go_wp2
    go_ret
    exact HRES.out
  · have LK := MapM.out (S := S) MM.out hn (by rw [HL.out]; exact hin)
    obtain ⟨W3, hput, hm3, p1, p2, p3, p4, p5⟩ := MapM.put (S := S) MM.out hn (by rw [HL.out]; exact hin)
    rw [HL.out, HT.out] at LK hput
    rw [HL.out] at hm3
    rw [HK.out] at hput
    have F3 : Hid (Frm mb L (Value.slice A1 k c1).ownBlock w W3) := Lib.hid ((Frm.of HB.out).trans ⟨p1, p2, p3, by omega, fun g _ h2 _ _ => p5 g h2⟩)
    have bT := Blk.new w1 TSt #[.int .u64 t0, .int .u64 t1, .int .u64 t2, .int .u64 t3]
    have KT3 := Lib.hid (show Blk W3 w1.heap.size TSt _ from (p5 _ (MM.out.ne bT)).trans bT)
    have KM3 := Lib.hid (show Blk W3 M TMet _ from (p5 _ (MM.out.ne KM.out)).trans KM.out)
    have KL3 := Lib.hid (show Blk W3 L TLLs _ from (p5 _ (MM.out.ne KL.out)).trans KL.out)
    have keep3 : ∀ (b s k : Nat) (e : TypeId) (v : Value) (us : List Value), (w1.alloc (.cells #[.int .u64 t0, .int .u64 t1, .int .u64 t2, .int .u64 t3] TSt)).ownsRow b e s v k us → W3.ownsRow b e s v k us := fun b s k e v us h => by
      refine ⟨h.1, ?_⟩
      rcases h.2 with h2 | ⟨g, cap, cur, rfl, hg, hh, q⟩
      · exact .inl h2
      · exact .inr ⟨g, cap, cur, rfl, hg, (p5 g (MM.out.ne (show Blk _ g e cur from hh))).trans hh, q⟩
    have UU3 : Hid (OwnI W3 base (.slice lA q lc) l) := Lib.hid (by obtain ⟨B, d, e, h⟩ := UU.out; exact ⟨B, d, e, keep3 _ _ _ _ _ _ h⟩)
    obtain ⟨A1', c1', us, ev, ow, rel⟩ := AL.out
    rw [HK.out] at ev ow
    injection ev with ev1 _ ev3
    subst ev1; subst ev3
    have OW3 := Lib.hid (keep3 _ _ _ _ _ _ ow)
    have REL3 : Hid (Rel (fun u l => OwnI W3 base u l ∧ (u.ownBlock = none ∨ u.ownBlock ≠ x)) us all) := Lib.hid (rel.mono fun u l h => ⟨by obtain ⟨B, d, e, h⟩ := h.1; exact ⟨B, d, e, keep3 _ _ _ _ _ _ h⟩, h.2⟩)
    have M3 := Lib.hid hm3
    have hs3 : w1.heap.size + 1 ≤ W3.heap.size := by rw [p4]; simp
    have hsw := F3.out.size
    have OWA := Lib.hid (OW3.out.alloc (.cells #[.slice lA q lc] TLL))
    have SRA := Lib.hid (Src.one (w := W3) (x := .slice lA q lc) (t := TLL) rfl)
    have Q1 : Hid (k + 1 ≤ maxLen) := Lib.hid (by simp only [maxLen]; omega)
    have Q2 : Hid ((k + 1) * 24 ≤ 140737488355328) := Lib.hid (by omega)
    have Z1 : Hid (base ≤ (W3.alloc (.cells #[.slice lA q lc] TLL)).heap.size) := Lib.hid (by have := HBS.out; simp; omega)
    have HNEW := Lib.hid hin
    have HND := Lib.hid (show numS (all ++ [l]) l = k by
      obtain ⟨_, _, _, _, _, _, nd⟩ := hm3
      exact numS_get nd (by rw [← HK.out]; simp))
    obtain ⟨x0, x1, x2, x3, _, _, _, _⟩ := Blk.four KT3.out
    have m3 := KM3.out.cell 0
    have l3 := KL3.out.cell 0
    have f3 := KL3.out.frozen 0
    have hNM3 := KM3.out.lt; have hNL3 := KL3.out.lt
    simp only [List.getElem?_toArray, List.getElem?_cons_zero] at m3 l3
    clear hin hm3 p1 p2 p3 p4 p5 bT keep3 ow rel
    go_wp2_with (first
    | (at_builtin
       go_must (refine wpList_append_src _ rfl (.tmp 22) (.tmp 24) 27 rfl base TLL i0 (.slice none 0 0) 1 24 Tryz.underlying27 hi0 hz0 hs0 hb0 rfl (by decide) A1 c1 k us rfl OWA.out _ 1 1 _ rfl SRA.out Q1.out Q2.out Z1.out ?_)
       intro A4 c4 w4 own4 gr4 hn4
       have bA := Lib.hid ((Below.refl W3.heap.size W3).alloc (Nat.le_refl _) (.cells #[.slice lA q lc] TLL))
       have KT4 := Lib.hid ((KT3.out.alloc (.cells #[.slice lA q lc] TLL)).grown gr4 (own_blk_ne OWA.out (KT3.out.alloc (.cells #[.slice lA q lc] TLL)) (by decide)))
       have KM4 := Lib.hid ((KM3.out.alloc (.cells #[.slice lA q lc] TLL)).grown gr4 (own_blk_ne OWA.out (KM3.out.alloc (.cells #[.slice lA q lc] TLL)) (by decide)))
       have KL4 := Lib.hid ((KL3.out.alloc (.cells #[.slice lA q lc] TLL)).grown gr4 (own_blk_ne OWA.out (KL3.out.alloc (.cells #[.slice lA q lc] TLL)) (by decide)))
       have hmne : some mb ≠ (Value.slice A1 k c1).ownBlock := fun e => by
         rcases OWA.out.2 with ⟨h, _⟩ | ⟨g, cap, cur, h, _, hh, _⟩
         · rw [h] at e; cases e
         · rw [h] at e
           injection e with e
           subst e
           exact (M3.out.of_block (bA.out.block _ M3.out.lt)).ne (show Blk _ _ TLL cur from hh) rfl
       have MM4 := Lib.hid (M3.out.of_block ((gr4.block mb (by have := M3.out.lt; simp; omega) hmne).trans (bA.out.block _ M3.out.lt)))
       have LS4 := Lib.hid (Ls.push OW3.out REL3.out HK.out UU3.out HX.out own4 gr4)
       have F4 := Lib.hid ((F3.out.trans (Frm.of bA.out)).grown gr4)
       have HN4 := Lib.hid hn4
       have MM5 := Lib.hid (MM4.out.of_block (W' := w4.setCell ⟨L, 0, none⟩ (.slice A4 (k + 1) c4)) (Below.heap_setCell _ _ _ _ (fun e => MM4.out.ne KL4.out e.symm)))
       have KL5 := Lib.hid (KL4.out.set 0 (.slice A4 (k + 1) c4))
       have KT5 := Lib.hid (KT4.out.far (p := ⟨L, 0, none⟩) (KT4.out.ne KL4.out (by decide)) (.slice A4 (k + 1) c4))
       have KM5 := Lib.hid (KM4.out.far (p := ⟨L, 0, none⟩) (KM4.out.ne KL4.out (by decide)) (.slice A4 (k + 1) c4))
       have LS5 := Lib.hid (LS4.out.far (i := 0) (u := .slice A4 (k + 1) c4) KL4.out (by decide) (by decide))
       have F5 := Lib.hid (F4.out.set (i := 0) (.slice A4 (k + 1) c4))
       have LK5 := (MapM.in (S := S) MM5.out hn (by rw [HL.out]; simp)).2
       rw [HL.out, HT.out, HND.out] at LK5
       obtain ⟨x0, x1, x2, x3, _, _, _, _⟩ := Blk.four KT5.out
       have m5 := KM5.out.cell 0
       simp only [List.getElem?_toArray, List.getElem?_cons_zero] at m5
       have m4 := KM4.out.cell 0
       have l4 := KL4.out.cell 0
       have f4 := KL4.out.frozen 0
       have hNM4 := KM4.out.lt; have hNL4 := KL4.out.lt; have hNT4 := KT4.out.lt
       simp only [List.getElem?_toArray, List.getElem?_cons_zero] at m4 l4
       clear own4 gr4 hn4 hmne))
    have HRES : Hid (ComePost mb L base n x (Value.slice A1 k c1).ownBlock l all w (.returned (.int .i64 k)) (w4.setCell ⟨L, 0, none⟩ (.slice A4 (k + 1) c4))) := Lib.hid (by
      refine ⟨A4, c4, k + 1, ?_, ?_⟩
      · rw [numS_new HNEW.out, HK.out]
      · rw [addS_new HNEW.out]
        refine ⟨Lib.hid (by rw [List.length_append, HK.out]; rfl), MM5.out, KL5.out, LS5.out, ?_, F5.out⟩
        rcases HN4.out with e | e
        · exact .inl e
        · exact .inr ⟨_, e, by simp; omega⟩)
    go_ret
    exact HRES.out
end Go.Proofs.YtjnjbcigbnjmkaaGreat

namespace Pv
open Go Go.RowKit
/-- A row made whole, whose first numbers are written. -/
def rowCs (row : List Int) (nc : Nat) : Array Value := (row.map (Value.int .i64) ++ List.replicate (nc - row.length) (Value.int .i64 0)).toArray
theorem rowCs_size {row : List Int} {nc : Nat} (h : row.length ≤ nc) : (rowCs row nc).size = nc := by simp [rowCs]; omega
theorem rowCs_nil (nc : Nat) : rowCs [] nc = madeCells #[.int .i64 0] nc := by
  refine Array.ext (by simp [rowCs, size_madeCells]) fun i h1 h2 => ?_
  simp [rowCs, madeCells, Nat.mod_one]
theorem rowCs_put {row : List Int} {nc : Nat} (h : row.length < nc) (x : Int) : (rowCs row nc).setIfInBounds row.length (.int .i64 x) = rowCs (row ++ [x]) nc := by
  unfold rowCs
  obtain ⟨k, hk⟩ : ∃ k, nc - row.length = k + 1 := ⟨nc - row.length - 1, by omega⟩
  have h2 : nc - (row ++ [x]).length = k := by simp; omega
  rw [hk, h2, List.setIfInBounds_toArray, List.map_append, List.append_assoc]
  congr 1
  have e : row.length = (row.map (Value.int .i64)).length := by simp
  rw [e, List.set_append_right _ _ (Nat.le_refl _), Nat.sub_self]
  simp [List.replicate_succ]
theorem rowCs_full {row : List Int} {nc : Nat} (h : row.length = nc) : (rowCs row nc).toList = row.map (Value.int .i64) := by
  unfold rowCs; simp [h]
end Pv
namespace Go.Proofs.YtjnjbcigbnjmkaaGreat
open Go.RowKit Go.ChangeMaps Pv

theorem own_blkF {w : World} {g b m : Nat} {t : TypeId} {cs : Array Value} (h : Blk w g t cs) (hb : b ≤ g) (hs : cs.size = m) (hm : m ≤ maxLen) : w.ownsRow b t 1 (.slice (some ⟨g, 0, none⟩) m m) m cs.toList :=
  ⟨by simp [hs], .inr ⟨g, m, cs, rfl, hb, h, Nat.le_refl _, hm, by simp [hs], by rw [List.take_of_length_le (by simp [hs])]⟩⟩
theorem OwnI.put {w : World} {base g i : Nat} {v u : Value} {l : List Int} {cs : Array Value} (h : OwnI w base v l) (hne : v.ownBlock = none ∨ v.ownBlock ≠ some g) (_ : Blk w g TLI cs) : OwnI (w.setCell ⟨g, i, none⟩ u) base v l := by
  obtain ⟨B, d, rfl, h3⟩ := h
  refine ⟨B, d, rfl, h3.1, ?_⟩
  rcases h3.2 with h5 | ⟨g', cap, cur, hv, hg, hh, r⟩
  · exact .inl h5
  · have hne : g' ≠ g := fun e => by
      rcases hne with h4 | h4
      · rw [hv] at h4; simp [Value.ownBlock] at h4
      · exact h4 (by rw [hv, e]; rfl)
    exact .inr ⟨g', cap, cur, hv, hg, by rw [Below.heap_setCell _ _ _ _ (by simpa using hne)]; exact hh, r⟩

/-- The automaton's box, the answer's, the map and the list with their boxes; cuts, rows, what accepts. d2, d3: what the answer's box holds of these. -/
structure PrIn (w wr : World) (M L mb : Nat) (A : Option Addr) (n c : Nat) (acc : Int) (x : Option Nat) (v1 av d2 d3 v2 v3 : Value) (cuts : List Int) (all rows : List (List Int)) (accs : List Bool) : Prop where
  a : Blk wr w.heap.size TAuto #[.slice A n c, .int .i64 acc]
  d : Blk wr (w.heap.size + 1) TDfa #[v1, d2, d3]
  m : Blk wr M TMet #[.map (some mb)]
  l : Blk wr L TLLs #[av]
  mm : MapM wr mb n all
  u : OwnI wr w.heap.size v1 cuts
  ux : v1.ownBlock = none ∨ v1.ownBlock ≠ x
  r : Ls wr w.heap.size x v2 rows
  t : Own wr w.heap.size 4 RB v3 accs
  al : Ls wr w.heap.size x av all
  ne : v2.ownBlock = none ∨ v2.ownBlock ≠ av.ownBlock
  b : Below w.heap.size w wr
  gm : w.heap.size ≤ mb
  gl : w.heap.size ≤ L
theorem Ls.ge {w : World} {base : Nat} {x : Option Nat} {v : Value} {ll : List (List Int)} (h : Ls w base x v ll) {g : Nat} (hg : v.ownBlock = some g) : base ≤ g ∧ g < w.heap.size := by
  obtain ⟨A, c, us, rfl, h1, _⟩ := h
  exact h1.lt g hg
theorem Ls.row_ne {w : World} {base g : Nat} {x : Option Nat} {v : Value} {ll : List (List Int)} {t : TypeId} {cs : Array Value} (h : Ls w base x v ll) (hb : Blk w g t cs) (hne : TLL ≠ t) : some g ≠ v.ownBlock := by
  obtain ⟨A, c, us, rfl, h1, _⟩ := h
  exact own_blk_ne h1 hb hne
section
variable {w wr w' : World} {M L mb n c : Nat} {A : Option Addr} {acc : Int} {x : Option Nat} {v1 av d2 d3 v2 v3 : Value} {cuts : List Int} {all rows : List (List Int)} {accs : List Bool}
theorem PrIn.below (h : PrIn w wr M L mb A n c acc x v1 av d2 d3 v2 v3 cuts all rows accs) (hb : Below wr.heap.size wr w') : PrIn w w' M L mb A n c acc x v1 av d2 d3 v2 v3 cuts all rows accs :=
  ⟨h.a.below hb h.a.lt, h.d.below hb h.d.lt, h.m.below hb h.m.lt, h.l.below hb h.l.lt, h.mm.of_block (hb.block _ h.mm.lt), OwnI.below h.u hb, h.ux, h.r.below hb, h.t.below hb, h.al.below hb, h.ne, h.b.trans (hb.mono h.b.size), h.gm, h.gl⟩
theorem PrIn.free (h : PrIn w wr M L mb A n c acc x v1 av d2 d3 v2 v3 cuts all rows accs) : PrIn w wr M L mb A n c acc none v1 av d2 d3 v2 v3 cuts all rows accs :=
  ⟨h.a, h.d, h.m, h.l, h.mm, h.u, by cases v1.ownBlock <;> simp, h.r.bare, h.t, h.al.bare, h.ne, h.b, h.gm, h.gl⟩
/-- A new row's block. -/
theorem PrIn.fresh (h : PrIn w wr M L mb A n c acc x v1 av d2 d3 v2 v3 cuts all rows accs) (o : Obj) : PrIn w (wr.alloc o) M L mb A n c acc (some wr.heap.size) v1 av d2 d3 v2 v3 cuts all rows accs := by
  have hb : Below wr.heap.size wr (wr.alloc o) := (Below.refl _ _).alloc (Nat.le_refl _) o
  have h' := h.below hb
  refine ⟨h'.a, h'.d, h'.m, h'.l, h'.mm, h'.u, ?_, (h.r.fresh (Nat.le_refl _)).below hb, h'.t, (h.al.fresh (Nat.le_refl _)).below hb, h.ne, h'.b, h.gm, h.gl⟩
  cases hv : v1.ownBlock with
  | none => exact .inl rfl
  | some g => have := (h.u.lt hv).2; exact .inr (by simp; omega)
/-- A number written into the row under way. -/
theorem PrIn.put {R i : Nat} {cs : Array Value} (h : PrIn w wr M L mb A n c acc (some R) v1 av d2 d3 v2 v3 cuts all rows accs) (hb : Blk wr R TLI cs) (hR : w.heap.size ≤ R) (u : Value) : PrIn w (wr.setCell ⟨R, i, none⟩ u) M L mb A n c acc (some R) v1 av d2 d3 v2 v3 cuts all rows accs :=
  ⟨h.a.far (p := ⟨R, i, none⟩) (h.a.ne hb (by decide)) u, h.d.far (p := ⟨R, i, none⟩) (h.d.ne hb (by decide)) u, h.m.far (p := ⟨R, i, none⟩) (h.m.ne hb (by decide)) u, h.l.far (p := ⟨R, i, none⟩) (h.l.ne hb (by decide)) u,
    h.mm.of_block (Below.heap_setCell _ _ _ _ (fun e => h.mm.ne hb e.symm)), OwnI.put h.u h.ux hb, h.ux, h.r.put hb, h.t.setFar hb (by decide) i u, h.al.put hb, h.ne, h.b.setCell (p := ⟨R, i, none⟩) hR u, h.gm, h.gl⟩
/-- Some states numbered. -/
theorem PrIn.come {l : List Int} {e : Ending} (h : PrIn w wr M L mb A n c acc x v1 av d2 d3 v2 v3 cuts all rows accs) (hc : ComePost mb L w.heap.size n x av.ownBlock l all wr e w') :
    ∃ A2 c2 k2, e = .returned (.int .i64 (numS all l)) ∧ Hid ((addS all l).length = k2) ∧ PrIn w w' M L mb A n c acc x v1 (.slice A2 k2 c2) d2 d3 v2 v3 cuts (addS all l) rows accs ∧ ∀ g cs, Blk wr g TLI cs → Blk w' g TLI cs := by
  obtain ⟨A2, c2, k2, e1, hk, hmm, hl, hal, hn, hf⟩ := hc
  have hblk : ∀ {g : Nat} {t : TypeId} {cs : Array Value}, Blk wr g t cs → t ≠ TLLs → TLL ≠ t → Blk w' g t cs := fun hb h1 h2 => hf.blk h.mm h.l hb h1 (h.al.row_ne hb h2)
  refine ⟨A2, c2, k2, e1, hk, ⟨hblk h.a (by decide) (by decide), hblk h.d (by decide) (by decide), hblk h.m (by decide) (by decide), hl, hmm, ?_, h.ux, ?_, ?_, hal, ?_, h.b.trans (hf.below h.b.size h.gm h.gl (fun g hg => (h.al.ge hg).1)), h.gm, h.gl⟩, fun g cs hb => hblk hb (by decide) (by decide)⟩
  · obtain ⟨B, d, rfl, h3⟩ := h.u
    obtain ⟨_, _, _, e4, h4, _⟩ := h.al
    exact ⟨B, d, rfl, hf.own h.mm h.l h3 (by decide) (by rw [e4]; exact own_ne h3 h4 (by decide))⟩
  · obtain ⟨B, d, us, rfl, h3, h5⟩ := h.r
    obtain ⟨_, _, _, e4, h4, _⟩ := h.al
    refine ⟨B, d, us, rfl, hf.own h.mm h.l h3 (by decide) h.ne, h5.mono fun u l hu => ⟨?_, hu.2⟩⟩
    obtain ⟨B, d, rfl, h6⟩ := hu.1
    exact ⟨B, d, rfl, hf.own h.mm h.l h6 (by decide) (by rw [e4]; exact own_ne h6 h4 (by decide))⟩
  · obtain ⟨B, d, us, rfl, h3, h5⟩ := h.t
    obtain ⟨_, _, _, e4, h4, _⟩ := h.al
    exact ⟨B, d, us, rfl, hf.own h.mm h.l h3 (by decide) (by rw [e4]; exact own_ne h3 h4 (by decide)), h5⟩
  · rcases hn with e2 | ⟨g, e2, hg⟩
    · rw [e2]; exact h.ne
    · rw [e2]
      cases hv : v2.ownBlock with
      | none => exact .inl rfl
      | some q => have := (h.r.ge hv).2; exact .inr (by simp; omega)
/-- A row more. -/
theorem PrIn.row {A1 A2 : Option Addr} {c1 c2 k : Nat} {us : List Value} {u : Value} {l : List Int} (h : PrIn w wr M L mb A n c acc none v1 av d2 d3 (.slice A1 k c1) v3 cuts all rows accs) (h1 : wr.ownsRow w.heap.size TLL 1 (.slice A1 k c1) k us) (h2 : Rel (fun u l => OwnI wr w.heap.size u l ∧ (u.ownBlock = none ∨ u.ownBlock ≠ none)) us rows) (hk : rows.length = k)
    (hu : OwnI wr w.heap.size u l) (own : w'.ownsRow w.heap.size TLL 1 (.slice A2 (k + 1) c2) (k + 1) (us ++ [u])) (gr : (wr.alloc (.cells #[u] TLL)).grownBy w' (Value.slice A1 k c1).ownBlock)
    (hn : (Value.slice A2 (k + 1) c2).ownBlock = (Value.slice A1 k c1).ownBlock ∨ (Value.slice A2 (k + 1) c2).ownBlock = some (wr.alloc (.cells #[u] TLL)).heap.size) : PrIn w w' M L mb A n c acc none v1 av d2 d3 (.slice A2 (k + 1) c2) v3 cuts all (rows ++ [l]) accs := by
  have hb : Below wr.heap.size wr (wr.alloc (.cells #[u] TLL)) := (Below.refl _ _).alloc (Nat.le_refl _) _
  have h' := h.below hb
  have h1' := ownsRow_below h1 hb
  have hmne : some mb ≠ (Value.slice A1 k c1).ownBlock := fun e => by
    rcases h1'.2 with ⟨h, _⟩ | ⟨g, cap, cur, h, _, hh, _⟩
    · rw [h] at e; cases e
    · rw [h] at e
      injection e with e
      subst e
      exact h'.mm.ne (show Blk _ _ TLL cur from hh) rfl
  have hal : (av.ownBlock = none ∨ av.ownBlock ≠ (Value.slice A1 k c1).ownBlock) := by
    rcases h.ne with e | e
    · cases hv : av.ownBlock with
      | none => exact .inl rfl
      | some g => exact .inr (by rw [e]; simp)
    · exact .inr (Ne.symm e)
  refine ⟨h'.a.grown gr (own_blk_ne h1' h'.a (by decide)), h'.d.grown gr (own_blk_ne h1' h'.d (by decide)), h'.m.grown gr (own_blk_ne h1' h'.m (by decide)), h'.l.grown gr (own_blk_ne h1' h'.l (by decide)), h'.mm.of_block (gr.block mb h'.mm.lt hmne), ?_, h.ux, Ls.push h1 h2 hk hu (by cases u.ownBlock <;> simp) own gr, Own.grownB h'.t h1' (by decide) gr, h'.al.beside h1' hal gr, ?_, h'.b.grown gr h'.b.size (fun g hgg => (h1'.lt g hgg).1), h.gm, h.gl⟩
  · obtain ⟨B, d, e, h3⟩ := h'.u
    exact OwnI.grown ⟨B, d, e, h3⟩ gr (by rw [e]; exact own_ne h3 h1' (by decide))
  · rcases hn with e | e
    · rw [e]; exact h.ne
    · rw [e]
      refine .inr fun he => ?_
      have := (h.al.ge he.symm).2
      simp at this
      omega
/-- One more that accepts or not. -/
theorem PrIn.told {A1 A2 : Option Addr} {c1 c2 k : Nat} {us : List Value} {b : Bool} (h : PrIn w wr M L mb A n c acc none v1 av d2 d3 v2 (.slice A1 k c1) cuts all rows accs) (h1 : wr.ownsRow w.heap.size 4 1 (.slice A1 k c1) k us) (h2 : Rel RB us accs) (hk : accs.length = k)
    (own : w'.ownsRow w.heap.size 4 1 (.slice A2 (k + 1) c2) (k + 1) (us ++ [.bool b])) (gr : (wr.alloc (.cells #[.bool b] 4)).grownBy w' (Value.slice A1 k c1).ownBlock) : PrIn w w' M L mb A n c acc none v1 av d2 d3 v2 (.slice A2 (k + 1) c2) cuts all rows (accs ++ [b]) := by
  have hb : Below wr.heap.size wr (wr.alloc (.cells #[.bool b] 4)) := (Below.refl _ _).alloc (Nat.le_refl _) _
  have h' := h.below hb
  have h1' := ownsRow_below h1 hb
  have hmne : some mb ≠ (Value.slice A1 k c1).ownBlock := fun e => by
    rcases h1'.2 with ⟨h, _⟩ | ⟨g, cap, cur, h, _, hh, _⟩
    · rw [h] at e; cases e
    · rw [h] at e
      injection e with e
      subst e
      exact h'.mm.ne (show Blk _ _ 4 cur from hh) rfl
  refine ⟨h'.a.grown gr (own_blk_ne h1' h'.a (by decide)), h'.d.grown gr (own_blk_ne h1' h'.d (by decide)), h'.m.grown gr (own_blk_ne h1' h'.m (by decide)), h'.l.grown gr (own_blk_ne h1' h'.l (by decide)), h'.mm.of_block (gr.block mb h'.mm.lt hmne), ?_, h.ux, h'.r.other h1' (by decide) (by decide) gr, ⟨A2, c2, us ++ [.bool b], by simp [hk], by rw [List.length_append, hk]; exact own, Rel.app h2 (Rel.one (R := RB) (u := .bool b) (x := b) rfl)⟩, h'.al.other h1' (by decide) (by decide) gr, h.ne, h'.b.grown gr h'.b.size (fun g hgg => (h1'.lt g hgg).1), h.gm, h.gl⟩
  obtain ⟨B, d, e, h3⟩ := h'.u
  exact OwnI.grown ⟨B, d, e, h3⟩ gr (by rw [e]; exact own_ne h3 h1' (by decide))
/-- A store into the answer's box. -/
theorem PrIn.far {i : Nat} {y2 y3 u : Value} (h : PrIn w wr M L mb A n c acc x v1 av d2 d3 v2 v3 cuts all rows accs) (he : (#[v1, d2, d3] : Array Value).setIfInBounds i u = #[v1, y2, y3]) : PrIn w (wr.setCell ⟨w.heap.size + 1, i, none⟩ u) M L mb A n c acc x v1 av y2 y3 v2 v3 cuts all rows accs :=
  ⟨h.a.far (p := ⟨w.heap.size + 1, i, none⟩) (h.a.ne h.d (by decide)) u, by have := h.d.set i u; rwa [he] at this, h.m.far (p := ⟨w.heap.size + 1, i, none⟩) (h.m.ne h.d (by decide)) u, h.l.far (p := ⟨w.heap.size + 1, i, none⟩) (h.l.ne h.d (by decide)) u,
    h.mm.of_block (Below.heap_setCell _ _ _ _ (fun e => h.mm.ne h.d e.symm)), OwnI.far h.u h.d (by decide), h.ux, h.r.far h.d (by decide) (by decide), h.t.setFar h.d (by decide) i u, h.al.far h.d (by decide) (by decide), h.ne, h.b.setCell (p := ⟨w.heap.size + 1, i, none⟩) (Nat.le_succ _) u, h.gm, h.gl⟩
end
end Go.Proofs.YtjnjbcigbnjmkaaGreat
