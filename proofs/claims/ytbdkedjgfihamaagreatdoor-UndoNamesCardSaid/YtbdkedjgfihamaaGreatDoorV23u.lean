/- Walks: does a record clash with another one. PUT1 -/
import Derived.Test.YtbdkedjgfihamaaGreatDoorV21u
import Derived.WalkSpells
namespace Pv
open Go Go.RowKit
theorem cutV_len {v : List Cel} {a : Nat} : (cutV v a).length ≤ v.length := by
  rw [cutV_eq]
  have hl : ∀ l : List Cel, (bareV l).length = l.length := fun l => by cases l <;> rfl
  rw [hl, List.length_take, List.length_drop]
  omega
theorem valR_len {r : Rec} {x : ByteArray} {l : List Cel} (h : valR r x = some l) : l.length ≤ 2048 := by
  unfold valR at h
  split at h
  · cases h
  · rename_i a ha
    split at h
    · cases h
    · obtain rfl := Option.some.inj h
      have := (askV_lt ha).1.few
      exact Nat.le_trans cutV_len this
end Pv
namespace Go.Proofs.YtbdkedjgfihamaaGreatDoor
open Go.RowKit Pv Go.Maps
/-- What a record has of a name, read. -/
def RVal (w : World) (u : Value) (o : Option (List Cel)) : Prop := match o with
  | none => u = .slice none 0 0
  | some l => ∃ g n c, u = .slice (some g) n c ∧ AtCel w (some g) l ∧ l.length = n ∧ 0 < n
theorem RVal.keep {w w' : World} {u : Value} {o : Option (List Cel)} (h : RVal w u o) (k : Keep w w') : RVal w' u o := by
  cases o with
  | none => exact h
  | some l => obtain ⟨g, n, c, e, h1, h2⟩ := h; exact ⟨g, n, c, e, AtK.keep h1 k, h2⟩
abbrev AtVs (w : World) (O : Option Addr) (ol : List (Option (List Cel))) : Prop := At w O (RVal w) ol
theorem AtVs.keep {w w' : World} {O : Option Addr} {ol : List (Option (List Cel))} (h : AtVs w O ol) (k : Keep w w') : AtVs w' O ol := At.keepR h k fun _ _ h => RVal.keep h k
theorem OVal.reads {w : World} {base : Nat} {u : Value} {o : Option (List Cel)} (h : OVal w base u o) (hl : ∀ l, o = some l → l.length ≤ 2048) : RVal w u o := by
  cases o with
  | none => exact h
  | some l =>
    obtain ⟨A, c, hu, ha, hc⟩ := OwnK.sl h.2 (by have := hl l rfl; omega)
    obtain ⟨b, off, e, _⟩ := ha.2 h.1
    subst e
    exact ⟨_, _, c, hu, ha, rfl, h.1⟩
theorem vs_reads {w : World} {base n c : Nat} {O : Option Addr} {l : List ByteArray} {r : Rec} (h : OwnVs w base (.slice O n c) (l.map (valR r))) (hn : l.length = n) (hn2 : n ≤ 100000) : AtVs w O (l.map (valR r)) := by
  have h2 : Own w base TLs (RVal w) (.slice O n c) (l.map (valR r)) := by
    obtain ⟨A, c', us, hv, ho, hr⟩ := h
    refine ⟨A, c', us, hv, ho, hr.1, fun i u x hu hx => (hr.2 i u x hu hx).reads fun l' hl' => ?_⟩
    rw [List.getElem?_map] at hx
    cases hq : l[i]? with
    | none => rw [hq] at hx; cases hx
    | some nm =>
      rw [hq] at hx
      obtain rfl := (Option.some.inj hx).symm
      exact valR_len hl'
  obtain ⟨A, c', hv, ha, _⟩ := Own.sl h2 (by rw [List.length_map]; omega)
  injection hv with e1 e2 e3
  subst e1
  exact ha
set_option maxHeartbeats 8000000 in
set_option maxRecDepth 100000 in
theorem clash_test (B rb kb mb bb : Nat) (U : Option Addr) (un uc : Nat) (R : Option Addr) (rn rc : Nat) (t : Tab) (M : Option Addr) (mc : Nat) (r x : Rec) (D : Option Addr) (m c : Nat) (w : World) (hbk : BookAt w bb U un uc R rn rc t) (hun : un ≤ 100000)
    (hr : w.cell? ⟨rb, 0, none⟩ = some (.string r.id)) (hk : w.cell? ⟨kb, 0, none⟩ = some (.pointer (some ⟨bb, 0, none⟩))) (hm : w.cell? ⟨mb, 0, none⟩ = some (.slice M un mc)) (hrl : rb < w.heap.size) (hkl : kb < w.heap.size) (hml : mb < w.heap.size)
    (hM : AtVs w M (t.uniques.map (valR r))) (h : AtCel w D x.data) (HL : Hid (x.data.length = m)) (hmc : m ≤ c) (hs : CelsB x.data) (hT : TabS B w) (hB : B ≤ w.heap.size) :
    Calls Tryz.prog 99 #[.agg #[.string x.id, .slice D m c], .pointer (some ⟨rb, 0, none⟩), .pointer (some ⟨kb, 0, none⟩), .pointer (some ⟨mb, 0, none⟩)] w fun e w' => e = .returned (.bool (!decide (x.id = r.id) && clB t.uniques x r)) ∧ Below w.heap.size w w' := by
  have hnil := fun (W : World) (a : Option Addr) (n c : Nat) => Go.run_neq_slice_nil_any (P := Tryz.prog) W 30 TCe a n c 0 0 Tryz.underlying30
  have hk0 : Below w.heap.size w (w.alloc (.cells #[.string x.id, .slice D m c] TRe)) := (Below.refl _ _).alloc (Nat.le_refl _) _
  have HBX := Lib.hid (fun W (hb : Below (w.alloc (.cells #[.string x.id, .slice D m c] TRe)).heap.size (w.alloc (.cells #[.string x.id, .slice D m c] TRe)) W) => one_box hb)
  have p0 := (hk0.cell (p := ⟨rb, 0, none⟩) hrl).trans hr
  have p1 := (hk0.cell (p := ⟨kb, 0, none⟩) hkl).trans hk
  have p2 := (hk0.cell (p := ⟨mb, 0, none⟩) hml).trans hm
  have HML : Hid (mb < w.heap.size) := Lib.hid hml
  have HP2 := Lib.hid hm
  obtain ⟨yl, y0, y1⟩ := (HBX.out _ (Below.refl _ _)).2
  obtain ⟨o, ho⟩ : ∃ o, (!decide (x.id = r.id) && clB t.uniques x r) = o := ⟨_, rfl⟩
  rw [ho]
  have HV := Lib.hid (book_values B bb U un uc R rn rc t D c m x _ (hbk.keep (Keep.of hk0)) hun (AtK.keep (R := RCel) h (Keep.of hk0)) HL hmc hs (hT.next (hk0.mono hB)) (by have := hk0.size; omega))
  have HM := Lib.hid hM
  have hun2 := hbk.tab.un
  obtain ⟨xi, hxi⟩ : ∃ xi, x.id = xi := ⟨_, rfl⟩
  obtain ⟨ri, hri⟩ : ∃ ri, r.id = ri := ⟨_, rfl⟩
  rw [hxi, hri] at ho
  rw [hxi] at HBX p0 p1 p2 HV yl y0 y1 ⊢
  rw [hri] at p0
  by_cases hid : xi = ri
  · subst hid
    have HO := Lib.hid (show o = false by rw [← ho]; simp)
    have t1 : (xi.toList == xi.toList) = true := by simp
    have HB1 := Lib.hid (HBX.out _ (Below.refl _ _)).1
    clear h hs hT hbk hk0 hr hk hm hM ho hxi hri
    go_enter Tryz.func99, Tryz.ntmps99
    go_wp2
    go_ret
    exact ⟨ret_bool HO.out.symm, HB1.out⟩
  have HO := Lib.hid (show o = clB t.uniques x r by rw [← ho, decide_eq_false hid]; rfl)
  have t1 : (xi.toList == ri.toList) = false := by rw [beq_eq_false_iff_ne]; exact fun h => hid (toList_inj h)
  have HUN : Hid (t.uniques.length = un) := hun2
  have HXL : Hid ((t.uniques.map (valR x)).length = un) := Lib.hid (by rw [List.length_map, hun2.out])
  have HRL : Hid ((t.uniques.map (valR r)).length = un) := Lib.hid (by rw [List.length_map, hun2.out])
  clear h hs hT hbk hk0 hr hk hm hM ho hxi hri hid
  go_enter Tryz.func99, Tryz.ntmps99
  go_wp2_with fail
  refine HV.out.mono ?_
  rintro e w1 ⟨O, oc, rfl, k1, k2⟩
  have HXV := Lib.hid (vs_reads k1 HUN.out hun)
  have HB1 := Lib.hid k2
  clear k1 k2
  go_wp2
  go_loopw [17] (fun iv W => ∃ q : Nat, iv = .int .i64 q ∧ q ≤ un ∧ Hid (Below w1.heap.size w1 W) ∧ Hid (∀ n, n ∈ t.uniques.take q → twoB (valR x n) (valR r n) = false)) (fun iv _ => un - (intOf iv).toNat)
  case atStart => exact ⟨0, rfl, by omega, Lib.hid (Below.refl _ _), Lib.hid (by simp)⟩
  case round =>
    obtain ⟨q, rfl, hq, HW, HNO⟩ := hrel
    have HWA := Lib.hid (HB1.out.trans (HW.out.mono HB1.out.size))
    have HW0 := Lib.hid (HBX.out _ HWA.out).1
    by_cases hlt : q < un
    · obtain ⟨b1, o1, u1, ov1, rfl, hb1, c1, hv1, HX1⟩ := At.gt (AtVs.keep HXV.out (Keep.of HW.out)) HXL hlt
      obtain ⟨b2, o2, u2, ov2, rfl, hb2, c2, hv2, HX2⟩ := At.gt (AtVs.keep HM.out (Keep.of HW0.out)) HRL hlt
      obtain ⟨nm, hnm⟩ : ∃ nm, t.uniques[q]? = some nm := ⟨_, List.getElem?_eq_getElem (by rw [HUN.out]; exact hlt)⟩
      obtain rfl : ov1 = valR x nm := by have := HX1.out; rw [List.getElem?_map, hnm] at this; exact (Option.some.inj this).symm
      obtain rfl : ov2 = valR r nm := by have := HX2.out; rw [List.getElem?_map, hnm] at this; exact (Option.some.inj this).symm
      have HNM := Lib.hid hnm
      have z2 := (HW0.out.cell (p := ⟨mb, 0, none⟩) HML.out).trans HP2.out
      have i1 : (q : Int) < (un : Int) := by omega
      have i2 : (0 : Int) ≤ (q : Int) := by omega
      clear hnm
      cases h1 : valR x nm with
      | none =>
        rw [h1] at hv1
        obtain rfl : u1 = .slice none 0 0 := hv1
        have HT := Lib.hid (show twoB (valR x nm) (valR r nm) = false by rw [h1]; rfl)
        clear h1 hv2
        go_wp2
        go_roundw
        case rel =>
          refine ⟨q + 1, by go_num, by omega, HW, Lib.hid fun z hz => ?_⟩
          rw [take_snoc HNM.out] at hz
          rcases List.mem_append.1 hz with hz | hz
          · exact HNO.out z hz
          · obtain rfl := List.mem_singleton.1 hz
            exact HT.out
        case measure => simp [intOf]; omega
      | some l1 =>
        rw [h1] at hv1
        obtain ⟨g1, n1, d1, rfl, hl1, hn1, hp1⟩ := hv1
        have HC : Hid (∃ (A2 : Option Addr) (n2 d2 : Nat), u2 = .slice A2 n2 d2 ∧ Calls Tryz.prog 58 #[.slice (some g1) n1 d1, .slice A2 n2 d2] wr fun e w' => e = .returned (.bool (twoB (valR x nm) (valR r nm))) ∧ Below wr.heap.size wr w') := Lib.hid (by
          cases h2 : valR r nm with
          | none =>
            rw [h2] at hv2
            refine ⟨none, 0, 0, hv2, (cell_Same (some g1) none d1 0 n1 0 l1 [] wr hl1 AtK.nil (Lib.hid hn1) (Lib.hid rfl)).mono ?_⟩
            rintro e w' ⟨rfl, k⟩
            refine ⟨ret_bool ?_, k⟩
            rw [h1]
            exact decide_eq_false (fun he => by rw [he] at hn1; simp at hn1; omega)
          | some l2 =>
            rw [h2] at hv2
            obtain ⟨g2, n2, d2, hu2, hl2, hn2, hp2⟩ := hv2
            refine ⟨some g2, n2, d2, hu2, (cell_Same (some g1) (some g2) d1 d2 n1 n2 l1 l2 wr hl1 hl2 (Lib.hid hn1) (Lib.hid hn2)).mono ?_⟩
            rintro e w' ⟨rfl, k⟩
            refine ⟨ret_bool ?_, k⟩
            rw [h1]
            rfl)
        obtain ⟨A2, n2, d2, rfl, hc2⟩ := HC.out
        have HC2 := Lib.hid hc2
        obtain ⟨tw, htw⟩ : ∃ tw, twoB (valR x nm) (valR r nm) = tw := ⟨_, rfl⟩
        rw [htw] at HC2
        have HT := Lib.hid htw
        clear hc2 HC hl1 h1 hv2 htw
        cases tw with
        | true =>
          go_wp2_with fail
          refine HC2.out.mono ?_
          rintro e w2 ⟨rfl, k⟩
          have HF := Lib.hid (HW0.out.trans (k.mono HW0.out.size))
          have HO2 := Lib.hid (show o = true by rw [HO.out]; unfold clB; exact List.any_eq_true.2 ⟨nm, mem_of_get HNM.out, HT.out⟩)
          clear k
          go_wp2
          go_ret
          exact ⟨ret_bool HO2.out.symm, HF.out⟩
        | false =>
          go_wp2_with fail
          refine HC2.out.mono ?_
          rintro e w2 ⟨rfl, k⟩
          have HW2 := Lib.hid (HW.out.trans (k.mono HW.out.size))
          clear k
          go_wp2
          go_roundw
          case rel =>
            refine ⟨q + 1, by go_num, by omega, HW2, Lib.hid fun z hz => ?_⟩
            rw [take_snoc HNM.out] at hz
            rcases List.mem_append.1 hz with hz | hz
            · exact HNO.out z hz
            · obtain rfl := List.mem_singleton.1 hz
              exact HT.out
          case measure => simp [intOf]; omega
    · have HO2 := Lib.hid (show o = false by
        have h1 := HNO.out
        rw [List.take_of_length_le (by rw [HUN.out]; omega)] at h1
        rw [HO.out]
        unfold clB
        exact List.any_eq_false.2 fun z hz => by rw [h1 z hz]; simp)
      have i1 : ¬ (q : Int) < (un : Int) := by omega
      go_wp2
      go_ret
      exact ⟨ret_bool HO2.out.symm, HW0.out⟩
end Go.Proofs.YtbdkedjgfihamaaGreatDoor

namespace Go.Proofs.YtbdkedjgfihamaaGreatDoor
open Go.RowKit Pv Go.Maps
abbrev TBk : TypeId := 95
abbrev TVs : TypeId := 73
/-- Rows within the bounds. -/
def RowsB (l : List Rec) : Prop := ∀ r, r ∈ l → CelsB r.data
theorem allocNew {B : Nat} {a w : World} (v : Value) (T : TypeId) (h : Below B a w) (hB : B ≤ w.heap.size) : Below B a (w.alloc (.cells #[v] T)) ∧ Blk (w.alloc (.cells #[v] T)) w.heap.size T #[v] := ⟨h.alloc hB _, Blk.new w T #[v]⟩
set_option maxHeartbeats 8000000 in
set_option maxRecDepth 100000 in
theorem book_clash (B bb : Nat) (U : Option Addr) (un uc : Nat) (R : Option Addr) (rn rc : Nat) (t : Tab) (D : Option Addr) (c m : Nat) (r : Rec) (w : World) (hbk : BookAt w bb U un uc R rn rc t) (hun : un ≤ 100000) (hrn : rn ≤ 100000) (hrb : RowsB t.rows) (h : AtCel w D r.data) (HL : Hid (r.data.length = m)) (hmc : m ≤ c) (hs : CelsB r.data) (hT : TabS B w) (hB : B ≤ w.heap.size) :
    Calls Tryz.prog 68 #[.pointer (some ⟨bb, 0, none⟩), .agg #[.string r.id, .slice D m c]] w fun e w' => e = .returned (.bool (clsR t.uniques t.rows r)) ∧ Below w.heap.size w w' := by
  have hk0 : Below w.heap.size w ((w.alloc (.cells #[.pointer (some ⟨bb, 0, none⟩)] TBk)).alloc (.cells #[.string r.id, .slice D m c] TRe)) := ((Below.refl _ _).alloc (Nat.le_refl _) _).alloc (by simp) _
  have hb0 : Blk ((w.alloc (.cells #[.pointer (some ⟨bb, 0, none⟩)] TBk)).alloc (.cells #[.string r.id, .slice D m c] TRe)) w.heap.size TBk #[.pointer (some ⟨bb, 0, none⟩)] := (Blk.new w TBk #[.pointer (some ⟨bb, 0, none⟩)]).alloc _
  have hb1 : Blk ((w.alloc (.cells #[.pointer (some ⟨bb, 0, none⟩)] TBk)).alloc (.cells #[.string r.id, .slice D m c] TRe)) (w.heap.size + 1) TRe #[.string r.id, .slice D m c] := blkV2 w TBk TRe _ _
  have HV := Lib.hid (book_values B bb U un uc R rn rc t D c m r _ (hbk.keep (Keep.of hk0)) hun (AtK.keep (R := RCel) h (Keep.of hk0)) HL hmc hs (hT.next (hk0.mono hB)) (by have := hk0.size; omega))
  have HBK := Lib.hid hbk
  have HTS := Lib.hid hT
  have HRB := Lib.hid hrb
  have HK0 := Lib.hid hk0; have HB0 := Lib.hid hb0; have HB1 := Lib.hid hb1
  clear h hs hT hbk hk0 hb0 hb1 hrb
  go_enter Tryz.func68, Tryz.ntmps68
  go_wp2_with fail
  refine HV.out.mono ?_
  rintro e w1 ⟨O, k, rfl, k1, k2⟩
  have hvs := vs_reads k1 HBK.out.tab.un.out hun
  obtain ⟨s1, s2⟩ := allocNew (.slice O un k) TVs k2 k2.size
  have hW : Below w.heap.size w (w1.alloc (.cells #[.slice O un k] TVs)) := HK0.out.trans (s1.mono HK0.out.size)
  obtain ⟨_, s4⟩ := allocNew (.slice O un k) TVs (Below.refl w1.heap.size w1) (Nat.le_refl _)
  have s3 := (allocNew (.slice O un k) TVs (Below.refl w1.heap.size w1) (Nat.le_refl _)).1
  have hbkW := HBK.out.keep (Keep.of hW)
  have hc0 := HB0.out.below s1 HB0.out.lt
  have hc1 := HB1.out.below s1 HB1.out.lt
  have HCL := Lib.hid (has_clash (w.heap.size + 1) w.heap.size w1.heap.size R rc rn t.rows (fun x => !decide (x.id = r.id) && clB t.uniques x r) _ hbkW.tab.rows hbkW.tab.rn hrn (Lib.hid (fun x D' m' c' W hx hat hlen hcap kb =>
    clash_test B (w.heap.size + 1) w.heap.size w1.heap.size bb U un uc R rn rc t O k r x D' m' c' W (HBK.out.keep (Keep.of (hW.trans (kb.mono hW.size)))) hun ((hc1.below kb hc1.lt).cell 0) ((hc0.below kb hc0.lt).cell 0) ((s2.below kb s2.lt).cell 0)
      (Nat.lt_of_lt_of_le hc1.lt kb.size) (Nat.lt_of_lt_of_le hc0.lt kb.size) (Nat.lt_of_lt_of_le s2.lt kb.size) (AtVs.keep hvs (Keep.trans (Keep.of s3) (Keep.of kb))) hat (Lib.hid hlen) hcap (HRB.out x hx) (HTS.out.next ((hW.trans (kb.mono hW.size)).mono hB)) (by have := hW.size; have := kb.size; omega))))
  have HWW := Lib.hid hW
  have q0 := hc0.cell 0; have q1 := hc1.cell 0; have q2 := s2.cell 0
  have q3 := hbkW.c3; have q4 := hbkW.lt
  have u0 := (HB0.out.below k2 HB0.out.lt).cell 0
  have u3 := (HBK.out.keep (Keep.of (HK0.out.trans (k2.mono HK0.out.size)))).c3
  simp at q0 q1 q2 u0
  clear k1 k2 hvs s1 s2 s3 s4 hW hbkW hc0 hc1
  go_wp2_with fail
  refine HCL.out.mono ?_
  rintro e w2 ⟨rfl, kk⟩
  have HF := Lib.hid (HWW.out.trans (kk.mono HWW.out.size))
  clear kk
  go_wp2
  go_ret
  exact ⟨rfl, HF.out⟩
/-- Is a row none that may stand there? -/
def badR (t : Tab) (r : Rec) : Bool := !oneR r || clsR t.uniques t.rows r
set_option maxHeartbeats 8000000 in
set_option maxRecDepth 100000 in
theorem check_test (B kb bb : Nat) (U : Option Addr) (un uc : Nat) (R : Option Addr) (rn rc : Nat) (t : Tab) (D : Option Addr) (c m : Nat) (r : Rec) (w : World) (hbk : BookAt w bb U un uc R rn rc t) (hun : un ≤ 100000) (hrn : rn ≤ 100000) (hrb : RowsB t.rows) (hk : w.cell? ⟨kb, 0, none⟩ = some (.pointer (some ⟨bb, 0, none⟩))) (hkl : kb < w.heap.size) (h : AtCel w D r.data) (HL : Hid (r.data.length = m)) (hmc : m ≤ c) (hs : CelsB r.data) (hT : TabS B w) (hB : B ≤ w.heap.size) :
    Calls Tryz.prog 104 #[.agg #[.string r.id, .slice D m c], .pointer (some ⟨kb, 0, none⟩)] w fun e w' => e = .returned (.bool (badR t r)) ∧ Below w.heap.size w w' := by
  have hk0 : Below w.heap.size w (w.alloc (.cells #[.string r.id, .slice D m c] TRe)) := (Below.refl _ _).alloc (Nat.le_refl _) _
  have HBX := Lib.hid (fun W (hb : Below (w.alloc (.cells #[.string r.id, .slice D m c] TRe)).heap.size (w.alloc (.cells #[.string r.id, .slice D m c] TRe)) W) => one_box hb)
  have p1 := (hk0.cell (p := ⟨kb, 0, none⟩) hkl).trans hk
  obtain ⟨yl, y0, y1⟩ := (HBX.out _ (Below.refl _ _)).2
  have H1 := Lib.hid (table_one B D c m r _ (AtK.keep (R := RCel) h (Keep.of hk0)) HL hs (hT.next (hk0.mono hB)) (by have := hk0.size; omega))
  have HCLA := Lib.hid (fun W (k : Below w.heap.size w W) => book_clash B bb U un uc R rn rc t D c m r W (hbk.keep (Keep.of k)) hun hrn hrb (AtK.keep (R := RCel) h (Keep.of k)) HL hmc hs (hT.next (k.mono hB)) (by have := k.size; omega))
  have HK := Lib.hid (fun W (k : Below w.heap.size w W) => (k.cell (p := ⟨kb, 0, none⟩) hkl).trans hk)
  obtain ⟨o, ho⟩ : ∃ o, badR t r = o := ⟨_, rfl⟩
  rw [ho]
  cases hone : oneR r with
  | false =>
    rw [hone] at H1
    have HO := Lib.hid (show o = true by rw [← ho]; unfold badR; rw [hone]; rfl)
    clear h hs hT hbk hk0 hk ho hone hrb
    go_enter Tryz.func104, Tryz.ntmps104
    go_wp2_with fail
    refine H1.out.mono ?_
    rintro e w1 ⟨rfl, k⟩
    have HF := Lib.hid (HBX.out _ k).1
    clear k
    go_wp2
    go_ret
    exact ⟨ret_bool HO.out.symm, HF.out⟩
  | true =>
    rw [hone] at H1
    have HO := Lib.hid (show o = clsR t.uniques t.rows r by rw [← ho]; unfold badR; rw [hone]; rfl)
    clear h hs hT hbk hk0 hk ho hone hrb
    go_enter Tryz.func104, Tryz.ntmps104
    go_wp2_with fail
    refine H1.out.mono ?_
    rintro e w1 ⟨rfl, k⟩
    have HF := Lib.hid (HBX.out _ k).1
    clear yl y0 y1 p1
    obtain ⟨yl, y0, y1⟩ := (HBX.out _ k).2
    have p1 := HK.out _ HF.out
    have HC := Lib.hid (HCLA.out _ HF.out)
    clear k
    go_wp2_with fail
    refine HC.out.mono ?_
    rintro e w2 ⟨rfl, k⟩
    have HF2 := Lib.hid (HF.out.trans (k.mono HF.out.size))
    clear k
    go_wp2
    go_ret
    exact ⟨ret_bool HO.out.symm, HF2.out⟩
end Go.Proofs.YtbdkedjgfihamaaGreatDoor
