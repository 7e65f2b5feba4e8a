/- Walks: may a record be. PUT1 -/
import Derived.Test.YtbdkedjgfihamaaGreatDoorV18u
namespace Go.Proofs.YtbdkedjgfihamaaGreatDoor
open Go.RowKit Pv Go.Maps
abbrev TRe : TypeId := 32
theorem one_box {w W : World} {id : ByteArray} {D : Option Addr} {m c : Nat} (hb : Below (w.alloc (.cells #[.string id, .slice D m c] TRe)).heap.size (w.alloc (.cells #[.string id, .slice D m c] TRe)) W) :
    Below w.heap.size w W ∧ w.heap.size < W.heap.size ∧ W.cell? ⟨w.heap.size, 0, none⟩ = some (.string id) ∧ W.cell? ⟨w.heap.size, 1, none⟩ = some (.slice D m c) := by
  have h0 := (Blk.new w TRe #[.string id, .slice D m c])
  have h1 := h0.below hb h0.lt
  exact ⟨((Below.refl _ _).alloc (Nat.le_refl _) _).trans (hb.mono (by simp)), h1.lt, h1.cell 0, h1.cell 1⟩
set_option maxHeartbeats 4000000 in
set_option maxRecDepth 100000 in
theorem table_one (B : Nat) (D : Option Addr) (c m : Nat) (r : Rec) (w : World) (h : AtCel w D r.data) (HL : Hid (r.data.length = m)) (hs : CelsB r.data) (hT : TabS B w) (hB : B ≤ w.heap.size) :
    Calls Tryz.prog 66 #[.agg #[.string r.id, .slice D m c]] w fun e w' => e = .returned (.bool (oneR r)) ∧ Below w.heap.size w w' := by
  obtain ⟨W0, hW0⟩ : ∃ W0, w.alloc (.cells #[.string r.id, .slice D m c] TRe) = W0 := ⟨_, rfl⟩
  have hk0 : Below w.heap.size w W0 := by rw [← hW0]; exact (Below.refl _ _).alloc (Nat.le_refl _) _
  have hbox : ∀ W, Below W0.heap.size W0 W → Below w.heap.size w W ∧ w.heap.size < W.heap.size ∧ W.cell? ⟨w.heap.size, 0, none⟩ = some (.string r.id) ∧ W.cell? ⟨w.heap.size, 1, none⟩ = some (.slice D m c) := by
    rw [← hW0]; exact fun W hb => one_box hb
  have hat : AtCel W0 D r.data := AtK.keep h (Keep.of hk0)
  have HBX := Lib.hid hbox
  have HAT : Hid (AtCel W0 D r.data) := Lib.hid hat
  have HTS := Lib.hid (hT.next (hk0.mono hB))
  have HBB : Hid (B ≤ W0.heap.size) := Lib.hid (by have := hk0.size; omega)
  have HCS := Lib.hid hs
  have HCK := Lib.hid (cell_Check B D c m r.data W0 hat HL hs HTS.out HBB.out)
  obtain ⟨y0l, y00, y01⟩ := (hbox W0 (Below.refl _ _)).2
  obtain ⟨o, ho⟩ : ∃ o, oneR r = o := ⟨_, rfl⟩
  rw [ho]
  have HO := Lib.hid ho
  clear h hs hT hk0 hbox hat ho
  subst hW0
  cases hmv : mayV r.data with
  | false =>
    rw [hmv] at HCK
    have HF := Lib.hid (HO.out.symm.trans (oneR_may hmv))
    clear hmv
    go_enter Tryz.func66, Tryz.ntmps66
    go_wp2_with fail
    refine HCK.out.mono ?_
    rintro e w1 ⟨rfl, k⟩
    have K := Lib.hid (HBX.out _ k).1
    clear k
    go_wp2
    go_ret
    exact ⟨ret_bool HF.out.symm, K.out⟩
  | true =>
    rw [hmv] at HCK
    have HMV := Lib.hid hmv
    have hp := (mayV_iff _).1 hmv
    have hm : m ≤ 2048 := by have := hp.few; rwa [HL.out] at this
    clear hmv
    cases hv : hasVar r.data with
    | true =>
      have HF := Lib.hid (HO.out.symm.trans (oneR_var hv))
      have HHV := Lib.hid hv
      clear hv hp
      go_enter Tryz.func66, Tryz.ntmps66
      go_wp2_with fail
      refine HCK.out.mono ?_
      rintro e w1 ⟨rfl, k⟩
      have HV := Lib.hid (has_var D c m r.data w1 (AtK.keep HAT.out (Keep.of k)) HL (by omega))
      rw [HHV.out] at HV
      obtain ⟨_, yl, y0, y1⟩ := HBX.out _ k
      have HK := Lib.hid k
      clear k
      go_wp2_with fail
      refine HV.out.mono ?_
      rintro e w2 ⟨rfl, k⟩
      have K := Lib.hid (HBX.out _ (HK.out.trans (k.mono HK.out.size))).1
      clear k
      go_wp2
      go_ret
      exact ⟨ret_bool HF.out.symm, K.out⟩
    | false =>
      have HHV := Lib.hid hv
      clear hv hp
      cases ha : askV r.data sId with
      | none =>
        have HF := Lib.hid (HO.out.symm.trans (oneR_none ha))
        have HAS := Lib.hid ha
        clear ha
        go_enter Tryz.func66, Tryz.ntmps66
        go_wp2_with fail
        refine HCK.out.mono ?_
        rintro e w1 ⟨rfl, k⟩
        have HV := Lib.hid (has_var D c m r.data w1 (AtK.keep HAT.out (Keep.of k)) HL (by omega))
        rw [HHV.out] at HV
        obtain ⟨_, yl, y0, y1⟩ := HBX.out _ k
        have HK := Lib.hid k
        clear k
        go_wp2_with fail
        refine HV.out.mono ?_
        rintro e w2 ⟨rfl, k⟩
        have HK2 := Lib.hid (HK.out.trans (k.mono HK.out.size))
        have HM := Lib.hid (cell_Member B D c m r.data sId w2 (AtK.keep HAT.out (Keep.of HK2.out)) HL HCS.out (HTS.out.next (HK2.out.mono HBB.out)) (by have := HK2.out.size; have := HBB.out; omega))
        rw [HAS.out] at HM
        obtain ⟨_, yl, y0, y1⟩ := HBX.out _ HK2.out
        clear k
        go_wp2_with fail
        refine HM.out.mono ?_
        rintro e w3 ⟨rfl, k⟩
        have K := Lib.hid (HBX.out _ (HK2.out.trans (k.mono HK2.out.size))).1
        clear k
        go_wp2
        go_quiet (fail)
        go_wp2
        go_ret
        exact ⟨ret_bool HF.out.symm, below_drewN K.out _⟩
      | some a =>
        have halt := (askV_lt ha).2
        rw [HL.out] at halt
        obtain ⟨b, off, ⟨k0, nm, tx, z, y⟩, rfl, H5, _, HX⟩ := AtCel.g5 HAT.out HL halt
        have HF := Lib.hid (HO.out.symm.trans (oneR_some HMV.out HHV.out ha HX.out))
        dsimp only at HF
        have H50 := Lib.hid H5
        have HAS := Lib.hid ha
        clear ha H5
        have i1 : (a : Int) < (m : Int) := by omega
        have i2 : (0 : Int) ≤ (a : Int) := by omega
        go_enter Tryz.func66, Tryz.ntmps66
        go_wp2_with fail
        refine HCK.out.mono ?_
        rintro e w1 ⟨rfl, k⟩
        have HV := Lib.hid (has_var (some ⟨b, off, none⟩) c m r.data w1 (AtK.keep HAT.out (Keep.of k)) HL (by omega))
        rw [HHV.out] at HV
        obtain ⟨_, yl, y0, y1⟩ := HBX.out _ k
        have HK := Lib.hid k
        clear k
        go_wp2_with fail
        refine HV.out.mono ?_
        rintro e w2 ⟨rfl, k⟩
        have HK2 := Lib.hid (HK.out.trans (k.mono HK.out.size))
        have HM := Lib.hid (cell_Member B (some ⟨b, off, none⟩) c m r.data sId w2 (AtK.keep HAT.out (Keep.of HK2.out)) HL HCS.out (HTS.out.next (HK2.out.mono HBB.out)) (by have := HK2.out.size; have := HBB.out; omega))
        rw [HAS.out] at HM
        obtain ⟨_, yl, y0, y1⟩ := HBX.out _ HK2.out
        clear k
        go_wp2_with fail
        refine HM.out.mono ?_
        rintro e w3 ⟨rfl, k⟩
        have HK3 := Lib.hid (HK2.out.trans (k.mono HK2.out.size))
        have K := Lib.hid (HBX.out _ HK3.out).1
        clear y0l y00 y01 yl y0 y1
        obtain ⟨_, yl, y0, y1⟩ := HBX.out _ HK3.out
        have hc := H50.out.next (Keep.of HK3.out)
        have x0 := hc.c0; have x2 := hc.c2; have xl := hc.lt
        dsimp only at x0 x2
        clear k hc
        by_cases h3 : k0 = 3
        · subst h3
          by_cases ht : tx = r.id
          · have HT := Lib.hid (show o = true by rw [HF.out, ht]; simp)
            rw [ht] at x2
            have t1 : (r.id.toList == r.id.toList) = true := by simp
            clear ht
            go_wp2
            go_quiet (fail)
            go_wp2
            go_ret
            exact ⟨ret_bool HT.out.symm, below_drewN K.out _⟩
          · have HT := Lib.hid (show o = false by rw [HF.out, decide_eq_false ht]; simp)
            have t1 : (tx.toList == r.id.toList) = false := by rw [beq_eq_false_iff_ne]; exact fun h => ht (toList_inj h)
            clear ht
            go_wp2
            go_quiet (fail)
            go_wp2
            go_ret
            exact ⟨ret_bool HT.out.symm, below_drewN K.out _⟩
        · have HT := Lib.hid (show o = false by rw [HF.out, decide_eq_false h3]; simp)
          have t1 : (k0 == 3) = false := by simpa using h3
          clear h3
          go_wp2
          go_quiet (fail)
          go_wp2
          go_ret
          exact ⟨ret_bool HT.out.symm, below_drewN K.out _⟩
end Go.Proofs.YtbdkedjgfihamaaGreatDoor

namespace Go.Proofs.YtbdkedjgfihamaaGreatDoor
open Go.RowKit Pv Go.Maps
abbrev TLs : TypeId := 30
theorem info_vals : (Tryz.prog.info? TLs).map (fun i => (i.zero, i.size, i.bytes)) = some (some (.slice none 0 0), 1, 24) := by kernel_rfl
/-- What a record has of a name, in memory of the call's own. -/
def OVal (w : World) (base : Nat) (u : Value) (o : Option (List Cel)) : Prop := match o with
  | none => u = .slice none 0 0
  | some l => 0 < l.length ∧ OwnC w base u l
theorem OVal.below {w w' : World} {base : Nat} {u : Value} {o : Option (List Cel)} (h : OVal w base u o) (k : Below w.heap.size w w') : OVal w' base u o := by
  cases o with
  | none => exact h
  | some l => exact ⟨h.1, OwnK.below h.2 k⟩
theorem OVal.lower {w : World} {base b' : Nat} {u : Value} {o : Option (List Cel)} (h : OVal w base u o) (k : b' ≤ base) : OVal w b' u o := by
  cases o with
  | none => exact h
  | some l => exact ⟨h.1, OwnK.lower h.2 k⟩
/-- .. of each name. -/
abbrev OwnVs (w : World) (base : Nat) (v : Value) (ol : List (Option (List Cel))) : Prop := Own w base TLs (OVal w base) v ol
theorem vs_shape {w : World} {base q oc : Nat} {O : Option Addr} {ol : List (Option (List Cel))} (h : OwnVs w base (.slice O q oc) ol) (hl : ol.length = q) : ∃ us, w.ownsRow base TLs 1 (.slice O q oc) q us ∧ Rel (OVal w base) us ol := by
  obtain ⟨A, c, us, hv, ho, hr⟩ := h
  injection hv with e1 e2 e3
  subst e1; subst e3; subst e2
  exact ⟨us, ho, hr⟩
theorem vs_row_below {w w' : World} {base q : Nat} {v : Value} {us : List Value} (h : w.ownsRow base TLs 1 v q us) (k : Below w.heap.size w w') : w'.ownsRow base TLs 1 v q us := ownsRow_below h k
theorem vs_rel_below {w w' : World} {base : Nat} {us : List Value} {ol : List (Option (List Cel))} (h : Rel (OVal w base) us ol) (k : Below w.heap.size w w') : Rel (OVal w' base) us ol := h.mono fun _ _ h => h.below k
theorem vs_push {w8 w9 : World} {base q oc c9 : Nat} {O A9 : Option Addr} {u : Value} {us : List Value} {ol : List (Option (List Cel))} {o : Option (List Cel)}
    (h9 : w9.ownsRow base TLs 1 (.slice A9 (q + 1) c9) (q + 1) (us ++ [u])) (g9 : (w8.alloc (.cells #[u] TLs)).grownBy w9 (Value.slice O q oc).ownBlock) (h8 : (w8.alloc (.cells #[u] TLs)).ownsRow base TLs 1 (.slice O q oc) q us)
    (hr : Rel (OVal w8 base) us ol) (hu : OVal w8 base u o) : OwnVs w9 base (.slice A9 (q + 1) c9) (ol ++ [o]) := by
  have step : ∀ u' o', OVal w8 base u' o' → OVal w9 base u' o' := fun u' o' h => by
    cases o' with
    | none => exact h
    | some l => exact ⟨h.1, OwnK.grown (OwnK.alloc h.2 _) h8 (by decide) g9⟩
  have hr' : Rel (OVal w9 base) (us ++ [u]) (ol ++ [o]) := (hr.mono step).app (Rel.one (step _ _ hu))
  have hl : (ol ++ [o]).length = q + 1 := by rw [← hr'.1]; exact (by have := h9.1; simpa using this)
  exact ⟨A9, c9, us ++ [u], by rw [hl], by rw [hl]; exact h9, hr'⟩
theorem OwnVs.lower {w : World} {base b' : Nat} {v : Value} {ol : List (Option (List Cel))} (h : OwnVs w base v ol) (k : b' ≤ base) : OwnVs w b' v ol := (Own.lowerS h k).monoR fun _ _ h => h.lower k
/-- A table's book. -/
structure BookAt (w : World) (bb : Nat) (U : Option Addr) (un uc : Nat) (R : Option Addr) (rn rc : Nat) (t : Tab) : Prop where
  lt : bb < w.heap.size
  c0 : w.cell? ⟨bb, 0, none⟩ = some (.string t.name)
  c1 : w.cell? ⟨bb, 1, none⟩ = some (.int .i64 t.most)
  c2 : w.cell? ⟨bb, 2, none⟩ = some (.slice U un uc)
  c3 : w.cell? ⟨bb, 3, none⟩ = some (.slice R rn rc)
  tab : TabAt w U un R rn t
  uc : un ≤ uc
  rc : rn ≤ rc
theorem BookAt.keep {w w' : World} {bb : Nat} {U : Option Addr} {un uc : Nat} {R : Option Addr} {rn rc : Nat} {t : Tab} (h : BookAt w bb U un uc R rn rc t) (k : Keep w w') : BookAt w' bb U un uc R rn rc t :=
  ⟨Nat.lt_of_lt_of_le h.lt k.size, (k.cell _ _ h.lt).trans h.c0, (k.cell _ _ h.lt).trans h.c1, (k.cell _ _ h.lt).trans h.c2, (k.cell _ _ h.lt).trans h.c3, h.tab.keep k, h.uc, h.rc⟩
theorem valR_none {r : Rec} {x : ByteArray} (h : askV r.data x = none) : valR r x = none := by unfold valR; rw [h]
theorem valR_null {r : Rec} {x : ByteArray} {a : Nat} {y : Cel} (h : askV r.data x = some a) (hy : r.data[a]? = some y) (h0 : y.kind = 0) : valR r x = none := by unfold valR; rw [h]; simp [hy, h0]
theorem valR_some {r : Rec} {x : ByteArray} {a : Nat} {y : Cel} (h : askV r.data x = some a) (hy : r.data[a]? = some y) (h0 : ¬ y.kind = 0) : valR r x = some (cutV r.data a) := by unfold valR; rw [h]; simp [hy, h0]
theorem cutV_pos {v : List Cel} {a : Nat} (h : MayV v) (ha : a < v.length) : 0 < (cutV v a).length := by
  have h1 := (h.end_ ha).2
  rw [cutV_eq]
  have hl : ∀ l : List Cel, (bareV l).length = l.length := fun l => by cases l <;> rfl
  rw [hl, List.length_take, List.length_drop]
  omega
set_option maxHeartbeats 8000000 in
set_option maxRecDepth 100000 in
theorem book_values (B bb : Nat) (U : Option Addr) (un uc : Nat) (R : Option Addr) (rn rc : Nat) (t : Tab) (D : Option Addr) (c m : Nat) (r : Rec) (w : World) (hbk : BookAt w bb U un uc R rn rc t) (hun : un ≤ 100000) (h : AtCel w D r.data) (HL : Hid (r.data.length = m)) (hmc : m ≤ c) (hs : CelsB r.data) (hT : TabS B w) (hB : B ≤ w.heap.size) :
    Calls Tryz.prog 97 #[.pointer (some ⟨bb, 0, none⟩), .agg #[.string r.id, .slice D m c]] w fun e w' => ∃ O k, e = .returned (.slice O un k) ∧ OwnVs w' w.heap.size (.slice O un k) (t.uniques.map (valR r)) ∧ Below w.heap.size w w' := by
  obtain ⟨i0, hi0, hz0, hs0, hb0⟩ := info_parts info_vals
  obtain ⟨W0, hW0⟩ : ∃ W0, w.alloc (.cells #[.string r.id, .slice D m c] TRe) = W0 := ⟨_, rfl⟩
  have hk0 : Below w.heap.size w W0 := by rw [← hW0]; exact (Below.refl _ _).alloc (Nat.le_refl _) _
  have hbox : ∀ W, Below W0.heap.size W0 W → Below w.heap.size w W ∧ w.heap.size < W.heap.size ∧ W.cell? ⟨w.heap.size, 0, none⟩ = some (.string r.id) ∧ W.cell? ⟨w.heap.size, 1, none⟩ = some (.slice D m c) := by
    rw [← hW0]; exact fun W hb => one_box hb
  have HBX := Lib.hid hbox
  have HAT : Hid (AtCel W0 D r.data) := Lib.hid (AtK.keep h (Keep.of hk0))
  have HTS := Lib.hid (hT.next (hk0.mono hB))
  have HBB : Hid (B ≤ W0.heap.size) := Lib.hid (by have := hk0.size; omega)
  have hbk0 := hbk.keep (Keep.of hk0)
  have HBK := Lib.hid hbk0
  have HMEM := Lib.hid (fun (x : ByteArray) (W : World) (k : Below W0.heap.size W0 W) => cell_Member B D c m r.data x W (AtK.keep HAT.out (Keep.of k)) HL hs (HTS.out.next (k.mono HBB.out)) (by have := k.size; have := HBB.out; omega))
  have HSUB := Lib.hid (fun (a : Nat) (ha : a < m) (hp : MayV r.data) (W : World) (k : Below W0.heap.size W0 W) => cell_Sub_yes B D c m a r.data W (AtK.keep HAT.out (Keep.of k)) HL hs (Lib.hid hp) ha hmc (HTS.out.next (k.mono HBB.out)) (by have := k.size; have := HBB.out; omega))
  have b0 := hbk0.c2; have bl := hbk0.lt
  have hun2 := hbk0.tab.un
  have HU0 := Lib.hid hbk0.tab.uniques
  clear h hs hT hk0 hbox hbk hbk0
  subst hW0
  go_enter Tryz.func97, Tryz.ntmps97
  go_wp2
  go_loopw [16, 4] (fun iv lv W => ∃ (q oc : Nat) (O : Option Addr), iv = .int .i64 q ∧ lv = .slice O q oc ∧ q ≤ un ∧ Hid (OwnVs W (w.alloc (.cells #[.string r.id, .slice D m c] TRe)).heap.size (.slice O q oc) ((t.uniques.take q).map (valR r))) ∧ Hid (Below (w.alloc (.cells #[.string r.id, .slice D m c] TRe)).heap.size (w.alloc (.cells #[.string r.id, .slice D m c] TRe)) W)) (fun iv _ _ => un - (intOf iv).toNat)
  case atStart => exact ⟨0, 0, none, rfl, rfl, by omega, Lib.hid (by rw [List.take_zero, List.map_nil]; exact Own.nil), Lib.hid (Below.refl _ _)⟩
  case round =>
    obtain ⟨q, oc, O, rfl, rfl, hq, HO, HW⟩ := hrel
    have HQL : Hid (((t.uniques.take q).map (valR r)).length = q) := Lib.hid (by rw [List.length_map, List.length_take, hun2.out]; omega)
    by_cases hlt : q < un
    · obtain ⟨b1, o1, u1, x, hU, hb1, c1, hx, HX⟩ := At.gt (At.keep HU0.out (Keep.of HW.out)) hun2 hlt
      subst hU
      obtain ⟨rfl, _⟩ := hx
      have i1 : (q : Int) < (un : Int) := by omega
      have i2 : (0 : Int) ≤ (q : Int) := by omega
      obtain ⟨_, yl, y0, y1⟩ := HBX.out _ HW.out
      have HM := Lib.hid (HMEM.out x wr HW.out)
      cases ha : askV r.data x with
      | none =>
        have HVR := Lib.hid (valR_none ha)
        rw [ha] at HM
        clear ha
        go_wp2_with fail
        refine HM.out.mono ?_
        rintro e w3 ⟨rfl, k⟩
        have HKW0 := Lib.hid (HW.out.trans (k.mono HW.out.size))
        have HKR0 := Lib.hid k
        clear k
        have HKW := HKW0
        have HKR := HKR0
        have HOV : Hid (OVal w3 (w.alloc (.cells #[.string r.id, .slice D m c] TRe)).heap.size (.slice none 0 0) none) := Lib.hid rfl
        have HOL0 := Lib.hid ((vs_shape HO.out HQL.out))
        obtain ⟨us, hus, hrl⟩ := HOL0.out
        have HUS := Lib.hid (vs_row_below hus HKR.out)
        have HRL := Lib.hid (vs_rel_below hrl HKR.out)
        have HOW := Lib.hid (HUS.out.alloc (.cells #[.slice none 0 0] TLs))
        have SR := Lib.hid (Pv.Src.one (w := w3) (x := .slice none 0 0) (t := TLs) rfl)
        have Q1 : Hid (q + 1 ≤ maxLen) := Lib.hid (by simp only [maxLen]; omega)
        have Q2 : Hid ((q + 1) * 24 ≤ 140737488355328) := Lib.hid (by omega)
        have Q3 : (w.alloc (.cells #[.string r.id, .slice D m c] TRe)).heap.size ≤ ((w3).alloc (.cells #[.slice none 0 0] TLs)).heap.size := by have := HKW.out.size; simp at this ⊢; omega
        have HWA := Lib.hid (HKW.out.alloc HKW.out.size (.cells #[.slice none 0 0] TLs))
        clear hus hrl
        go_wp2_with (first
        | (at_builtin
           go_must (refine wpList_append_src _ rfl (.tmp 44) (.tmp 46) 73 rfl (w.alloc (.cells #[.string r.id, .slice D m c] TRe)).heap.size TLs i0 (.slice none 0 0) 1 24 Tryz.underlying73 hi0 hz0 hs0 hb0 rfl (by decide) O oc q us rfl HOW.out (some ⟨(w3).heap.size, 0, none⟩) 1 1 _ rfl SR.out Q1.out Q2.out Q3 ?_)
           intro A9 c9 w9 own9 gr9 _
           have HO9 := Lib.hid (vs_push own9 gr9 HOW.out HRL.out HOV.out)
           have HW9 := Lib.hid (HWA.out.grown gr9 Q3 (fun g hg => (HOW.out.lt g hg).1))
           clear own9 gr9))
        go_roundw
        case rel =>
          refine ⟨q + 1, c9, A9, by go_num, rfl, by omega, Lib.hid ?_, HW9⟩
          rw [take_snoc HX.out, List.map_append, List.map_cons, List.map_nil, HVR.out]
          exact HO9.out
        case measure => simp [intOf]; omega
      | some a =>
        obtain ⟨hp, halt⟩ := askV_lt ha
        rw [HL.out] at halt
        obtain ⟨b, off, ⟨k0, nm, tx, z, y⟩, hD, H5, _, HY⟩ := AtCel.g5 HAT.out HL halt
        subst hD
        have H50 := Lib.hid H5
        have HP := Lib.hid hp
        rw [ha] at HM
        have j1 : (a : Int) < (m : Int) := by omega
        have j2 : (0 : Int) ≤ (a : Int) := by omega
        by_cases h0 : k0 = 0
        · have HVR := Lib.hid (valR_null ha HY.out h0)
          subst h0
          clear ha hp H5
          go_wp2_with fail
          refine HM.out.mono ?_
          rintro e w3 ⟨rfl, k⟩
          have HKW0 := Lib.hid (HW.out.trans (k.mono HW.out.size))
          have HKR0 := Lib.hid k
          clear k yl y0 y1
          obtain ⟨_, yl, y0, y1⟩ := HBX.out _ HKW0.out
          have hc := H50.out.next (Keep.of HKW0.out)
          have x0 := hc.c0; have xl := hc.lt
          dsimp only at x0
          clear hc
          have HKW := HKW0
          have HKR := HKR0
          have HOV : Hid (OVal w3 (w.alloc (.cells #[.string r.id, .slice (some ⟨b, off, none⟩) m c] TRe)).heap.size (.slice none 0 0) none) := Lib.hid rfl
          have HOL0 := Lib.hid ((vs_shape HO.out HQL.out))
          obtain ⟨us, hus, hrl⟩ := HOL0.out
          have HUS := Lib.hid (vs_row_below hus HKR.out)
          have HRL := Lib.hid (vs_rel_below hrl HKR.out)
          have HOW := Lib.hid (HUS.out.alloc (.cells #[.slice none 0 0] TLs))
          have SR := Lib.hid (Pv.Src.one (w := w3) (x := .slice none 0 0) (t := TLs) rfl)
          have Q1 : Hid (q + 1 ≤ maxLen) := Lib.hid (by simp only [maxLen]; omega)
          have Q2 : Hid ((q + 1) * 24 ≤ 140737488355328) := Lib.hid (by omega)
          have Q3 : (w.alloc (.cells #[.string r.id, .slice (some ⟨b, off, none⟩) m c] TRe)).heap.size ≤ ((w3).alloc (.cells #[.slice none 0 0] TLs)).heap.size := by have := HKW.out.size; simp at this ⊢; omega
          have HWA := Lib.hid (HKW.out.alloc HKW.out.size (.cells #[.slice none 0 0] TLs))
          clear hus hrl
          go_wp2_with (first
          | (at_builtin
             go_must (refine wpList_append_src _ rfl (.tmp 44) (.tmp 46) 73 rfl (w.alloc (.cells #[.string r.id, .slice (some ⟨b, off, none⟩) m c] TRe)).heap.size TLs i0 (.slice none 0 0) 1 24 Tryz.underlying73 hi0 hz0 hs0 hb0 rfl (by decide) O oc q us rfl HOW.out (some ⟨(w3).heap.size, 0, none⟩) 1 1 _ rfl SR.out Q1.out Q2.out Q3 ?_)
             intro A9 c9 w9 own9 gr9 _
             have HO9 := Lib.hid (vs_push own9 gr9 HOW.out HRL.out HOV.out)
             have HW9 := Lib.hid (HWA.out.grown gr9 Q3 (fun g hg => (HOW.out.lt g hg).1))
             clear own9 gr9))
          go_roundw
          case rel =>
            refine ⟨q + 1, c9, A9, by go_num, rfl, by omega, Lib.hid ?_, HW9⟩
            rw [take_snoc HX.out, List.map_append, List.map_cons, List.map_nil, HVR.out]
            exact HO9.out
          case measure => simp [intOf]; omega
        · have HVR := Lib.hid (valR_some ha HY.out h0)
          have HCP := Lib.hid (cutV_pos hp (show a < r.data.length by rw [HL.out]; exact halt))
          have t0 : (k0 == 0) = false := by simpa using h0
          clear ha hp H5 h0
          go_wp2_with fail
          refine HM.out.mono ?_
          rintro e w3 ⟨rfl, k⟩
          have HKW0 := Lib.hid (HW.out.trans (k.mono HW.out.size))
          have HKR0 := Lib.hid k
          clear k yl y0 y1
          obtain ⟨_, yl, y0, y1⟩ := HBX.out _ HKW0.out
          have hc := H50.out.next (Keep.of HKW0.out)
          have x0 := hc.c0; have xl := hc.lt
          dsimp only at x0
          clear hc
          have HSB := Lib.hid (HSUB.out a halt HP.out w3 HKW0.out)
          have HKS := HKW0
          go_wp2_with fail
          refine HSB.out.mono ?_
          rintro e w4 ⟨Z, zn, zc, rfl, k1, k2⟩
          have HKW := Lib.hid (HKS.out.trans (k2.mono HKS.out.size))
          have HKR := Lib.hid (HKR0.out.trans (k2.mono HKR0.out.size))
          have HOV : Hid (OVal w4 (w.alloc (.cells #[.string r.id, .slice (some ⟨b, off, none⟩) m c] TRe)).heap.size (.slice Z zn zc) (some (cutV r.data a))) := Lib.hid ⟨HCP.out, OwnK.lower k1 HKS.out.size⟩
          clear k1 k2
          have HOL0 := Lib.hid ((vs_shape HO.out HQL.out))
          obtain ⟨us, hus, hrl⟩ := HOL0.out
          have HUS := Lib.hid (vs_row_below hus HKR.out)
          have HRL := Lib.hid (vs_rel_below hrl HKR.out)
          have HOW := Lib.hid (HUS.out.alloc (.cells #[.slice Z zn zc] TLs))
          have SR := Lib.hid (Pv.Src.one (w := w4) (x := .slice Z zn zc) (t := TLs) rfl)
          have Q1 : Hid (q + 1 ≤ maxLen) := Lib.hid (by simp only [maxLen]; omega)
          have Q2 : Hid ((q + 1) * 24 ≤ 140737488355328) := Lib.hid (by omega)
          have Q3 : (w.alloc (.cells #[.string r.id, .slice (some ⟨b, off, none⟩) m c] TRe)).heap.size ≤ ((w4).alloc (.cells #[.slice Z zn zc] TLs)).heap.size := by have := HKW.out.size; simp at this ⊢; omega
          have HWA := Lib.hid (HKW.out.alloc HKW.out.size (.cells #[.slice Z zn zc] TLs))
          clear hus hrl
          go_wp2_with (first
          | (at_builtin
             go_must (refine wpList_append_src _ rfl (.tmp 44) (.tmp 46) 73 rfl (w.alloc (.cells #[.string r.id, .slice (some ⟨b, off, none⟩) m c] TRe)).heap.size TLs i0 (.slice none 0 0) 1 24 Tryz.underlying73 hi0 hz0 hs0 hb0 rfl (by decide) O oc q us rfl HOW.out (some ⟨(w4).heap.size, 0, none⟩) 1 1 _ rfl SR.out Q1.out Q2.out Q3 ?_)
             intro A9 c9 w9 own9 gr9 _
             have HO9 := Lib.hid (vs_push own9 gr9 HOW.out HRL.out HOV.out)
             have HW9 := Lib.hid (HWA.out.grown gr9 Q3 (fun g hg => (HOW.out.lt g hg).1))
             clear own9 gr9))
          go_roundw
          case rel =>
            refine ⟨q + 1, c9, A9, by go_num, rfl, by omega, Lib.hid ?_, HW9⟩
            rw [take_snoc HX.out, List.map_append, List.map_cons, List.map_nil, HVR.out]
            exact HO9.out
          case measure => simp [intOf]; omega
    · obtain rfl : q = un := by omega
      have i1 : ¬ (q : Int) < (q : Int) := by omega
      have HFIN := HO.out
      rw [List.take_of_length_le (by rw [hun2.out]; omega)] at HFIN
      have HF := Lib.hid (OwnVs.lower HFIN (b' := w.heap.size) (by simp))
      have HB1 := Lib.hid (HBX.out _ HW.out).1
      clear HFIN
      go_wp2
      go_ret
      exact ⟨O, oc, rfl, HF.out, HB1.out⟩
end Go.Proofs.YtbdkedjgfihamaaGreatDoor
