/- Walks: table.Get. PUT1 -/
import Derived.Test.YtbdkedjgfihamaaGreatDoorV34u
namespace Pv
open Go Go.RowKit
theorem atR_has {id : ByteArray} : ∀ {l : List Rec}, RiseR l → hasR l id = true → ∃ x, l[atR l id]? = some x ∧ x.id = id
  | [], _, h => by simp [hasR] at h
  | r :: l, hr, h => by
    obtain ⟨h1, h2⟩ := hr.cons
    obtain ⟨y, hy, hid⟩ := hasR_iff.1 h
    unfold atR
    cases hlt : ltS r.id id with
    | true =>
      rw [if_pos rfl]
      rcases List.mem_cons.1 hy with rfl | hy
      · rw [hid, ltS_irr] at hlt; cases hlt
      · exact atR_has (l := l) h2 (hasR_iff.2 ⟨y, hy, hid⟩)
    | false =>
      rw [if_neg (by simp)]
      rcases List.mem_cons.1 hy with rfl | hy
      · exact ⟨y, rfl, hid⟩
      · have := h1 y hy
        rw [hid, hlt] at this
        cases this
end Pv
namespace Go.Proofs.YtbdkedjgfihamaaGreatDoor
open Go.RowKit Pv Go.Maps
abbrev set2 (w : World) (b : Nat) (v0 v1 : Value) : World := (w.setCell ⟨b, 0, none⟩ v0).setCell ⟨b, 1, none⟩ v1
theorem set2_blk {w : World} {b : Nat} {T : TypeId} {z0 z1 : Value} (h : Blk w b T #[z0, z1]) (v0 v1 : Value) : RowSet w (set2 w b v0 v1) b T #[v0, v1] := by
  have h4 := (h.set 0 v0).set 1 v1
  refine ⟨by simpa using h4, rfl, rfl, rfl, by simp [World.setCell], fun k hk => ?_⟩
  show (set2 w b v0 v1).heap[k]? = _
  unfold set2
  rw [Below.heap_setCell _ _ _ _ (by simpa using hk), Below.heap_setCell _ _ _ _ (by simpa using hk)]
abbrev zRec : Value := .agg #[.string ⟨#[]⟩, .slice none 0 0]
set_option maxHeartbeats 8000000 in
set_option maxRecDepth 100000 in
theorem table_Get (B : Nat) (U : Option Addr) (un uc : Nat) (R : Option Addr) (rn rc : Nat) (t : Tab) (id : ByteArray) (w : World) (ht : TabAt w U un R rn t) (huc : un ≤ uc) (hrc : rn ≤ rc) (hun : un ≤ 100000) (hrb : RowsB t.rows) (hT : TabS B w) (hB : B ≤ w.heap.size) :
    Calls Tryz.prog 71 #[.agg #[.string t.name, .int .i64 t.most, .slice U un uc, .slice R rn rc], .string id] w fun e w' =>
      ((¬ (TabOk t ∧ hasR t.rows id = true) ∧ e = .returned (.tuple #[zRec, .bool false])) ∨ (∃ x g n, TabOk t ∧ t.rows[atR t.rows id]? = some x ∧ x.id = id ∧ e = .returned (.tuple #[.agg #[.string x.id, .slice (some ⟨g, 0, none⟩) n n], .bool true]) ∧ OwnC w' w.heap.size (.slice (some ⟨g, 0, none⟩) n n) x.data)) ∧ Below w.heap.size w w' := by
  have hk0 : Below w.heap.size w ((w.alloc (.cells #[.string t.name, .int .i64 t.most, .slice U un uc, .slice R rn rc] TTb)).alloc (.cells #[.string ⟨#[]⟩, .slice none 0 0] TRe)) := ((Below.refl _ _).alloc (Nat.le_refl _) _).alloc (by simp) _
  have b0 := (Blk.new w TTb #[.string t.name, .int .i64 t.most, .slice U un uc, .slice R rn rc]).alloc (.cells #[.string ⟨#[]⟩, .slice none 0 0] TRe)
  have b1 := blkV2 w TTb TRe #[.string t.name, .int .i64 t.most, .slice U un uc, .slice R rn rc] #[.string ⟨#[]⟩, .slice none 0 0]
  have HC := Lib.hid (table_Check B U un uc R rn rc t _ (ht.keep (Keep.of hk0)) huc hrc hun hrb (hT.next (hk0.mono hB)) (by have := hk0.size; omega))
  have HB0 := Lib.hid b0; have HB1 := Lib.hid b1; have HK0 := Lib.hid hk0
  have HT := Lib.hid ht
  clear ht hT hrb hk0 b0 b1
  by_cases hok : TabOk t
  case neg =>
    have HTE : Hid (tabE t = 8) := Lib.hid (tabE_f (by cases h : tabB t with | false => rfl | true => exact absurd ((tabB_iff t).1 h) hok))
    rw [HTE.out] at HC
    have HN := Lib.hid (show ¬ (TabOk t ∧ hasR t.rows id = true) from fun h => hok h.1)
    clear hok
    go_enter Tryz.func71, Tryz.ntmps71
    go_wp2_with fail
    refine HC.out.mono ?_
    rintro e w1 ⟨rfl, k⟩
    have h1 := HB1.out.below k HB1.out.lt
    have HF := Lib.hid (HK0.out.trans (k.mono HK0.out.size))
    have q0 := h1.cell 0; have q1 := h1.cell 1; have f0 := h1.frozen 0; have f1 := h1.frozen 1; have ql := h1.lt
    have HRS := Lib.hid (set2_blk h1 (.string ⟨#[]⟩) (.slice none 0 0))
    clear k h1
    go_wp2
    have k0 := HRS.out.blk.cell 0; have k1 := HRS.out.blk.cell 1
    simp at k0 k1
    refine bodyPost_ret (v := .tuple #[zRec, .bool false]) (by simp [results, Tryz.results71, go_sem, k0, k1]) rfl ⟨.inl ⟨HN.out, rfl⟩, HRS.out.below HF.out (by omega)⟩
  have HTE : Hid (tabE t = 0) := Lib.hid (tabE_t ((tabB_iff t).2 hok))
  rw [HTE.out] at HC
  have hrn : rn ≤ 64 := by have h1 := hok.few; have h2 := hok.m2; rw [HT.out.rn.out] at h1; omega
  have HOK := Lib.hid hok
  have HFI := Lib.hid (fun W bb (h : BookAt W bb U un uc R rn rc t) => book_find bb U un uc R rn rc t id W h (by omega) hok.rise)
  obtain ⟨i, hi⟩ : ∃ i, atR t.rows id = i := ⟨_, rfl⟩
  obtain ⟨d, hd⟩ : ∃ d, hasR t.rows id = d := ⟨_, rfl⟩
  rw [hi, hd] at HFI
  have HI := Lib.hid hi; have HD := Lib.hid hd
  clear hok hi hd
  go_enter Tryz.func71, Tryz.ntmps71
  go_wp2_with fail
  refine HC.out.mono ?_
  rintro e w1 ⟨rfl, k⟩
  have h0 := HB0.out.below k HB0.out.lt
  have h1 := HB1.out.below k HB1.out.lt
  have HF := Lib.hid (HK0.out.trans (k.mono HK0.out.size))
  have hka : Below w1.heap.size w1 (w1.alloc (.cells #[.string t.name, .int .i64 t.most, .slice U un uc, .slice R rn rc] TBo)) := (Below.refl _ _).alloc (Nat.le_refl _) _
  have hbn := Blk.new w1 TBo #[.string t.name, .int .i64 t.most, .slice U un uc, .slice R rn rc]
  have HFB := Lib.hid (HFI.out _ w1.heap.size ⟨hbn.lt, hbn.cell 0, hbn.cell 1, hbn.cell 2, hbn.cell 3, HT.out.keep (Keep.of (HF.out.trans (hka.mono HF.out.size))), huc, hrc⟩)
  have HB0' := Lib.hid (h0.below hka h0.lt); have HB1' := Lib.hid (h1.below hka h1.lt)
  have HKA := Lib.hid (HF.out.trans (hka.mono HF.out.size))
  have p0 := h0.cell 0; have p1 := h0.cell 1; have p2 := h0.cell 2; have p3 := h0.cell 3; have pl := h0.lt
  clear k h0 h1 hka hbn
  go_wp2_with fail
  refine HFB.out.mono ?_
  rintro e w2 ⟨rfl, k⟩
  have h0 := HB0'.out.below k HB0'.out.lt
  have h1 := HB1'.out.below k HB1'.out.lt
  have HF2 := Lib.hid (HKA.out.trans (k.mono HKA.out.size))
  have r3 := h0.cell 3; have rl := h0.lt
  have HB12 := Lib.hid h1
  have q0 := h1.cell 0; have q1 := h1.cell 1; have f0 := h1.frozen 0; have f1 := h1.frozen 1; have ql := h1.lt
  clear k h0 h1
  cases d with
  | false =>
    have HN := Lib.hid (show ¬ (TabOk t ∧ hasR t.rows id = true) from fun h => by rw [HD.out] at h; cases h.2)
    have HRS := Lib.hid (set2_blk HB12.out (.string ⟨#[]⟩) (.slice none 0 0))
    go_wp2
    have k0 := HRS.out.blk.cell 0; have k1 := HRS.out.blk.cell 1
    simp at k0 k1
    refine bodyPost_ret (v := .tuple #[zRec, .bool false]) (by simp [results, Tryz.results71, go_sem, k0, k1]) rfl ⟨.inl ⟨HN.out, rfl⟩, HRS.out.below HF2.out (by omega)⟩
  | true =>
    obtain ⟨x, hx, hxid⟩ := atR_has HOK.out.rise HD.out
    rw [HI.out] at hx
    have hin : i < rn := by have := lt_of_get hx; rwa [HT.out.rn.out] at this
    obtain ⟨b1, o1, x', D, dm, dc, hR, lb1, c0, c1, _, hDD, HDL, _, HX⟩ := AtRec.g2 (AtRec.keep HT.out.rows (Keep.of HF2.out)) HT.out.rn hin
    subst hR
    obtain rfl : x' = x := by have := HX.out; rw [hx] at this; exact (Option.some.inj this).symm
    have hdm : dm ≤ 100000 := by
      have h1 := HOK.out.one x' (mem_of_get hx)
      unfold oneR at h1
      simp only [Bool.and_eq_true] at h1
      have := ((mayV_iff _).1 h1.1.1).few
      rw [HDL.out] at this
      omega
    have HTW := Lib.hid (rec_twin D dc dm x' w2 hDD HDL hdm)
    have HXX := Lib.hid hx; have HXI := Lib.hid hxid
    have i1 : (i : Int) < (rn : Int) := by omega
    have i2 : (0 : Int) ≤ (i : Int) := by omega
    clear hx hxid hDD
    go_wp2_with fail
    refine HTW.out.mono ?_
    rintro e w3 ⟨g, rfl, k1, k2⟩
    have h1 := HB12.out.below k2 HB12.out.lt
    have HF3 := Lib.hid (HF2.out.trans (k2.mono HF2.out.size))
    have HOC := Lib.hid (OwnK.lower k1 HF2.out.size)
    clear q0 q1 f0 f1 ql
    have q0 := h1.cell 0; have q1 := h1.cell 1; have f0 := h1.frozen 0; have f1 := h1.frozen 1; have ql := h1.lt
    have HB13 := Lib.hid h1
    have HRS := Lib.hid (set2_blk h1 (.string x'.id) (.slice (some ⟨g, 0, none⟩) dm dm))
    clear k1 k2 h1
    go_wp2
    have k0 := HRS.out.blk.cell 0; have k1 := HRS.out.blk.cell 1
    simp at k0 k1
    have hoc := (HOC.out.setFar HB13.out (by decide) 0 (.string x'.id)).setFar (HB13.out.set 0 (.string x'.id)) (by decide) 1 (.slice (some ⟨g, 0, none⟩) dm dm)
    refine bodyPost_ret (v := .tuple #[.agg #[.string x'.id, .slice (some ⟨g, 0, none⟩) dm dm], .bool true]) (by simp [results, Tryz.results71, go_sem, k0, k1]) rfl ⟨.inr ⟨x', g, dm, HOK.out, by rw [HI.out]; exact HXX.out, HXI.out, rfl, hoc⟩, HRS.out.below HF3.out (by omega)⟩
end Go.Proofs.YtbdkedjgfihamaaGreatDoor

namespace Pv
open Go Go.RowKit
theorem setR_place {l : List Rec} (h : RiseR l) {i : Nat} {x y : Rec} (hy : l[i]? = some y) (hid : y.id = x.id) : setR l x = l.set i x := by
  refine List.ext_getElem? fun j => ?_
  unfold setR
  rw [List.getElem?_map]
  by_cases hj : i = j
  · subst hj
    rw [hy, List.getElem?_set_self (lt_of_get hy)]
    simp [hid]
  · rw [List.getElem?_set_ne hj]
    cases hz : l[j]? with
    | none => rfl
    | some z =>
      have hne : ¬ z.id = x.id := fun e => by
        rcases Nat.lt_or_gt_of_ne hj with h1 | h1
        · have := rise_lt h hy hz h1
          rw [hid, e, ltS_irr] at this
          cases this
        · have := rise_lt h hz hy h1
          rw [hid, e, ltS_irr] at this
          cases this
      simp [hne]
end Pv
namespace Go.Proofs.YtbdkedjgfihamaaGreatDoor
open Go.RowKit Pv Go.Maps
theorem BookO.at_ {w W : World} {bb : Nat} {V : Option Addr} {un vc g rn : Nat} {t : Tab} (h : BookO w W bb V un vc g rn t) (hs : t.name.size ≤ 140737488355328) (hm : -9223372036854775808 ≤ t.most ∧ t.most ≤ 9223372036854775807) (hun : un ≤ 100000) (hrn : rn ≤ 100000) (hdl : ∀ r, r ∈ t.rows → r.data.length ≤ 100000) :
    BookAt W bb V un vc (some ⟨g, 0, none⟩) rn rn t := by
  have hul : t.uniques.length = un := by obtain ⟨A, c, us, hv, _⟩ := h.own; injection hv with _ e _; exact e.symm
  have hrl : t.rows.length = rn := h.rows.slice.1
  obtain ⟨A, c, hv, ha, hc⟩ := Own.sl h.own (by omega)
  injection hv with e1 e2 e3
  subst e1; subst e3
  obtain ⟨A2, c2, hv2, ha2, hc2⟩ := OwnK.sl (h.rows.monoR fun _ _ hm' ho => ho.reads (by have := hdl _ hm'; omega)) (by omega)
  injection hv2 with e4 e5 e6
  subst e4; subst e6
  exact ⟨h.blk.lt, h.blk.cell 0, h.blk.cell 1, h.blk.cell 2, h.blk.cell 3, ⟨ha, ha2, Lib.hid hul, Lib.hid hrl, hs, hm⟩, by omega, Nat.le_refl _⟩
theorem BookO.next {w W W' : World} {bb : Nat} {V : Option Addr} {un vc g rn : Nat} {t : Tab} (h : BookO w W bb V un vc g rn t) (k : Below W.heap.size W W') : BookO w W' bb V un vc g rn t :=
  ⟨h.ge, h.blk.below k h.blk.lt, h.own.below k, (h.rows.below k).monoR fun _ _ _ ho => ho.below k, h.k.trans (k.mono h.k.size)⟩
/-- A row laid anew. -/
theorem BookO.put {w W : World} {bb : Nat} {V : Option Addr} {un vc g rn : Nat} {t : Tab} (h : BookO w W bb V un vc g rn t) {q : Nat} (hq : q < rn) {x : Rec} {f : Nat → Value} (ho : ORec W w.heap.size TCe f x) :
    BookO w ((W.setCell ⟨g, q * 2, none⟩ (f 0)).setCell ⟨g, q * 2 + 1, none⟩ (f 1)) bb V un vc g rn { t with rows := t.rows.set q x } := by
  obtain ⟨hl, us, hown, hr⟩ := h.rows.slice
  obtain ⟨s1, _⟩ := hown.stored (q * 2) (f 0)
  obtain ⟨s2, _⟩ := s1.stored (q * 2 + 1) (f 1)
  obtain ⟨cur, hcur⟩ : ∃ cur, Blk W g TRe cur := by
    rcases hown.2 with ⟨hv, _⟩ | ⟨g', cap, cur, hv, hg, hh, _⟩
    · simp at hv
    · simp only [Value.slice.injEq, Option.some.injEq, Addr.mk.injEq, and_true, true_and] at hv
      obtain ⟨rfl, rfl⟩ := hv
      exact ⟨cur, hh⟩
  have hge : w.heap.size ≤ g := (hown.lt g rfl).1
  have hc2 := hcur.set (q * 2) (f 0)
  have nb : bb ≠ g := fun e => (h.blk.ne hcur (by decide)) e
  have far : ∀ f' y, ORec W w.heap.size TCe f' y → ORec ((W.setCell ⟨g, q * 2, none⟩ (f 0)).setCell ⟨g, q * 2 + 1, none⟩ (f 1)) w.heap.size TCe f' y := fun f' y ho' => (ho'.far hcur (by decide)).far hc2 (by decide)
  refine ⟨h.ge, (h.blk.far (p := ⟨g, q * 2, none⟩) nb _).far (p := ⟨g, q * 2 + 1, none⟩) nb _, (h.own.setFar hcur (by decide) _ _).setFar hc2 (by decide) _ _, ?_, (h.k.setCell hge _).setCell hge _⟩
  have hul := hr.1
  refine ⟨some ⟨g, 0, none⟩, rn, (us.set (q * 2) (f 0)).set (q * 2 + 1) (f 1), by simp [hl], by simpa [hl] using s2, by simp [hul], fun i y hy => ?_⟩
  have hi := lt_of_get hy
  rw [List.length_set] at hi
  by_cases hqi : q = i
  · subst hqi
    rw [List.getElem?_set_self (by omega)] at hy
    obtain rfl := Option.some.inj hy
    refine ⟨f, fun j hj => ?_, far f x ho⟩
    match j, hj with
    | 0, _ => rw [List.getElem?_set_ne (by omega), Nat.add_zero, List.getElem?_set_self (by omega)]
    | 1, _ => rw [List.getElem?_set_self (by rw [List.length_set]; omega)]
  · rw [List.getElem?_set_ne hqi] at hy
    obtain ⟨f', hf', ho'⟩ := hr.2 i y hy
    refine ⟨f', fun j hj => ?_, far f' y ho'⟩
    rw [List.getElem?_set_ne (by omega), List.getElem?_set_ne (by omega)]
    exact hf' j hj
end Go.Proofs.YtbdkedjgfihamaaGreatDoor
