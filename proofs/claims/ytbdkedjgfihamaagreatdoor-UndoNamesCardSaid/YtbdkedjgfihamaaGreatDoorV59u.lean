/- Walks: a verb done with a store. PUT1 -/
import Derived.Test.YtbdkedjgfihamaaGreatDoorW1u
import Derived.Test.YtbdkedjgfihamaaGreatDoorQvu
import Derived.Test.YtbdkedjgfihamaaGreatDoorV58u
namespace Pv
open Go Go.RowKit
/-- What a verb says, of a store. -/
noncomputable def turnE (s : Sto) (p : Int) (cE : Tab → Int) : Int :=
  if yes (StoOk s) then (if 0 ≤ p ∧ p < s.tables.length then (match s.tables[p.toNat]? with
    | none => 2
    | some t => if cE t = 0 then (if s.log.length = 64 then 9 else 0) else cE t) else 2) else 8
theorem turnE_bad {s : Sto} {p : Int} {cE : Tab → Int} (h : ¬ StoOk s) : turnE s p cE = 8 := by unfold turnE; rw [yes_f h]; rfl
theorem turnE_out {s : Sto} {p : Int} {cE : Tab → Int} (h : StoOk s) (hp : ¬ (0 ≤ p ∧ p < s.tables.length)) : turnE s p cE = 2 := by unfold turnE; simp only [yes_t h, if_true]; rw [if_neg hp]
theorem turnE_at {s : Sto} {i : Nat} {cE : Tab → Int} {t : Tab} (h : StoOk s) (hi : s.tables[i]? = some t) : turnE s (i : Int) cE = if cE t = 0 then (if s.log.length = 64 then 9 else 0) else cE t := by
  unfold turnE
  have := lt_of_get hi
  simp only [yes_t h, if_true, Int.toNat_natCast, hi]
  rw [if_pos (by omega)]
end Pv
namespace Go.Proofs.YtbdkedjgfihamaaGreatDoor
open Go.RowKit Pv Go.Maps
abbrev TVb : TypeId := 68
abbrev vfn (tf rb : Nat) : Value := .func (.func tf) #[] #[.pointer (some ⟨rb, 0, none⟩)]
/-- What is done with a table, wherever it lies. -/
def DoAll (w : World) (tf rb : Nat) (cE : Tab → Int) (cT : Tab → Tab) : Prop := ∀ (W : World) (U : Option Addr) (un uc : Nat) (R : Option Addr) (rn rc : Nat) (t : Tab), Below w.heap.size w W → TabAt W U un R rn t → un ≤ uc → rn ≤ rc → TabBd t →
  Calls Tryz.prog tf #[.agg #[.string t.name, .int .i64 t.most, .slice U un uc, .slice R rn rc], .pointer (some ⟨rb, 0, none⟩)] W fun e w' => DoPost W w' e (cE t) (cT t)
def TurnPost (w w' : World) (e : Ending) (s : Sto) (p : Int) (id : ByteArray) (cE : Tab → Int) (cT : Tab → Tab) : Prop :=
  ((turnE s p cE ≠ 0 ∧ e = .returned (.tuple #[zSto, .int .i64 (turnE s p cE)])) ∨ (turnE s p cE = 0 ∧ ∃ (i : Nat) (t : Tab) (v : Value), p = i ∧ s.tables[i]? = some t ∧ e = .returned (.tuple #[v, .int .i64 0]) ∧ StoV w' w.heap.size v (doneS s i t (cT t) id))) ∧ Below w.heap.size w w'
theorem TurnPost.no {w w' : World} {s : Sto} {p : Int} {id : ByteArray} {cE : Tab → Int} {cT : Tab → Tab} {E : Int} (h : turnE s p cE = E) (hE : E ≠ 0) (hb : Below w.heap.size w w') : TurnPost w w' (.returned (.tuple #[zSto, .int .i64 E])) s p id cE cT := by
  subst h
  exact ⟨.inl ⟨hE, rfl⟩, hb⟩
theorem DoPost.ok {W w' : World} {e : Ending} {t : Tab} (h : DoPost W w' e 0 t) : ∃ V vn vc G gn gc, e = .returned (.tuple #[.agg #[.string t.name, .int .i64 t.most, .slice V vn vc, .slice G gn gc], .int .i64 0]) ∧ (Own w' W.heap.size TSt RStr (.slice V vn vc) t.uniques ∧ OwnK w' W.heap.size TRe 2 (ORec w' W.heap.size TCe) (.slice G gn gc) t.rows) ∧ Below W.heap.size W w' := by
  obtain ⟨h1 | ⟨_, v, rfl, V, vn, vc, G, gn, gc, rfl, h1, h2⟩, k⟩ := h
  · exact absurd rfl h1.1
  · exact ⟨V, vn, vc, G, gn, gc, rfl, ⟨h1, h2⟩, k⟩
theorem DoPost.err {W w' : World} {e : Ending} {t : Tab} {E : Int} (h : DoPost W w' e E t) (hE : E ≠ 0) : e = .returned (.tuple #[zTab, .int .i64 E]) ∧ Below W.heap.size W w' := by
  obtain ⟨h1 | h1, k⟩ := h
  · exact ⟨h1.2, k⟩
  · exact absurd h1.1 hE
/-- What stands behind the call. -/
def TurnCut (w W wx : World) (b9 : Nat) (cd : Int) (E : Int) (t : Tab) : Prop := cd = E ∧ Below W.heap.size W wx ∧ W.heap.size ≤ b9 ∧ (cd = 0 → ∃ V vn vc G gn gc, Blk wx b9 TTb #[.string t.name, .int .i64 t.most, .slice V vn vc, .slice G gn gc] ∧ OTb wx w.heap.size (f4 (.string t.name) (.int .i64 t.most) (.slice V vn vc) (.slice G gn gc)) t)
section
variable {w w1 w5 : World} {t : Tab} {V : Option Addr} {vn vc : Nat} {G : Option Addr} {gn gc b : Nat}
theorem cut_new (_hf : Below w.heap.size w w1) (ha : Below w1.heap.size w1 w5) (hv : Own w5 b TSt RStr (.slice V vn vc) t.uniques ∧ OwnK w5 b TRe 2 (ORec w5 b TCe) (.slice G gn gc) t.rows) (hb : w.heap.size ≤ b) (hn : t.name.size ≤ 140737488355328) (hm : -9223372036854775808 ≤ t.most ∧ t.most ≤ 9223372036854775807) :
    TurnCut w w1 (w5.alloc (.cells #[.string t.name, .int .i64 t.most, .slice V vn vc, .slice G gn gc] TTb)) w5.heap.size 0 0 t := by
  have hk : Below w5.heap.size w5 (w5.alloc (.cells #[.string t.name, .int .i64 t.most, .slice V vn vc, .slice G gn gc] TTb)) := (Below.refl _ _).alloc (Nat.le_refl _) _
  exact ⟨rfl, ha.alloc ha.size _, ha.size, fun _ => ⟨V, vn, vc, G, gn, gc, Blk.new _ _ _, ⟨rfl, hn⟩, ⟨rfl, hm⟩, Own.lowerS (hv.1.below hk) hb, ((OwnK.lower hv.2 hb).below hk).monoR fun _ _ _ ho => (ho.lower hb).below hk⟩⟩
theorem cut_set {z0 z1 z2 z3 : Value} (hz : Blk w5 w1.heap.size TTb #[z0, z1, z2, z3]) (_hf : Below w.heap.size w w1) (ha : Below w1.heap.size w1 w5) (hv : Own w5 b TSt RStr (.slice V vn vc) t.uniques ∧ OwnK w5 b TRe 2 (ORec w5 b TCe) (.slice G gn gc) t.rows) (hb : w.heap.size ≤ b) (hn : t.name.size ≤ 140737488355328) (hm : -9223372036854775808 ≤ t.most ∧ t.most ≤ 9223372036854775807) :
    TurnCut w w1 (set4 w5 w1.heap.size (.string t.name) (.int .i64 t.most) (.slice V vn vc) (.slice G gn gc)) w1.heap.size 0 0 t := by
  have hr := set4_blk hz (.string t.name) (.int .i64 t.most) (.slice V vn vc) (.slice G gn gc)
  have ho : OTb w5 w.heap.size (f4 (.string t.name) (.int .i64 t.most) (.slice V vn vc) (.slice G gn gc)) t := ⟨⟨rfl, hn⟩, ⟨rfl, hm⟩, Own.lowerS hv.1 hb, (OwnK.lower hv.2 hb).monoR fun _ _ _ ho => ho.lower hb⟩
  exact ⟨rfl, hr.below ha (Nat.le_refl _), Nat.le_refl _, fun _ => ⟨V, vn, vc, G, gn, gc, hr.blk, OTab.farRow ho hz hr⟩⟩
theorem cut_newE {E : Int} (hE : E ≠ 0) (ha : Below w1.heap.size w1 w5) (o : Obj) : TurnCut w w1 (w5.alloc o) w5.heap.size E E t := ⟨rfl, ha.alloc ha.size _, ha.size, fun h => absurd h hE⟩
theorem cut_setE {E : Int} {z0 z1 z2 z3 v0 v1 v2 v3 : Value} (hz : Blk w5 w1.heap.size TTb #[z0, z1, z2, z3]) (hE : E ≠ 0) (ha : Below w1.heap.size w1 w5) : TurnCut w w1 (set4 w5 w1.heap.size v0 v1 v2 v3) w1.heap.size E E t := ⟨rfl, (set4_blk hz v0 v1 v2 v3).below ha (Nat.le_refl _), Nat.le_refl _, fun h => absurd h hE⟩
end
set_option maxHeartbeats 8000000 in
set_option maxRecDepth 100000 in
theorem verb_turn (B tf rb : Nat) (cE : Tab → Int) (cT : Tab → Tab) (id : ByteArray) (T L : Option Addr) (tn tc ln lc : Nat) (s : Sto) (p : Int) (w : World) (h : StoAt w T tn L ln s) (_htc : tn ≤ tc) (_hlc : ln ≤ lc) (hb : StoBd s) (hid : id.size ≤ 140737488355328)
    (hcall : ∀ args W, (callFunc tf args).run Tryz.prog W = .ok (.enter tf args) W) (hdo : DoAll w tf rb cE cT) (hct : ∀ t, (cT t).name = t.name ∧ (cT t).most = t.most) (hT : TabS B w) (hB : B ≤ w.heap.size) :
    Calls Tryz.prog 36 #[.agg #[.string id, vfn tf rb], .agg #[.slice T tn tc, .slice L ln lc], .int .i64 p] w fun e w' => TurnPost w w' e s p id cE cT := by
  have hk0 : Below w.heap.size w (((w.alloc (.cells #[.string id, vfn tf rb] TVb)).alloc (.cells #[.slice T tn tc, .slice L ln lc] TSto)).alloc (.cells #[.slice none 0 0, .slice none 0 0] TSto)) := (((Below.refl _ _).alloc (Nat.le_refl _) _).alloc (by simp) _).alloc (by simp; omega) _
  obtain ⟨b0, b1, b2⟩ := blk3 w #[.string id, vfn tf rb] #[.slice T tn tc, .slice L ln lc] #[.slice none 0 0, .slice none 0 0] TVb TSto TSto
  have HB0 := Lib.hid b0; have HB1 := Lib.hid b1; have HB2 := Lib.hid b2
  have htn := hb.tn; have hln := hb.ln
  rw [h.tn.out] at htn; rw [h.ln.out] at hln
  have HCK := Lib.hid (undo_Check B T L tn tc ln lc s _ (h.keep (Keep.of hk0)) hb (hT.next (hk0.mono hB)) (by have := hk0.size; omega))
  have HK0 := Lib.hid hk0
  have HH := Lib.hid h; have HBD := Lib.hid hb; have HTS := Lib.hid hT; have HDO := Lib.hid hdo; have HCTN := Lib.hid hct
  by_cases hok : StoOk s
  case neg =>
    rw [stoE_no hok] at HCK
    have HE : Hid (turnE s p cE = 8) := Lib.hid (turnE_bad hok)
    clear h hb hT hk0 hok hdo hct b0 b1 b2 hcall
    go_enter Tryz.func36, Tryz.ntmps36
    go_wp2_with fail
    refine HCK.out.mono ?_
    rintro e w1 ⟨rfl, k⟩
    have HF := Lib.hid (HK0.out.trans (k.mono HK0.out.size))
    have hb1 := HB2.out.below k HB2.out.lt
    have q0 := hb1.cell 0; have q1 := hb1.cell 1; have f0 := hb1.frozen 0; have f1 := hb1.frozen 1; have ql := hb1.lt
    have HRS := Lib.hid (set2_blk hb1 (.slice none 0 0) (.slice none 0 0))
    clear k hb1
    go_wp2
    have k0 := HRS.out.blk.cell 0; have k1 := HRS.out.blk.cell 1
    simp at k0 k1
    refine bodyPost_ret (v := .tuple #[zSto, .int .i64 8]) (by simp [results, Tryz.results36, go_sem, k0, k1]) rfl (TurnPost.no HE.out (by decide) (HRS.out.below HF.out (by omega)))
  rw [stoE_yes hok] at HCK
  by_cases hm : 0 ≤ p ∧ p < (tn : Int)
  case neg =>
    have HE : Hid (turnE s p cE = 2) := Lib.hid (turnE_out hok (by rw [h.tn.out]; exact hm))
    clear h hb hT hk0 hok hdo hct b0 b1 b2 hcall
    have hmm : p < 0 ∨ (0 ≤ p ∧ (tn : Int) ≤ p) := by omega
    rcases hmm with hm1 | ⟨hm1, hm2⟩
    · have d1 : decide (p < 0) = true := by simpa using hm1
      clear hm
      go_enter Tryz.func36, Tryz.ntmps36
      go_wp2_with fail
      refine HCK.out.mono ?_
      rintro e w1 ⟨rfl, k⟩
      have HF := Lib.hid (HK0.out.trans (k.mono HK0.out.size))
      have hb1 := HB2.out.below k HB2.out.lt
      have q0 := hb1.cell 0; have q1 := hb1.cell 1; have f0 := hb1.frozen 0; have f1 := hb1.frozen 1; have ql := hb1.lt
      have HRS := Lib.hid (set2_blk hb1 (.slice none 0 0) (.slice none 0 0))
      clear k hb1
      go_wp2
      have k0 := HRS.out.blk.cell 0; have k1 := HRS.out.blk.cell 1
      simp at k0 k1
      refine bodyPost_ret (v := .tuple #[zSto, .int .i64 2]) (by simp [results, Tryz.results36, go_sem, k0, k1]) rfl (TurnPost.no HE.out (by decide) (HRS.out.below HF.out (by omega)))
    · have d1 : decide (p < 0) = false := by simp; omega
      have d2 : ¬ p < 0 := by omega
      clear hm
      go_enter Tryz.func36, Tryz.ntmps36
      go_wp2_with fail
      refine HCK.out.mono ?_
      rintro e w1 ⟨rfl, k⟩
      have HF := Lib.hid (HK0.out.trans (k.mono HK0.out.size))
      have hb1 := HB2.out.below k HB2.out.lt
      have hb0 := HB1.out.below k HB1.out.lt
      have p0 := hb0.cell 0; have pl := hb0.lt
      have q0 := hb1.cell 0; have q1 := hb1.cell 1; have f0 := hb1.frozen 0; have f1 := hb1.frozen 1; have ql := hb1.lt
      have HRS := Lib.hid (set2_blk hb1 (.slice none 0 0) (.slice none 0 0))
      clear k hb1 hb0
      go_wp2
      have k0 := HRS.out.blk.cell 0; have k1 := HRS.out.blk.cell 1
      simp at k0 k1
      refine bodyPost_ret (v := .tuple #[zSto, .int .i64 2]) (by simp [results, Tryz.results36, go_sem, k0, k1]) rfl (TurnPost.no HE.out (by decide) (HRS.out.below HF.out (by omega)))
  obtain ⟨i, rfl⟩ : ∃ i : Nat, p = (i : Int) := ⟨p.toNat, by omega⟩
  have hin : i < tn := by omega
  have HOK := Lib.hid hok
  have d2 : ¬ (i : Int) < 0 := by omega
  have d3 : ¬ (tn : Int) ≤ (i : Int) := by omega
  have d4 : (i : Int) < (tn : Int) := by omega
  have d5 : (0 : Int) ≤ (i : Int) := by omega
  clear h hb hT hk0 hok hdo hct b0 b1 b2 hm
  go_enter Tryz.func36, Tryz.ntmps36
  go_wp2_with fail
  refine HCK.out.mono ?_
  rintro e w1 ⟨rfl, k⟩
  have HF1 := Lib.hid (HK0.out.trans (k.mono HK0.out.size))
  have HV := Lib.hid (HB0.out.below k HB0.out.lt); have HS := Lib.hid (HB1.out.below k HB1.out.lt); have HR := Lib.hid (HB2.out.below k HB2.out.lt)
  obtain ⟨tb, tof, t, U, un, uc, R, rn, rc, rfl, lb1, c0, c1, c2, c3, hta, huc, hrc, HX⟩ := AtTab.g4 (AtTab.keep HH.out.tabs (Keep.of HF1.out)) HH.out.tn hin
  have v0 := HV.out.cell 0; have v1 := HV.out.cell 1; have vl := HV.out.lt
  have s0 := HS.out.cell 0; have s1 := HS.out.cell 1; have sl := HS.out.lt
  have HTB := Lib.hid (HBD.out.tab t (mem_of_get HX.out))
  have HTA := Lib.hid hta
  have hnm : (cT t).name.size ≤ 140737488355328 := by rw [(HCTN.out t).1]; exact hta.name
  have hmo : -9223372036854775808 ≤ (cT t).most ∧ (cT t).most ≤ 9223372036854775807 := by rw [(HCTN.out t).2]; exact hta.most
  have HET := Lib.hid (turnE_at (cE := cE) HOK.out HX.out)
  obtain ⟨E, hE⟩ : ∃ E, cE t = E := ⟨_, rfl⟩
  have HCE := Lib.hid hE
  have HCA := Lib.hid (HDO.out w1.drew U un uc R rn rc t (below_drewN HF1.out 1) (hta.keep (Keep.drew w1)) huc hrc HTB.out)
  have HCB := Lib.hid (fun o => HDO.out (w1.alloc o).drew U un uc R rn rc t (below_drewN (HF1.out.alloc HF1.out.size o) 1) (hta.keep (Keep.trans (Keep.alloc w1 o) (Keep.drew _))) huc hrc HTB.out)
  rw [hE] at HCA HCB
  clear k hta hE
  simp at v0 v1 s0 s1
  go_upto_region 6 with fail
  go_cut [9, 10] (fun p9 c10 wx => ∃ (b9 : Nat) (cd : Int), p9 = .pointer (some ⟨b9, 0, none⟩) ∧ c10 = .int .i64 cd ∧ TurnCut w w1 wx b9 cd E (cT t))
  case first =>
    have HSA : Hid (w1.drew.cell? ⟨w.heap.size, 1, none⟩ = some (vfn tf rb) ∧ w1.drew.cell? ⟨w.heap.size + 1, 0, none⟩ = some (.slice (some ⟨tb, tof, none⟩) tn tc) ∧ w1.drew.cell? ⟨tb, tof + i * 4, none⟩ = some (.string t.name) ∧ w1.drew.cell? ⟨tb, tof + i * 4 + 1, none⟩ = some (.int .i64 t.most) ∧ w1.drew.cell? ⟨tb, tof + i * 4 + 2, none⟩ = some (.slice U un uc) ∧ w1.drew.cell? ⟨tb, tof + i * 4 + 3, none⟩ = some (.slice R rn rc)) := Lib.hid ⟨v1, s0, c0, c1, c2, c3⟩
    have HSW := Lib.hid (fun (X : World) (k : Below w1.heap.size w1 X) => (show (X.cell? ⟨w.heap.size, 1, none⟩ = some (vfn tf rb) ∧ X.cell? ⟨w.heap.size + 1, 0, none⟩ = some (.slice (some ⟨tb, tof, none⟩) tn tc) ∧ X.cell? ⟨tb, tof + i * 4, none⟩ = some (.string t.name) ∧ X.cell? ⟨tb, tof + i * 4 + 1, none⟩ = some (.int .i64 t.most) ∧ X.cell? ⟨tb, tof + i * 4 + 2, none⟩ = some (.slice U un uc) ∧ X.cell? ⟨tb, tof + i * 4 + 3, none⟩ = some (.slice R rn rc)) from ⟨(k.cell (p := ⟨w.heap.size, 1, none⟩) vl).trans v1, (k.cell (p := ⟨w.heap.size + 1, 0, none⟩) sl).trans s0, (k.cell (p := ⟨tb, tof + i * 4, none⟩) lb1).trans c0, (k.cell (p := ⟨tb, tof + i * 4 + 1, none⟩) lb1).trans c1, (k.cell (p := ⟨tb, tof + i * 4 + 2, none⟩) lb1).trans c2, (k.cell (p := ⟨tb, tof + i * 4 + 3, none⟩) lb1).trans c3⟩))
    have HSB := Lib.hid (fun o => HSW.out (w1.alloc o).drew (below_drewN ((Below.refl w1.heap.size w1).alloc (Nat.le_refl _) o) 1))
    by_cases hE0 : E = 0
    · subst hE0
      refine wp_region_T 12 (fun Q => (Q.cell? ⟨w.heap.size, 1, none⟩ = some (vfn tf rb) ∧ Q.cell? ⟨w.heap.size + 1, 0, none⟩ = some (.slice (some ⟨tb, tof, none⟩) tn tc) ∧ Q.cell? ⟨tb, tof + i * 4, none⟩ = some (.string t.name) ∧ Q.cell? ⟨tb, tof + i * 4 + 1, none⟩ = some (.int .i64 t.most) ∧ Q.cell? ⟨tb, tof + i * 4 + 2, none⟩ = some (.slice U un uc) ∧ Q.cell? ⟨tb, tof + i * 4 + 3, none⟩ = some (.slice R rn rc))) (by kernel_rfl) ?_
      refine wpAnyT_take (i := 0) (v := ?_) rfl (by kernel_rfl) (by kernel_rfl) (by kernel_rfl) (by kernel_rfl) (by kernel_rfl) (fun _ _ _ h => h) (.inl ⟨rfl, ?_⟩) HSA.out ?_
      rotate_left
      · intro W__ hW__
        obtain ⟨z1, z2, z3, z4, z5, z6⟩ := hW__
        go_simp
        (try with_reducible rfl)
      try simp only [Act.put]
      refine wpAnyT_take (i := 1) (v := ?_) rfl (by kernel_rfl) (by kernel_rfl) (by kernel_rfl) (by kernel_rfl) (by kernel_rfl) (fun _ _ _ h => h) (.inl ⟨rfl, ?_⟩) HSA.out ?_
      rotate_left
      · intro W__ hW__
        obtain ⟨z1, z2, z3, z4, z5, z6⟩ := hW__
        go_simp
        (try with_reducible rfl)
      try simp only [Act.put]
      refine wpAnyT_take (i := 2) (v := ?_) rfl (by kernel_rfl) (by kernel_rfl) (by kernel_rfl) (by kernel_rfl) (by kernel_rfl) (fun _ _ _ h => h) (.inl ⟨rfl, ?_⟩) HSA.out ?_
      rotate_left
      · intro W__ hW__
        obtain ⟨z1, z2, z3, z4, z5, z6⟩ := hW__
        go_simp
        (try with_reducible rfl)
      try simp only [Act.put]
      refine wpAnyT_take (i := 3) (v := ?_) rfl (by kernel_rfl) (by kernel_rfl) (by kernel_rfl) (by kernel_rfl) (by kernel_rfl) (fun _ _ _ h => h) (.inl ⟨rfl, ?_⟩) HSA.out ?_
      rotate_left
      · intro W__ hW__
        obtain ⟨z1, z2, z3, z4, z5, z6⟩ := hW__
        go_simp
        (try with_reducible rfl)
      try simp only [Act.put]
      refine wpAnyT_take (i := 4) (v := ?_) rfl (by kernel_rfl) (by kernel_rfl) (by kernel_rfl) (by kernel_rfl) (by kernel_rfl) (fun _ _ _ h => h) (.inl ⟨rfl, ?_⟩) HSA.out ?_
      rotate_left
      · intro W__ hW__
        obtain ⟨z1, z2, z3, z4, z5, z6⟩ := hW__
        go_simp
        (try with_reducible rfl)
      try simp only [Act.put]
      refine wpAnyT_take (i := 5) (v := ?_) rfl (by kernel_rfl) (by kernel_rfl) (by kernel_rfl) (by kernel_rfl) (by kernel_rfl) (fun _ _ _ h => h) (.inl ⟨rfl, ?_⟩) HSA.out ?_
      rotate_left
      · intro W__ hW__
        obtain ⟨z1, z2, z3, z4, z5, z6⟩ := hW__
        go_simp
        (try with_reducible rfl)
      try simp only [Act.put]
      refine wpAnyT_take (i := 6) (v := ?_) rfl (by kernel_rfl) (by kernel_rfl) (by kernel_rfl) (by kernel_rfl) (by kernel_rfl) (fun _ _ _ h => h) (.inl ⟨rfl, ?_⟩) HSA.out ?_
      rotate_left
      · intro W__ hW__
        obtain ⟨z1, z2, z3, z4, z5, z6⟩ := hW__
        go_simp
        (try with_reducible rfl)
      try simp only [Act.put]
      refine wpAnyT_two (i := 7) (j := 11) rfl rfl (by kernel_rfl) rfl rfl (fun K__ hK__ => ?_) (fun K__ hK__ => ?_)
      · unfold Oper.wp
        go_simp
        refine HCA.out.mono ?_
        rintro e w5 hres
        obtain ⟨V, vn, vc, G, gn, gc, rfl, hv, k⟩ := hres.ok
        have HA1 := Lib.hid (show Below w1.heap.size w1 w5 from (below_drewN (Below.refl w1.heap.size w1) 1).trans k)
        have HV1 := Lib.hid hv
        have HSC := Lib.hid (HSW.out w5 HA1.out)
        have HSD := Lib.hid (fun o => HSW.out (w5.alloc o) (HA1.out.alloc HA1.out.size o))
        clear hres k hv
        refine hK__ _ _ HSC.out ?_
        clear hK__
        try simp only [Act.put, List.setIfInBounds_toArray, List.set_cons_zero, List.set_cons_succ]
        refine wpAnyT_take (i := 8) (v := ?_) rfl (by kernel_rfl) (by kernel_rfl) (by kernel_rfl) (by kernel_rfl) (by kernel_rfl) (fun _ _ _ h => h) (.inl ⟨rfl, ?_⟩) HSC.out ?_
        rotate_left
        · intro W__ hW__
          obtain ⟨z1, z2, z3, z4, z5, z6⟩ := hW__
          go_simp
          (try with_reducible rfl)
        try simp only [Act.put]
        refine wpAnyT_take (i := 9) (v := ?_) rfl (by kernel_rfl) (by kernel_rfl) (by kernel_rfl) (by kernel_rfl) (by kernel_rfl) (fun _ _ _ h => h) (.inl ⟨rfl, ?_⟩) HSC.out ?_
        rotate_left
        · intro W__ hW__
          obtain ⟨z1, z2, z3, z4, z5, z6⟩ := hW__
          go_simp
          (try with_reducible rfl)
        try simp only [Act.put]
        refine wpAnyT_takeW (i := 10) (v := ?_) rfl (by decide) (by kernel_rfl) (by kernel_rfl) (by kernel_rfl) (fun _ _ _ h => h) (.inl ⟨rfl, ?_⟩) (fun _ => HSC.out) ?_
        rotate_left
        · intro W__ _
          go_simp
          (try with_reducible rfl)
        try simp only [Act.put]
        refine wpAnyT_one (i := 11) rfl (by kernel_rfl) rfl fun K__ hK__ => ?_
        unfold Oper.wp
        go_simp
        refine hK__ _ _ (HSD.out _) ?_
        clear hK__
        try simp only [Act.put, List.setIfInBounds_toArray, List.set_cons_zero, List.set_cons_succ]
        refine wpAnyT_end (i := 12) rfl (by kernel_rfl) rfl (by kernel_rfl) fun K__ hK__ => ?_
        unfold Oper.wp
        go_simp
        refine hK__ _ _ ?_
        clear hK__
        refine wpAnyT_end (i := 13) rfl (by kernel_rfl) rfl (by kernel_rfl) fun K__ hK__ => ?_
        unfold Oper.wp
        go_simp
        refine hK__ _ _ ?_
        clear hK__
        refine wpAnyT_done (by kernel_rfl) ?_ _
        go_wp2
        go_meet
        exact ⟨_, _, rfl, rfl, cut_new HF1.out HA1.out HV1.out HF1.out.size hnm hmo⟩
      · unfold Oper.wp
        go_simp
        refine hK__ _ _ (HSB.out _) ?_
        clear hK__
        try simp only [Act.put, List.setIfInBounds_toArray, List.set_cons_zero, List.set_cons_succ]
        refine wpAnyT_one (i := 7) rfl (by kernel_rfl) rfl fun K__ hK__ => ?_
        unfold Oper.wp
        go_simp
        refine (HCB.out _).mono ?_
        rintro e w5 hres
        obtain ⟨V, vn, vc, G, gn, gc, rfl, hv, k⟩ := hres.ok
        have hbz := Blk.below (blk_drew (Blk.new w1 TTb #[.string ⟨#[]⟩, .int .i64 0, .slice none 0 0, .slice none 0 0])) k (Blk.new w1 TTb #[.string ⟨#[]⟩, .int .i64 0, .slice none 0 0, .slice none 0 0]).lt
        have HZ := Lib.hid hbz
        have HA1 := Lib.hid (show Below w1.heap.size w1 w5 from (below_drewN ((Below.refl w1.heap.size w1).alloc (Nat.le_refl _) (.cells #[.string ⟨#[]⟩, .int .i64 0, .slice none 0 0, .slice none 0 0] TTb)) 1).trans (k.mono (show w1.heap.size ≤ (w1.alloc _).heap.size by simp)))
        have HV1 := Lib.hid hv
        have HSC := Lib.hid (HSW.out w5 HA1.out)
        have z0 := hbz.cell 0; have z1 := hbz.cell 1; have z2 := hbz.cell 2; have z3 := hbz.cell 3
        have y0 := hbz.frozen 0; have y1 := hbz.frozen 1; have y2 := hbz.frozen 2; have y3 := hbz.frozen 3; have zl := hbz.lt
        clear hres k hbz hv
        refine hK__ _ _ HSC.out ?_
        clear hK__
        try simp only [Act.put, List.setIfInBounds_toArray, List.set_cons_zero, List.set_cons_succ]
        refine wpAnyT_take (i := 8) (v := ?_) rfl (by kernel_rfl) (by kernel_rfl) (by kernel_rfl) (by kernel_rfl) (by kernel_rfl) (fun _ _ _ h => h) (.inl ⟨rfl, ?_⟩) HSC.out ?_
        rotate_left
        · intro W__ hW__
          obtain ⟨z1, z2, z3, z4, z5, z6⟩ := hW__
          go_simp
          (try with_reducible rfl)
        try simp only [Act.put]
        refine wpAnyT_take (i := 9) (v := ?_) rfl (by kernel_rfl) (by kernel_rfl) (by kernel_rfl) (by kernel_rfl) (by kernel_rfl) (fun _ _ _ h => h) (.inl ⟨rfl, ?_⟩) HSC.out ?_
        rotate_left
        · intro W__ hW__
          obtain ⟨z1, z2, z3, z4, z5, z6⟩ := hW__
          go_simp
          (try with_reducible rfl)
        try simp only [Act.put]
        refine wpAnyT_takeW (i := 10) (v := ?_) rfl (by decide) (by kernel_rfl) (by kernel_rfl) (by kernel_rfl) (fun _ _ _ h => h) (.inl ⟨rfl, ?_⟩) (fun _ => HSC.out) ?_
        rotate_left
        · intro W__ _
          go_simp
          (try with_reducible rfl)
        try simp only [Act.put]
        refine wpAnyT_end (i := 12) rfl (by kernel_rfl) rfl (by kernel_rfl) fun K__ hK__ => ?_
        unfold Oper.wp
        go_simp
        refine hK__ _ _ ?_
        clear hK__
        refine wpAnyT_end (i := 13) rfl (by kernel_rfl) rfl (by kernel_rfl) fun K__ hK__ => ?_
        unfold Oper.wp
        go_simp
        refine hK__ _ _ ?_
        clear hK__
        refine wpAnyT_done (by kernel_rfl) ?_ _
        go_wp2
        go_meet
        exact ⟨_, _, rfl, rfl, cut_set HZ.out HF1.out HA1.out HV1.out (Nat.le_trans HF1.out.size (show w1.heap.size ≤ (w1.alloc _).heap.size by simp)) hnm hmo⟩
    · have HE0 := Lib.hid hE0
      clear hE0
      refine wp_region_T 12 (fun Q => (Q.cell? ⟨w.heap.size, 1, none⟩ = some (vfn tf rb) ∧ Q.cell? ⟨w.heap.size + 1, 0, none⟩ = some (.slice (some ⟨tb, tof, none⟩) tn tc) ∧ Q.cell? ⟨tb, tof + i * 4, none⟩ = some (.string t.name) ∧ Q.cell? ⟨tb, tof + i * 4 + 1, none⟩ = some (.int .i64 t.most) ∧ Q.cell? ⟨tb, tof + i * 4 + 2, none⟩ = some (.slice U un uc) ∧ Q.cell? ⟨tb, tof + i * 4 + 3, none⟩ = some (.slice R rn rc))) (by kernel_rfl) ?_
      refine wpAnyT_take (i := 0) (v := ?_) rfl (by kernel_rfl) (by kernel_rfl) (by kernel_rfl) (by kernel_rfl) (by kernel_rfl) (fun _ _ _ h => h) (.inl ⟨rfl, ?_⟩) HSA.out ?_
      rotate_left
      · intro W__ hW__
        obtain ⟨z1, z2, z3, z4, z5, z6⟩ := hW__
        go_simp
        (try with_reducible rfl)
      try simp only [Act.put]
      refine wpAnyT_take (i := 1) (v := ?_) rfl (by kernel_rfl) (by kernel_rfl) (by kernel_rfl) (by kernel_rfl) (by kernel_rfl) (fun _ _ _ h => h) (.inl ⟨rfl, ?_⟩) HSA.out ?_
      rotate_left
      · intro W__ hW__
        obtain ⟨z1, z2, z3, z4, z5, z6⟩ := hW__
        go_simp
        (try with_reducible rfl)
      try simp only [Act.put]
      refine wpAnyT_take (i := 2) (v := ?_) rfl (by kernel_rfl) (by kernel_rfl) (by kernel_rfl) (by kernel_rfl) (by kernel_rfl) (fun _ _ _ h => h) (.inl ⟨rfl, ?_⟩) HSA.out ?_
      rotate_left
      · intro W__ hW__
        obtain ⟨z1, z2, z3, z4, z5, z6⟩ := hW__
        go_simp
        (try with_reducible rfl)
      try simp only [Act.put]
      refine wpAnyT_take (i := 3) (v := ?_) rfl (by kernel_rfl) (by kernel_rfl) (by kernel_rfl) (by kernel_rfl) (by kernel_rfl) (fun _ _ _ h => h) (.inl ⟨rfl, ?_⟩) HSA.out ?_
      rotate_left
      · intro W__ hW__
        obtain ⟨z1, z2, z3, z4, z5, z6⟩ := hW__
        go_simp
        (try with_reducible rfl)
      try simp only [Act.put]
      refine wpAnyT_take (i := 4) (v := ?_) rfl (by kernel_rfl) (by kernel_rfl) (by kernel_rfl) (by kernel_rfl) (by kernel_rfl) (fun _ _ _ h => h) (.inl ⟨rfl, ?_⟩) HSA.out ?_
      rotate_left
      · intro W__ hW__
        obtain ⟨z1, z2, z3, z4, z5, z6⟩ := hW__
        go_simp
        (try with_reducible rfl)
      try simp only [Act.put]
      refine wpAnyT_take (i := 5) (v := ?_) rfl (by kernel_rfl) (by kernel_rfl) (by kernel_rfl) (by kernel_rfl) (by kernel_rfl) (fun _ _ _ h => h) (.inl ⟨rfl, ?_⟩) HSA.out ?_
      rotate_left
      · intro W__ hW__
        obtain ⟨z1, z2, z3, z4, z5, z6⟩ := hW__
        go_simp
        (try with_reducible rfl)
      try simp only [Act.put]
      refine wpAnyT_take (i := 6) (v := ?_) rfl (by kernel_rfl) (by kernel_rfl) (by kernel_rfl) (by kernel_rfl) (by kernel_rfl) (fun _ _ _ h => h) (.inl ⟨rfl, ?_⟩) HSA.out ?_
      rotate_left
      · intro W__ hW__
        obtain ⟨z1, z2, z3, z4, z5, z6⟩ := hW__
        go_simp
        (try with_reducible rfl)
      try simp only [Act.put]
      refine wpAnyT_two (i := 7) (j := 11) rfl rfl (by kernel_rfl) rfl rfl (fun K__ hK__ => ?_) (fun K__ hK__ => ?_)
      · unfold Oper.wp
        go_simp
        refine HCA.out.mono ?_
        rintro e w5 hres
        obtain ⟨rfl, k⟩ := hres.err HE0.out
        have HA1 := Lib.hid (show Below w1.heap.size w1 w5 from (below_drewN (Below.refl w1.heap.size w1) 1).trans k)
        have HSC := Lib.hid (HSW.out w5 HA1.out)
        have HSD := Lib.hid (fun o => HSW.out (w5.alloc o) (HA1.out.alloc HA1.out.size o))
        clear hres k
        refine hK__ _ _ HSC.out ?_
        clear hK__
        try simp only [Act.put, List.setIfInBounds_toArray, List.set_cons_zero, List.set_cons_succ]
        refine wpAnyT_take (i := 8) (v := ?_) rfl (by kernel_rfl) (by kernel_rfl) (by kernel_rfl) (by kernel_rfl) (by kernel_rfl) (fun _ _ _ h => h) (.inl ⟨rfl, ?_⟩) HSC.out ?_
        rotate_left
        · intro W__ hW__
          obtain ⟨z1, z2, z3, z4, z5, z6⟩ := hW__
          go_simp
          (try with_reducible rfl)
        try simp only [Act.put]
        refine wpAnyT_take (i := 9) (v := ?_) rfl (by kernel_rfl) (by kernel_rfl) (by kernel_rfl) (by kernel_rfl) (by kernel_rfl) (fun _ _ _ h => h) (.inl ⟨rfl, ?_⟩) HSC.out ?_
        rotate_left
        · intro W__ hW__
          obtain ⟨z1, z2, z3, z4, z5, z6⟩ := hW__
          go_simp
          (try with_reducible rfl)
        try simp only [Act.put]
        refine wpAnyT_takeW (i := 10) (v := ?_) rfl (by decide) (by kernel_rfl) (by kernel_rfl) (by kernel_rfl) (fun _ _ _ h => h) (.inl ⟨rfl, ?_⟩) (fun _ => HSC.out) ?_
        rotate_left
        · intro W__ _
          go_simp
          (try with_reducible rfl)
        try simp only [Act.put]
        refine wpAnyT_one (i := 11) rfl (by kernel_rfl) rfl fun K__ hK__ => ?_
        unfold Oper.wp
        go_simp
        refine hK__ _ _ (HSD.out _) ?_
        clear hK__
        try simp only [Act.put, List.setIfInBounds_toArray, List.set_cons_zero, List.set_cons_succ]
        refine wpAnyT_end (i := 12) rfl (by kernel_rfl) rfl (by kernel_rfl) fun K__ hK__ => ?_
        unfold Oper.wp
        go_simp
        refine hK__ _ _ ?_
        clear hK__
        refine wpAnyT_end (i := 13) rfl (by kernel_rfl) rfl (by kernel_rfl) fun K__ hK__ => ?_
        unfold Oper.wp
        go_simp
        refine hK__ _ _ ?_
        clear hK__
        refine wpAnyT_done (by kernel_rfl) ?_ _
        go_wp2
        go_meet
        exact ⟨_, _, rfl, rfl, cut_newE HE0.out HA1.out _⟩
      · unfold Oper.wp
        go_simp
        refine hK__ _ _ (HSB.out _) ?_
        clear hK__
        try simp only [Act.put, List.setIfInBounds_toArray, List.set_cons_zero, List.set_cons_succ]
        refine wpAnyT_one (i := 7) rfl (by kernel_rfl) rfl fun K__ hK__ => ?_
        unfold Oper.wp
        go_simp
        refine (HCB.out _).mono ?_
        rintro e w5 hres
        obtain ⟨rfl, k⟩ := hres.err HE0.out
        have hbz := Blk.below (blk_drew (Blk.new w1 TTb #[.string ⟨#[]⟩, .int .i64 0, .slice none 0 0, .slice none 0 0])) k (Blk.new w1 TTb #[.string ⟨#[]⟩, .int .i64 0, .slice none 0 0, .slice none 0 0]).lt
        have HZ := Lib.hid hbz
        have HA1 := Lib.hid (show Below w1.heap.size w1 w5 from (below_drewN ((Below.refl w1.heap.size w1).alloc (Nat.le_refl _) (.cells #[.string ⟨#[]⟩, .int .i64 0, .slice none 0 0, .slice none 0 0] TTb)) 1).trans (k.mono (show w1.heap.size ≤ (w1.alloc _).heap.size by simp)))
        have HSC := Lib.hid (HSW.out w5 HA1.out)
        have z0 := hbz.cell 0; have z1 := hbz.cell 1; have z2 := hbz.cell 2; have z3 := hbz.cell 3
        have y0 := hbz.frozen 0; have y1 := hbz.frozen 1; have y2 := hbz.frozen 2; have y3 := hbz.frozen 3; have zl := hbz.lt
        clear hres k hbz
        refine hK__ _ _ HSC.out ?_
        clear hK__
        try simp only [Act.put, List.setIfInBounds_toArray, List.set_cons_zero, List.set_cons_succ]
        refine wpAnyT_take (i := 8) (v := ?_) rfl (by kernel_rfl) (by kernel_rfl) (by kernel_rfl) (by kernel_rfl) (by kernel_rfl) (fun _ _ _ h => h) (.inl ⟨rfl, ?_⟩) HSC.out ?_
        rotate_left
        · intro W__ hW__
          obtain ⟨z1, z2, z3, z4, z5, z6⟩ := hW__
          go_simp
          (try with_reducible rfl)
        try simp only [Act.put]
        refine wpAnyT_take (i := 9) (v := ?_) rfl (by kernel_rfl) (by kernel_rfl) (by kernel_rfl) (by kernel_rfl) (by kernel_rfl) (fun _ _ _ h => h) (.inl ⟨rfl, ?_⟩) HSC.out ?_
        rotate_left
        · intro W__ hW__
          obtain ⟨z1, z2, z3, z4, z5, z6⟩ := hW__
          go_simp
          (try with_reducible rfl)
        try simp only [Act.put]
        refine wpAnyT_takeW (i := 10) (v := ?_) rfl (by decide) (by kernel_rfl) (by kernel_rfl) (by kernel_rfl) (fun _ _ _ h => h) (.inl ⟨rfl, ?_⟩) (fun _ => HSC.out) ?_
        rotate_left
        · intro W__ _
          go_simp
          (try with_reducible rfl)
        try simp only [Act.put]
        refine wpAnyT_end (i := 12) rfl (by kernel_rfl) rfl (by kernel_rfl) fun K__ hK__ => ?_
        unfold Oper.wp
        go_simp
        refine hK__ _ _ ?_
        clear hK__
        refine wpAnyT_end (i := 13) rfl (by kernel_rfl) rfl (by kernel_rfl) fun K__ hK__ => ?_
        unfold Oper.wp
        go_simp
        refine hK__ _ _ ?_
        clear hK__
        refine wpAnyT_done (by kernel_rfl) ?_ _
        go_wp2
        go_meet
        exact ⟨_, _, rfl, rfl, cut_setE HZ.out HE0.out HA1.out⟩
  case rest =>
    obtain ⟨b9, cd, rfl, rfl, rfl, hkc, hb9, hto⟩ := hcut
    have HKC := Lib.hid hkc; have HTO := Lib.hid hto
    have HF2 := Lib.hid (HF1.out.trans (hkc.mono HF1.out.size))
    have HV2 := Lib.hid (HV.out.below hkc HV.out.lt); have HS2 := Lib.hid (HS.out.below hkc HS.out.lt); have HR2 := Lib.hid (HR.out.below hkc HR.out.lt)
    clear hkc hto v0 v1 vl s0 s1 sl
    by_cases hE0 : cd = 0
    case neg =>
      have h1 : (cd != 0) = true := by simpa using hE0
      have h2 : (cd == 0) = false := by simpa using hE0
      have HE : Hid (turnE s (i : Int) cE = cd) := Lib.hid (by rw [HET.out, HCE.out, if_neg hE0])
      have HE0 := Lib.hid hE0
      have q0 := HR2.out.cell 0; have q1 := HR2.out.cell 1; have f0 := HR2.out.frozen 0; have f1 := HR2.out.frozen 1; have ql := HR2.out.lt
      have HRS := Lib.hid (set2_blk HR2.out (.slice none 0 0) (.slice none 0 0))
      clear hE0
      go_wp2
      have k0 := HRS.out.blk.cell 0; have k1 := HRS.out.blk.cell 1
      simp at k0 k1
      refine bodyPost_ret (v := .tuple #[zSto, .int .i64 cd]) (by simp [results, Tryz.results36, go_sem, k0, k1]) rfl (TurnPost.no HE.out HE0.out (HRS.out.below HF2.out (by omega)))
    subst hE0
    by_cases h64 : ln = 64
    · have HE : Hid (turnE s (i : Int) cE = 9) := Lib.hid (by rw [HET.out, HCE.out, if_pos rfl, HH.out.ln.out, if_pos h64])
      have h1 : ((ln : Int) == 64) = true := by simp; omega
      have q0 := HR2.out.cell 0; have q1 := HR2.out.cell 1; have f0 := HR2.out.frozen 0; have f1 := HR2.out.frozen 1; have ql := HR2.out.lt
      have s1 := HS2.out.cell 1; have sl := HS2.out.lt
      have HRS := Lib.hid (set2_blk HR2.out (.slice none 0 0) (.slice none 0 0))
      clear h64
      go_wp2
      have k0 := HRS.out.blk.cell 0; have k1 := HRS.out.blk.cell 1
      simp at k0 k1
      refine bodyPost_ret (v := .tuple #[zSto, .int .i64 9]) (by simp [results, Tryz.results36, go_sem, k0, k1]) rfl (TurnPost.no HE.out (by decide) (HRS.out.below HF2.out (by omega)))
    have HE : Hid (turnE s (i : Int) cE = 0) := Lib.hid (by rw [HET.out, HCE.out, if_pos rfl, HH.out.ln.out, if_neg h64])
    have h1 : ((ln : Int) == 64) = false := by simp; omega
    have hl64 : ln < 64 := by have := HOK.out.few; rw [HH.out.ln.out] at this; omega
    have v0 := HV2.out.cell 0; have vl := HV2.out.lt
    have s0 := HS2.out.cell 0; have s1 := HS2.out.cell 1; have sl := HS2.out.lt
    simp at v0 s0 s1
    clear h64
    have HKD : Hid (Below wc.heap.size wc (wc.alloc (.cells #[.int .i64 (i : Int), .string id, .bool false, .string ⟨#[]⟩, .slice none 0 0] TCh)).drew) := Lib.hid (below_drewN ((Below.refl _ _).alloc (Nat.le_refl _) _) 1)
    have HKE : Hid (Below w1.heap.size w1 (wc.alloc (.cells #[.int .i64 (i : Int), .string id, .bool false, .string ⟨#[]⟩, .slice none 0 0] TCh)).drew) := Lib.hid (HKC.out.trans (HKD.out.mono HKC.out.size))
    have HSG : Hid ((wc.alloc (.cells #[.int .i64 (i : Int), .string id, .bool false, .string ⟨#[]⟩, .slice none 0 0] TCh)).drew.cell? ⟨w.heap.size, 0, none⟩ = some (.string id) ∧ (wc.alloc (.cells #[.int .i64 (i : Int), .string id, .bool false, .string ⟨#[]⟩, .slice none 0 0] TCh)).drew.cell? ⟨w.heap.size + 1, 0, none⟩ = some (.slice (some ⟨tb, tof, none⟩) tn tc) ∧ (wc.alloc (.cells #[.int .i64 (i : Int), .string id, .bool false, .string ⟨#[]⟩, .slice none 0 0] TCh)).drew.cell? ⟨tb, tof + i * 4, none⟩ = some (.string t.name) ∧ (wc.alloc (.cells #[.int .i64 (i : Int), .string id, .bool false, .string ⟨#[]⟩, .slice none 0 0] TCh)).drew.cell? ⟨tb, tof + i * 4 + 1, none⟩ = some (.int .i64 t.most) ∧ (wc.alloc (.cells #[.int .i64 (i : Int), .string id, .bool false, .string ⟨#[]⟩, .slice none 0 0] TCh)).drew.cell? ⟨tb, tof + i * 4 + 2, none⟩ = some (.slice U un uc) ∧ (wc.alloc (.cells #[.int .i64 (i : Int), .string id, .bool false, .string ⟨#[]⟩, .slice none 0 0] TCh)).drew.cell? ⟨tb, tof + i * 4 + 3, none⟩ = some (.slice R rn rc)) := Lib.hid ⟨(HKD.out.cell (p := ⟨w.heap.size, 0, none⟩) vl).trans v0, (HKD.out.cell (p := ⟨w.heap.size + 1, 0, none⟩) sl).trans s0, (HKE.out.cell (p := ⟨tb, tof + i * 4, none⟩) lb1).trans c0, (HKE.out.cell (p := ⟨tb, tof + i * 4 + 1, none⟩) lb1).trans c1, (HKE.out.cell (p := ⟨tb, tof + i * 4 + 2, none⟩) lb1).trans c2, (HKE.out.cell (p := ⟨tb, tof + i * 4 + 3, none⟩) lb1).trans c3⟩
    have HGE := Lib.hid (get_was B U un uc R rn rc t id (wc.alloc (.cells #[.int .i64 (i : Int), .string id, .bool false, .string ⟨#[]⟩, .slice none 0 0] TCh)).drew (HOK.out.tabs.each t (mem_of_get HX.out)) (HTA.out.keep (Keep.of HKE.out)) huc hrc (by rw [← HTA.out.un.out]; exact HTB.out.un) HTB.out.rb (HTS.out.next ((HF1.out.trans (HKE.out.mono HF1.out.size)).mono hB)) (Nat.le_trans hB (HF1.out.trans (HKE.out.mono HF1.out.size)).size))
    have HCX : Hid (Blk (wc.alloc (.cells #[.int .i64 (i : Int), .string id, .bool false, .string ⟨#[]⟩, .slice none 0 0] TCh)).drew wc.heap.size TCh #[.int .i64 (i : Int), .string id, .bool false, .string ⟨#[]⟩, .slice none 0 0]) := Lib.hid (blk_drew (Blk.new wc TCh _))
    have HLB := Lib.hid lb1
    clear c0 c1 c2 c3 lb1
    go_upto_region 12 with fail
    refine wp_region_T 7 (fun Q => (Q.cell? ⟨w.heap.size, 0, none⟩ = some (.string id) ∧ Q.cell? ⟨w.heap.size + 1, 0, none⟩ = some (.slice (some ⟨tb, tof, none⟩) tn tc) ∧ Q.cell? ⟨tb, tof + i * 4, none⟩ = some (.string t.name) ∧ Q.cell? ⟨tb, tof + i * 4 + 1, none⟩ = some (.int .i64 t.most) ∧ Q.cell? ⟨tb, tof + i * 4 + 2, none⟩ = some (.slice U un uc) ∧ Q.cell? ⟨tb, tof + i * 4 + 3, none⟩ = some (.slice R rn rc))) (by kernel_rfl) ?_
    refine wpAnyT_takeC (i := 0) [7, 4, 3, 1] (v := ?_) rfl (by kernel_rfl) (by kernel_rfl) (by kernel_rfl) (by kernel_rfl) (by kernel_rfl) (by kernel_rfl) (fun _ _ _ h => h) (.inl ⟨rfl, ?_⟩) HSG.out ?_
    rotate_left
    · intro W__ hW__
      obtain ⟨z1, z2, z3, z4, z5, z6⟩ := hW__
      go_simp
      (try with_reducible rfl)
    try simp only [Act.put]
    refine wpAnyT_takeC (i := 1) [7, 4, 3] (v := ?_) rfl (by kernel_rfl) (by kernel_rfl) (by kernel_rfl) (by kernel_rfl) (by kernel_rfl) (by kernel_rfl) (fun _ _ _ h => h) (.inl ⟨rfl, ?_⟩) HSG.out ?_
    rotate_left
    · intro W__ hW__
      obtain ⟨z1, z2, z3, z4, z5, z6⟩ := hW__
      go_simp
      (try with_reducible rfl)
    try simp only [Act.put]
    refine wpAnyT_takeC (i := 2) [7, 4, 3] (v := ?_) rfl (by kernel_rfl) (by kernel_rfl) (by kernel_rfl) (by kernel_rfl) (by kernel_rfl) (by kernel_rfl) (fun _ _ _ h => h) (.inl ⟨rfl, ?_⟩) HSG.out ?_
    rotate_left
    · intro W__ hW__
      obtain ⟨z1, z2, z3, z4, z5, z6⟩ := hW__
      go_simp
      (try with_reducible rfl)
    try simp only [Act.put]
    refine wpAnyT_takeC (i := 3) [7, 4] (v := ?_) rfl (by kernel_rfl) (by kernel_rfl) (by kernel_rfl) (by kernel_rfl) (by kernel_rfl) (by kernel_rfl) (fun _ _ _ h => h) (.inl ⟨rfl, ?_⟩) HSG.out ?_
    rotate_left
    · intro W__ hW__
      obtain ⟨z1, z2, z3, z4, z5, z6⟩ := hW__
      go_simp
      (try with_reducible rfl)
    try simp only [Act.put]
    refine wpAnyT_takeC (i := 4) [7] (v := ?_) rfl (by kernel_rfl) (by kernel_rfl) (by kernel_rfl) (by kernel_rfl) (by kernel_rfl) (by kernel_rfl) (fun _ _ _ h => h) (.inl ⟨rfl, ?_⟩) HSG.out ?_
    rotate_left
    · intro W__ hW__
      obtain ⟨z1, z2, z3, z4, z5, z6⟩ := hW__
      go_simp
      (try with_reducible rfl)
    try simp only [Act.put]
    refine wpAnyT_takeC (i := 5) [7, 6] (v := ?_) rfl (by kernel_rfl) (by kernel_rfl) (by kernel_rfl) (by kernel_rfl) (by kernel_rfl) (by kernel_rfl) (fun _ _ _ h => h) (.inl ⟨rfl, ?_⟩) HSG.out ?_
    rotate_left
    · intro W__ hW__
      obtain ⟨z1, z2, z3, z4, z5, z6⟩ := hW__
      go_simp
      (try with_reducible rfl)
    try simp only [Act.put]
    refine wpAnyT_takeC (i := 6) [7] (v := ?_) rfl (by kernel_rfl) (by kernel_rfl) (by kernel_rfl) (by kernel_rfl) (by kernel_rfl) (by kernel_rfl) (fun _ _ _ h => h) (.inl ⟨rfl, ?_⟩) HSG.out ?_
    rotate_left
    · intro W__ hW__
      obtain ⟨z1, z2, z3, z4, z5, z6⟩ := hW__
      go_simp
      (try with_reducible rfl)
    try simp only [Act.put]
    refine wpAnyT_end (i := 7) rfl (by kernel_rfl) rfl (by kernel_rfl) fun K__ hK__ => ?_
    unfold Oper.wp
    go_simp
    refine HGE.out.mono ?_
    rintro e w5 ⟨A, n, c, rfl, hown, k⟩
    have hcx := HCX.out.below k HCX.out.lt
    have HCY := Lib.hid hcx
    have x2 := hcx.cell 2; have x3 := hcx.cell 3; have x4 := hcx.cell 4; have xf2 := hcx.frozen 2; have xf3 := hcx.frozen 3; have xf4 := hcx.frozen 4; have xl := hcx.lt
    have HSH := Lib.hid (And.intro ((k.cell (p := ⟨w.heap.size, 0, none⟩) (show w.heap.size < (wc.alloc _).drew.heap.size from Nat.lt_of_lt_of_le vl HKD.out.size)).trans HSG.out.1) (And.intro ((k.cell (p := ⟨w.heap.size + 1, 0, none⟩) (show w.heap.size + 1 < (wc.alloc _).drew.heap.size from Nat.lt_of_lt_of_le sl HKD.out.size)).trans HSG.out.2.1) (And.intro ((k.cell (p := ⟨tb, tof + i * 4, none⟩) (show tb < (wc.alloc _).drew.heap.size from Nat.lt_of_lt_of_le HLB.out HKE.out.size)).trans HSG.out.2.2.1) (And.intro ((k.cell (p := ⟨tb, tof + i * 4 + 1, none⟩) (show tb < (wc.alloc _).drew.heap.size from Nat.lt_of_lt_of_le HLB.out HKE.out.size)).trans HSG.out.2.2.2.1) (And.intro ((k.cell (p := ⟨tb, tof + i * 4 + 2, none⟩) (show tb < (wc.alloc _).drew.heap.size from Nat.lt_of_lt_of_le HLB.out HKE.out.size)).trans HSG.out.2.2.2.2.1) ((k.cell (p := ⟨tb, tof + i * 4 + 3, none⟩) (show tb < (wc.alloc _).drew.heap.size from Nat.lt_of_lt_of_le HLB.out HKE.out.size)).trans HSG.out.2.2.2.2.2))))))
    have HOW := Lib.hid hown; have HK5 := Lib.hid k
    clear hcx hown k
    refine hK__ _ _ ?_
    clear hK__
    try simp only [Act.put, List.setIfInBounds_toArray, List.set_cons_zero, List.set_cons_succ]
    have HSI := HSH
    refine wpAnyT_takeW (i := 8) (v := ?_) rfl (by decide) (by kernel_rfl) (by kernel_rfl) (by kernel_rfl) (fun _ _ _ h => h) (.inl ⟨rfl, ?_⟩) (fun _ => HSI.out) ?_
    rotate_left
    · intro W__ _
      go_simp
      (try with_reducible rfl)
    try simp only [Act.put]
    refine wpAnyT_takeW (i := 9) (v := ?_) rfl (by decide) (by kernel_rfl) (by kernel_rfl) (by kernel_rfl) (fun _ _ _ h => h) (.inl ⟨rfl, ?_⟩) (fun _ => HSI.out) ?_
    rotate_left
    · intro W__ _
      go_simp
      (try with_reducible rfl)
    try simp only [Act.put]
    refine wpAnyT_takeW (i := 10) (v := ?_) rfl (by decide) (by kernel_rfl) (by kernel_rfl) (by kernel_rfl) (fun _ _ _ h => h) (.inl ⟨rfl, ?_⟩) (fun _ => HSI.out) ?_
    rotate_left
    · intro W__ _
      go_simp
      (try with_reducible rfl)
    try simp only [Act.put]
    refine wpAnyT_takeW (i := 11) (v := ?_) rfl (by decide) (by kernel_rfl) (by kernel_rfl) (by kernel_rfl) (fun _ _ _ h => h) (.inl ⟨rfl, ?_⟩) (fun _ => HSI.out) ?_
    rotate_left
    · intro W__ _
      go_simp
      (try with_reducible rfl)
    try simp only [Act.put]
    refine wpAnyT_end (i := 12) rfl (by kernel_rfl) rfl (by kernel_rfl) fun K__ hK__ => ?_
    unfold Oper.wp
    go_simp
    refine hK__ _ _ ?_
    clear hK__
    try simp only [Act.put, List.setIfInBounds_toArray, List.set_cons_zero, List.set_cons_succ]
    refine wpAnyT_takeW (i := 13) (v := ?_) rfl (by decide) (by kernel_rfl) (by kernel_rfl) (by kernel_rfl) (fun _ _ _ h => h) (.inl ⟨rfl, ?_⟩) (fun h => by cases h) ?_
    rotate_left
    · intro W__ _
      go_simp
      (try with_reducible rfl)
    try simp only [Act.put, List.setIfInBounds_toArray]
    refine wpAnyT_end (i := 14) rfl (by kernel_rfl) rfl (by kernel_rfl) fun K__ hK__ => ?_
    unfold Oper.wp
    go_simp
    refine hK__ _ _ ?_
    clear hK__
    refine wpAnyT_done (by kernel_rfl) ?_ _
    have HFY : Hid (Below w.heap.size w (((w5.setCell ⟨wc.heap.size, 3, none⟩ (.string (wasR t id).1.id)).setCell ⟨wc.heap.size, 4, none⟩ (.slice A n c)).setCell ⟨wc.heap.size, 2, none⟩ (.bool (wasR t id).2))) := Lib.hid ((((HF2.out.trans ((HKD.out.trans (HK5.out.mono HKD.out.size)).mono HF2.out.size)).setCell (p := ⟨wc.heap.size, 3, none⟩) HF2.out.size _).setCell (p := ⟨wc.heap.size, 4, none⟩) HF2.out.size _).setCell (p := ⟨wc.heap.size, 2, none⟩) HF2.out.size _)
    have HCZ := Lib.hid (((HCY.out.set 3 (.string (wasR t id).1.id)).set 4 (.slice A n c)).set 2 (.bool (wasR t id).2))
    have HKY : Hid (Below wc.heap.size wc (((w5.setCell ⟨wc.heap.size, 3, none⟩ (.string (wasR t id).1.id)).setCell ⟨wc.heap.size, 4, none⟩ (.slice A n c)).setCell ⟨wc.heap.size, 2, none⟩ (.bool (wasR t id).2))) := Lib.hid ((((HKD.out.trans (HK5.out.mono HKD.out.size)).setCell (p := ⟨wc.heap.size, 3, none⟩) (Nat.le_refl _) _).setCell (p := ⟨wc.heap.size, 4, none⟩) (Nat.le_refl _) _).setCell (p := ⟨wc.heap.size, 2, none⟩) (Nat.le_refl _) _)
    have HTW := Lib.hid (undo_Twin (some ⟨tb, tof, none⟩) L tn tc ln lc s (((w5.setCell ⟨wc.heap.size, 3, none⟩ (.string (wasR t id).1.id)).setCell ⟨wc.heap.size, 4, none⟩ (.slice A n c)).setCell ⟨wc.heap.size, 2, none⟩ (.bool (wasR t id).2)) (HH.out.keep (Keep.of HFY.out)) HBD.out)
    have hs0 := (HKY.out.cell (p := ⟨w.heap.size + 1, 0, none⟩) sl).trans s0
    have hs1 := (HKY.out.cell (p := ⟨w.heap.size + 1, 1, none⟩) sl).trans s1
    have hsl := Nat.lt_of_lt_of_le sl HKY.out.size
    clear x2 x3 x4 xf2 xf3 xf4 xl
    go_wp2_with fail
    refine HTW.out.mono ?_
    rintro e w6 ⟨⟨T', tc', L', lc', rfl, hot, hol⟩, k⟩
    obtain ⟨i0, hi0, hz0, hs0, hb0⟩ := info_parts info_chg
    obtain ⟨V9, vn9, vc9, G9, gn9, gc9, h9b, h9t⟩ := HTO.out trivial
    have HF6 := Lib.hid (HFY.out.trans (k.mono HFY.out.size))
    have HKX := Lib.hid (HKY.out.trans (k.mono HKY.out.size))
    have hwid : (wasR t id).1.id.size ≤ 140737488355328 := by
      cases hh : hasR t.rows id with
      | false => rw [wasR_no hh]; decide
      | true => obtain ⟨r, _, h2, h3⟩ := wasR_yes hh; rw [h3]; show r.id.size ≤ _; rw [h2]; exact hid
    have hC6 : Blk w6 wc.heap.size TCh #[.int .i64 (i : Int), .string id, .bool (wasR t id).2, .string (wasR t id).1.id, .slice A n c] := by simpa using HCZ.out.below k HCZ.out.lt
    have h96 := h9b.below HKX.out h9b.lt
    have h9t6 := h9t.below HKX.out
    have hR6 := HR2.out.below HKX.out HR2.out.lt
    have hot6 : OwnK w6 w.heap.size TTb 4 (OTb w6 w.heap.size) (.slice T' tn tc') s.tables := (OwnK.lower hot HFY.out.size).monoR fun _ _ _ ho => ho.lower HFY.out.size
    have hol6 : OwnK w6 w.heap.size TCh 5 (OCg w6 w.heap.size) (.slice L' ln lc') s.log := (OwnK.lower hol HFY.out.size).monoR fun _ _ _ ho => ho.lower HFY.out.size
    have hod6 : OwnC w6 w.heap.size (.slice A n c) (wasR t id).1.data := (OwnK.lower (((HOW.out.setFar HCY.out (by decide) 3 (.string (wasR t id).1.id)).setFar (HCY.out.set 3 (.string (wasR t id).1.id)) (by decide) 4 (.slice A n c)).setFar ((HCY.out.set 3 (.string (wasR t id).1.id)).set 4 (.slice A n c)) (by decide) 2 (.bool (wasR t id).2)) (Nat.le_trans HF2.out.size HKD.out.size)).below k
    have hkW0 : Below w6.heap.size w6 (w6.alloc (.cells #[.slice T' tn tc', .slice L' ln lc'] TSto)).drew := below_drewN ((Below.refl _ _).alloc (Nat.le_refl _) _) 1
    have hkW1 : Below (w6.alloc (.cells #[.slice T' tn tc', .slice L' ln lc'] TSto)).drew.heap.size (w6.alloc (.cells #[.slice T' tn tc', .slice L' ln lc'] TSto)).drew ((w6.alloc (.cells #[.slice T' tn tc', .slice L' ln lc'] TSto)).drew.alloc (.cells #[.int .i64 (i : Int), .string id, .bool (wasR t id).2, .string (wasR t id).1.id, .slice A n c] TCh)) := (Below.refl _ _).alloc (Nat.le_refl _) _
    have hk1 := hkW0.trans (hkW1.mono hkW0.size)
    obtain ⟨g, cur6, x6, f6, hA6, hge6, hbg6, _, _, _⟩ := hot6.gt hin
    subst hA6
    have hB12 : Blk (w6.alloc (.cells #[.slice (some ⟨g, 0, none⟩) tn tc', .slice L' ln lc'] TSto)).drew w6.heap.size TSto #[.slice (some ⟨g, 0, none⟩) tn tc', .slice L' ln lc'] := blk_drew (Blk.new w6 TSto _)
    have HSJ : Hid ((fun Q => (Q.cell? ⟨w6.heap.size, 0, none⟩ = some (.slice (some ⟨g, 0, none⟩) tn tc') ∧ Q.cell? ⟨w6.heap.size, 1, none⟩ = some (.slice L' ln lc') ∧ Q.cell? ⟨b9, 0, none⟩ = some (.string (cT t).name) ∧ Q.cell? ⟨b9, 1, none⟩ = some (.int .i64 (cT t).most) ∧ Q.cell? ⟨b9, 2, none⟩ = some (.slice V9 vn9 vc9) ∧ Q.cell? ⟨b9, 3, none⟩ = some (.slice G9 gn9 gc9) ∧ Q.cell? ⟨wc.heap.size, 0, none⟩ = some (.int .i64 (i : Int)) ∧ Q.cell? ⟨wc.heap.size, 1, none⟩ = some (.string id) ∧ Q.cell? ⟨wc.heap.size, 2, none⟩ = some (.bool (wasR t id).2) ∧ Q.cell? ⟨wc.heap.size, 3, none⟩ = some (.string (wasR t id).1.id) ∧ Q.cell? ⟨wc.heap.size, 4, none⟩ = some (.slice A n c))) (w6.alloc (.cells #[.slice (some ⟨g, 0, none⟩) tn tc', .slice L' ln lc'] TSto)).drew) := Lib.hid ⟨hB12.cell 0, hB12.cell 1, (h96.below hkW0 h96.lt).cell 0, (h96.below hkW0 h96.lt).cell 1, (h96.below hkW0 h96.lt).cell 2, (h96.below hkW0 h96.lt).cell 3, (hC6.below hkW0 hC6.lt).cell 0, (hC6.below hkW0 hC6.lt).cell 1, (hC6.below hkW0 hC6.lt).cell 2, (hC6.below hkW0 hC6.lt).cell 3, (hC6.below hkW0 hC6.lt).cell 4⟩
    have hB12' := hB12.below hkW1 hB12.lt
    have HSK : Hid ((fun Q => (Q.cell? ⟨w6.heap.size, 0, none⟩ = some (.slice (some ⟨g, 0, none⟩) tn tc') ∧ Q.cell? ⟨w6.heap.size, 1, none⟩ = some (.slice L' ln lc') ∧ Q.cell? ⟨b9, 0, none⟩ = some (.string (cT t).name) ∧ Q.cell? ⟨b9, 1, none⟩ = some (.int .i64 (cT t).most) ∧ Q.cell? ⟨b9, 2, none⟩ = some (.slice V9 vn9 vc9) ∧ Q.cell? ⟨b9, 3, none⟩ = some (.slice G9 gn9 gc9) ∧ Q.cell? ⟨wc.heap.size, 0, none⟩ = some (.int .i64 (i : Int)) ∧ Q.cell? ⟨wc.heap.size, 1, none⟩ = some (.string id) ∧ Q.cell? ⟨wc.heap.size, 2, none⟩ = some (.bool (wasR t id).2) ∧ Q.cell? ⟨wc.heap.size, 3, none⟩ = some (.string (wasR t id).1.id) ∧ Q.cell? ⟨wc.heap.size, 4, none⟩ = some (.slice A n c))) ((w6.alloc (.cells #[.slice (some ⟨g, 0, none⟩) tn tc', .slice L' ln lc'] TSto)).drew.alloc (.cells #[.int .i64 (i : Int), .string id, .bool (wasR t id).2, .string (wasR t id).1.id, .slice A n c] TCh))) := Lib.hid ⟨hB12'.cell 0, hB12'.cell 1, (h96.below hk1 h96.lt).cell 0, (h96.below hk1 h96.lt).cell 1, (h96.below hk1 h96.lt).cell 2, (h96.below hk1 h96.lt).cell 3, (hC6.below hk1 hC6.lt).cell 0, (hC6.below hk1 hC6.lt).cell 1, (hC6.below hk1 hC6.lt).cell 2, (hC6.below hk1 hC6.lt).cell 3, (hC6.below hk1 hC6.lt).cell 4⟩
    have SR := Lib.hid (Pv.Src.blk (Blk.new (w6.alloc (.cells #[.slice (some ⟨g, 0, none⟩) tn tc', .slice L' ln lc'] TSto)).drew TCh #[.int .i64 (i : Int), .string id, .bool (wasR t id).2, .string (wasR t id).1.id, .slice A n c]) (k := 5) rfl (by simp [Value.oneCell']))
    have hol7 : OwnK w6 (((w5.setCell ⟨wc.heap.size, 3, none⟩ (.string (wasR t id).1.id)).setCell ⟨wc.heap.size, 4, none⟩ (.slice A n c)).setCell ⟨wc.heap.size, 2, none⟩ (.bool (wasR t id).2)).heap.size TCh 5 (OCg w6 w.heap.size) (.slice L' ln lc') s.log := hol.monoR fun _ _ _ ho => ho.lower HFY.out.size
    obtain ⟨hql, us, how9, hrl9⟩ := (((hol7.below hk1)).monoR fun _ _ _ ho => ho.below hk1).slice
    have hby : wc.heap.size < (((w5.setCell ⟨wc.heap.size, 3, none⟩ (.string (wasR t id).1.id)).setCell ⟨wc.heap.size, 4, none⟩ (.slice A n c)).setCell ⟨wc.heap.size, 2, none⟩ (.bool (wasR t id).2)).heap.size := HCZ.out.lt
    have HBY := Lib.hid hby; have HBW := Lib.hid HFY.out.size
    have HQL := Lib.hid hql; have HOW9 := Lib.hid how9; have HRL := Lib.hid hrl9
    have Q1 : Hid (ln + 1 ≤ maxLen) := Lib.hid (by simp only [maxLen]; omega)
    have Q2 : Hid ((ln + 1) * 72 ≤ 140737488355328) := Lib.hid (by omega)
    have HFW1 := Lib.hid (HF6.out.trans (hk1.mono HF6.out.size))
    have Q3 := Lib.hid (Nat.le_trans k.size hk1.size)
    have HOT1 := Lib.hid ((hot6.below hk1).monoR fun _ _ _ ho => ho.below hk1)
    have HOX1 := Lib.hid (h9t6.below hk1)
    have HCH1 : Hid (OCg ((w6.alloc (.cells #[.slice (some ⟨g, 0, none⟩) tn tc', .slice L' ln lc'] TSto)).drew.alloc (.cells #[.int .i64 (i : Int), .string id, .bool (wasR t id).2, .string (wasR t id).1.id, .slice A n c] TCh)) w.heap.size (f5 (.int .i64 (i : Int)) (.string id) (.bool (wasR t id).2) (.string (wasR t id).1.id) (.slice A n c)) ⟨(i : Int), id, (wasR t id).2, (wasR t id).1⟩) := Lib.hid ⟨⟨rfl, by simp only; omega⟩, ⟨rfl, hid⟩, rfl, ⟨rfl, hwid⟩, hod6.below hk1⟩
    have HB121 := Lib.hid hB12'; have HR61 := Lib.hid (hR6.below hk1 hR6.lt); have HB91 := Lib.hid (h96.below hk1 h96.lt); have HCC1 := Lib.hid (hC6.below hk1 hC6.lt)
    have HB12 := Lib.hid hB12
    have HIN := Lib.hid hin
    clear hot hol k h9b h9t hwid hC6 h96 h9t6 hR6 hot6 hol6 hol7 hby hod6 hkW0 hkW1 hk1 hB12 hB12' hql how9 hrl9 hge6 hbg6
    go_upto_region 14 with fail
    refine wp_region_T 10 (fun Q => (Q.cell? ⟨w6.heap.size, 0, none⟩ = some (.slice (some ⟨g, 0, none⟩) tn tc') ∧ Q.cell? ⟨w6.heap.size, 1, none⟩ = some (.slice L' ln lc') ∧ Q.cell? ⟨b9, 0, none⟩ = some (.string (cT t).name) ∧ Q.cell? ⟨b9, 1, none⟩ = some (.int .i64 (cT t).most) ∧ Q.cell? ⟨b9, 2, none⟩ = some (.slice V9 vn9 vc9) ∧ Q.cell? ⟨b9, 3, none⟩ = some (.slice G9 gn9 gc9) ∧ Q.cell? ⟨wc.heap.size, 0, none⟩ = some (.int .i64 (i : Int)) ∧ Q.cell? ⟨wc.heap.size, 1, none⟩ = some (.string id) ∧ Q.cell? ⟨wc.heap.size, 2, none⟩ = some (.bool (wasR t id).2) ∧ Q.cell? ⟨wc.heap.size, 3, none⟩ = some (.string (wasR t id).1.id) ∧ Q.cell? ⟨wc.heap.size, 4, none⟩ = some (.slice A n c))) (by kernel_rfl) ?_
    refine wpAnyT_take (i := 0) (v := ?_) rfl (by kernel_rfl) (by kernel_rfl) (by kernel_rfl) (by kernel_rfl) (by kernel_rfl) (fun _ _ _ h => h) (.inl ⟨rfl, ?_⟩) HSJ.out ?_
    rotate_left
    · intro W__ hW__
      obtain ⟨z1, z2, z3, z4, z5, z6, z7, z8, z9, z10, z11⟩ := hW__
      go_simp
      (try with_reducible rfl)
    try simp only [Act.put]
    refine wpAnyT_take (i := 1) (v := ?_) rfl (by kernel_rfl) (by kernel_rfl) (by kernel_rfl) (by kernel_rfl) (by kernel_rfl) (fun _ _ _ h => h) (.inl ⟨rfl, ?_⟩) HSJ.out ?_
    rotate_left
    · intro W__ hW__
      obtain ⟨z1, z2, z3, z4, z5, z6, z7, z8, z9, z10, z11⟩ := hW__
      go_simp
      (try with_reducible rfl)
    try simp only [Act.put]
    refine wpAnyT_take (i := 2) (v := ?_) rfl (by kernel_rfl) (by kernel_rfl) (by kernel_rfl) (by kernel_rfl) (by kernel_rfl) (fun _ _ _ h => h) (.inl ⟨rfl, ?_⟩) HSJ.out ?_
    rotate_left
    · intro W__ hW__
      obtain ⟨z1, z2, z3, z4, z5, z6, z7, z8, z9, z10, z11⟩ := hW__
      go_simp
      (try with_reducible rfl)
    try simp only [Act.put]
    refine wpAnyT_take (i := 3) (v := ?_) rfl (by kernel_rfl) (by kernel_rfl) (by kernel_rfl) (by kernel_rfl) (by kernel_rfl) (fun _ _ _ h => h) (.inl ⟨rfl, ?_⟩) HSJ.out ?_
    rotate_left
    · intro W__ hW__
      obtain ⟨z1, z2, z3, z4, z5, z6, z7, z8, z9, z10, z11⟩ := hW__
      go_simp
      (try with_reducible rfl)
    try simp only [Act.put]
    refine wpAnyT_takeC (i := 4) [10, 8, 5] (v := ?_) rfl (by kernel_rfl) (by kernel_rfl) (by kernel_rfl) (by kernel_rfl) (by kernel_rfl) (by kernel_rfl) (fun _ _ _ h => h) (.inl ⟨rfl, ?_⟩) HSJ.out ?_
    rotate_left
    · intro W__ hW__
      obtain ⟨z1, z2, z3, z4, z5, z6, z7, z8, z9, z10, z11⟩ := hW__
      go_simp
      (try with_reducible rfl)
    try simp only [Act.put]
    refine wpAnyT_takeC (i := 5) [10, 8] (v := ?_) rfl (by kernel_rfl) (by kernel_rfl) (by kernel_rfl) (by kernel_rfl) (by kernel_rfl) (by kernel_rfl) (fun _ _ _ h => h) (.inl ⟨rfl, ?_⟩) HSJ.out ?_
    rotate_left
    · intro W__ hW__
      obtain ⟨z1, z2, z3, z4, z5, z6, z7, z8, z9, z10, z11⟩ := hW__
      go_simp
      (try with_reducible rfl)
    try simp only [Act.put]
    refine wpAnyT_takeC (i := 6) [10, 8, 7] (v := ?_) rfl (by kernel_rfl) (by kernel_rfl) (by kernel_rfl) (by kernel_rfl) (by kernel_rfl) (by kernel_rfl) (fun _ _ _ h => h) (.inl ⟨rfl, ?_⟩) HSJ.out ?_
    rotate_left
    · intro W__ hW__
      obtain ⟨z1, z2, z3, z4, z5, z6, z7, z8, z9, z10, z11⟩ := hW__
      go_simp
      (try with_reducible rfl)
    try simp only [Act.put]
    refine wpAnyT_one (i := 7) rfl (by kernel_rfl) rfl fun K__ hK__ => ?_
    unfold Oper.wp
    go_simp
    refine hK__ _ _ (HSK.out) ?_
    clear hK__
    try simp only [Act.put, List.setIfInBounds_toArray, List.set_cons_zero, List.set_cons_succ]
    refine wpAnyT_one (i := 8) rfl (by kernel_rfl) rfl fun K__ hK__ => ?_
    refine wp_append_src _ (.tmp 75) (.tmp 77) 23 rfl (((w5.setCell ⟨wc.heap.size, 3, none⟩ (.string (wasR t id).1.id)).setCell ⟨wc.heap.size, 4, none⟩ (.slice A n c)).setCell ⟨wc.heap.size, 2, none⟩ (.bool (wasR t id).2)).heap.size TCh i0 _ 5 72 Tryz.underlying23 hi0 hz0 hs0 hb0 rfl (by decide) L' lc' ln us (by simp [Act.eval]) HOW9.out _ 1 1 _ (by simp [Act.eval]) SR.out Q1.out Q2.out Q3.out ?_
    intro A9 c9 w9 own9 gr9 _
    have hW9 : Below w.heap.size w w9 := HFW1.out.grown gr9 HFW1.out.size (fun g hg => Nat.le_trans HBW.out (HOW9.out.lt g hg).1)
    have hn9 : ∀ b, b ≤ wc.heap.size → some b ≠ (Value.slice L' ln lc').ownBlock := fun b hb e => by
      have := (HOW9.out.lt b e.symm).1
      have := HBY.out
      omega
    have h129 := HB121.out.grown gr9 (own_blk_ne HOW9.out HB121.out (by decide))
    have hr9 := HR61.out.grown gr9 (own_blk_ne HOW9.out HR61.out (by decide))
    have h99 := HB91.out.grown gr9 (own_blk_ne HOW9.out HB91.out (by decide))
    have hc9 := HCC1.out.grown gr9 (hn9 _ (Nat.le_refl _))
    have hot9 := (HOT1.out.grown HOW9.out (by decide) gr9).monoR fun _ _ _ ho => ho.grown HOW9.out (by decide) (by decide) (by decide) gr9
    have hox9 := HOX1.out.grown HOW9.out (by decide) (by decide) (by decide) gr9
    have hlog9 : OwnK w9 w.heap.size TCh 5 (OCg w9 w.heap.size) (.slice A9 (ln + 1) c9) (s.log ++ [⟨(i : Int), id, (wasR t id).2, (wasR t id).1⟩]) :=
      OwnK.lower (OwnK.snoc HQL.out own9 HRL.out (fun _ _ ho => ho.grown HOW9.out (by decide) gr9) rfl (fun j hj => by match j, hj with | 0, _ => rfl | 1, _ => rfl | 2, _ => rfl | 3, _ => rfl | 4, _ => rfl) (HCH1.out.grown HOW9.out (by decide) gr9)) HBW.out
    have HSL : Hid ((fun Q => (Q.cell? ⟨w6.heap.size, 0, none⟩ = some (.slice (some ⟨g, 0, none⟩) tn tc') ∧ Q.cell? ⟨w6.heap.size, 1, none⟩ = some (.slice L' ln lc') ∧ Q.cell? ⟨b9, 0, none⟩ = some (.string (cT t).name) ∧ Q.cell? ⟨b9, 1, none⟩ = some (.int .i64 (cT t).most) ∧ Q.cell? ⟨b9, 2, none⟩ = some (.slice V9 vn9 vc9) ∧ Q.cell? ⟨b9, 3, none⟩ = some (.slice G9 gn9 gc9) ∧ Q.cell? ⟨wc.heap.size, 0, none⟩ = some (.int .i64 (i : Int)) ∧ Q.cell? ⟨wc.heap.size, 1, none⟩ = some (.string id) ∧ Q.cell? ⟨wc.heap.size, 2, none⟩ = some (.bool (wasR t id).2) ∧ Q.cell? ⟨wc.heap.size, 3, none⟩ = some (.string (wasR t id).1.id) ∧ Q.cell? ⟨wc.heap.size, 4, none⟩ = some (.slice A n c))) w9) := Lib.hid ⟨h129.cell 0, h129.cell 1, h99.cell 0, h99.cell 1, h99.cell 2, h99.cell 3, hc9.cell 0, hc9.cell 1, hc9.cell 2, hc9.cell 3, hc9.cell 4⟩
    have hrn : w.heap.size + 1 + 1 ≠ w6.heap.size := fun e => by
      have h1 := HR2.out.lt; have h2 := HKX.out.size
      omega
    have HEND := Lib.hid (turn_end hot9 HIN.out hlog9 hox9 h129 hr9 hrn HF6.out.size (by omega) hW9)
    obtain ⟨g', cur9, _, _, hA9, _, hbg9, _, hfy, _⟩ := hot9.gt HIN.out
    obtain rfl : g = g' := some_blk hA9
    have y0 := (hbg9.cell (i * 4)).trans (hfy 0 (by omega)); have y1 := (hbg9.cell (i * 4 + 1)).trans (hfy 1 (by omega)); have y2 := (hbg9.cell (i * 4 + 2)).trans (hfy 2 (by omega)); have y3 := (hbg9.cell (i * 4 + 3)).trans (hfy 3 (by omega))
    have yf0 := hbg9.frozen (i * 4); have yf1 := hbg9.frozen (i * 4 + 1); have yf2 := hbg9.frozen (i * 4 + 2); have yf3 := hbg9.frozen (i * 4 + 3); have yl := hbg9.lt
    have hb4 := (set4a_blk (o := i * 4) hbg9 (.string (cT t).name) (.int .i64 (cT t).most) (.slice V9 vn9 vc9) (.slice G9 gn9 gc9)).far h129 (h129.ne hbg9 (by decide))
    have b40 := hb4.cell 0; have b41 := hb4.cell 1; have bf1 := hb4.frozen 1; have bl := hb4.lt
    clear own9 gr9 hn9 hc9 h99 hot9 hox9 hlog9 hA9 hfy hbg9 hb4
    refine hK__ _ _ HSL.out ?_
    clear hK__
    try simp only [Act.put, List.setIfInBounds_toArray]
    refine wpAnyT_takeW (i := 9) (v := ?_) rfl (by decide) (by kernel_rfl) (by kernel_rfl) (by kernel_rfl) (fun _ _ _ h => h) (.inl ⟨rfl, ?_⟩) (fun _ => HSL.out) ?_
    rotate_left
    · intro W__ _
      go_simp
      (try with_reducible rfl)
    try simp only [Act.put]
    refine wpAnyT_end (i := 10) rfl (by kernel_rfl) rfl (by kernel_rfl) fun K__ hK__ => ?_
    unfold Oper.wp
    go_simp
    refine hK__ _ _ ?_
    clear hK__
    try simp only [Act.put, List.setIfInBounds_toArray, List.set_cons_zero, List.set_cons_succ]
    refine wpAnyT_end (i := 11) rfl (by kernel_rfl) rfl (by kernel_rfl) fun K__ hK__ => ?_
    unfold Oper.wp
    go_simp
    refine hK__ _ _ ?_
    clear hK__
    try simp only [Act.put, List.setIfInBounds_toArray, List.set_cons_zero, List.set_cons_succ]
    refine wpAnyT_end (i := 12) rfl (by kernel_rfl) rfl (by kernel_rfl) fun K__ hK__ => ?_
    unfold Oper.wp
    go_simp
    refine hK__ _ _ ?_
    clear hK__
    refine wpAnyT_done (by kernel_rfl) ?_ _
    obtain ⟨e1, e2, e3, e4, e5⟩ := HEND.out
    have HE3 := Lib.hid e3; have HE4 := Lib.hid e4; have HE5 := Lib.hid e5
    have m0 := e1.cell 0; have m1 := e1.cell 1; have ml := e1.lt
    have q0 := e2.cell 0; have q1 := e2.cell 1; have f0 := e2.frozen 0; have f1 := e2.frozen 1; have ql := e2.lt
    clear e1 e2 e3 e4 e5 HEND y0 y1 y2 y3 yf0 yf1 yf2 yf3 b40 b41 bf1
    go_wp2
    have k0 := HE5.out.blk.cell 0; have k1 := HE5.out.blk.cell 1
    simp at k0 k1
    refine bodyPost_ret (v := .tuple #[.agg #[.slice (some ⟨g, 0, none⟩) tn tc', .slice A9 (ln + 1) c9], .int .i64 0]) (by simp [results, Tryz.results36, go_sem, k0, k1]) rfl ⟨.inr ⟨HE.out, i, t, _, rfl, HX.out, rfl, HE3.out⟩, HE4.out⟩
end Go.Proofs.YtbdkedjgfihamaaGreatDoor

namespace Go.Proofs.YtbdkedjgfihamaaGreatDoor
open Go.RowKit Pv Go.Maps
theorem StoV.lay {w W : World} {base b : Nat} {v z0 z1 : Value} {s : Sto} (h : StoV W base v s) (hb : Blk W b TSto #[z0, z1]) (hl : w.heap.size ≤ base) :
    ∃ T tn tc L ln lc, v = .agg #[.slice T tn tc, .slice L ln lc] ∧ StoV (set2 W b (.slice T tn tc) (.slice L ln lc)) w.heap.size (.agg #[.slice T tn tc, .slice L ln lc]) s := by
  obtain ⟨T, tn, tc, L, ln, lc, rfl, h1, h2⟩ := h
  refine ⟨T, tn, tc, L, ln, lc, rfl, T, tn, tc, L, ln, lc, rfl, ?_, ?_⟩
  · exact (OwnK.lower ((h1.setFar hb (by decide) 0 (.slice T tn tc)).setFar (hb.set 0 (.slice T tn tc)) (by decide) 1 (.slice L ln lc)) hl).monoR fun _ _ _ ho => ((ho.far (i := 0) (u := .slice T tn tc) hb (by decide) (by decide) (by decide)).far (i := 1) (u := .slice L ln lc) (hb.set 0 (.slice T tn tc)) (by decide) (by decide) (by decide)).lower hl
  · exact (OwnK.lower ((h2.setFar hb (by decide) 0 (.slice T tn tc)).setFar (hb.set 0 (.slice T tn tc)) (by decide) 1 (.slice L ln lc)) hl).monoR fun _ _ _ ho => ((ho.far (i := 0) (u := .slice T tn tc) hb (by decide)).far (i := 1) (u := .slice L ln lc) (hb.set 0 (.slice T tn tc)) (by decide)).lower hl
theorem TurnPost.cases {w w' : World} {e : Ending} {s : Sto} {p : Int} {id : ByteArray} {cE : Tab → Int} {cT : Tab → Tab} {E : Int} (hE : turnE s p cE = E) (h : TurnPost w w' e s p id cE cT) :
    ((E ≠ 0 ∧ e = .returned (.tuple #[zSto, .int .i64 E])) ∨ (E = 0 ∧ ∃ (i : Nat) (t : Tab) (v : Value), p = i ∧ s.tables[i]? = some t ∧ e = .returned (.tuple #[v, .int .i64 0]) ∧ StoV w' w.heap.size v (doneS s i t (cT t) id))) ∧ Below w.heap.size w w' := by
  subst hE; exact h
set_option maxHeartbeats 4000000 in
set_option maxRecDepth 100000 in
theorem undo_Put (B : Nat) (T L : Option Addr) (tn tc ln lc : Nat) (s : Sto) (p : Int) (D : Option Addr) (c m : Nat) (r : Rec) (w : World) (h : StoAt w T tn L ln s) (htc : tn ≤ tc) (hlc : ln ≤ lc) (hb : StoBd s) (hr : AtCel w D r.data) (HL : Hid (r.data.length = m)) (hmc : m ≤ c) (hri : r.id.size ≤ 140737488355328) (hs : CelsB r.data) (hT : TabS B w) (hB : B ≤ w.heap.size) :
    Calls Tryz.prog 7 #[.agg #[.slice T tn tc, .slice L ln lc], .int .i64 p, .agg #[.string r.id, .slice D m c]] w fun e w' => TurnPost w w' e s p r.id (fun t => putB t r) (fun t => t.put r) := by
  have hk0 : Below w.heap.size w (((w.alloc (.cells #[.slice T tn tc, .slice L ln lc] TSto)).alloc (.cells #[.string r.id, .slice D m c] TRe)).alloc (.cells #[.slice none 0 0, .slice none 0 0] TSto)) := (((Below.refl _ _).alloc (Nat.le_refl _) _).alloc (by simp) _).alloc (by simp; omega) _
  obtain ⟨b0, b1, b2⟩ := blk3 w #[.slice T tn tc, .slice L ln lc] #[.string r.id, .slice D m c] #[.slice none 0 0, .slice none 0 0] TSto TRe TSto
  have HVT := Lib.hid (verb_turn B 34 (w.heap.size + 1) (fun t => putB t r) (fun t => t.put r) r.id T L tn tc ln lc s p (((w.alloc (.cells #[.slice T tn tc, .slice L ln lc] TSto)).alloc (.cells #[.string r.id, .slice D m c] TRe)).alloc (.cells #[.slice none 0 0, .slice none 0 0] TSto)) (h.keep (Keep.of hk0)) htc hlc hb hri (fun _ _ => by kernel_rfl)
    (fun W U un uc R rn rc t k hta huc hrc hbd => do_Put B (w.heap.size + 1) U un uc R rn rc t D c m r W hta huc hrc (by rw [← hta.un.out]; exact hbd.un) hbd.rb (AtK.keep (R := RCel) hr (Keep.of (hk0.trans (k.mono hk0.size)))) HL hmc hri hs ((b1.below k b1.lt).cell 0) ((b1.below k b1.lt).cell 1) (Nat.lt_of_lt_of_le b1.lt k.size) (hT.next ((hk0.trans (k.mono hk0.size)).mono hB)) (Nat.le_trans hB (hk0.trans (k.mono hk0.size)).size)) (fun t => ⟨rfl, rfl⟩) (hT.next (hk0.mono hB)) (Nat.le_trans hB hk0.size))
  have HK0 := Lib.hid hk0; have HB0 := Lib.hid b0; have HB1 := Lib.hid b1; have HB2 := Lib.hid b2
  obtain ⟨E, hE⟩ : ∃ E, turnE s p (fun t => putB t r) = E := ⟨_, rfl⟩
  have HEE := Lib.hid hE
  clear h hb hr hs hT hk0 b0 b1 b2 hE
  go_enter Tryz.func7, Tryz.ntmps7
  go_wp2_with fail
  refine HVT.out.mono ?_
  rintro e w1 hres
  obtain ⟨hres, k⟩ := hres.cases HEE.out
  have HF := Lib.hid (HK0.out.trans (k.mono HK0.out.size))
  have hb1 := HB2.out.below k HB2.out.lt
  have q0 := hb1.cell 0; have q1 := hb1.cell 1; have f0 := hb1.frozen 0; have f1 := hb1.frozen 1; have ql := hb1.lt
  have HBB := Lib.hid hb1
  clear k hb1
  rcases hres with ⟨hne, rfl⟩ | ⟨he0, i, t, v, hp, hi, rfl, hv⟩
  · have HN := Lib.hid hne
    have HRS := Lib.hid (set2_blk HBB.out (.slice none 0 0) (.slice none 0 0))
    clear hne
    go_wp2
    have k0 := HRS.out.blk.cell 0; have k1 := HRS.out.blk.cell 1
    simp at k0 k1
    refine bodyPost_ret (v := .tuple #[zSto, .int .i64 E]) (by simp [results, Tryz.results7, go_sem, k0, k1]) rfl (TurnPost.no HEE.out HN.out (HRS.out.below HF.out (by omega)))
  · obtain ⟨T', tn', tc', L', ln', lc', rfl, hv2⟩ := hv.lay (w := w) HBB.out HK0.out.size
    have HV := Lib.hid hv2; have HN := Lib.hid he0; have HP := Lib.hid hp; have HI := Lib.hid hi
    have HRS := Lib.hid (set2_blk HBB.out (.slice T' tn' tc') (.slice L' ln' lc'))
    clear hv hv2 he0 hp hi
    go_wp2
    have k0 := HRS.out.blk.cell 0; have k1 := HRS.out.blk.cell 1
    simp at k0 k1
    refine bodyPost_ret (v := .tuple #[.agg #[.slice T' tn' tc', .slice L' ln' lc'], .int .i64 0]) (by simp [results, Tryz.results7, go_sem, k0, k1]) rfl ⟨.inr ⟨HEE.out.trans HN.out, i, t, _, HP.out, HI.out, rfl, HV.out⟩, HRS.out.below HF.out (by omega)⟩
set_option maxHeartbeats 4000000 in
set_option maxRecDepth 100000 in
theorem undo_Set (B : Nat) (T L : Option Addr) (tn tc ln lc : Nat) (s : Sto) (p : Int) (D : Option Addr) (c m : Nat) (r : Rec) (w : World) (h : StoAt w T tn L ln s) (htc : tn ≤ tc) (hlc : ln ≤ lc) (hb : StoBd s) (hr : AtCel w D r.data) (HL : Hid (r.data.length = m)) (hmc : m ≤ c) (hri : r.id.size ≤ 140737488355328) (hs : CelsB r.data) (hT : TabS B w) (hB : B ≤ w.heap.size) :
    Calls Tryz.prog 23 #[.agg #[.slice T tn tc, .slice L ln lc], .int .i64 p, .agg #[.string r.id, .slice D m c]] w fun e w' => TurnPost w w' e s p r.id (fun t => setE t r) (fun t => t.set r) := by
  have hk0 : Below w.heap.size w (((w.alloc (.cells #[.slice T tn tc, .slice L ln lc] TSto)).alloc (.cells #[.string r.id, .slice D m c] TRe)).alloc (.cells #[.slice none 0 0, .slice none 0 0] TSto)) := (((Below.refl _ _).alloc (Nat.le_refl _) _).alloc (by simp) _).alloc (by simp; omega) _
  obtain ⟨b0, b1, b2⟩ := blk3 w #[.slice T tn tc, .slice L ln lc] #[.string r.id, .slice D m c] #[.slice none 0 0, .slice none 0 0] TSto TRe TSto
  have HVT := Lib.hid (verb_turn B 52 (w.heap.size + 1) (fun t => setE t r) (fun t => t.set r) r.id T L tn tc ln lc s p (((w.alloc (.cells #[.slice T tn tc, .slice L ln lc] TSto)).alloc (.cells #[.string r.id, .slice D m c] TRe)).alloc (.cells #[.slice none 0 0, .slice none 0 0] TSto)) (h.keep (Keep.of hk0)) htc hlc hb hri (fun _ _ => by kernel_rfl)
    (fun W U un uc R rn rc t k hta huc hrc hbd => do_Set B (w.heap.size + 1) U un uc R rn rc t D c m r W hta huc hrc (by rw [← hta.un.out]; exact hbd.un) hbd.rb (AtK.keep (R := RCel) hr (Keep.of (hk0.trans (k.mono hk0.size)))) HL hmc hri hs ((b1.below k b1.lt).cell 0) ((b1.below k b1.lt).cell 1) (Nat.lt_of_lt_of_le b1.lt k.size) (hT.next ((hk0.trans (k.mono hk0.size)).mono hB)) (Nat.le_trans hB (hk0.trans (k.mono hk0.size)).size)) (fun t => ⟨rfl, rfl⟩) (hT.next (hk0.mono hB)) (Nat.le_trans hB hk0.size))
  have HK0 := Lib.hid hk0; have HB0 := Lib.hid b0; have HB1 := Lib.hid b1; have HB2 := Lib.hid b2
  obtain ⟨E, hE⟩ : ∃ E, turnE s p (fun t => setE t r) = E := ⟨_, rfl⟩
  have HEE := Lib.hid hE
  clear h hb hr hs hT hk0 b0 b1 b2 hE
  go_enter Tryz.func23, Tryz.ntmps23
  go_wp2_with fail
  refine HVT.out.mono ?_
  rintro e w1 hres
  obtain ⟨hres, k⟩ := hres.cases HEE.out
  have HF := Lib.hid (HK0.out.trans (k.mono HK0.out.size))
  have hb1 := HB2.out.below k HB2.out.lt
  have q0 := hb1.cell 0; have q1 := hb1.cell 1; have f0 := hb1.frozen 0; have f1 := hb1.frozen 1; have ql := hb1.lt
  have HBB := Lib.hid hb1
  clear k hb1
  rcases hres with ⟨hne, rfl⟩ | ⟨he0, i, t, v, hp, hi, rfl, hv⟩
  · have HN := Lib.hid hne
    have HRS := Lib.hid (set2_blk HBB.out (.slice none 0 0) (.slice none 0 0))
    clear hne
    go_wp2
    have k0 := HRS.out.blk.cell 0; have k1 := HRS.out.blk.cell 1
    simp at k0 k1
    refine bodyPost_ret (v := .tuple #[zSto, .int .i64 E]) (by simp [results, Tryz.results23, go_sem, k0, k1]) rfl (TurnPost.no HEE.out HN.out (HRS.out.below HF.out (by omega)))
  · obtain ⟨T', tn', tc', L', ln', lc', rfl, hv2⟩ := hv.lay (w := w) HBB.out HK0.out.size
    have HV := Lib.hid hv2; have HN := Lib.hid he0; have HP := Lib.hid hp; have HI := Lib.hid hi
    have HRS := Lib.hid (set2_blk HBB.out (.slice T' tn' tc') (.slice L' ln' lc'))
    clear hv hv2 he0 hp hi
    go_wp2
    have k0 := HRS.out.blk.cell 0; have k1 := HRS.out.blk.cell 1
    simp at k0 k1
    refine bodyPost_ret (v := .tuple #[.agg #[.slice T' tn' tc', .slice L' ln' lc'], .int .i64 0]) (by simp [results, Tryz.results23, go_sem, k0, k1]) rfl ⟨.inr ⟨HEE.out.trans HN.out, i, t, _, HP.out, HI.out, rfl, HV.out⟩, HRS.out.below HF.out (by omega)⟩
set_option maxHeartbeats 4000000 in
set_option maxRecDepth 100000 in
theorem undo_Drop (B : Nat) (T L : Option Addr) (tn tc ln lc : Nat) (s : Sto) (p : Int) (id : ByteArray) (w : World) (h : StoAt w T tn L ln s) (htc : tn ≤ tc) (hlc : ln ≤ lc) (hb : StoBd s) (hri : id.size ≤ 140737488355328) (hT : TabS B w) (hB : B ≤ w.heap.size) :
    Calls Tryz.prog 10 #[.agg #[.slice T tn tc, .slice L ln lc], .int .i64 p, .string id] w fun e w' => TurnPost w w' e s p id (fun t => dropB t id) (fun t => t.drop id) := by
  have hk0 : Below w.heap.size w (((w.alloc (.cells #[.slice T tn tc, .slice L ln lc] TSto)).alloc (.cells #[.string id] TSt)).alloc (.cells #[.slice none 0 0, .slice none 0 0] TSto)) := (((Below.refl _ _).alloc (Nat.le_refl _) _).alloc (by simp) _).alloc (by simp; omega) _
  obtain ⟨b0, b1, b2⟩ := blk3 w #[.slice T tn tc, .slice L ln lc] #[.string id] #[.slice none 0 0, .slice none 0 0] TSto TSt TSto
  have HVT := Lib.hid (verb_turn B 38 (w.heap.size + 1) (fun t => dropB t id) (fun t => t.drop id) id T L tn tc ln lc s p (((w.alloc (.cells #[.slice T tn tc, .slice L ln lc] TSto)).alloc (.cells #[.string id] TSt)).alloc (.cells #[.slice none 0 0, .slice none 0 0] TSto)) (h.keep (Keep.of hk0)) htc hlc hb hri (fun _ _ => by kernel_rfl)
    (fun W U un uc R rn rc t k hta huc hrc hbd => do_Drop B (w.heap.size + 1) U un uc R rn rc t id W hta huc hrc (by rw [← hta.un.out]; exact hbd.un) hbd.rb ((b1.below k b1.lt).cell 0) (Nat.lt_of_lt_of_le b1.lt k.size) (hT.next ((hk0.trans (k.mono hk0.size)).mono hB)) (Nat.le_trans hB (hk0.trans (k.mono hk0.size)).size)) (fun t => ⟨rfl, rfl⟩) (hT.next (hk0.mono hB)) (Nat.le_trans hB hk0.size))
  have HK0 := Lib.hid hk0; have HB0 := Lib.hid b0; have HB1 := Lib.hid b1; have HB2 := Lib.hid b2
  obtain ⟨E, hE⟩ : ∃ E, turnE s p (fun t => dropB t id) = E := ⟨_, rfl⟩
  have HEE := Lib.hid hE
  clear h hb hT hk0 b0 b1 b2 hE
  go_enter Tryz.func10, Tryz.ntmps10
  go_wp2_with fail
  refine HVT.out.mono ?_
  rintro e w1 hres
  obtain ⟨hres, k⟩ := hres.cases HEE.out
  have HF := Lib.hid (HK0.out.trans (k.mono HK0.out.size))
  have hb1 := HB2.out.below k HB2.out.lt
  have q0 := hb1.cell 0; have q1 := hb1.cell 1; have f0 := hb1.frozen 0; have f1 := hb1.frozen 1; have ql := hb1.lt
  have HBB := Lib.hid hb1
  clear k hb1
  rcases hres with ⟨hne, rfl⟩ | ⟨he0, i, t, v, hp, hi, rfl, hv⟩
  · have HN := Lib.hid hne
    have HRS := Lib.hid (set2_blk HBB.out (.slice none 0 0) (.slice none 0 0))
    clear hne
    go_wp2
    have k0 := HRS.out.blk.cell 0; have k1 := HRS.out.blk.cell 1
    simp at k0 k1
    refine bodyPost_ret (v := .tuple #[zSto, .int .i64 E]) (by simp [results, Tryz.results10, go_sem, k0, k1]) rfl (TurnPost.no HEE.out HN.out (HRS.out.below HF.out (by omega)))
  · obtain ⟨T', tn', tc', L', ln', lc', rfl, hv2⟩ := hv.lay (w := w) HBB.out HK0.out.size
    have HV := Lib.hid hv2; have HN := Lib.hid he0; have HP := Lib.hid hp; have HI := Lib.hid hi
    have HRS := Lib.hid (set2_blk HBB.out (.slice T' tn' tc') (.slice L' ln' lc'))
    clear hv hv2 he0 hp hi
    go_wp2
    have k0 := HRS.out.blk.cell 0; have k1 := HRS.out.blk.cell 1
    simp at k0 k1
    refine bodyPost_ret (v := .tuple #[.agg #[.slice T' tn' tc', .slice L' ln' lc'], .int .i64 0]) (by simp [results, Tryz.results10, go_sem, k0, k1]) rfl ⟨.inr ⟨HEE.out.trans HN.out, i, t, _, HP.out, HI.out, rfl, HV.out⟩, HRS.out.below HF.out (by omega)⟩
end Go.Proofs.YtbdkedjgfihamaaGreatDoor
