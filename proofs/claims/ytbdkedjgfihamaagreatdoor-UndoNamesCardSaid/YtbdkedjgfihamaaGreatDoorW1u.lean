/- Walks: what the verbs do, as closures. PUT1 -/
import Derived.Test.YtbdkedjgfihamaaGreatDoorV55u
namespace Go.Proofs.YtbdkedjgfihamaaGreatDoor
open Go.RowKit Pv Go.Maps
theorem TabV.lay {w W0 W : World} {v : Value} {t : Tab} (h : TabV W0 W v t) {b : Nat} {z0 z1 z2 z3 : Value} (hb : Blk W b TTb #[z0, z1, z2, z3]) (hl : w.heap.size ≤ W0.heap.size) :
    ∃ V vn vc G gn gc, v = .agg #[.string t.name, .int .i64 t.most, .slice V vn vc, .slice G gn gc] ∧ TabV w (set4 W b (.string t.name) (.int .i64 t.most) (.slice V vn vc) (.slice G gn gc)) v t := by
  obtain ⟨V, vn, vc, G, gn, gc, rfl, h1, h2⟩ := h
  have a1 := hb.set 0 (.string t.name); have a2 := a1.set 1 (.int .i64 t.most); have a3 := a2.set 2 (.slice V vn vc)
  refine ⟨V, vn, vc, G, gn, gc, rfl, V, vn, vc, G, gn, gc, rfl, Own.lowerS ((((h1.setFar hb (by decide) _ _).setFar a1 (by decide) _ _).setFar a2 (by decide) _ _).setFar a3 (by decide) _ _) hl, ?_⟩
  exact (OwnK.lower ((((h2.setFar hb (by decide) _ _).setFar a1 (by decide) _ _).setFar a2 (by decide) _ _).setFar a3 (by decide) _ _) hl).monoR fun _ _ _ ho => (((((ho.far hb (by decide)).far a1 (by decide)).far a2 (by decide)).far a3 (by decide))).lower hl
/-- What a verb does with a table: the errors, and the tables. -/
def DoPost (W w' : World) (e : Ending) (E : Int) (t : Tab) : Prop := ((E ≠ 0 ∧ e = .returned (.tuple #[zTab, .int .i64 E])) ∨ (E = 0 ∧ ∃ v, e = .returned (.tuple #[v, .int .i64 0]) ∧ TabV W w' v t)) ∧ Below W.heap.size W w'
set_option maxHeartbeats 4000000 in
set_option maxRecDepth 100000 in
theorem do_Put (B rb : Nat) (U : Option Addr) (un uc : Nat) (R : Option Addr) (rn rc : Nat) (t : Tab) (D : Option Addr) (c m : Nat) (r : Rec) (W : World) (ht : TabAt W U un R rn t) (huc : un ≤ uc) (hrc : rn ≤ rc) (hun : un ≤ 100000) (hrb : RowsB t.rows) (h : AtCel W D r.data) (HL : Hid (r.data.length = m)) (hmc : m ≤ c) (hri : r.id.size ≤ 140737488355328) (hs : CelsB r.data) (h0 : W.cell? ⟨rb, 0, none⟩ = some (.string r.id)) (h1 : W.cell? ⟨rb, 1, none⟩ = some (.slice D m c)) (hl : rb < W.heap.size) (hT : TabS B W) (hB : B ≤ W.heap.size) :
    Calls Tryz.prog 34 #[.agg #[.string t.name, .int .i64 t.most, .slice U un uc, .slice R rn rc], .pointer (some ⟨rb, 0, none⟩)] W fun e w' => DoPost W w' e (putB t r) (t.put r) := by
  have hk0 : Below W.heap.size W ((W.alloc (.cells #[.string t.name, .int .i64 t.most, .slice U un uc, .slice R rn rc] TTb)).alloc (.cells #[.string ⟨#[]⟩, .int .i64 0, .slice none 0 0, .slice none 0 0] TTb)) := ((Below.refl _ _).alloc (Nat.le_refl _) _).alloc (by simp) _
  have HB1 := Lib.hid (blkV2 W TTb TTb #[.string t.name, .int .i64 t.most, .slice U un uc, .slice R rn rc] #[.string ⟨#[]⟩, .int .i64 0, .slice none 0 0, .slice none 0 0])
  have HP := Lib.hid (table_Put B U un uc R rn rc t D c m r _ (ht.keep (Keep.of hk0)) huc hrc hun hrb (AtK.keep (R := RCel) h (Keep.of hk0)) HL hmc hri hs (hT.next (hk0.mono hB)) (by have := hk0.size; omega))
  have HK0 := Lib.hid hk0
  have hl1 : rb < W.heap.size + 1 := by omega
  obtain ⟨E, hE⟩ : ∃ E, putB t r = E := ⟨_, rfl⟩
  obtain ⟨tt, htt⟩ : ∃ tt, t.put r = tt := ⟨_, rfl⟩
  have HP : Hid (Calls Tryz.prog 35 #[.agg #[.string t.name, .int .i64 t.most, .slice U un uc, .slice R rn rc], .agg #[.string r.id, .slice D m c]] ((W.alloc (.cells #[.string t.name, .int .i64 t.most, .slice U un uc, .slice R rn rc] TTb)).alloc (.cells #[.string ⟨#[]⟩, .int .i64 0, .slice none 0 0, .slice none 0 0] TTb)) fun e w' => DoPost ((W.alloc (.cells #[.string t.name, .int .i64 t.most, .slice U un uc, .slice R rn rc] TTb)).alloc (.cells #[.string ⟨#[]⟩, .int .i64 0, .slice none 0 0, .slice none 0 0] TTb)) w' e E tt) := Lib.hid (by have h := HP.out; unfold DoPost; rw [← hE, ← htt]; exact h)
  rw [hE, htt]
  clear ht hrb h hs hT hk0 hE htt
  go_enter Tryz.func34, Tryz.ntmps34
  go_wp2_with fail
  refine HP.out.mono ?_
  rintro e w1 ⟨hres, k⟩
  have HF := Lib.hid (HK0.out.trans (k.mono HK0.out.size))
  have hb1 := HB1.out.below k HB1.out.lt
  have q0 := hb1.cell 0; have q1 := hb1.cell 1; have q2 := hb1.cell 2; have q3 := hb1.cell 3; have f0 := hb1.frozen 0; have f1 := hb1.frozen 1; have f2 := hb1.frozen 2; have f3 := hb1.frozen 3; have ql := hb1.lt
  have HBB := Lib.hid hb1
  clear k hb1
  rcases hres with ⟨hne, rfl⟩ | ⟨he0, v, rfl, hv⟩
  · have HN := Lib.hid hne
    have HRS := Lib.hid (set4_blk HBB.out (.string ⟨#[]⟩) (.int .i64 0) (.slice none 0 0) (.slice none 0 0))
    clear hne
    go_wp2
    have k0 := HRS.out.blk.cell 0; have k1 := HRS.out.blk.cell 1; have k2 := HRS.out.blk.cell 2; have k3 := HRS.out.blk.cell 3
    simp at k0 k1 k2 k3
    refine bodyPost_ret (v := .tuple #[zTab, .int .i64 E]) (by simp [results, Tryz.results34, go_sem, k0, k1, k2, k3]) rfl ⟨.inl ⟨HN.out, rfl⟩, HRS.out.below HF.out (by omega)⟩
  · obtain ⟨V, vn, vc, G, gn, gc, rfl, hv2⟩ := hv.lay (w := W) HBB.out HK0.out.size
    have HV := Lib.hid hv2; have HN := Lib.hid he0
    have HRS := Lib.hid (set4_blk HBB.out (.string tt.name) (.int .i64 tt.most) (.slice V vn vc) (.slice G gn gc))
    clear hv hv2 he0
    go_wp2
    have k0 := HRS.out.blk.cell 0; have k1 := HRS.out.blk.cell 1; have k2 := HRS.out.blk.cell 2; have k3 := HRS.out.blk.cell 3
    simp at k0 k1 k2 k3
    refine bodyPost_ret (v := .tuple #[.agg #[.string tt.name, .int .i64 tt.most, .slice V vn vc, .slice G gn gc], .int .i64 0]) (by simp [results, Tryz.results34, go_sem, k0, k1, k2, k3]) rfl ⟨.inr ⟨HN.out, _, rfl, HV.out⟩, HRS.out.below HF.out (by omega)⟩
set_option maxHeartbeats 4000000 in
set_option maxRecDepth 100000 in
theorem do_Set (B rb : Nat) (U : Option Addr) (un uc : Nat) (R : Option Addr) (rn rc : Nat) (t : Tab) (D : Option Addr) (c m : Nat) (r : Rec) (W : World) (ht : TabAt W U un R rn t) (huc : un ≤ uc) (hrc : rn ≤ rc) (hun : un ≤ 100000) (hrb : RowsB t.rows) (h : AtCel W D r.data) (HL : Hid (r.data.length = m)) (hmc : m ≤ c) (hri : r.id.size ≤ 140737488355328) (hs : CelsB r.data) (h0 : W.cell? ⟨rb, 0, none⟩ = some (.string r.id)) (h1 : W.cell? ⟨rb, 1, none⟩ = some (.slice D m c)) (hl : rb < W.heap.size) (hT : TabS B W) (hB : B ≤ W.heap.size) :
    Calls Tryz.prog 52 #[.agg #[.string t.name, .int .i64 t.most, .slice U un uc, .slice R rn rc], .pointer (some ⟨rb, 0, none⟩)] W fun e w' => DoPost W w' e (setE t r) (t.set r) := by
  have hk0 : Below W.heap.size W ((W.alloc (.cells #[.string t.name, .int .i64 t.most, .slice U un uc, .slice R rn rc] TTb)).alloc (.cells #[.string ⟨#[]⟩, .int .i64 0, .slice none 0 0, .slice none 0 0] TTb)) := ((Below.refl _ _).alloc (Nat.le_refl _) _).alloc (by simp) _
  have HB1 := Lib.hid (blkV2 W TTb TTb #[.string t.name, .int .i64 t.most, .slice U un uc, .slice R rn rc] #[.string ⟨#[]⟩, .int .i64 0, .slice none 0 0, .slice none 0 0])
  have HP := Lib.hid (table_Set B U un uc R rn rc t D c m r _ (ht.keep (Keep.of hk0)) huc hrc hun hrb (AtK.keep (R := RCel) h (Keep.of hk0)) HL hmc hri hs (hT.next (hk0.mono hB)) (by have := hk0.size; omega))
  have HK0 := Lib.hid hk0
  have hl1 : rb < W.heap.size + 1 := by omega
  obtain ⟨E, hE⟩ : ∃ E, setE t r = E := ⟨_, rfl⟩
  obtain ⟨tt, htt⟩ : ∃ tt, t.set r = tt := ⟨_, rfl⟩
  have HP : Hid (Calls Tryz.prog 53 #[.agg #[.string t.name, .int .i64 t.most, .slice U un uc, .slice R rn rc], .agg #[.string r.id, .slice D m c]] ((W.alloc (.cells #[.string t.name, .int .i64 t.most, .slice U un uc, .slice R rn rc] TTb)).alloc (.cells #[.string ⟨#[]⟩, .int .i64 0, .slice none 0 0, .slice none 0 0] TTb)) fun e w' => DoPost ((W.alloc (.cells #[.string t.name, .int .i64 t.most, .slice U un uc, .slice R rn rc] TTb)).alloc (.cells #[.string ⟨#[]⟩, .int .i64 0, .slice none 0 0, .slice none 0 0] TTb)) w' e E tt) := Lib.hid (by have h := HP.out; unfold DoPost; rw [← hE, ← htt]; exact h)
  rw [hE, htt]
  clear ht hrb h hs hT hk0 hE htt
  go_enter Tryz.func52, Tryz.ntmps52
  go_wp2_with fail
  refine HP.out.mono ?_
  rintro e w1 ⟨hres, k⟩
  have HF := Lib.hid (HK0.out.trans (k.mono HK0.out.size))
  have hb1 := HB1.out.below k HB1.out.lt
  have q0 := hb1.cell 0; have q1 := hb1.cell 1; have q2 := hb1.cell 2; have q3 := hb1.cell 3; have f0 := hb1.frozen 0; have f1 := hb1.frozen 1; have f2 := hb1.frozen 2; have f3 := hb1.frozen 3; have ql := hb1.lt
  have HBB := Lib.hid hb1
  clear k hb1
  rcases hres with ⟨hne, rfl⟩ | ⟨he0, v, rfl, hv⟩
  · have HN := Lib.hid hne
    have HRS := Lib.hid (set4_blk HBB.out (.string ⟨#[]⟩) (.int .i64 0) (.slice none 0 0) (.slice none 0 0))
    clear hne
    go_wp2
    have k0 := HRS.out.blk.cell 0; have k1 := HRS.out.blk.cell 1; have k2 := HRS.out.blk.cell 2; have k3 := HRS.out.blk.cell 3
    simp at k0 k1 k2 k3
    refine bodyPost_ret (v := .tuple #[zTab, .int .i64 E]) (by simp [results, Tryz.results52, go_sem, k0, k1, k2, k3]) rfl ⟨.inl ⟨HN.out, rfl⟩, HRS.out.below HF.out (by omega)⟩
  · obtain ⟨V, vn, vc, G, gn, gc, rfl, hv2⟩ := hv.lay (w := W) HBB.out HK0.out.size
    have HV := Lib.hid hv2; have HN := Lib.hid he0
    have HRS := Lib.hid (set4_blk HBB.out (.string tt.name) (.int .i64 tt.most) (.slice V vn vc) (.slice G gn gc))
    clear hv hv2 he0
    go_wp2
    have k0 := HRS.out.blk.cell 0; have k1 := HRS.out.blk.cell 1; have k2 := HRS.out.blk.cell 2; have k3 := HRS.out.blk.cell 3
    simp at k0 k1 k2 k3
    refine bodyPost_ret (v := .tuple #[.agg #[.string tt.name, .int .i64 tt.most, .slice V vn vc, .slice G gn gc], .int .i64 0]) (by simp [results, Tryz.results52, go_sem, k0, k1, k2, k3]) rfl ⟨.inr ⟨HN.out, _, rfl, HV.out⟩, HRS.out.below HF.out (by omega)⟩
set_option maxHeartbeats 4000000 in
set_option maxRecDepth 100000 in
theorem do_Drop (B rb : Nat) (U : Option Addr) (un uc : Nat) (R : Option Addr) (rn rc : Nat) (t : Tab) (id : ByteArray) (W : World) (ht : TabAt W U un R rn t) (huc : un ≤ uc) (hrc : rn ≤ rc) (hun : un ≤ 100000) (hrb : RowsB t.rows) (h0 : W.cell? ⟨rb, 0, none⟩ = some (.string id)) (hl : rb < W.heap.size) (hT : TabS B W) (hB : B ≤ W.heap.size) :
    Calls Tryz.prog 38 #[.agg #[.string t.name, .int .i64 t.most, .slice U un uc, .slice R rn rc], .pointer (some ⟨rb, 0, none⟩)] W fun e w' => DoPost W w' e (dropB t id) (t.drop id) := by
  have hk0 : Below W.heap.size W ((W.alloc (.cells #[.string t.name, .int .i64 t.most, .slice U un uc, .slice R rn rc] TTb)).alloc (.cells #[.string ⟨#[]⟩, .int .i64 0, .slice none 0 0, .slice none 0 0] TTb)) := ((Below.refl _ _).alloc (Nat.le_refl _) _).alloc (by simp) _
  have HB1 := Lib.hid (blkV2 W TTb TTb #[.string t.name, .int .i64 t.most, .slice U un uc, .slice R rn rc] #[.string ⟨#[]⟩, .int .i64 0, .slice none 0 0, .slice none 0 0])
  have HP := Lib.hid (table_Drop B U un uc R rn rc t id _ (ht.keep (Keep.of hk0)) huc hrc hun hrb (hT.next (hk0.mono hB)) (by have := hk0.size; omega))
  have HK0 := Lib.hid hk0
  have hl1 : rb < W.heap.size + 1 := by omega
  obtain ⟨E, hE⟩ : ∃ E, dropB t id = E := ⟨_, rfl⟩
  obtain ⟨tt, htt⟩ : ∃ tt, t.drop id = tt := ⟨_, rfl⟩
  have HP : Hid (Calls Tryz.prog 39 #[.agg #[.string t.name, .int .i64 t.most, .slice U un uc, .slice R rn rc], .string id] ((W.alloc (.cells #[.string t.name, .int .i64 t.most, .slice U un uc, .slice R rn rc] TTb)).alloc (.cells #[.string ⟨#[]⟩, .int .i64 0, .slice none 0 0, .slice none 0 0] TTb)) fun e w' => DoPost ((W.alloc (.cells #[.string t.name, .int .i64 t.most, .slice U un uc, .slice R rn rc] TTb)).alloc (.cells #[.string ⟨#[]⟩, .int .i64 0, .slice none 0 0, .slice none 0 0] TTb)) w' e E tt) := Lib.hid (by have h := HP.out; unfold DoPost; rw [← hE, ← htt]; exact h)
  rw [hE, htt]
  clear ht hrb hT hk0 hE htt
  go_enter Tryz.func38, Tryz.ntmps38
  go_wp2_with fail
  refine HP.out.mono ?_
  rintro e w1 ⟨hres, k⟩
  have HF := Lib.hid (HK0.out.trans (k.mono HK0.out.size))
  have hb1 := HB1.out.below k HB1.out.lt
  have q0 := hb1.cell 0; have q1 := hb1.cell 1; have q2 := hb1.cell 2; have q3 := hb1.cell 3; have f0 := hb1.frozen 0; have f1 := hb1.frozen 1; have f2 := hb1.frozen 2; have f3 := hb1.frozen 3; have ql := hb1.lt
  have HBB := Lib.hid hb1
  clear k hb1
  rcases hres with ⟨hne, rfl⟩ | ⟨he0, v, rfl, hv⟩
  · have HN := Lib.hid hne
    have HRS := Lib.hid (set4_blk HBB.out (.string ⟨#[]⟩) (.int .i64 0) (.slice none 0 0) (.slice none 0 0))
    clear hne
    go_wp2
    have k0 := HRS.out.blk.cell 0; have k1 := HRS.out.blk.cell 1; have k2 := HRS.out.blk.cell 2; have k3 := HRS.out.blk.cell 3
    simp at k0 k1 k2 k3
    refine bodyPost_ret (v := .tuple #[zTab, .int .i64 E]) (by simp [results, Tryz.results38, go_sem, k0, k1, k2, k3]) rfl ⟨.inl ⟨HN.out, rfl⟩, HRS.out.below HF.out (by omega)⟩
  · obtain ⟨V, vn, vc, G, gn, gc, rfl, hv2⟩ := hv.lay (w := W) HBB.out HK0.out.size
    have HV := Lib.hid hv2; have HN := Lib.hid he0
    have HRS := Lib.hid (set4_blk HBB.out (.string tt.name) (.int .i64 tt.most) (.slice V vn vc) (.slice G gn gc))
    clear hv hv2 he0
    go_wp2
    have k0 := HRS.out.blk.cell 0; have k1 := HRS.out.blk.cell 1; have k2 := HRS.out.blk.cell 2; have k3 := HRS.out.blk.cell 3
    simp at k0 k1 k2 k3
    refine bodyPost_ret (v := .tuple #[.agg #[.string tt.name, .int .i64 tt.most, .slice V vn vc, .slice G gn gc], .int .i64 0]) (by simp [results, Tryz.results38, go_sem, k0, k1, k2, k3]) rfl ⟨.inr ⟨HN.out, _, rfl, HV.out⟩, HRS.out.below HF.out (by omega)⟩
end Go.Proofs.YtbdkedjgfihamaaGreatDoor

namespace Pv
open Go Go.RowKit
theorem wasR_at {t : Tab} {id : ByteArray} (h : RiseR t.rows) {x : Rec} (hx : t.rows[atR t.rows id]? = some x) (hid : x.id = id) : wasR t id = (x, true) := by
  obtain ⟨r, h1, h2, h3⟩ := wasR_yes (t := t) (id := id) (hasR_iff.2 ⟨x, mem_of_get hx, hid⟩)
  rw [h3]
  obtain ⟨j, hj⟩ := List.getElem?_of_mem h1
  rcases Nat.lt_trichotomy j (atR t.rows id) with hlt | heq | hgt
  · have := rise_lt h hj hx hlt
    rw [h2, hid, ltS_irr] at this; cases this
  · subst heq
    rw [hx] at hj
    rw [Option.some.inj hj]
  · have := rise_lt h hx hj hgt
    rw [h2, hid, ltS_irr] at this; cases this
end Pv
namespace Go.Proofs.YtbdkedjgfihamaaGreatDoor
open Go.RowKit Pv Go.Maps
theorem get_was (B : Nat) (U : Option Addr) (un uc : Nat) (R : Option Addr) (rn rc : Nat) (t : Tab) (id : ByteArray) (w : World) (hok : TabOk t) (ht : TabAt w U un R rn t) (huc : un ≤ uc) (hrc : rn ≤ rc) (hun : un ≤ 100000) (hrb : RowsB t.rows) (hT : TabS B w) (hB : B ≤ w.heap.size) :
    Calls Tryz.prog 71 #[.agg #[.string t.name, .int .i64 t.most, .slice U un uc, .slice R rn rc], .string id] w fun e w' =>
      ∃ A n c, e = .returned (.tuple #[.agg #[.string (wasR t id).1.id, .slice A n c], .bool (wasR t id).2]) ∧ OwnC w' w.heap.size (.slice A n c) (wasR t id).1.data ∧ Below w.heap.size w w' := by
  refine (table_Get B U un uc R rn rc t id w ht huc hrc hun hrb hT hB).mono ?_
  rintro e w' ⟨⟨hn, rfl⟩ | ⟨x, g, n, _, hx, hid, rfl, ho⟩, k⟩
  · have hno : hasR t.rows id = false := by cases h : hasR t.rows id with | false => rfl | true => exact absurd ⟨hok, h⟩ hn
    rw [wasR_no hno]
    exact ⟨none, 0, 0, rfl, OwnK.nil, k⟩
  · rw [wasR_at hok.rise hx hid]
    exact ⟨some ⟨g, 0, none⟩, n, n, rfl, ho, k⟩
end Go.Proofs.YtbdkedjgfihamaaGreatDoor
