/- Walks: undo.each at tables: all copied. PUT1 -/
import Derived.Test.YtbdkedjgfihamaaGreatDoorV45u
import Derived.Test.YtbdkedjgfihamaaGreatDoorV38u
namespace Pv
open Go Go.RowKit
theorem ORec.grown {w w' : World} {base : Nat} {tc : TypeId} {f : Nat → Value} {x : Rec} (h : ORec w base tc f x) {b' : Nat} {e' : TypeId} {s' n' : Nat} {v' : Value} {us' : List Value} (h' : w.ownsRow b' e' s' v' n' us') (h1 : tc ≠ e') (hg : w.grownBy w' v'.ownBlock) : ORec w' base tc f x := ⟨h.1, OwnK.grown h.2 h' h1 hg⟩
theorem OTab.grown {w w' : World} {base : Nat} {tc tr ts : TypeId} {f : Nat → Value} {x : Tab} (h : OTab w base tc tr ts f x) {b' : Nat} {e' : TypeId} {s' n' : Nat} {v' : Value} {us' : List Value} (h' : w.ownsRow b' e' s' v' n' us') (h1 : tc ≠ e') (h2 : tr ≠ e') (h3 : ts ≠ e') (hg : w.grownBy w' v'.ownBlock) : OTab w' base tc tr ts f x :=
  ⟨h.1, h.2, Own.grown h.3 h' h3 hg, (OwnK.grown h.4 h' h2 hg).monoR fun _ _ _ ho => ho.grown h' h1 hg⟩
theorem OChg.grown {w w' : World} {base : Nat} {tc : TypeId} {f : Nat → Value} {x : Chg} (h : OChg w base tc f x) {b' : Nat} {e' : TypeId} {s' n' : Nat} {v' : Value} {us' : List Value} (h' : w.ownsRow b' e' s' v' n' us') (h1 : tc ≠ e') (hg : w.grownBy w' v'.ownBlock) : OChg w' base tc f x := ⟨h.1, h.2, h.3, h.4, OwnK.grown h.5 h' h1 hg⟩
theorem Src.blk {w : World} {g k : Nat} {t : TypeId} {cs : Array Value} (h : Blk w g t cs) (hk : cs.size = k) (h1 : ∀ u ∈ cs.toList, u.oneCell' = true) : Pv.Src w (some ⟨g, 0, none⟩) k 1 cs.toList :=
  ⟨by rw [Array.length_toList, hk, Nat.one_mul], h1, fun _ => ⟨g, 0, rfl, h.lt, fun j u hu => by rw [Nat.zero_add, h.cell, ← Array.getElem?_toList]; exact hu⟩⟩
/-- What a store's tables, records are at most. -/
structure TabBd (t : Tab) : Prop where
  un : t.uniques.length ≤ 100000
  rn : t.rows.length ≤ 100000
  rb : ∀ r, r ∈ t.rows → ∀ x, x ∈ r.data → x.name.size ≤ 100000 ∧ x.text.size ≤ 100000
  dl : ∀ r, r ∈ t.rows → r.data.length ≤ 100000
/-- Four values by their places. -/
def f4 (a b c d : Value) : Nat → Value
  | 0 => a
  | 1 => b
  | 2 => c
  | _ => d
/-- An element more, of a row of the call's own. -/
theorem OwnK.snoc {α : Type} {w' : World} {base k n : Nat} {e : TypeId} {R R' : (Nat → Value) → α → Prop} {A' : Option Addr} {c' : Nat} {us news : List Value} {xs : List α} {x : α} {f : Nat → Value} (hl : xs.length = n) (ho : w'.ownsRow base e k (.slice A' (n + 1) c') (n + 1) (us ++ news)) (hr : RelK k R us xs)
    (hm : ∀ f x, R f x → R' f x) (hn : news.length = k) (hf : ∀ j, j < k → news[j]? = some (f j)) (hx : R' f x) : OwnK w' base e k R' (.slice A' (n + 1) c') (xs ++ [x]) :=
  ⟨A', c', us ++ news, by rw [List.length_append, hl]; rfl, by rw [List.length_append, hl]; exact ho, (hr.mono fun f x _ h => hm f x h).app (RelK.one hn hf hx)⟩
end Pv
namespace Go.Proofs.YtbdkedjgfihamaaGreatDoor
open Go.RowKit Pv Go.Maps
theorem info_tab : (Tryz.prog.info? TTb).map (fun i => (i.zero, i.size, i.bytes)) = some (some (.agg #[.string ByteArray.empty, .int .i64 0, .slice none 0 0, .slice none 0 0]), 4, 72) := by kernel_rfl
abbrev OTb (w : World) (base : Nat) := OTab w base TCe TRe TSt
set_option maxHeartbeats 8000000 in
set_option maxRecDepth 100000 in
theorem each_tabs (A : Option Addr) (c n : Nat) (ts : List Tab) (w : World) (h : AtTab w A ts) (HL : Hid (ts.length = n)) (hn : n ≤ 100000) (hbd : ∀ t, t ∈ ts → TabBd t) :
    Calls Tryz.prog 60 #[.slice A n c, .func (.func 61) #[] #[]] w fun e w' => ∃ A' c', e = .returned (.slice A' n c') ∧ OwnK w' w.heap.size TTb 4 (OTb w' w.heap.size) (.slice A' n c') ts ∧ Below w.heap.size w w' := by
  obtain ⟨i0, hi0, hz0, hs0, hb0⟩ := info_parts info_tab
  obtain ⟨wm, hmk, hom, hgm⟩ := run_make_own (P := Tryz.prog) (w := w) w.heap.size 22 TTb i0 _ 4 Tryz.underlying22 hi0 hz0 hs0 .i64 .i64 n (by rw [hb0]; omega) (by simp only [maxLen]; omega) (Nat.le_refl _)
  have HA := Lib.hid h; have HBD := Lib.hid hbd
  have HOM := Lib.hid hom
  have HKM := Lib.hid (below_grown0 (Below.refl w.heap.size w) hgm (Nat.le_refl _))
  clear h hbd hom hgm
  go_enter Tryz.func60, Tryz.ntmps60
  go_wp2
  go_loopw [13, 5] (fun iv lv W => ∃ (q oc : Nat) (O : Option Addr), iv = .int .i64 q ∧ lv = .slice O q oc ∧ q ≤ n ∧ Hid (OwnK W w.heap.size TTb 4 (OTb W w.heap.size) (.slice O q oc) (ts.take q)) ∧ Hid (Below w.heap.size w W)) (fun iv _ _ => n - (intOf iv).toNat)
  case atStart => exact ⟨0, n, _, rfl, rfl, by omega, Lib.hid ⟨_, _, [], rfl, HOM.out, RelK.nil⟩, HKM⟩
  case round =>
    obtain ⟨q, oc, O, rfl, rfl, hq, HO, HW⟩ := hrel
    by_cases hlt : q < n
    · obtain ⟨b1, o1, x, U, un, uc, R, rn, rc, rfl, lb1, c0, c1, c2, c3, ht, huc, hrc, HX⟩ := AtTab.g4 (AtTab.keep HA.out (Keep.of HW.out)) HL hlt
      obtain ⟨d1, d2, d3, d4⟩ := HBD.out x (mem_of_get HX.out)
      have hk : Below wr.heap.size wr (wr.alloc (.cells #[.string x.name, .int .i64 x.most, .slice U un uc, .slice R rn rc] TTb)) := (Below.refl _ _).alloc (Nat.le_refl _) _
      have HT := Lib.hid (table_Twin U un uc R rn rc x _ (ht.keep (Keep.of hk)) (by rw [← ht.un.out]; exact d1) (by rw [← ht.rn.out]; exact d2) d4)
      have HK := Lib.hid (HW.out.trans (hk.mono HW.out.size))
      have HO1 := Lib.hid ((OwnK.below HO.out hk).monoR fun _ _ _ ho => ho.below hk)
      have hnm := ht.name; have hmo := ht.most
      have i1 : (0 : Int) ≤ (q : Int) := by omega
      have i2 : (q : Int) < (n : Int) := by omega
      clear hk ht d1 d2 d3 d4
      go_wp2_with fail
      refine HT.out.mono ?_
      rintro e w5 ⟨V, vc, g, rfl, k1, k2, k3⟩
      have HK5 := Lib.hid (HK.out.trans (k3.mono HK.out.size))
      have hka : Below w5.heap.size w5 (w5.alloc (.cells #[.string x.name, .int .i64 x.most, .slice V un vc, .slice (some ⟨g, 0, none⟩) rn rn] TTb)) := (Below.refl _ _).alloc (Nat.le_refl _) _
      have HKA := Lib.hid (HK5.out.trans (hka.mono HK5.out.size))
      have HOA := Lib.hid (((OwnK.below HO1.out k3).monoR fun _ _ _ ho => ho.below k3).below hka |>.monoR fun _ _ _ ho => ho.below hka)
      have HEL : Hid (OTb (w5.alloc (.cells #[.string x.name, .int .i64 x.most, .slice V un vc, .slice (some ⟨g, 0, none⟩) rn rn] TTb)) w.heap.size (f4 (.string x.name) (.int .i64 x.most) (.slice V un vc) (.slice (some ⟨g, 0, none⟩) rn rn)) x) := Lib.hid ⟨⟨rfl, hnm⟩, ⟨rfl, hmo⟩, Own.lowerS (k1.below hka) HK.out.size, ((OwnK.lower k2 HK.out.size).below hka).monoR fun _ _ _ ho => (ho.lower HK.out.size).below hka⟩
      have SR := Lib.hid (Pv.Src.blk (Blk.new w5 TTb #[.string x.name, .int .i64 x.most, .slice V un vc, .slice (some ⟨g, 0, none⟩) rn rn]) (k := 4) rfl (by simp [Value.oneCell']))
      obtain ⟨hql, us, how, hrl⟩ := HOA.out.slice
      have HOW := Lib.hid how; have HRL := Lib.hid hrl; have HQL := Lib.hid hql
      have Q1 : Hid (q + 1 ≤ maxLen) := Lib.hid (by simp only [maxLen]; omega)
      have Q2 : Hid ((q + 1) * 72 ≤ 140737488355328) := Lib.hid (by omega)
      have Q3 := HKA.out.size
      clear k1 k2 k3 hka how hrl hql
      go_wp2_with (first
      | (at_builtin
         go_must (refine wpList_append_src _ rfl (.tmp 17) (.tmp 21) 22 rfl w.heap.size TTb i0 _ 4 72 Tryz.underlying22 hi0 hz0 hs0 hb0 rfl (by decide) O oc q us rfl HOW.out (some ⟨w5.heap.size, 0, none⟩) 1 1 _ rfl SR.out Q1.out Q2.out Q3 ?_)
         intro A9 c9 w9 own9 gr9 _
         have HO9 := Lib.hid own9; have HG9 := Lib.hid gr9
         have HW9 := Lib.hid (HKA.out.grown gr9 Q3 (fun g hg => (HOW.out.lt g hg).1))
         clear own9 gr9))
      go_roundw
      case rel =>
        refine ⟨q + 1, c9, A9, by go_num, rfl, by omega, Lib.hid ?_, HW9⟩
        rw [take_snoc HX.out]
        exact OwnK.snoc HQL.out HO9.out HRL.out (fun _ _ ho => ho.grown HOW.out (by decide) (by decide) (by decide) HG9.out) rfl (fun j hj => by match j, hj with | 0, _ => rfl | 1, _ => rfl | 2, _ => rfl | 3, _ => rfl) (HEL.out.grown HOW.out (by decide) (by decide) (by decide) HG9.out)
      case measure => simp [intOf]; omega
    · obtain rfl : q = n := by omega
      have i1 : ¬ (q : Int) < (q : Int) := by omega
      go_wp2
      go_ret
      refine ⟨O, oc, rfl, ?_, HW.out⟩
      have := HO.out
      rwa [List.take_of_length_le (by rw [HL.out]; omega)] at this
end Go.Proofs.YtbdkedjgfihamaaGreatDoor

namespace Pv
open Go Go.RowKit
/-- Five values by their places. -/
def f5 (a b c d e : Value) : Nat → Value
  | 0 => a
  | 1 => b
  | 2 => c
  | 3 => d
  | _ => e
theorem AtChg.g5 {w : World} {A : Option Addr} {v : List Chg} {n i : Nat} (h : AtChg w A v) (HL : Hid (v.length = n)) (hi : i < n) :
    ∃ b off x D m c, A = some ⟨b, off, none⟩ ∧ b < w.heap.size ∧ w.cell? ⟨b, off + i * 5, none⟩ = some (.int .i64 x.table) ∧ w.cell? ⟨b, off + i * 5 + 1, none⟩ = some (.string x.id) ∧ w.cell? ⟨b, off + i * 5 + 2, none⟩ = some (.bool x.has) ∧ w.cell? ⟨b, off + i * 5 + 3, none⟩ = some (.string x.was.id) ∧ w.cell? ⟨b, off + i * 5 + 4, none⟩ = some (.slice D m c) ∧
      (-9223372036854775808 ≤ x.table ∧ x.table ≤ 9223372036854775807) ∧ x.id.size ≤ 140737488355328 ∧ x.was.id.size ≤ 140737488355328 ∧ AtCel w D x.was.data ∧ Hid (x.was.data.length = m) ∧ m ≤ c ∧ Hid (v[i]? = some x) := by
  obtain ⟨b, off, f, x, e, hb, hc, ⟨⟨t0, t1, t2⟩, ⟨i0, i1⟩, h0, ⟨w0, w1⟩, ⟨D, c, d0, d1, d2⟩⟩, hx⟩ := AtK.gt h HL hi
  have c0 := hc 0 (by omega); have c1 := hc 1 (by omega); have c2 := hc 2 (by omega); have c3 := hc 3 (by omega); have c4 := hc 4 (by omega)
  rw [t0] at c0; rw [i0] at c1; rw [h0] at c2; rw [w0] at c3; rw [d0] at c4
  exact ⟨b, off, x, D, _, c, e, hb, c0, c1, c2, c3, c4, ⟨t1, t2⟩, i1, w1, d1, Lib.hid rfl, d2, hx⟩
end Pv
namespace Go.Proofs.YtbdkedjgfihamaaGreatDoor
open Go.RowKit Pv Go.Maps
abbrev TCh : TypeId := 39
theorem info_chg : (Tryz.prog.info? TCh).map (fun i => (i.zero, i.size, i.bytes)) = some (some (.agg #[.int .i64 0, .string ByteArray.empty, .bool false, .string ByteArray.empty, .slice none 0 0]), 5, 72) := by kernel_rfl
abbrev set5 (w : World) (b : Nat) (v0 v1 v2 v3 v4 : Value) : World := ((((w.setCell ⟨b, 0, none⟩ v0).setCell ⟨b, 1, none⟩ v1).setCell ⟨b, 2, none⟩ v2).setCell ⟨b, 3, none⟩ v3).setCell ⟨b, 4, none⟩ v4
theorem set5_blk {w : World} {b : Nat} {T : TypeId} {z0 z1 z2 z3 z4 : Value} (h : Blk w b T #[z0, z1, z2, z3, z4]) (v0 v1 v2 v3 v4 : Value) : RowSet w (set5 w b v0 v1 v2 v3 v4) b T #[v0, v1, v2, v3, v4] :=
  ((((RowSet.set h 0 v0).trans (RowSet.set (h.set 0 v0) 1 v1)).trans (RowSet.set ((h.set 0 v0).set 1 v1) 2 v2)).trans (RowSet.set (((h.set 0 v0).set 1 v1).set 2 v2) 3 v3)).trans (RowSet.set ((((h.set 0 v0).set 1 v1).set 2 v2).set 3 v3) 4 v4) |>.cast (by simp)
set_option maxHeartbeats 4000000 in
set_option maxRecDepth 100000 in
theorem twin_chg (x : Chg) (D : Option Addr) (m c : Nat) (w : World) (h : AtCel w D x.was.data) (HL : Hid (x.was.data.length = m)) (hm : m ≤ 1000000) :
    Calls Tryz.prog 63 #[.agg #[.int .i64 x.table, .string x.id, .bool x.has, .string x.was.id, .slice D m c]] w fun e w' => ∃ E k, e = .returned (.agg #[.int .i64 x.table, .string x.id, .bool x.has, .string x.was.id, .slice E m k]) ∧ OwnC w' w.heap.size (.slice E m k) x.was.data ∧ Below w.heap.size w w' := by
  have hk0 : Below w.heap.size w ((w.alloc (.cells #[.int .i64 x.table, .string x.id, .bool x.has, .string x.was.id, .slice D m c] TCh)).alloc (.cells #[.int .i64 0, .string ⟨#[]⟩, .bool false, .string ⟨#[]⟩, .slice none 0 0] TCh)) := ((Below.refl _ _).alloc (Nat.le_refl _) _).alloc (by simp) _
  have HB0 := Lib.hid ((Blk.new w TCh #[.int .i64 x.table, .string x.id, .bool x.has, .string x.was.id, .slice D m c]).alloc (.cells #[.int .i64 0, .string ⟨#[]⟩, .bool false, .string ⟨#[]⟩, .slice none 0 0] TCh))
  have HB1 := Lib.hid (blkV2 w TCh TCh #[.int .i64 x.table, .string x.id, .bool x.has, .string x.was.id, .slice D m c] #[.int .i64 0, .string ⟨#[]⟩, .bool false, .string ⟨#[]⟩, .slice none 0 0])
  have HC := Lib.hid (cell_Twin D c m x.was.data _ (AtK.keep (R := RCel) h (Keep.of hk0)) HL hm)
  have HK0 := Lib.hid hk0
  clear h hk0
  obtain ⟨xt, xi, xh, ⟨wi, wd⟩⟩ := x
  dsimp only at *
  go_enter Tryz.func63, Tryz.ntmps63
  go_wp2_with fail
  refine HC.out.mono ?_
  rintro e w1 ⟨E, k, rfl, k1, k2⟩
  have h0 := HB0.out.below k2 HB0.out.lt; have h1 := HB1.out.below k2 HB1.out.lt
  have hk1 := HK0.out.trans (k2.mono HK0.out.size)
  have p4 := h0.cell 4; have pf := h0.frozen 4; have pl := h0.lt
  have s0 := h0.set 4 (.slice E m k)
  have c0 := s0.cell 0; have c1 := s0.cell 1; have c2 := s0.cell 2; have c3 := s0.cell 3; have c4 := s0.cell 4
  simp at c0 c1 c2 c3 c4
  have hx : w.heap.size + 1 ≠ w.heap.size := by omega
  have s1 := h1.far (p := ⟨w.heap.size, 4, none⟩) hx (.slice E m k)
  have q0 := s1.cell 0; have q1 := s1.cell 1; have q2 := s1.cell 2; have q3 := s1.cell 3; have q4 := s1.cell 4
  have f0 := s1.frozen 0; have f1 := s1.frozen 1; have f2 := s1.frozen 2; have f3 := s1.frozen 3; have f4 := s1.frozen 4; have ql := s1.lt
  have HS1 := Lib.hid s1
  have HOW := Lib.hid ((OwnK.lower k1 HK0.out.size).setFar h0 (by decide) 4 (.slice E m k))
  have HKE := Lib.hid (hk1.setCell (p := ⟨w.heap.size, 4, none⟩) (Nat.le_refl _) (.slice E m k))
  have HRS := Lib.hid (set5_blk s1 (.int .i64 xt) (.string xi) (.bool xh) (.string wi) (.slice E m k))
  have HOE := Lib.hid (((((HOW.out.setFar s1 (by decide) 0 (.int .i64 xt)).setFar (s1.set 0 (.int .i64 xt)) (by decide) 1 (.string xi)).setFar ((s1.set 0 (.int .i64 xt)).set 1 (.string xi)) (by decide) 2 (.bool xh)).setFar (((s1.set 0 (.int .i64 xt)).set 1 (.string xi)).set 2 (.bool xh)) (by decide) 3 (.string wi)).setFar ((((s1.set 0 (.int .i64 xt)).set 1 (.string xi)).set 2 (.bool xh)).set 3 (.string wi)) (by decide) 4 (.slice E m k))
  clear h0 h1 hk1 k1 k2 s0 s1
  go_wp2
  have k0 := HRS.out.blk.cell 0; have k1 := HRS.out.blk.cell 1; have k2 := HRS.out.blk.cell 2; have k3 := HRS.out.blk.cell 3; have k4 := HRS.out.blk.cell 4
  simp at k0 k1 k2 k3 k4
  refine bodyPost_ret (v := .agg #[.int .i64 xt, .string xi, .bool xh, .string wi, .slice E m k]) (by simp [results, Tryz.results63, go_sem, k0, k1, k2, k3, k4]) rfl ⟨E, k, rfl, HOE.out, HRS.out.below HKE.out (by omega)⟩
end Go.Proofs.YtbdkedjgfihamaaGreatDoor
