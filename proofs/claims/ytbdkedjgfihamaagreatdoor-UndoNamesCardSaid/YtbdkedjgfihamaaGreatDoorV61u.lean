/- Walks: the document's Great. PUT1 -/
import Derived.Test.YtbdkedjgfihamaaGreatDoorV40u
import Derived.Test.YtbdkedjgfihamaaGreatDoorV49u
namespace Pv
open Go Go.RowKit
def bigC (x : Cel) : Bool := decide (300 < x.name.size) || decide (3000 < x.text.size)
def greatC (l : List Cel) (m : Nat) : Bool := (l.take m).any bigC || decide (m < l.length)
def greatR (r : Rec) : Bool := decide (300 < r.id.size) || greatC r.data 60
def greatT (t : Tab) : Bool := (t.rows.take 20).any greatR || (t.uniques.take 20).any (fun u => decide (300 < u.size)) || (decide (12 < t.rows.length) || (decide (10 < t.uniques.length) || decide (300 < t.name.size)))
def bigL (x : Chg) : Bool := greatR x.was || decide (300 < x.id.size)
def greatS (s : Sto) : Bool := (s.tables.take 10).any greatT || (s.log.take 30).any bigL || (decide (6 < s.tables.length) || decide (20 < s.log.length))
theorem any_snoc {α : Type} {p : α → Bool} {l : List α} {q : Nat} {x : α} (h : l[q]? = some x) (h1 : (l.take q).any p = false) (h2 : p x = false) : (l.take (q + 1)).any p = false := by
  rw [take_snoc h, List.any_append, h1]; simp [h2]
theorem any_hit {α : Type} {p : α → Bool} {l : List α} {q m : Nat} {x : α} (h : l[q]? = some x) (hm : q < m) (h2 : p x = true) : (l.take m).any p = true := by
  rw [List.any_eq_true]
  exact ⟨x, List.mem_of_getElem? (show (l.take m)[q]? = some x by rw [List.getElem?_take_of_lt hm]; exact h), h2⟩
theorem any_end {α : Type} {p : α → Bool} {l : List α} {q m n : Nat} (hl : l.length = n) (h : ¬ (q < n ∧ q < m)) (h1 : (l.take q).any p = false) (hq : q ≤ m) : (l.take m).any p = false := by
  by_cases hqm : q = m
  · subst hqm; exact h1
  · rw [List.take_of_length_le (by omega)] at h1 ⊢; exact h1
end Pv
namespace Go.Proofs.YtbdkedjgfihamaaGreatDoor
open Go.RowKit Pv Go.Maps
set_option maxHeartbeats 4000000 in
set_option maxRecDepth 100000 in
theorem ref03_Great (A : Option Addr) (c n : Nat) (l : List Cel) (w : World) (ha : AtCel w A l) (HL : Hid (l.length = n)) :
    Calls Tryz.prog 46 #[.slice A n c, .int .i64 60] w fun e w' => e = .returned (.bool (greatC l 60)) ∧ Below w.heap.size w w' := by
  have hl : n ≤ 140737488355328 := by have := ha.1; rwa [HL.out] at this
  have HA : Hid (AtCel w A l) := Lib.hid ha
  obtain ⟨b, hb⟩ : ∃ b, greatC l 60 = b := ⟨_, rfl⟩
  have HG := Lib.hid hb
  rw [hb]
  clear ha hb
  go_enter Tryz.func46, Tryz.ntmps46
  go_wp2
  go_loopw [5] (fun i wr => ∃ q : Nat, i = .int .i64 q ∧ q ≤ n ∧ q ≤ 60 ∧ Hid (Below w.heap.size w wr) ∧ Hid ((l.take q).any bigC = false)) (fun i _ => n - (intOf i).toNat)
  case atStart => exact ⟨0, rfl, by omega, by omega, Lib.hid (Below.refl _ _), Lib.hid (by simp)⟩
  case round =>
    obtain ⟨q, rfl, hq, hq2, HBE, HE⟩ := hrel
    have i0 : (0 : Int) ≤ (q : Int) := by omega
    by_cases hlt : q < n ∧ q < 60
    · obtain ⟨b1, o1, x, rfl, ⟨lb1, c0, c1, c2, c3, c4⟩, _, HX⟩ := AtCel.g5 (AtK.keep HA.out (Keep.of HBE.out)) HL hlt.1
      have i1 : (q : Int) < (n : Int) := by omega
      have i2 : (q : Int) < 60 := by omega
      have HQ := Lib.hid hlt
      clear hlt
      by_cases e1 : (300 : Int) < (x.name.size : Int)
      · have HB : Hid (b = true) := Lib.hid (by rw [← HG.out]; unfold greatC; rw [any_hit HX.out HQ.out.2 (by simp [bigC]; omega)]; rfl)
        go_wp2
        go_ret
        exact ⟨ret_bool HB.out.symm, HBE.out⟩
      · by_cases e2 : (3000 : Int) < (x.text.size : Int)
        · have HB : Hid (b = true) := Lib.hid (by rw [← HG.out]; unfold greatC; rw [any_hit HX.out HQ.out.2 (by simp [bigC]; omega)]; rfl)
          go_wp2
          go_ret
          exact ⟨ret_bool HB.out.symm, HBE.out⟩
        · have HN : Hid (bigC x = false) := Lib.hid (by simp [bigC]; omega)
          go_wp2
          go_roundw
          case rel => exact ⟨q + 1, by go_num, by omega, by omega, HBE, Lib.hid (any_snoc HX.out HE.out HN.out)⟩
          case measure => simp [intOf]; omega
    · have HN := Lib.hid (any_end HL.out hlt HE.out hq2)
      by_cases e3 : (60 : Int) < (n : Int)
      · have HB : Hid (b = true) := Lib.hid (by rw [← HG.out]; unfold greatC; rw [HL.out]; simp; omega)
        have i1 : (q : Int) < (n : Int) := by omega
        have i2 : ¬ (q : Int) < 60 := by omega
        clear hlt
        go_wp2
        go_ret
        exact ⟨ret_bool HB.out.symm, HBE.out⟩
      · have HB : Hid (b = false) := Lib.hid (by rw [← HG.out]; unfold greatC; rw [HN.out, HL.out]; simp; omega)
        have i1 : ¬ (q : Int) < (n : Int) := by omega
        clear hlt
        go_wp2
        go_ret
        exact ⟨ret_bool HB.out.symm, HBE.out⟩
set_option maxHeartbeats 4000000 in
set_option maxRecDepth 100000 in
theorem ref27_GreatRecord (D : Option Addr) (m c : Nat) (x : Rec) (w : World) (hx : AtCel w D x.data) (HL : Hid (x.data.length = m)) :
    Calls Tryz.prog 17 #[.agg #[.string x.id, .slice D m c]] w fun e w' => e = .returned (.bool (greatR x)) ∧ Below w.heap.size w w' := by
  have hk0 : Below w.heap.size w (w.alloc (.cells #[.string x.id, .slice D m c] TRe)) := (Below.refl _ _).alloc (Nat.le_refl _) _
  have HS := Lib.hid (ref03_Great D c m x.data _ (AtK.keep (R := RCel) hx (Keep.of hk0)) HL)
  have HK0 := Lib.hid hk0
  clear hx hk0
  by_cases e1 : (300 : Int) < (x.id.size : Int)
  · have HB : Hid (greatR x = true) := Lib.hid (by unfold greatR; simp; omega)
    go_enter Tryz.func17, Tryz.ntmps17
    go_wp2
    go_ret
    exact ⟨ret_bool HB.out.symm, HK0.out⟩
  · have HB : Hid (greatR x = greatC x.data 60) := Lib.hid (by unfold greatR; rw [decide_eq_false (by omega)]; rfl)
    go_enter Tryz.func17, Tryz.ntmps17
    go_wp2_with fail
    refine HS.out.mono ?_
    rintro e w1 ⟨rfl, k⟩
    have HF := Lib.hid (HK0.out.trans (k.mono HK0.out.size))
    clear k
    go_wp2
    go_ret
    exact ⟨ret_bool HB.out.symm, HF.out⟩
end Go.Proofs.YtbdkedjgfihamaaGreatDoor

namespace Go.Proofs.YtbdkedjgfihamaaGreatDoor
open Go.RowKit Pv Go.Maps
set_option maxHeartbeats 4000000 in
set_option maxRecDepth 100000 in
theorem ref27_Great (U R : Option Addr) (un uc rn rc : Nat) (t : Tab) (w : World) (ht : TabAt w U un R rn t) :
    Calls Tryz.prog 45 #[.agg #[.string t.name, .int .i64 t.most, .slice U un uc, .slice R rn rc]] w fun e w' => e = .returned (.bool (greatT t)) ∧ Below w.heap.size w w' := by
  obtain ⟨tn, tm, tu, tr⟩ := t
  have hk0 : Below w.heap.size w (w.alloc (.cells #[.string tn, .int .i64 tm, .slice U un uc, .slice R rn rc] TTb)) := (Below.refl _ _).alloc (Nat.le_refl _) _
  have hrl : rn ≤ 140737488355328 := by have := ht.rows.1; have h2 := ht.rn.out; dsimp only at h2; rwa [h2] at this
  have hul : un ≤ 140737488355328 := by have := ht.uniques.1; have h2 := ht.un.out; dsimp only at h2; rwa [h2] at this
  have HT := Lib.hid (ht.keep (Keep.of hk0))
  have HB0 := Lib.hid (Blk.new w TTb #[.string tn, .int .i64 tm, .slice U un uc, .slice R rn rc])
  have HP := Lib.hid (fun W (k : Below (w.alloc (.cells #[.string tn, .int .i64 tm, .slice U un uc, .slice R rn rc] TTb)).heap.size (w.alloc (.cells #[.string tn, .int .i64 tm, .slice U un uc, .slice R rn rc] TTb)) W) => And.intro (hk0.trans (k.mono hk0.size)) (HB0.out.below k HB0.out.lt))
  obtain ⟨o, ho⟩ : ∃ o, greatT (⟨tn, tm, tu, tr⟩ : Tab) = o := ⟨_, rfl⟩
  have HO := Lib.hid ho
  have HRN := ht.rn; have HUN := ht.un
  dsimp only at HRN HUN ⊢
  rw [ho]
  clear ht hk0 ho
  go_enter Tryz.func45, Tryz.ntmps45
  go_wp2
  go_loopw [3] (fun i W => ∃ q : Nat, i = .int .i64 q ∧ q ≤ rn ∧ q ≤ 20 ∧ Hid (Below (w.alloc (.cells #[.string tn, .int .i64 tm, .slice U un uc, .slice R rn rc] TTb)).heap.size (w.alloc (.cells #[.string tn, .int .i64 tm, .slice U un uc, .slice R rn rc] TTb)) W) ∧ Hid ((tr.take q).any greatR = false)) (fun i _ => rn - (intOf i).toNat)
  case atStart => exact ⟨0, rfl, by omega, by omega, Lib.hid (Below.refl _ _), Lib.hid (by simp)⟩
  case round =>
    obtain ⟨q, rfl, hq, hq2, HBE, HE⟩ := hrel
    have i0 : (0 : Int) ≤ (q : Int) := by omega
    obtain ⟨h1, h2⟩ := HP.out _ HBE.out
    have HFR := Lib.hid h1
    have p3 := h2.cell 3; have p2 := h2.cell 2; have p0 := h2.cell 0; have pl := h2.lt
    clear h1 h2
    by_cases hlt : q < rn ∧ q < 20
    · obtain ⟨b1, o1, x, D, dm, dc, rfl, lb1, c0, c1, _, hD, HDL, _, HX⟩ := AtRec.g2 (HT.out.keep (Keep.of HBE.out)).rows HRN hlt.1
      have HG := Lib.hid (ref27_GreatRecord D dm dc x wr hD HDL)
      have i1 : (q : Int) < (rn : Int) := by omega
      have i2 : (q : Int) < 20 := by omega
      have HQ := Lib.hid hlt
      clear hlt hD
      by_cases e1 : greatR x = true
      · rw [e1] at HG
        have HN : Hid (o = true) := Lib.hid (by rw [← HO.out]; unfold greatT; rw [any_hit HX.out HQ.out.2 e1]; rfl)
        clear e1
        go_wp2_with fail
        refine HG.out.mono ?_
        rintro e w1 ⟨rfl, k⟩
        have HF := Lib.hid (HFR.out.trans (k.mono HFR.out.size))
        clear k
        go_wp2
        go_ret
        exact ⟨ret_bool HN.out.symm, HF.out⟩
      · have e2 : greatR x = false := by simpa using e1
        rw [e2] at HG
        have HN := Lib.hid e2
        clear e1 e2
        go_wp2_with fail
        refine HG.out.mono ?_
        rintro e w1 ⟨rfl, k⟩
        have HF := Lib.hid (HBE.out.trans (k.mono HBE.out.size))
        clear k
        go_wp2
        go_roundw
        case rel => exact ⟨q + 1, by go_num, by omega, by omega, HF, Lib.hid (any_snoc HX.out HE.out HN.out)⟩
        case measure => simp [intOf]; omega
    · have HN := Lib.hid (any_end HRN.out hlt HE.out hq2)
      have HBW := HBE
      obtain ⟨g, hg⟩ : ∃ g : Bool, (if g then (q : Int) < (rn : Int) ∧ ¬ (q : Int) < 20 else ¬ (q : Int) < (rn : Int)) := by
        by_cases h : q < rn
        · exact ⟨true, by simp; omega⟩
        · exact ⟨false, by simp; omega⟩
      clear hlt HE
      cases g <;> simp only [if_true, Bool.false_eq_true, if_false] at hg
      all_goals
        first
          | obtain ⟨j1, j2⟩ := hg
          | have j1 := hg
        go_wp2
        clear p0 p2 p3 pl
        try clear j2
        try clear hg
        clear j1
        go_loopw [4] (fun i W => ∃ q : Nat, i = .int .i64 q ∧ q ≤ un ∧ q ≤ 20 ∧ Hid (Below (w.alloc (.cells #[.string tn, .int .i64 tm, .slice U un uc, .slice R rn rc] TTb)).heap.size (w.alloc (.cells #[.string tn, .int .i64 tm, .slice U un uc, .slice R rn rc] TTb)) W) ∧ Hid ((tu.take q).any (fun u => decide (300 < u.size)) = false)) (fun i _ => un - (intOf i).toNat)
        case atStart => exact ⟨0, rfl, by omega, by omega, HBW, Lib.hid (by simp)⟩
        case round =>
          obtain ⟨q, rfl, hq, hq2, HBE, HE⟩ := hrel
          have i0 : (0 : Int) ≤ (q : Int) := by omega
          obtain ⟨h1, h2⟩ := HP.out _ HBE.out
          have HFR := Lib.hid h1
          have p3 := h2.cell 3; have p2 := h2.cell 2; have p0 := h2.cell 0; have pl := h2.lt
          clear h1 h2
          by_cases hlt : q < un ∧ q < 20
          · obtain ⟨b1, o1, u1, x, rfl, lb1, c1, hx, HX⟩ := At.gt (HT.out.keep (Keep.of HBE.out)).uniques HUN hlt.1
            obtain ⟨rfl, _⟩ := hx
            have i1 : (q : Int) < (un : Int) := by omega
            have i2 : (q : Int) < 20 := by omega
            have HQ := Lib.hid hlt
            clear hlt
            by_cases e1 : (300 : Int) < (x.size : Int)
            · have HN2 : Hid (o = true) := Lib.hid (by rw [← HO.out]; unfold greatT; rw [any_hit (p := fun u : ByteArray => decide (300 < u.size)) HX.out HQ.out.2 (by simp; omega)]; simp)
              go_wp2
              go_ret
              exact ⟨ret_bool HN2.out.symm, HFR.out⟩
            · have HN2 := Lib.hid (show (fun u : ByteArray => decide (300 < u.size)) x = false by simp; omega)
              go_wp2
              go_roundw
              case rel => exact ⟨q + 1, by go_num, by omega, by omega, HBE, Lib.hid (any_snoc HX.out HE.out HN2.out)⟩
              case measure => simp [intOf]; omega
          · have HN2 := Lib.hid (any_end HUN.out hlt HE.out hq2)
            have HOO := Lib.hid (show o = (decide (12 < rn) || (decide (10 < un) || decide (300 < tn.size))) by rw [← HO.out]; unfold greatT; rw [HN.out, HN2.out, HRN.out, HUN.out]; rfl)
            obtain ⟨o1, ho1⟩ : ∃ o1, decide (12 < rn) = o1 := ⟨_, rfl⟩
            obtain ⟨o2, ho2⟩ : ∃ o2, decide (10 < un) = o2 := ⟨_, rfl⟩
            obtain ⟨o3, ho3⟩ : ∃ o3, decide (300 < tn.size) = o3 := ⟨_, rfl⟩
            rw [ho1, ho2, ho3] at HOO
            have t1 : decide ((12 : Int) < (rn : Int)) = o1 := by rw [← ho1]; congr 1; simp; omega
            have t2 : decide ((10 : Int) < (un : Int)) = o2 := by rw [← ho2]; congr 1; simp; omega
            have t3 : decide ((300 : Int) < (tn.size : Int)) = o3 := by rw [← ho3]; congr 1; simp; omega
            clear ho1 ho2 ho3
            obtain ⟨g, hg⟩ : ∃ g : Bool, (if g then (q : Int) < (un : Int) ∧ ¬ (q : Int) < 20 else ¬ (q : Int) < (un : Int)) := by
              by_cases h : q < un
              · exact ⟨true, by simp; omega⟩
              · exact ⟨false, by simp; omega⟩
            clear hlt HE
            cases g <;> simp only [if_true, Bool.false_eq_true, if_false] at hg
            all_goals
              first
                | obtain ⟨j1, j2⟩ := hg
                | have j1 := hg
              cases o1 <;> cases o2 <;> cases o3
              all_goals
                simp only [decide_eq_true_eq, decide_eq_false_iff_not] at t1 t2 t3
                first
                  | (exfalso; omega)
                  | (go_wp2; go_ret; exact ⟨ret_bool HOO.out.symm, HFR.out⟩)
end Go.Proofs.YtbdkedjgfihamaaGreatDoor
