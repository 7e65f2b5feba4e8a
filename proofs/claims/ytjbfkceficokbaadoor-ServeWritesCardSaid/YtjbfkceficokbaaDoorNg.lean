/- Walks: a response's text, whole (the document's). -/
import Derived.Test.YtjbfkceficokbaaDoorNf
namespace Go.Proofs.YtjbfkceficokbaaDoor
open Go.RowKit Pv

set_option maxHeartbeats 4000000 in
set_option maxRecDepth 100000 in
theorem ref_Write (W : World) (vA lA : Option Addr) (m mc n c : Nat) (v : List Cl) (fs : List Ft) (hv : AtCl W vA v) (hfs : AtFt W lA fs) (HM : Hid (v.length = m)) (HL : Hid (fs.length = n)) (hn : n ≤ 20) (hcv : ClsOk v) (hok : ∀ (i : Nat) x, fs[i]? = some x → FtOk x) :
    Calls Tryd.prog 7 #[.slice vA m mc, .slice lA n c] W fun e w' => e = .returned (.string (mkS (writeS v fs))) ∧ Below W.heap.size W w' := by
  have HVA := Lib.hid (refvalue_all W vA m mc v hv HM hcv v.length)
  have HVB := Lib.hid (fun h : 0 < m => valF_b hcv v.length 0 (by rw [HM.out]; exact h) (by omega))
  have hm100 : m ≤ 100 := by have := hcv.len; rwa [HM.out] at this
  have HCL := Lib.hid (commaN_len (faultsF_len hok))
  have HWS : Hid (writeS v fs = [123] ++ (optS (decide (0 < n)) (errS fs) ++ (optS (decide (0 < m)) (optS (decide (0 < n)) [44] ++ ([34, 100, 97, 116, 97, 34, 58] ++ (valF v v.length 0).1)) ++ [125]))) := Lib.hid (by unfold writeS; rw [HL.out, HM.out])
  have HES : Hid (errS fs = [34, 101, 114, 114, 111, 114, 115, 34, 58] ++ ([91] ++ (commaN (faultsF fs) n ++ [93]))) := Lib.hid (by unfold errS; rw [HL.out])
  have HFT := Lib.hid (fun (W' : World) (i : Nat) (co di : ByteArray) (pA : Option Addr) (pn pc : Nat) (p : List St) (ru li cl : Int) (hx : fs[i]? = some ⟨co, p, di, ru, li, cl⟩) (hp : AtK W 2 pA RSt p) (HP : Hid (p.length = pn)) (kp : Keep W W') => ref_fault W W' co di pA pn pc p ru li cl hp HP (hok i _ hx) kp)
  have HOK := Lib.hid hok; have HFS := Lib.hid hfs
  clear hv hfs hcv hok
  generalize writeS v fs = res at *
  generalize errS fs = er at *
  go_enter Tryd.func7, Tryd.ntmps7
  go_wp2
  go_loopw [5, 6] (fun sv iv wr => ∃ (k : Nat) (r : ByteArray), iv = .int .i64 k ∧ k ≤ n ∧ sv = .string r ∧ bsl r = commaN (faultsF fs) k ∧ Below W.heap.size W wr) (fun _ iv _ => n - (intOf iv).toNat)
  case atStart => exact ⟨0, _, rfl, by omega, rfl, rfl, Below.refl _ _⟩
  case round =>
    obtain ⟨k, r, rfl, hk, rfl, hr, hb⟩ := hrel
    have HR := Lib.hid hr; have HB := Lib.hid hb
    have hrs : r.size ≤ 10000000 := by
      have h1 := HCL.out k
      have h2 := Nat.mul_le_mul_right (460000 + 1) (Nat.le_trans hk hn)
      rw [← bsl_len, hr]; omega
    clear hr hb
    by_cases hlt : k < n
    · obtain ⟨lb, off, co, pA, pn, pc, p, di, ru, li, cl, rfl, hlb, ⟨x0, x1, x2, x3, x4, x5⟩, hp, HP, hpc, HX⟩ := AtFt.gt HFS.out HL hlt
      have y0 := (HB.out.cell (p := ⟨lb, off + k * 6, none⟩) hlb).trans x0
      have y1 := (HB.out.cell (p := ⟨lb, off + k * 6 + 1, none⟩) hlb).trans x1
      have y2 := (HB.out.cell (p := ⟨lb, off + k * 6 + 2, none⟩) hlb).trans x2
      have y3 := (HB.out.cell (p := ⟨lb, off + k * 6 + 3, none⟩) hlb).trans x3
      have y4 := (HB.out.cell (p := ⟨lb, off + k * 6 + 4, none⟩) hlb).trans x4
      have y5 := (HB.out.cell (p := ⟨lb, off + k * 6 + 5, none⟩) hlb).trans x5
      have hll := Nat.lt_of_lt_of_le hlb HB.out.size
      have HN := Lib.hid (HFT.out wr k co di pA pn pc p ru li cl HX.out hp HP (Keep.of HB.out))
      have HF := Lib.hid (show bsl (mkS (faultS ⟨co, p, di, ru, li, cl⟩)) = faultsF fs k by rw [bsl_mkS]; unfold faultsF; rw [HX.out])
      have hfz : (mkS (faultS ⟨co, p, di, ru, li, cl⟩)).size ≤ 460000 := by rw [mkS_size]; exact faultS_len (HOK.out k _ HX.out)
      have HSN := Lib.hid (show commaN (faultsF fs) (k + 1) = commaN (faultsF fs) k ++ (sepL k ++ faultsF fs k) from rfl)
      generalize mkS (faultS ⟨co, p, di, ru, li, cl⟩) = q at *
      clear x0 x1 x2 x3 x4 x5 hp
      rcases Nat.eq_zero_or_pos k with hk0 | hk0
      case' inl =>
        have t2 : decide (0 < k) = false := decide_eq_false (by omega)
        have HSP := Lib.hid (show sepL k = [] by rw [hk0]; rfl)
        clear hk0
      case' inr =>
        have t2 : decide (0 < k) = true := decide_eq_true hk0
        have HSP := Lib.hid (sepL_s hk0)
      all_goals
        go_wp2_with fail
        refine HN.out.mono ?_
        rintro e w5 ⟨rfl, hb5⟩
        have B5 := Lib.hid (HB.out.trans (hb5.mono HB.out.size))
        clear hb5
        go_wp2
        go_roundw
        case rel =>
          refine ⟨k + 1, _, by go_num, by omega, rfl, ?_, B5.out⟩
          simp only [HSN.out, bsl_app, HR.out, HF.out, HSP.out, List.append_assoc, List.nil_append] <;> rfl
        case measure => simp [intOf]; omega
    · have hkn : k = n := by omega
      have HRN := Lib.hid (show bsl r = commaN (faultsF fs) n by rw [HR.out, hkn])
      have hn' : decide (0 < n) = decide (0 < k) := by rw [hkn]
      have hern : (optS (decide (0 < n)) er).length ≤ 10000100 := by
        have h1 := optS_len (decide (0 < n)) er
        have h3 : er.length = r.size + 11 := by rw [HES.out, ← bsl_len, HRN.out]; simp <;> omega
        omega
      clear hkn
      go_upto_if 28 with (fail)
      go_cut [5] (fun sv wx => ∃ s : ByteArray, sv = .string s ∧ bsl s = optS (decide (0 < n)) er ∧ Below W.heap.size W wx)
      case first =>
        by_cases hf : 0 < n
        · have HE1 := Lib.hid (show optS (decide (0 < n)) er = er by rw [decide_eq_true hf]; rfl)
          go_wp2
          go_meet
          exact ⟨_, rfl, by rw [bsl_app, bsl_app, HRN.out, HE1.out, HES.out] <;> rfl, HB.out⟩
        · have HE1 := Lib.hid (show optS (decide (0 < n)) er = [] by rw [decide_eq_false hf]; rfl)
          have HN0 := Lib.hid (show commaN (faultsF fs) n = [] by rw [show n = 0 by omega]; rfl)
          go_wp2
          go_meet
          exact ⟨_, rfl, by rw [HRN.out, HE1.out, HN0.out], HB.out⟩
      case rest =>
      obtain ⟨s, rfl, hs, hbw⟩ := hcut
      have HSS := Lib.hid hs; have HBW := Lib.hid hbw
      have hsz : s.size ≤ 10000100 := by rw [← bsl_len, hs]; exact hern
      clear hs hbw hn' hern
      have HTE := Lib.hid (show (!s.toList.isEmpty) = true → optS (decide (0 < n)) [44] = [44] from fun h => by
        by_cases hf : 0 < n
        · rw [decide_eq_true hf]; rfl
        · have h1 := HSS.out
          rw [decide_eq_false hf] at h1
          rw [toL_nil h1] at h; cases h)
      have HTN := Lib.hid (show (!s.toList.isEmpty) = false → optS (decide (0 < n)) [44] = [] from fun h => by
        by_cases hf : 0 < n
        · have h1 := HSS.out
          rw [decide_eq_true hf] at h1
          have h2 : bsl s ≠ [] := by rw [h1]; show er ≠ []; rw [HES.out]; intro h3; cases h3
          rw [toL_ne h2] at h; cases h
        · rw [decide_eq_false hf]; rfl)
      by_cases hd : 0 < m
      · have HV0 := HVB.out hd
        obtain ⟨vb1, vb2, vb3⟩ := HV0
        have vb4 := Nat.le_trans vb2 (Nat.le_of_eq HM.out)
        clear vb2
        have HVC := Lib.hid (HVA.out 0 wc hd (by rw [HM.out]; omega) (Keep.of HBW.out))
        have hD : decide (0 < m) = true := decide_eq_true hd
        have HWD := Lib.hid (show res = [123] ++ (optS (decide (0 < n)) er ++ (optS (decide (0 < n)) [44] ++ ([34, 100, 97, 116, 97, 34, 58] ++ (valF v v.length 0).1) ++ [125])) by rw [HWS.out, hD]; rfl)
        have HXS := Lib.hid (bsl_mkS (valF v v.length 0).1)
        have hxs := mkS_size (valF v v.length 0).1
        have hxz : (mkS (valF v v.length 0).1).size ≤ 2000000 := by omega
        generalize mkS (valF v v.length 0).1 = x at *
        clear hxs vb1 vb3 vb4
        go_wp2_with (go_at_call 16; refine HVC.out.mono ?_; rintro e w5 ⟨rfl, hb5⟩)
        all_goals
          have B5 := Lib.hid (HBW.out.trans (hb5.mono HBW.out.size))
          go_ret
          first
          | (have hh : (!s.toList.isEmpty) = true := by assumption
             exact ⟨ret_s (bsl_inj (by rw [bsl_mkS, HWD.out, HTE.out hh]; simp only [bsl_app, HSS.out, HXS.out, List.append_assoc] <;> rfl)), B5.out⟩)
          | (have hh : (!s.toList.isEmpty) = false := by assumption
             exact ⟨ret_s (bsl_inj (by rw [bsl_mkS, HWD.out, HTN.out hh]; simp only [bsl_app, HSS.out, HXS.out, List.append_assoc, List.nil_append] <;> rfl)), B5.out⟩)
      · have hD : decide (0 < m) = false := decide_eq_false hd
        have HWD := Lib.hid (show res = [123] ++ (optS (decide (0 < n)) er ++ [125]) by rw [HWS.out, hD]; rfl)
        go_wp2
        go_ret
        exact ⟨ret_s (bsl_inj (by rw [bsl_mkS, HWD.out]; simp only [bsl_app, HSS.out, List.append_assoc] <;> rfl)), HBW.out⟩
end Go.Proofs.YtjbfkceficokbaaDoor
