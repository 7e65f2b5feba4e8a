/- Walks: a fault's text (the document's). PUT1 -/
import Derived.Test.YtjbfkceficokbaaDoorNc
import Derived.Deep.DeepCutAuto
namespace Go.Proofs.YtjbfkceficokbaaDoor
open Go.RowKit Pv

set_option maxHeartbeats 2000000 in
set_option maxRecDepth 100000 in
theorem ref_path (w0 W : World) (pA : Option Addr) (pn pc : Nat) (path : List St) (hp : AtK w0 2 pA RSt path) (HP : Hid (path.length = pn)) (hpn : pn ≤ 20) (hnm : ∀ (i : Nat) s, path[i]? = some s → s.name.size ≤ 3000) (hpl : ∀ i, (pathF path i).length ≤ 18002) (kp : Keep w0 W) :
    Calls Tryd.prog 24 #[.slice pA pn pc] W fun e w' => e = .returned (.string (mkS (pathS path))) ∧ Below W.heap.size W w' := by
  have HPT := Lib.hid hp; have KP := Lib.hid kp; have HNM := Lib.hid hnm
  have HPL := Lib.hid hpl
  have HCL := Lib.hid (fun k => commaN_len hpl k)
  have HPS := Lib.hid (show pathS path = [91] ++ (commaN (pathF path) pn ++ [93]) by unfold pathS; rw [HP.out]; rfl)
  clear hp kp hnm hpl
  go_enter Tryd.func24, Tryd.ntmps24
  go_wp2
  go_loopw [3, 4] (fun sv iv wr => ∃ (k : Nat) (r : ByteArray), iv = .int .i64 k ∧ k ≤ pn ∧ sv = .string r ∧ bsl r = commaN (pathF path) k ∧ Below W.heap.size W wr) (fun _ iv _ => pn - (intOf iv).toNat)
  case atStart => exact ⟨0, _, rfl, by omega, rfl, rfl, Below.refl _ _⟩
  case round =>
    obtain ⟨k, r, rfl, hk, rfl, hr, hb⟩ := hrel
    have HR := Lib.hid hr; have HB := Lib.hid hb
    have hrs : r.size ≤ 400000 := by
      have h1 := HCL.out k
      have h2 := Nat.mul_le_mul_right (18002 + 1) (Nat.le_trans hk hpn)
      rw [← bsl_len, hr]; omega
    clear hr hb
    by_cases hlt : k < pn
    · obtain ⟨pb, po, nm, z, e9, hpb, ⟨u0, u1⟩, hz, HX⟩ := AtSt.gt (AtK.keep HPT.out (KP.out.trans (Keep.of HB.out))) HP hlt
      subst e9
      have hnms : nm.size ≤ 3000 := HNM.out k _ HX.out
      have HPF := Lib.hid (show pathF path k = stepS ⟨nm, z⟩ by unfold pathF; rw [HX.out])
      have HSN := Lib.hid (show commaN (pathF path) (k + 1) = commaN (pathF path) k ++ (sepL k ++ pathF path k) from rfl)
      by_cases hne : bsl nm = []
      case' pos =>
        have t1 := toL_nil hne
        have HPF2 := Lib.hid (show bsl (mkS (Lib.itoa z)) = pathF path k by rw [HPF.out, bsl_mkS]; unfold stepS; rw [if_pos hne])
        have HN := Lib.hid (fun (W' : World) => show Calls Tryd.prog 25 #[.int .i64 z] W' (fun e w' => e = .returned (.string (mkS (Lib.itoa z))) ∧ Below W'.heap.size W' w') from (ref02_Write z.natAbs z W' (Nat.le_refl _) hz.1 hz.2).mono fun e w' ⟨h1, h2⟩ => ⟨h1, h2 ▸ Below.refl _ _⟩)
        have hrz : (mkS (Lib.itoa z)).size ≤ 18002 := by rw [mkS_size]; have := itoa_len z hz.1 hz.2; omega
        generalize mkS (Lib.itoa z) = q at *
        clear hne
      case' neg =>
        have t1 := toL_ne hne
        have HPF2 := Lib.hid (show bsl (mkS (jq (bsl nm))) = pathF path k by rw [HPF.out, bsl_mkS]; unfold stepS; rw [if_neg hne])
        have HN := Lib.hid (fun (W' : World) => ref31_quoted nm W' (by omega))
        have hrz : (mkS (jq (bsl nm))).size ≤ 18002 := by rw [mkS_size]; have := jq_len (bsl nm); rw [bsl_len] at this; omega
        generalize mkS (jq (bsl nm)) = q at *
        clear hne
      all_goals
        rcases Nat.eq_zero_or_pos k with hk0 | hk0
        case' inl =>
          have t2 : decide (0 < k) = false := decide_eq_false (by omega)
          have HSP := Lib.hid (show sepL k = [] by rw [hk0]; rfl)
          clear hk0
        case' inr =>
          have t2 : decide (0 < k) = true := decide_eq_true hk0
          have HSP := Lib.hid (sepL_s hk0)
        all_goals
          go_wp2_with fail
          refine (HN.out _).mono ?_
          rintro e w5 ⟨rfl, hb5⟩
          have B5 := Lib.hid (HB.out.trans (hb5.mono HB.out.size))
          clear hb5
          go_wp2
          go_roundw
          case rel =>
            refine ⟨k + 1, _, by go_num, by omega, rfl, ?_, B5.out⟩
            simp only [HSN.out, bsl_app, HR.out, HPF2.out, HSP.out, List.append_assoc, List.nil_append] <;> rfl
          case measure => simp [intOf]; omega
    · have hkp : k = pn := by omega
      have HFIN := Lib.hid (show bsl ((({ data := #[91] } : ByteArray) ++ r) ++ ({ data := #[93] } : ByteArray)) = pathS path by rw [bsl_app, bsl_app, HR.out, HPS.out, hkp, List.append_assoc] <;> rfl)
      clear hkp
      go_wp2
      go_ret
      exact ⟨ret_s (bsl_inj (by rw [HFIN.out, bsl_mkS])), HB.out⟩

set_option maxHeartbeats 4000000 in
set_option maxRecDepth 100000 in
theorem ref_fault (w0 W : World) (co di : ByteArray) (pA : Option Addr) (pn pc : Nat) (path : List St) (ru li cl : Int) (hp : AtK w0 2 pA RSt path) (HP : Hid (path.length = pn)) (hok : FtOk ⟨co, path, di, ru, li, cl⟩) (kp : Keep w0 W) :
    Calls Tryd.prog 15 #[.agg #[.string co, .slice pA pn pc, .string di, .int .i64 ru, .int .i64 li, .int .i64 cl]] W fun e w' => e = .returned (.string (mkS (faultS ⟨co, path, di, ru, li, cl⟩))) ∧ Below W.heap.size W w' := by
  have hco : co.size ≤ 3000 := hok.code
  have hdi : di.size ≤ 3000 := hok.dir
  have hpn : pn ≤ 20 := by have := hok.path; simp only at this; rwa [HP.out] at this
  obtain ⟨l1, l2, l3, l4, l5, l6⟩ := fa_len hok
  have hru := hok.rule; have hli := hok.line; have hcl := hok.col
  simp only at hru hli hcl
  have HF1 : Hid (fa1 ⟨co, path, di, ru, li, cl⟩ = [123, 34, 99, 111, 100, 101, 34, 58] ++ jq (bsl co)) := Lib.hid rfl
  have HF2 : Hid (fa2 ⟨co, path, di, ru, li, cl⟩ = fa1 ⟨co, path, di, ru, li, cl⟩ ++ optS (decide (0 < path.length)) (memS nPath (pathS path))) := Lib.hid rfl
  have HF3 : Hid (fa3 ⟨co, path, di, ru, li, cl⟩ = fa2 ⟨co, path, di, ru, li, cl⟩ ++ optS (decide (bsl di ≠ [])) (memS nDir (jq (bsl di)))) := Lib.hid rfl
  have HF4 : Hid (fa4 ⟨co, path, di, ru, li, cl⟩ = fa3 ⟨co, path, di, ru, li, cl⟩ ++ optS (decide (ru ≠ 0)) (memS nRule (Lib.itoa ru))) := Lib.hid rfl
  have HF5 : Hid (fa5 ⟨co, path, di, ru, li, cl⟩ = fa4 ⟨co, path, di, ru, li, cl⟩ ++ optS (decide (li ≠ 0)) (memS nLine (Lib.itoa li))) := Lib.hid rfl
  have HF6 : Hid (fa6 ⟨co, path, di, ru, li, cl⟩ = fa5 ⟨co, path, di, ru, li, cl⟩ ++ optS (decide (li ≠ 0)) (memS nCol (Lib.itoa cl))) := Lib.hid rfl
  have HF7 : Hid (faultS ⟨co, path, di, ru, li, cl⟩ = fa6 ⟨co, path, di, ru, li, cl⟩ ++ [125]) := Lib.hid rfl
  have HPA := Lib.hid (fun (W' : World) (h : Keep w0 W') => ref_path w0 W' pA pn pc path hp HP hpn hok.name (fun i => pathF_len hok i) h)
  have hps : (mkS (pathS path)).size ≤ 400000 := by rw [mkS_size]; exact pathS_len hok
  generalize fa1 ⟨co, path, di, ru, li, cl⟩ = f1 at *
  generalize fa2 ⟨co, path, di, ru, li, cl⟩ = f2 at *
  generalize fa3 ⟨co, path, di, ru, li, cl⟩ = f3 at *
  generalize fa4 ⟨co, path, di, ru, li, cl⟩ = f4 at *
  generalize fa5 ⟨co, path, di, ru, li, cl⟩ = f5 at *
  generalize fa6 ⟨co, path, di, ru, li, cl⟩ = f6 at *
  generalize faultS ⟨co, path, di, ru, li, cl⟩ = f7 at *
  have KP := Lib.hid kp
  have HPJ := Lib.hid (bsl_mkS (pathS path))
  have HJC := Lib.hid (bsl_mkS (jq (bsl co)))
  have hjc : (mkS (jq (bsl co))).size ≤ 19000 := by have := jq_len (bsl co); rw [bsl_len] at this; rw [mkS_size]; omega
  have HQC := Lib.hid (fun (W' : World) => ref31_quoted co W' (by omega))
  have HJD := Lib.hid (bsl_mkS (jq (bsl di)))
  have hjd : (mkS (jq (bsl di))).size ≤ 19000 := by have := jq_len (bsl di); rw [bsl_len] at this; rw [mkS_size]; omega
  have HQD := Lib.hid (fun (W' : World) => ref31_quoted di W' (by omega))
  have HIR := Lib.hid (bsl_mkS (Lib.itoa ru)); have HIL := Lib.hid (bsl_mkS (Lib.itoa li)); have HIC := Lib.hid (bsl_mkS (Lib.itoa cl))
  have hir : (mkS (Lib.itoa ru)).size ≤ 20 := by rw [mkS_size]; exact itoa_len ru hru.1 hru.2
  have hil : (mkS (Lib.itoa li)).size ≤ 20 := by rw [mkS_size]; exact itoa_len li hli.1 hli.2
  have hic : (mkS (Lib.itoa cl)).size ≤ 20 := by rw [mkS_size]; exact itoa_len cl hcl.1 hcl.2
  have HNR := Lib.hid (fun (W' : World) => ref02_Write ru.natAbs ru W' (Nat.le_refl _) hru.1 hru.2)
  have HNL := Lib.hid (fun (W' : World) => ref02_Write li.natAbs li W' (Nat.le_refl _) hli.1 hli.2)
  have HNC := Lib.hid (fun (W' : World) => ref02_Write cl.natAbs cl W' (Nat.le_refl _) hcl.1 hcl.2)
  generalize mkS (jq (bsl co)) = qc at *
  generalize mkS (jq (bsl di)) = qd at *
  generalize mkS (pathS path) = qp at *
  generalize mkS (Lib.itoa ru) = qr at *
  generalize mkS (Lib.itoa li) = ql at *
  generalize mkS (Lib.itoa cl) = qn at *
  have hW : Below W.heap.size W (W.alloc (.cells #[.string co, .slice pA pn pc, .string di, .int .i64 ru, .int .i64 li, .int .i64 cl] TFault)) := (Below.refl _ _).alloc (Nat.le_refl _) _
  have B1 := Lib.hid hW
  have X1 := Lib.hid (Blk.new W TFault #[.string co, .slice pA pn pc, .string di, .int .i64 ru, .int .i64 li, .int .i64 cl])
  clear hok hp hW kp hru hli hcl
  go_enter Tryd.func15, Tryd.ntmps15
  go_wp2_with fail
  refine (HQC.out _).mono ?_
  rintro e w1 ⟨rfl, hb1⟩
  have B2 := Lib.hid (B1.out.trans (hb1.mono B1.out.size)); have X2 := Lib.hid (X1.out.below hb1 X1.out.lt)
  clear hb1
  have hlt2 := X2.out.lt
  have c1 := X2.out.cell 1
  simp at c1
  go_upto_if 11 with (fail)
  go_cut [3] (fun sv wx => ∃ r : ByteArray, sv = .string r ∧ bsl r = f2 ∧ Below W.heap.size W wx ∧ Blk wx W.heap.size TFault #[.string co, .slice pA pn pc, .string di, .int .i64 ru, .int .i64 li, .int .i64 cl])
  case first =>
    by_cases hpp : 0 < pn
    · have HFF := Lib.hid (show f2 = f1 ++ memS nPath (pathS path) by rw [HF2.out, HP.out, decide_eq_true hpp]; rfl)
      go_wp2_with fail
      refine (HPA.out _ (KP.out.trans (Keep.of B2.out))).mono ?_
      rintro e w3 ⟨rfl, hb3⟩
      have B3 := Lib.hid (B2.out.trans (hb3.mono B2.out.size)); have X3 := Lib.hid (X2.out.below hb3 X2.out.lt)
      clear hb3
      go_wp2
      go_meet
      exact ⟨_, rfl, by rw [bsl_app, bsl_app, HJC.out, bsl_app, HPJ.out, HFF.out, HF1.out]; unfold memS; rw [jq_nPath]; rfl, B3.out, X3.out⟩
    · have HFF := Lib.hid (show f2 = f1 by rw [HF2.out, HP.out, decide_eq_false hpp]; simp [optS])
      go_wp2
      go_meet
      exact ⟨_, rfl, by rw [bsl_app, HJC.out, HFF.out, HF1.out] <;> rfl, B2.out, X2.out⟩
  case rest =>
  obtain ⟨s3, rfl, hsb3, hbe3, hx3⟩ := hcut
  have HSB3 := Lib.hid hsb3; have B3 := Lib.hid hbe3; have X3 := Lib.hid hx3
  have hs3 : s3.size ≤ 430000 := by rw [← bsl_len, hsb3]; exact l2
  clear hsb3 hbe3 hx3
  have hlt3 := X3.out.lt
  have c2 := X3.out.cell 2
  simp at c2
  go_upto_if 20 with (fail)
  go_cut [3] (fun sv wx => ∃ r : ByteArray, sv = .string r ∧ bsl r = f3 ∧ Below W.heap.size W wx ∧ Blk wx W.heap.size TFault #[.string co, .slice pA pn pc, .string di, .int .i64 ru, .int .i64 li, .int .i64 cl])
  case first =>
    have HFA := Lib.hid (show (!di.toList.isEmpty) = true → f3 = f2 ++ memS nDir (jq (bsl di)) from fun h => by
      rw [HF3.out, show decide (bsl di ≠ []) = true from decide_eq_true (fun e => by rw [toL_nil e] at h; cases h)]; rfl)
    have HFB := Lib.hid (show (!di.toList.isEmpty) = false → f3 = f2 from fun h => by
      rw [HF3.out, show decide (bsl di ≠ []) = false from decide_eq_false (fun e => by rw [toL_ne e] at h; cases h)]; simp [optS])
    go_wp2_with (go_at_call 23; refine (HQD.out _).mono ?_; rintro e w4 ⟨rfl, hb4⟩)
    all_goals
      first
      | (have hh : (!di.toList.isEmpty) = true := by assumption
         have HFF := Lib.hid (HFA.out hh)
         go_meet
         exact ⟨_, rfl, by rw [bsl_app, HSB3.out, bsl_app, HJD.out, HFF.out]; unfold memS; rw [jq_nDir]; rfl, B3.out.trans (hb4.mono B3.out.size), X3.out.below hb4 X3.out.lt⟩)
      | (have hh : (!di.toList.isEmpty) = false := by assumption
         go_meet
         exact ⟨_, rfl, by rw [HSB3.out, HFB.out hh], B3.out, X3.out⟩)
  case rest =>
  obtain ⟨s4, rfl, hsb4, hbe4, hx4⟩ := hcut
  have HSB4 := Lib.hid hsb4; have B4 := Lib.hid hbe4; have X4 := Lib.hid hx4
  have hs4 : s4.size ≤ 450000 := by rw [← bsl_len, hsb4]; exact l3
  clear hsb4 hbe4 hx4
  have hlt4 := X4.out.lt
  have c3 := X4.out.cell 3
  simp at c3
  go_upto_if 29 with (fail)
  go_cut [3] (fun sv wx => ∃ r : ByteArray, sv = .string r ∧ bsl r = f4 ∧ Below W.heap.size W wx ∧ Blk wx W.heap.size TFault #[.string co, .slice pA pn pc, .string di, .int .i64 ru, .int .i64 li, .int .i64 cl])
  case first =>
    by_cases hr0 : ru = 0
    · have t1 : (ru != 0) = false := by simpa using hr0
      have HFF := Lib.hid (show f4 = f3 by rw [HF4.out, decide_eq_false (fun h => h hr0)]; simp [optS])
      clear hr0
      go_wp2
      go_meet
      exact ⟨_, rfl, by rw [HSB4.out, HFF.out], B4.out, X4.out⟩
    · have t1 : (ru != 0) = true := by simpa using hr0
      have HFF := Lib.hid (show f4 = f3 ++ memS nRule (Lib.itoa ru) by rw [HF4.out, decide_eq_true hr0]; rfl)
      clear hr0
      go_wp2_with fail
      refine (HNR.out _).mono ?_
      rintro e w5 ⟨rfl, rfl⟩
      go_wp2
      go_meet
      exact ⟨_, rfl, by rw [bsl_app, HSB4.out, bsl_app, HIR.out, HFF.out]; unfold memS; rw [jq_nRule]; rfl, B4.out, X4.out⟩
  case rest =>
  obtain ⟨s5, rfl, hsb5, hbe5, hx5⟩ := hcut
  have HSB5 := Lib.hid hsb5; have B5 := Lib.hid hbe5; have X5 := Lib.hid hx5
  have hs5 : s5.size ≤ 451000 := by rw [← bsl_len, hsb5]; exact l4
  clear hsb5 hbe5 hx5
  have hlt5 := X5.out.lt
  have c4 := X5.out.cell 4
  have c5 := X5.out.cell 5
  simp at c4 c5
  go_upto_if 38 with (fail)
  go_cut [3] (fun sv wx => ∃ r : ByteArray, sv = .string r ∧ bsl r = f6 ∧ Below W.heap.size W wx ∧ Blk wx W.heap.size TFault #[.string co, .slice pA pn pc, .string di, .int .i64 ru, .int .i64 li, .int .i64 cl])
  case first =>
    by_cases hl0 : li = 0
    · have t1 : (li != 0) = false := by simpa using hl0
      have HFF := Lib.hid (show f6 = f4 by rw [HF6.out, HF5.out, decide_eq_false (fun h => h hl0)]; simp [optS])
      clear hl0
      go_wp2
      go_meet
      exact ⟨_, rfl, by rw [HSB5.out, HFF.out], B5.out, X5.out⟩
    · have t1 : (li != 0) = true := by simpa using hl0
      have HFF := Lib.hid (show f6 = f4 ++ memS nLine (Lib.itoa li) ++ memS nCol (Lib.itoa cl) by rw [HF6.out, HF5.out, decide_eq_true hl0]; rfl)
      have HS9 : Hid (wc.drew.cell? ⟨W.heap.size, 4, none⟩ = some (.int .i64 li) ∧ wc.drew.cell? ⟨W.heap.size, 5, none⟩ = some (.int .i64 cl)) := Lib.hid ⟨c4, c5⟩
      clear hl0 c4 c5
      go_wp2
      refine wp_region_T 8 (fun W' => W'.cell? ⟨W.heap.size, 4, none⟩ = some (.int .i64 li) ∧ W'.cell? ⟨W.heap.size, 5, none⟩ = some (.int .i64 cl)) (by kernel_rfl) ?_
      refine wpAnyT_takeW (i := 0) (v := ?_) rfl (by decide) (by kernel_rfl) (by kernel_rfl) (by kernel_rfl) (fun _ _ _ h => h) (.inl ⟨rfl, ?_⟩) (fun _ => HS9.out) ?_
      rotate_left
      · intro W__ _
        go_simp
        (try with_reducible rfl)
      try simp only [Act.put]
      refine wpAnyT_takeW (i := 1) (v := ?_) rfl (by decide) (by kernel_rfl) (by kernel_rfl) (by kernel_rfl) (fun _ _ _ h => h) (.inl ⟨rfl, ?_⟩) (fun _ => HS9.out) ?_
      rotate_left
      · intro W__ _
        go_simp
        (try with_reducible rfl)
      try simp only [Act.put]
      refine wpAnyT_takeW (i := 6) (v := ?_) rfl (by decide) (by kernel_rfl) (by kernel_rfl) (by kernel_rfl) (fun _ _ _ h => h) (.inl ⟨rfl, ?_⟩) (fun _ => HS9.out) ?_
      rotate_left
      · intro W__ _
        go_simp
        (try with_reducible rfl)
      try simp only [Act.put]
      refine wpAnyT_take2 (i := 2) 3 (v := ?_) rfl (by kernel_rfl) (by kernel_rfl) (by kernel_rfl) (by kernel_rfl) (by kernel_rfl) (by kernel_rfl) (by kernel_rfl) (fun _ _ _ h => h) (.inl ⟨rfl, ?_⟩) HS9.out ?_
      rotate_left
      · intro W__ hW__
        obtain ⟨g1, g2⟩ := hW__
        go_simp
        (try with_reducible rfl)
      try simp only [Act.put]
      refine wpAnyT_take (i := 7) (v := ?_) rfl (by kernel_rfl) (by kernel_rfl) (by kernel_rfl) (by kernel_rfl) (by kernel_rfl) (fun _ _ _ h => h) (.inl ⟨rfl, ?_⟩) HS9.out ?_
      rotate_left
      · intro W__ hW__
        obtain ⟨g1, g2⟩ := hW__
        go_simp
        (try with_reducible rfl)
      try simp only [Act.put]
      refine wpAnyT_one (i := 3) rfl (by kernel_rfl) rfl fun K__ hK__ => ?_
      unfold Oper.wp
      go_simp
      refine (HNL.out _).mono ?_
      rintro e w6 ⟨rfl, rfl⟩
      refine hK__ _ _ HS9.out ?_
      clear hK__
      try simp only [Act.put]
      have hz1 : (9223372036854775807 < 8 + ql.size) = False := eq_false (by omega)
      have hz2 : (9223372036854775807 < 8 + ql.size + 10) = False := eq_false (by omega)
      have hz3 : (9223372036854775807 < 8 + ql.size + 10 + qn.size) = False := eq_false (by omega)
      have hz4 : (9223372036854775807 < s5.size + (8 + ql.size + 10 + qn.size)) = False := eq_false (by omega)
      refine wpAnyT_takeW (i := 4) (v := ?_) rfl (by decide) (by kernel_rfl) (by kernel_rfl) (by kernel_rfl) (fun _ _ _ h => h) (.inl ⟨rfl, ?_⟩) (fun _ => HS9.out) ?_
      rotate_left
      · intro W__ _
        go_simp
        (try with_reducible rfl)
      try simp only [Act.put]
      refine wpAnyT_takeW (i := 5) (v := ?_) rfl (by decide) (by kernel_rfl) (by kernel_rfl) (by kernel_rfl) (fun _ _ _ h => h) (.inl ⟨rfl, ?_⟩) (fun _ => HS9.out) ?_
      rotate_left
      · intro W__ _
        go_simp
        (try with_reducible rfl)
      try simp only [Act.put]
      refine wpAnyT_end (i := 8) rfl (by kernel_rfl) rfl (by kernel_rfl) fun K__ hK__ => ?_
      unfold Oper.wp
      go_simp
      refine (HNC.out _).mono ?_
      rintro e w7 ⟨rfl, rfl⟩
      refine hK__ _ _ ?_
      clear hK__
      try simp only [Act.put]
      refine wpAnyT_end (i := 9) rfl (by kernel_rfl) rfl (by kernel_rfl) fun K__ hK__ => ?_
      unfold Oper.wp
      go_simp
      refine hK__ _ _ ?_
      clear hK__
      refine wpAnyT_end (i := 10) rfl (by kernel_rfl) rfl (by kernel_rfl) fun K__ hK__ => ?_
      unfold Oper.wp
      go_simp
      refine hK__ _ _ ?_
      clear hK__
      refine wpAnyT_end (i := 11) rfl (by kernel_rfl) rfl (by kernel_rfl) fun K__ hK__ => ?_
      unfold Oper.wp
      go_simp
      refine hK__ _ _ ?_
      clear hK__
      refine wpAnyT_done (by kernel_rfl) ?_ _
      go_wp2
      go_meet
      exact ⟨_, rfl, by simp only [bsl_app, HSB5.out, HIL.out, HIC.out, HFF.out]; unfold memS; rw [jq_nLine, jq_nCol]; simp; rfl, B5.out.drew, X5.out⟩
  case rest =>
  obtain ⟨s6, rfl, hsb6, hbe6, hx6⟩ := hcut
  have HSB6 := Lib.hid hsb6; have B6 := Lib.hid hbe6; have X6 := Lib.hid hx6
  have hs6 : s6.size ≤ 453000 := by rw [← bsl_len, hsb6]; exact l6
  clear hsb6 hbe6 hx6
  have HFIN := Lib.hid (show bsl (s6 ++ ({ data := #[125] } : ByteArray)) = f7 by rw [bsl_app, HSB6.out, HF7.out] <;> rfl)
  go_wp2
  go_ret
  exact ⟨ret_s (bsl_inj (by rw [HFIN.out, bsl_mkS])), B6.out⟩
end Go.Proofs.YtjbfkceficokbaaDoor
