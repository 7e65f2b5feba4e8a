/- Walks: the law ServeWrites. -/
import Derived.Test.YtjbfkceficokbaaDoorNh
import Derived.Deep.QuietTactic
namespace Go.Proofs.YtjbfkceficokbaaDoor
open Go.RowKit Pv

theorem drawn_below {W w : World} (h : Drawn W w) : Below W.heap.size W w := by obtain ⟨n, rfl⟩ := h; exact below_drewN (Below.refl _ _) n
theorem drawn_keep2 {W w w2 : World} (h : Drawn W w) (h2 : Drawn W w2) : Keep w w2 := by obtain ⟨n, rfl⟩ := h; obtain ⟨k, rfl⟩ := h2; exact ⟨Nat.le_refl _, fun _ _ _ => rfl⟩

set_option maxHeartbeats 4000000 in
set_option maxRecDepth 100000 in
theorem law_ServeWrites (W : World) (vA lA : Option Addr) (m mc n c : Nat) (v : List Cl) (fs : List Ft) (hv : AtCl W vA v) (hfs : AtFt W lA fs) (HM : Hid (v.length = m)) (HL : Hid (fs.length = n)) (hT : TabsB W.heap.size W) (hsz : ∀ (i : Nat) x, fs[i]? = some x → x.code.size ≤ 140737488355328 ∧ x.dir.size ≤ 140737488355328) :
    Calls Tryd.prog 3 #[.slice vA m mc, .slice lA n c] W fun e w' => e = .returned (.bool true) ∧ Below W.heap.size W w' := by
  have hn : n ≤ 140737488355328 := by have := hfs.1; rwa [HL.out] at this
  have HG := Lib.hid (ref03_Great vA m mc v W hv HM)
  have HV := Lib.hid hv; have HFS := Lib.hid hfs; have HT := Lib.hid hT; have HSZ := Lib.hid hsz
  clear hv hfs hT hsz
  go_enter Tryd.func3, Tryd.ntmps3
  go_wp2_with fail
  refine HG.out.mono ?_
  rintro e w' ⟨g, rfl, rfl, hg⟩
  have HQ := Lib.hid hg
  clear hg
  cases g
  case true =>
    go_wp2
    go_ret
    exact ⟨rfl, Below.refl _ _⟩
  by_cases hn20 : 20 < n
  · go_wp2
    go_ret
    exact ⟨rfl, Below.refl _ _⟩
  have q1 : decide (20 < (n : Int)) = false := decide_eq_false (by omega)
  go_wp2
  go_loopw [5] (fun iv wr => ∃ (k : Nat), iv = .int .i64 k ∧ k ≤ n ∧ Drawn W wr ∧ ∀ (i : Nat) x, i < k → fs[i]? = some x → FtOk x) (fun iv _ => n - (intOf iv).toNat)
  case atStart => exact ⟨0, rfl, by omega, Drawn.refl _, by intros; omega⟩
  case round =>
    obtain ⟨k, rfl, hk, hdr, hal⟩ := hrel
    have HA := Lib.hid hal; have HD := Lib.hid hdr
    have HB0 := Lib.hid (drawn_below hdr)
    clear hal hdr
    by_cases hlt : k < n
    · obtain ⟨lb, off, co, pA, pn, pc, p, di, ru, li, cl, rfl, hlb, ⟨x0, x1, x2, x3, x4, x5⟩, hp, HP, hpc, HX⟩ := AtFt.gt (AtFt.keep HFS.out (Keep.of HB0.out)) HL hlt
      have i1 : (0 : Int) ≤ (k : Int) := by omega
      have i2 : (k : Int) < (n : Int) := by omega
      have HP1 := Lib.hid hp
      have HRG := Lib.hid (AtFt.rng HFS.out k _ HX.out)
      have HSN := Lib.hid (fun W' : World => (ref23_SameNil pA pn pc W').mono (R' := fun e w' => e = .returned (.bool (decide (pn = 0))) ∧ w' = W') fun e w' ⟨h1, h2⟩ => ⟨h1, h2.symm⟩)
      clear hp
      by_cases hp20 : 20 < pn
      · have z1 : decide (20 < (pn : Int)) = true := decide_eq_true (by omega)
        go_wp2
        go_quiet ((go_at_call 5; exact Calls.quiet_of_same (HSN.out _)))
        go_wp2
        go_ret
        exact ⟨rfl, by repeat (first | exact HB0.out | apply below_drewN)⟩
      have z1 : decide (20 < (pn : Int)) = false := decide_eq_false (by omega)
      obtain ⟨sz1, sz2⟩ := HSZ.out k _ HX.out
      simp only at sz1 sz2
      have g1 : IntKind.i64.wrap ((co.size : Int) + (di.size : Int)) = (co.size : Int) + (di.size : Int) := by rw [IntKind.wrap_i64]; omega
      by_cases hs : 3000 < co.size + di.size
      · have z2 : decide (3000 < (co.size : Int) + (di.size : Int)) = true := decide_eq_true (by omega)
        have z4 : decide (3000 < co.size + di.size) = true := decide_eq_true (by omega)
        clear hs
        go_wp2
        go_quiet ((go_at_call 5; exact Calls.quiet_of_same (HSN.out _)))
        go_wp2
        go_ret
        exact ⟨rfl, by repeat (first | exact HB0.out | apply below_drewN)⟩
      · have z2 : decide (3000 < (co.size : Int) + (di.size : Int)) = false := decide_eq_false (by omega)
        have hz : ∃ bz, decide (pn = 0) = bz ∧ ((pn : Int) == 0) = bz := ⟨_, rfl, by rw [Bool.eq_iff_iff]; simp <;> omega⟩
        obtain ⟨bz, hz1, z3⟩ := hz
        rw [hz1] at HSN
        clear hz1
        cases bz
        all_goals
          go_wp2
          refine wp_region_quiet_lit (by kernel_rfl) (by kernel_rfl) ?_
          repeat (any_goals (first | go_big_quiet_step (fail) | quiet_step (fail)))
          refine wpQuiet_step (fun K hK => ?_)
          go_simp
          refine ⟨_, fun a => Calls.quiet_of_same (HSN.out _), ?_⟩
          refine hK _ ?_
          clear hK K
          repeat (any_goals (first | go_big_quiet_step (fail) | quiet_step (fail)))
          refine wpQuiet_nil ?_
          intro _ hw'
          obtain ⟨nq, hw''⟩ := hw'
          subst hw''
          go_wp2
          go_loopw [6] (fun iv wr => ∃ (j : Nat), iv = .int .i64 j ∧ j ≤ pn ∧ Drawn W wr ∧ ∀ (i : Nat) s, i < j → p[i]? = some s → s.name.size ≤ 3000) (fun iv _ => pn - (intOf iv).toNat)
          case atStart => exact ⟨0, rfl, by omega, HD.out.drewN _, by intros; omega⟩
          case round =>
            obtain ⟨j, rfl, hj, hdr2, hnm⟩ := hrel
            have HNM := Lib.hid hnm; have HD2 := Lib.hid hdr2; have HB2 := Lib.hid (drawn_below hdr2)
            have kp2 := drawn_keep2 HD.out hdr2
            have y0 := (kp2.cell _ _ hlb).trans x0
            have y1 := (kp2.cell _ _ hlb).trans x1
            have hlb2 := Nat.lt_of_lt_of_le hlb kp2.size
            have KP2 := Lib.hid kp2
            clear hnm hdr2 kp2
            by_cases hjt : j < pn
            · obtain ⟨pb, po, nm, z, e9, hpb, ⟨u0, u1⟩, hz, HS⟩ := AtSt.gt (AtK.keep HP1.out KP2.out) HP hjt
              subst e9
              have i3 : (0 : Int) ≤ (j : Int) := by omega
              have i4 : (j : Int) < (pn : Int) := by omega
              by_cases hns : 3000 < nm.size
              · go_wp2
                go_ret
                exact ⟨rfl, HB2.out⟩
              · have HNM2 := Lib.hid (show ∀ (i : Nat) s, i < j + 1 → p[i]? = some s → s.name.size ≤ 3000 from fun i s hi hs => by
                  by_cases e : i = j
                  · subst e
                    obtain rfl := Option.some.inj (hs.symm.trans HS.out)
                    simp only; omega
                  · exact HNM.out i s (by omega) hs)
                go_wp2
                go_roundw
                case rel => exact ⟨j + 1, by go_num, by omega, HD2.out, HNM2.out⟩
                case measure => simp [intOf]; omega
            · have HOK := Lib.hid (show ∀ (i : Nat) x, i < k + 1 → fs[i]? = some x → FtOk x from fun i x hi hx => by
                by_cases e : i = k
                · subst e
                  obtain rfl := Option.some.inj (hx.symm.trans HX.out)
                  obtain ⟨r1, r2, r3, r4⟩ := HRG.out
                  exact ⟨by simp only; omega, by simp only; omega, by simp only; rw [HP.out]; omega, fun i s hs => HNM.out i s (by have := lt_of_get hs; rw [HP.out] at this; omega) hs, r4, r1, r2, r3⟩
                · exact HA.out i x (by omega) hx)
              go_wp2
              go_roundw
              case rel => exact ⟨k + 1, by go_num, by omega, HD2.out, HOK.out⟩
              case measure => simp [intOf]; omega
    · have HOK := Lib.hid (show ∀ (i : Nat) x, fs[i]? = some x → FtOk x from fun i x hx => HA.out i x (by have := lt_of_get hx; rw [HL.out] at this; omega) hx)
      have hcv : ClsOk v := by
        obtain ⟨h1, h2⟩ := HQ.out (by first | rfl | trivial)
        exact ⟨h1, fun i c hc => (h2 i c hc).1, fun i c hc => (h2 i c hc).2, fun i c hc => AtCl.rng HV.out i c hc⟩
      have HCV := Lib.hid hcv
      have hT2 : TabsB wr.heap.size wr := (HT.out.next HB0.out).up HB0.out.size
      have HS := Lib.hid (serve_Write wr vA lA m mc n c v fs (AtK.keep HV.out (Keep.of HB0.out)) (AtFt.keep HFS.out (Keep.of HB0.out)) HM HL (by omega) hcv HOK.out hT2)
      clear hcv hT2
      go_wp2_with fail
      refine HS.out.mono ?_
      rintro e w1 ⟨rfl, hb1⟩
      have HB1 := Lib.hid (HB0.out.trans (hb1.mono HB0.out.size))
      have HR := Lib.hid (ref_Write w1 vA lA m mc n c v fs (AtK.keep HV.out (Keep.of HB1.out)) (AtFt.keep HFS.out (Keep.of HB1.out)) HM HL (by omega) HCV.out HOK.out)
      clear hb1
      generalize mkS (writeS v fs) = r at *
      have t1 : (r.toList == r.toList) = true := by simp
      go_wp2_with fail
      refine HR.out.mono ?_
      rintro e w2 ⟨rfl, hb2⟩
      have HB2 := Lib.hid (HB1.out.trans (hb2.mono HB1.out.size))
      clear hb2
      go_wp2
      go_ret
      exact ⟨rfl, HB2.out⟩
end Go.Proofs.YtjbfkceficokbaaDoor
