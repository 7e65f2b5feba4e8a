/- Walks: a change undone. PUT1 -/
import Derived.Test.YtbdkedjgfihamaaGreatDoorV51u
import Derived.Deep.DeepCutAuto
import Derived.Deep.RegionHeld3
import Derived.Test.YtbdkedjgfihamaaGreatDoorQwu
namespace Go.Proofs.YtbdkedjgfihamaaGreatDoor
open Go.RowKit Pv Go.Maps
theorem str_emp (s : ByteArray) : s.toList.isEmpty = decide (s.size = 0) := by
  rw [Lib.toList_data]
  have h : s.data.toList.length = s.size := bsl_len s
  cases hx : s.data.toList with
  | nil => rw [hx] at h; simp at h; simp [← h]
  | cons b l =>
    rw [hx] at h
    simp only [List.length_cons] at h
    rw [List.isEmpty_cons, decide_eq_false (by omega)]
theorem putB_eq (t : Tab) (r : Rec) : putB t r = putE t r := by
  unfold putB putE
  cases hb : tabB t with
  | true => rw [yes_t ((tabB_iff t).1 hb)]; cases oneR r <;> rfl
  | false => rw [yes_f (fun h => by rw [(tabB_iff t).2 h] at hb; cases hb)]; rfl
/-- What undo leaves. -/
def UndoP (w : World) (ob : Nat) (T : Option Addr) (tn tc lg m lc : Nat) (ts : List Tab) (log : List Chg) (x : Chg) (W' : World) : Prop := match back1 ts x with
  | some ts' => StoIn w W' ob T tn tc (some ⟨lg, 0, none⟩) m lc false ts' (log.take m)
  | none => Blk W' ob TSx #[.slice T tn tc, .slice (some ⟨lg, 0, none⟩) m lc, .bool true] ∧ Below w.heap.size w W'
set_option maxHeartbeats 8000000 in
set_option maxRecDepth 100000 in
theorem undo_undo (B : Nat) (w W : World) (ob : Nat) (T : Option Addr) (tn tc lg ln lc m : Nat) (ts : List Tab) (log : List Chg) (x : Chg) (h : StoIn w W ob T tn tc (some ⟨lg, 0, none⟩) ln lc false ts log) (hlm : Hid (ln = m + 1)) (hx : log[m]? = some x) (hts : TabsOk ts) (hbd : ∀ t, t ∈ ts → TabBd t) (hcs : CelsB x.was.data) (hcl : x.was.data.length ≤ 100000) (_htn : tn ≤ 100000) (hln : ln ≤ 100000) (hT : TabS B w) (hB : B ≤ w.heap.size) :
    Calls Tryz.prog 40 #[.pointer (some ⟨ob, 0, none⟩)] W fun e W' => e = .returned (.tuple #[]) ∧ UndoP w ob T tn tc lg m lc ts log x W' := by
  have hmf : ∀ (fn : Fn) (first cap : Array Value) (w : World), (Instr.makeFunc fn first cap).run Tryz.prog w = .ok (.func fn first cap) w := fun _ _ _ _ => rfl
  have hml : m < ln := by have := hlm.out; omega
  have HH := Lib.hid h
  obtain ⟨g', cur, x', f, hA, hge, hcur, hx', hf, hR⟩ := h.log.gt hml
  obtain rfl : lg = g' := by injection hA with e; injection e
  obtain rfl : x' = x := by rw [hx] at hx'; exact (Option.some.inj hx').symm
  obtain ⟨⟨t0, t1, t2⟩, ⟨j0, j1⟩, r0, ⟨w0, hwi⟩, hw⟩ := hR
  obtain ⟨D, dc, us, hd, hown, hrl⟩ := hw
  obtain ⟨wm, hwm⟩ : ∃ wm, x'.was.data.length = wm := ⟨_, rfl⟩
  rw [hwm] at hd hown
  have c0 := (hcur.cell _).trans (hf 0 (by omega)); have c1 := (hcur.cell _).trans (hf 1 (by omega)); have c2 := (hcur.cell _).trans (hf 2 (by omega)); have c3 := (hcur.cell _).trans (hf 3 (by omega)); have c4 := (hcur.cell _).trans (hf 4 (by omega))
  rw [t0] at c0; rw [j0] at c1; rw [r0] at c2; rw [w0] at c3; rw [hd] at c4
  rw [Nat.add_zero] at c0
  have cl := hcur.lt
  have HWM := Lib.hid hwm
  have HOW : Hid (OwnC W w.heap.size (.slice D wm dc) x'.was.data) := Lib.hid ⟨D, dc, us, by rw [hwm], by rw [hwm]; exact hown, hrl⟩
  have s0 := h.blk.cell 0; have s1 := h.blk.cell 1; have s2 := h.blk.cell 2; have sl := h.blk.lt
  have sf := h.blk.frozen 2
  simp at s0 s1 s2
  have sl1 : ob < W.heap.size + 1 := by omega
  have sl2 : ob < W.heap.size + 1 + 1 := by omega
  have cl1 : lg < W.heap.size + 1 := by omega
  have cl2 : lg < W.heap.size + 1 + 1 := by omega
  have hm1 : (ln : Int) - 1 = (m : Int) := by have := hlm.out; omega
  have i1 : (0 : Int) ≤ (m : Int) := by omega
  have i2 : (m : Int) < (ln : Int) := by omega
  have HTS := Lib.hid hT; have HBD := Lib.hid hbd; have HCS := Lib.hid hcs; have HTO := Lib.hid hts; have HX := Lib.hid hx
  obtain ⟨xt, xi, xh, ⟨wi, wd⟩⟩ := x'
  dsimp only at *
  have hk : Below W.heap.size W (((W.alloc (.cells #[.pointer (some ⟨ob, 0, none⟩)] 75)).alloc (.cells #[.int .i64 (m : Int)] 3)).alloc (.cells #[.int .i64 xt, .string xi, .bool xh, .string wi, .slice D wm dc] TCh)).drew := below_drewN ((((Below.refl _ _).alloc (Nat.le_refl _) _).alloc (by simp) _).alloc (by simp; omega) _) 1
  obtain ⟨b0, b1, b2⟩ := blk3 W #[.pointer (some ⟨ob, 0, none⟩)] #[.int .i64 (m : Int)] #[.int .i64 xt, .string xi, .bool xh, .string wi, .slice D wm dc] 75 3 TCh
  have HSX : Hid (StoIn w (((W.alloc (.cells #[.pointer (some ⟨ob, 0, none⟩)] 75)).alloc (.cells #[.int .i64 (m : Int)] 3)).alloc (.cells #[.int .i64 xt, .string xi, .bool xh, .string wi, .slice D wm dc] TCh)).drew ob T tn tc (some ⟨lg, 0, none⟩) ln lc false ts log) := Lib.hid (h.next hk)
  have HPB : Hid (Blk (((W.alloc (.cells #[.pointer (some ⟨ob, 0, none⟩)] 75)).alloc (.cells #[.int .i64 (m : Int)] 3)).alloc (.cells #[.int .i64 xt, .string xi, .bool xh, .string wi, .slice D wm dc] TCh)).drew W.heap.size 75 #[.pointer (some ⟨ob, 0, none⟩)]) := Lib.hid b0
  have HNB : Hid (Blk (((W.alloc (.cells #[.pointer (some ⟨ob, 0, none⟩)] 75)).alloc (.cells #[.int .i64 (m : Int)] 3)).alloc (.cells #[.int .i64 xt, .string xi, .bool xh, .string wi, .slice D wm dc] TCh)).drew (W.heap.size + 1) 3 #[.int .i64 (m : Int)]) := Lib.hid b1
  have HCB : Hid (Blk (((W.alloc (.cells #[.pointer (some ⟨ob, 0, none⟩)] 75)).alloc (.cells #[.int .i64 (m : Int)] 3)).alloc (.cells #[.int .i64 xt, .string xi, .bool xh, .string wi, .slice D wm dc] TCh)).drew (W.heap.size + 1 + 1) TCh #[.int .i64 xt, .string xi, .bool xh, .string wi, .slice D wm dc]) := Lib.hid b2
  have HKX : Hid (Below W.heap.size W (((W.alloc (.cells #[.pointer (some ⟨ob, 0, none⟩)] 75)).alloc (.cells #[.int .i64 (m : Int)] 3)).alloc (.cells #[.int .i64 xt, .string xi, .bool xh, .string wi, .slice D wm dc] TCh)).drew) := Lib.hid hk
  have HOWX : Hid (OwnC (((W.alloc (.cells #[.pointer (some ⟨ob, 0, none⟩)] 75)).alloc (.cells #[.int .i64 (m : Int)] 3)).alloc (.cells #[.int .i64 xt, .string xi, .bool xh, .string wi, .slice D wm dc] TCh)).drew w.heap.size (.slice D wm dc) wd) := Lib.hid (HOW.out.below hk)
  have htl : ts.length = tn := h.tabs.slice.1
  have HTL := Lib.hid htl
  clear h hx hx' hts hbd hcs hT hge hcur hf hd hown hrl hwm t0 j0 r0 w0 hA hk b0 b1 b2 htl
  obtain ⟨bad, hbv⟩ : ∃ b, b = !chgB tn ⟨xt, xi, xh, ⟨wi, wd⟩⟩ := ⟨_, rfl⟩
  have HBV := Lib.hid hbv
  clear hbv
  go_enter_defers Tryz.func40, Tryz.ntmps40
  go_wp2
  go_region
  go_upto_region 4 with fail
  generalize (((W.alloc (.cells #[.pointer (some ⟨ob, 0, none⟩)] 75)).alloc (.cells #[.int .i64 (m : Int)] 3)).alloc (.cells #[.int .i64 xt, .string xi, .bool xh, .string wi, .slice D wm dc] TCh)).drew = X at *
  clear c0 c1 c2 c3 c4 cl s0 s1 s2 sl sf sl1 sl2 cl1 cl2 hm1 i2
  have s0 := HSX.out.blk.cell 0; have s1 := HSX.out.blk.cell 1; have s2 := HSX.out.blk.cell 2; have sf := HSX.out.blk.frozen 2; have sl := HSX.out.blk.lt
  have p0 := HPB.out.cell 0; have pl := HPB.out.lt
  have c0 := HCB.out.cell 0; have c1 := HCB.out.cell 1; have c2 := HCB.out.cell 2; have c3 := HCB.out.cell 3; have c4 := HCB.out.cell 4; have cl := HCB.out.lt
  simp at s0 s1 s2 p0 c0 c1 c2 c3 c4
  go_cut [] from 25 to 77 (fun wx => wx = X.drew.setCell ⟨ob, 2, none⟩ (.bool bad))
  case first =>
    have HS : Hid (X.drew.cell? ⟨W.heap.size, 0, none⟩ = some (.pointer (some ⟨ob, 0, none⟩)) ∧ X.drew.cell? ⟨ob, 2, none⟩ = some (.bool false) ∧ X.drew.cell? ⟨ob, 0, none⟩ = some (.slice T tn tc) ∧ X.drew.cell? ⟨W.heap.size + 1 + 1, 0, none⟩ = some (.int .i64 xt) ∧ X.drew.cell? ⟨W.heap.size + 1 + 1, 1, none⟩ = some (.string xi) ∧ X.drew.cell? ⟨W.heap.size + 1 + 1, 2, none⟩ = some (.bool xh) ∧ X.drew.cell? ⟨W.heap.size + 1 + 1, 3, none⟩ = some (.string wi) ∧ X.drew.cell? ⟨W.heap.size + 1 + 1, 4, none⟩ = some (.slice D wm dc)) := Lib.hid ⟨p0, s2, s0, c0, c1, c2, c3, c4⟩
    have HBT : Hid (¬ (0 ≤ xt ∧ xt < tn ∧ (xh = true → wi = xi) ∧ (xh = false → wi.size = 0 ∧ wm = 0)) → bad = true) := Lib.hid fun hn => by
      rw [HBV.out]
      cases hc : chgB tn ⟨xt, xi, xh, ⟨wi, wd⟩⟩ with
      | false => rfl
      | true => exact absurd (by have := chgB_iff.1 hc; dsimp only at this; rwa [HWM.out] at this) hn
    have HBF : Hid ((0 ≤ xt ∧ xt < tn ∧ (xh = true → wi = xi) ∧ (xh = false → wi.size = 0 ∧ wm = 0)) → bad = false) := Lib.hid fun hn => by
      rw [HBV.out, chgB_iff.2 (by dsimp only; rw [HWM.out]; exact hn)]
      rfl
    clear HBV
    refine wp_region_quiet_tail 53 (by kernel_rfl) (by kernel_rfl) ?_
    simp only [List.take_succ_cons, List.take_zero, List.drop_succ_cons, List.drop_zero]
    by_cases a1 : xt < 0
    · have ab : decide (xt < 0) = true := by simpa using a1
      obtain rfl := HBT.out (fun h => by omega)
      repeat (go_big_quiet_step (fail))
      refine wpQuiet_nil ?_
      go_wp2
      go_meet
      rfl
    have ab : decide (xt < 0) = false := by simpa using a1
    by_cases a2 : (tn : Int) ≤ xt
    · have ac : decide ((tn : Int) ≤ xt) = true := by simpa using a2
      obtain rfl := HBT.out (fun h => by omega)
      repeat (go_big_quiet_step (fail))
      refine wpQuiet_nil ?_
      go_wp2
      go_meet
      rfl
    have ac : decide ((tn : Int) ≤ xt) = false := by simpa using a2
    have a3 : 0 ≤ xt := by omega
    have a4 : xt < tn := by omega
    cases xh with
    | true =>
      by_cases a5 : wi = xi
      · obtain rfl := HBF.out ⟨a3, a4, fun _ => a5, (fun h => by cases h)⟩
        subst a5
        have ad : (wi.toList == wi.toList) = true := by simp
        repeat (go_big_quiet_step (fail))
        refine wpQuiet_nil ?_
        go_wp2
        go_meet
        rfl
      · have ad : (wi.toList == xi.toList) = false := by rw [beq_eq_false_iff_ne]; exact fun h => a5 (toList_inj h)
        obtain rfl := HBT.out (fun h => a5 (h.2.2.1 rfl))
        clear a5
        repeat (go_big_quiet_step (fail))
        refine wpQuiet_nil ?_
        go_wp2
        go_meet
        rfl
    | false =>
      obtain ⟨ni, hni⟩ : ∃ b, (wi.toList == xi.toList) = b := ⟨_, rfl⟩
      by_cases a6 : wi.size = 0
      · have ae : wi.toList.isEmpty = true := by rw [str_emp]; simpa using a6
        by_cases a7 : wm = 0
        · obtain rfl := HBF.out ⟨a3, a4, (fun h => by cases h), fun _ => ⟨a6, a7⟩⟩
          subst a7
          clear a6
          cases ni with
          | true =>
            repeat (go_big_quiet_step (fail))
            refine wpQuiet_nil ?_
            go_wp2
            go_meet
            rfl
          | false =>
            repeat (go_big_quiet_step (fail))
            refine wpQuiet_nil ?_
            go_wp2
            go_meet
            rfl
        · have af : (0 : Int) < (wm : Int) := by omega
          have ag : decide ((0 : Int) < (wm : Int)) = true := by simpa using af
          have ah : decide (0 < wm) = true := by simp; omega
          obtain rfl := HBT.out (fun h => a7 (h.2.2.2 rfl).2)
          clear a6 a7
          cases ni with
          | true =>
            repeat (go_big_quiet_step (fail))
            refine wpQuiet_nil ?_
            go_wp2
            go_meet
            rfl
          | false =>
            repeat (go_big_quiet_step (fail))
            refine wpQuiet_nil ?_
            go_wp2
            go_meet
            rfl
      · have ae : wi.toList.isEmpty = false := by rw [str_emp]; simpa using a6
        obtain rfl := HBT.out (fun h => a6 (h.2.2.2 rfl).1)
        clear a6
        cases ni with
        | true =>
          repeat (go_big_quiet_step (fail))
          refine wpQuiet_nil ?_
          go_wp2
          go_meet
          rfl
        | false =>
          repeat (go_big_quiet_step (fail))
          refine wpQuiet_nil ?_
          go_wp2
          go_meet
          rfl
  case rest =>
  obtain rfl := hcut
  have HSY : Hid (StoIn w (X.drew.setCell ⟨ob, 2, none⟩ (.bool bad)) ob T tn tc (some ⟨lg, 0, none⟩) ln lc bad ts log) := Lib.hid ((HSX.out.drewN 1).turn bad)
  have hpo : W.heap.size ≠ ob := fun e => by
    have h1 := HSX.out.blk
    rw [← e] at h1
    exact absurd (h1.ne HPB.out (by decide)) (by simp)
  have hno : W.heap.size + 1 ≠ ob := fun e => by
    have h1 := HSX.out.blk
    rw [← e] at h1
    exact absurd (h1.ne HNB.out (by decide)) (by simp)
  have hco : W.heap.size + 1 + 1 ≠ ob := fun e => by
    have h1 := HSX.out.blk
    rw [← e] at h1
    exact absurd (h1.ne HCB.out (by decide)) (by simp)
  have HPY := Lib.hid (HPB.out.far (w := X.drew) (p := ⟨ob, 2, none⟩) hpo (.bool bad))
  have HNY := Lib.hid (HNB.out.far (w := X.drew) (p := ⟨ob, 2, none⟩) hno (.bool bad))
  have HCY := Lib.hid (HCB.out.far (w := X.drew) (p := ⟨ob, 2, none⟩) hco (.bool bad))
  have HOWY : Hid (OwnC (X.drew.setCell ⟨ob, 2, none⟩ (.bool bad)) w.heap.size (.slice D wm dc) wd) := Lib.hid (OwnK.setFar (w := X.drew) HOWX.out HSX.out.blk (by decide) 2 (.bool bad))
  have HKY : Hid (Below w.heap.size w (X.drew.setCell ⟨ob, 2, none⟩ (.bool bad))) := Lib.hid HSY.out.k
  generalize X.drew.setCell ⟨ob, 2, none⟩ (.bool bad) = Y at *
  clear s0 s1 s2 sf sl p0 pl c0 c1 c2 c3 c4 cl hpo hno hco HSX HPB HNB HCB HKX
  have s0 := HSY.out.blk.cell 0; have s1 := HSY.out.blk.cell 1; have s2 := HSY.out.blk.cell 2; have sf := HSY.out.blk.frozen 2; have sl := HSY.out.blk.lt
  have p0 := HPY.out.cell 0; have pl := HPY.out.lt
  have c0 := HCY.out.cell 0; have c1 := HCY.out.cell 1; have c2 := HCY.out.cell 2; have c3 := HCY.out.cell 3; have c4 := HCY.out.cell 4; have cl := HCY.out.lt
  simp at s0 s1 s2 p0 c0 c1 c2 c3 c4
  have hlc : m ≤ lc := by have := HSY.out.log.cap; omega
  cases bad with
  | true =>
    have HN : Hid (back1 ts ⟨xt, xi, xh, ⟨wi, wd⟩⟩ = none) := Lib.hid (by
      unfold back1
      rw [HTL.out, if_neg (by have := HBV.out; simpa using this)])
    go_wp2
    refine leaves_cons (f := 75) (args := #[.pointer (some ⟨W.heap.size, 0, none⟩), .pointer (some ⟨W.heap.size + 1, 0, none⟩)]) (by simp) (by simp [go_sem]) ?_
    refine (undo_door HSY.out HPY.out HNY.out hlc (Nat.le_of_lt hml)).mono ?_
    rintro e u' w'' ⟨rfl, rfl, hct⟩
    have HCT := Lib.hid hct
    clear hct
    simp [Leaves, settle, results, Tryz.results40, go_sem]
    unfold UndoP
    rw [HN.out]
    exact ⟨HCT.out.blk, HCT.out.k⟩
  | false =>
    have HC : Hid (chgB tn ⟨xt, xi, xh, ⟨wi, wd⟩⟩ = true) := Lib.hid (by have := HBV.out; simpa using this)
    obtain ⟨h1, h2, h3, h4⟩ := chgB_iff.1 HC.out
    dsimp only at h1 h2 h3 h4
    obtain ⟨i, rfl⟩ : ∃ i : Nat, xt = (i : Int) := ⟨xt.toNat, by omega⟩
    have hin : i < tn := by omega
    clear h1 h2 h3 h4
    obtain ⟨tg, tcur, t, tf, hA, hge, htcur, htx, htf, hR⟩ := HSY.out.tabs.gt hin
    subst hA
    have HTX := Lib.hid htx
    have hto := HTO.out.each t (mem_of_get htx)
    have hbt := HBD.out t (mem_of_get htx)
    have hrd : RTab Y tf t := hR.reads (by have := hbt.un; omega) (by have := hbt.rn; omega) (fun r hr => by have := hbt.dl r hr; omega)
    obtain ⟨U, un, uc, R, rn, rc, g0, g1, g2, g3, huc, hrc, hta⟩ := hrd.opens
    have HRT : Hid (OTb Y w.heap.size (f4 (.string t.name) (.int .i64 t.most) (.slice U un uc) (.slice R rn rc)) t) := Lib.hid ⟨g0 ▸ hR.1, g1 ▸ hR.2, g2 ▸ hR.3, g3 ▸ hR.4⟩
    have d0 := (htcur.cell _).trans (htf 0 (by omega)); have d1 := (htcur.cell _).trans (htf 1 (by omega)); have d2 := (htcur.cell _).trans (htf 2 (by omega)); have d3 := (htcur.cell _).trans (htf 3 (by omega))
    rw [g0, Nat.add_zero] at d0; rw [g1] at d1; rw [g2] at d2; rw [g3] at d3
    have dl := htcur.lt
    have i3 : (0 : Int) ≤ (i : Int) := by omega
    have HTG := Lib.hid dl
    have i4 : (i : Int) < (tn : Int) := by omega
    have hkz : Below Y.heap.size Y (Y.alloc (.cells #[.string t.name, .int .i64 t.most, .slice U un uc, .slice R rn rc] TTb)).drew := below_drewN ((Below.refl _ _).alloc (Nat.le_refl _) _) 1
    have HDP := Lib.hid (table_Drop B U un uc R rn rc t xi _ (hta.keep (Keep.of hkz)) huc hrc (by rw [← hta.un.out]; exact hbt.un) hbt.rb (HTS.out.next ((HSY.out.k.trans (hkz.mono HSY.out.k.size)).mono hB)) (Nat.le_trans hB (HSY.out.k.trans (hkz.mono HSY.out.k.size)).size))
    have HBX : Hid (Blk (Y.alloc (.cells #[.string t.name, .int .i64 t.most, .slice U un uc, .slice R rn rc] TTb)).drew Y.heap.size TTb #[.string t.name, .int .i64 t.most, .slice U un uc, .slice R rn rc]) := Lib.hid (Blk.new Y TTb _)
    have HKZ := Lib.hid hkz
    have HTK := Lib.hid hto; have HBT := Lib.hid hbt
    have HDB : Hid (dropB t xi = if hasR t.rows xi then 0 else 270) := Lib.hid (by unfold dropB; rw [(tabB_iff t).2 hto]; rfl)
    clear htcur htx htf hR hto hbt hrd hta hge g0 g1 g2 g3 hkz
    have HS6 : Hid (Y.drew.cell? ⟨W.heap.size, 0, none⟩ = some (.pointer (some ⟨ob, 0, none⟩)) ∧ Y.drew.cell? ⟨ob, 0, none⟩ = some (.slice (some ⟨tg, 0, none⟩) tn tc) ∧ Y.drew.cell? ⟨W.heap.size + 1 + 1, 0, none⟩ = some (.int .i64 (i : Int)) ∧ Y.drew.cell? ⟨tg, i * 4, none⟩ = some (.string t.name) ∧ Y.drew.cell? ⟨tg, i * 4 + 1, none⟩ = some (.int .i64 t.most) ∧ Y.drew.cell? ⟨tg, i * 4 + 2, none⟩ = some (.slice U un uc) ∧ Y.drew.cell? ⟨tg, i * 4 + 3, none⟩ = some (.slice R rn rc)) := Lib.hid ⟨p0, s0, c0, d0, d1, d2, d3⟩
    have HSB := Lib.hid (fun (o : Obj) => (show (Y.alloc o).drew.cell? ⟨W.heap.size, 0, none⟩ = some (.pointer (some ⟨ob, 0, none⟩)) ∧ (Y.alloc o).drew.cell? ⟨ob, 0, none⟩ = some (.slice (some ⟨tg, 0, none⟩) tn tc) ∧ (Y.alloc o).drew.cell? ⟨W.heap.size + 1 + 1, 0, none⟩ = some (.int .i64 (i : Int)) ∧ (Y.alloc o).drew.cell? ⟨tg, i * 4, none⟩ = some (.string t.name) ∧ (Y.alloc o).drew.cell? ⟨tg, i * 4 + 1, none⟩ = some (.int .i64 t.most) ∧ (Y.alloc o).drew.cell? ⟨tg, i * 4 + 2, none⟩ = some (.slice U un uc) ∧ (Y.alloc o).drew.cell? ⟨tg, i * 4 + 3, none⟩ = some (.slice R rn rc) from
      ⟨(World.cell?_alloc_lt _ _ _ pl).trans p0, (World.cell?_alloc_lt _ _ _ sl).trans s0, (World.cell?_alloc_lt _ _ _ cl).trans c0, (World.cell?_alloc_lt _ _ _ dl).trans d0, (World.cell?_alloc_lt _ _ _ dl).trans d1, (World.cell?_alloc_lt _ _ _ dl).trans d2, (World.cell?_alloc_lt _ _ _ dl).trans d3⟩))
    go_wp2
    refine wp_region_noPanic ?_
    refine wp_region_T 10 (fun Q => Q.cell? ⟨W.heap.size, 0, none⟩ = some (.pointer (some ⟨ob, 0, none⟩)) ∧ Q.cell? ⟨ob, 0, none⟩ = some (.slice (some ⟨tg, 0, none⟩) tn tc) ∧ Q.cell? ⟨W.heap.size + 1 + 1, 0, none⟩ = some (.int .i64 (i : Int)) ∧ Q.cell? ⟨tg, i * 4, none⟩ = some (.string t.name) ∧ Q.cell? ⟨tg, i * 4 + 1, none⟩ = some (.int .i64 t.most) ∧ Q.cell? ⟨tg, i * 4 + 2, none⟩ = some (.slice U un uc) ∧ Q.cell? ⟨tg, i * 4 + 3, none⟩ = some (.slice R rn rc)) (by kernel_rfl) ?_
    refine wpAnyT_take (i := 0) (v := ?_) rfl (by kernel_rfl) (by kernel_rfl) (by kernel_rfl) (by kernel_rfl) (by kernel_rfl) (fun _ _ _ h => h) (.inl ⟨rfl, ?_⟩) HS6.out ?_
    rotate_left
    · intro W__ hW__
      obtain ⟨z1, z2, z3, z4, z5, z6, z7⟩ := hW__
      go_simp
      (try with_reducible rfl)
    try simp only [Act.put]
    refine wpAnyT_take (i := 1) (v := ?_) rfl (by kernel_rfl) (by kernel_rfl) (by kernel_rfl) (by kernel_rfl) (by kernel_rfl) (fun _ _ _ h => h) (.inl ⟨rfl, ?_⟩) HS6.out ?_
    rotate_left
    · intro W__ hW__
      obtain ⟨z1, z2, z3, z4, z5, z6, z7⟩ := hW__
      go_simp
      (try with_reducible rfl)
    try simp only [Act.put]
    refine wpAnyT_take (i := 2) (v := ?_) rfl (by kernel_rfl) (by kernel_rfl) (by kernel_rfl) (by kernel_rfl) (by kernel_rfl) (fun _ _ _ h => h) (.inl ⟨rfl, ?_⟩) HS6.out ?_
    rotate_left
    · intro W__ hW__
      obtain ⟨z1, z2, z3, z4, z5, z6, z7⟩ := hW__
      go_simp
      (try with_reducible rfl)
    try simp only [Act.put]
    refine wpAnyT_take (i := 3) (v := ?_) rfl (by kernel_rfl) (by kernel_rfl) (by kernel_rfl) (by kernel_rfl) (by kernel_rfl) (fun _ _ _ h => h) (.inl ⟨rfl, ?_⟩) HS6.out ?_
    rotate_left
    · intro W__ hW__
      obtain ⟨z1, z2, z3, z4, z5, z6, z7⟩ := hW__
      go_simp
      (try with_reducible rfl)
    try simp only [Act.put]
    refine wpAnyT_take (i := 4) (v := ?_) rfl (by kernel_rfl) (by kernel_rfl) (by kernel_rfl) (by kernel_rfl) (by kernel_rfl) (fun _ _ _ h => h) (.inl ⟨rfl, ?_⟩) HS6.out ?_
    rotate_left
    · intro W__ hW__
      obtain ⟨z1, z2, z3, z4, z5, z6, z7⟩ := hW__
      go_simp
      (try with_reducible rfl)
    try simp only [Act.put]
    refine wpAnyT_take (i := 5) (v := ?_) rfl (by kernel_rfl) (by kernel_rfl) (by kernel_rfl) (by kernel_rfl) (by kernel_rfl) (fun _ _ _ h => h) (.inl ⟨rfl, ?_⟩) HS6.out ?_
    rotate_left
    · intro W__ hW__
      obtain ⟨z1, z2, z3, z4, z5, z6, z7⟩ := hW__
      go_simp
      (try with_reducible rfl)
    try simp only [Act.put]
    refine wpAnyT_take (i := 6) (v := ?_) rfl (by kernel_rfl) (by kernel_rfl) (by kernel_rfl) (by kernel_rfl) (by kernel_rfl) (fun _ _ _ h => h) (.inl ⟨rfl, ?_⟩) HS6.out ?_
    rotate_left
    · intro W__ hW__
      obtain ⟨z1, z2, z3, z4, z5, z6, z7⟩ := hW__
      go_simp
      (try with_reducible rfl)
    try simp only [Act.put]
    refine wpAnyT_take (i := 7) (v := ?_) rfl (by kernel_rfl) (by kernel_rfl) (by kernel_rfl) (by kernel_rfl) (by kernel_rfl) (fun _ _ _ h => h) (.inl ⟨rfl, ?_⟩) HS6.out ?_
    rotate_left
    · intro W__ hW__
      obtain ⟨z1, z2, z3, z4, z5, z6, z7⟩ := hW__
      go_simp
      (try with_reducible rfl)
    try simp only [Act.put]
    refine wpAnyT_take (i := 8) (v := ?_) rfl (by kernel_rfl) (by kernel_rfl) (by kernel_rfl) (by kernel_rfl) (by kernel_rfl) (fun _ _ _ h => h) (.inl ⟨rfl, ?_⟩) HS6.out ?_
    rotate_left
    · intro W__ hW__
      obtain ⟨z1, z2, z3, z4, z5, z6, z7⟩ := hW__
      go_simp
      (try with_reducible rfl)
    try simp only [Act.put]
    refine wpAnyT_one (i := 9) rfl (by kernel_rfl) rfl fun K__ hK__ => ?_
    unfold Oper.wp
    go_simp
    refine hK__ _ _ (HSB.out _) ?_
    clear hK__
    refine wpAnyT_end (i := 10) rfl (by kernel_rfl) rfl (by kernel_rfl) fun K__ hK__ => ?_
    unfold Oper.wp
    go_simp
    refine hK__ _ _ ?_
    clear hK__
    refine wpAnyT_done (by kernel_rfl) ?_ _
    refine NoPanic.normal ?_
    go_wp2_with fail
    refine HDP.out.mono ?_
    rintro e w1 ⟨hres, k⟩
    have HK1 := Lib.hid (HKZ.out.trans (k.mono HKZ.out.size))
    have HBX1 := Lib.hid (HBX.out.below k HBX.out.lt)
    cases hhas : hasR t.rows xi with
    | false =>
      have HDR0 : Hid (t.drop xi = t) := Lib.hid (by show ({ t with rows := delR t.rows xi } : Tab) = t; rw [delR_none hhas])
      rw [HDB.out, hhas] at hres
      obtain ⟨_, rfl⟩ : (270 : Int) ≠ 0 ∧ e = .returned (.tuple #[zTab, .int .i64 270]) := by
        rcases hres with ⟨h1, h2⟩ | ⟨h1, _⟩
        · exact ⟨by decide, h2⟩
        · exact absurd h1 (by decide)
      clear hres k hhas
      have hka : Below Y.heap.size Y (w1.alloc (.cells #[.string t.name, .int .i64 t.most, .slice U un uc, .slice R rn rc] TTb)) := HK1.out.alloc HK1.out.size _
      have HS2 := Lib.hid (HSY.out.next hka); have HP2 := Lib.hid (HPY.out.below hka HPY.out.lt); have HN2 := Lib.hid (HNY.out.below hka HNY.out.lt); have HC2 := Lib.hid (HCY.out.below hka HCY.out.lt)
      have HB2 := Lib.hid (Blk.new w1 TTb #[.string t.name, .int .i64 t.most, .slice U un uc, .slice R rn rc])
      have HO2 : Hid (OTb (w1.alloc (.cells #[.string t.name, .int .i64 t.most, .slice U un uc, .slice R rn rc] TTb)) w.heap.size (f4 (.string t.name) (.int .i64 t.most) (.slice U un uc) (.slice R rn rc)) (t.drop xi)) := Lib.hid (by rw [HDR0.out]; exact HRT.out.below hka)
      have x0 := HBX1.out.cell 0; have x1 := HBX1.out.cell 1; have x2 := HBX1.out.cell 2; have x3 := HBX1.out.cell 3; have xl := HBX1.out.lt
      simp at x0 x1 x2 x3
      have HOW2 := Lib.hid (HOWY.out.below hka)
      clear hka
      have htd2 : TabBd (t.drop xi) := ⟨HBT.out.un, Nat.le_trans (List.length_filter_le _ _) HBT.out.rn, fun r hr => HBT.out.rb r (delR_sub hr), fun r hr => HBT.out.dl r (delR_sub hr)⟩
      have HTD := Lib.hid htd2
      have HDR : Hid (TabOk (t.drop xi)) := Lib.hid (HTK.out.drop xi)
      clear p0 pl c0 c1 c2 c3 c4 cl s0 s1 s2 sf sl d0 d1 d2 d3 dl
      have p0 := HP2.out.cell 0; have pl := HP2.out.lt
      have c0 := HC2.out.cell 0; have c2 := HC2.out.cell 2; have c3 := HC2.out.cell 3; have c4 := HC2.out.cell 4; have cl := HC2.out.lt
      have e0 := HB2.out.cell 0; have e1 := HB2.out.cell 1; have e2 := HB2.out.cell 2; have e3 := HB2.out.cell 3; have el := HB2.out.lt
      have s0 := HS2.out.blk.cell 0; have sl := HS2.out.blk.lt
      simp at p0 c0 c2 c3 c4 s0
      clear htd2
      cases xh with
      | false =>
        have HBK : Hid (back1 ts ⟨(i : Int), xi, false, ⟨wi, wd⟩⟩ = some (ts.set i (t.drop xi))) := Lib.hid (by
          unfold back1
          rw [HTL.out, if_pos HC.out]
          simp only [Int.toNat_natCast, HTX.out]
          rfl)
        obtain ⟨tg2, tcur2, t2, tf2, hA2, hge2, htcur2, htx2, htf2, hR2⟩ := HS2.out.tabs.gt hin
        obtain rfl := some_blk hA2
        have q0 := (htcur2.cell _).trans (htf2 0 (by omega)); have q1 := (htcur2.cell _).trans (htf2 1 (by omega)); have q2 := (htcur2.cell _).trans (htf2 2 (by omega)); have q3 := (htcur2.cell _).trans (htf2 3 (by omega))
        rw [Nat.add_zero] at q0
        have y0 := htcur2.frozen (i * 4); have y1 := htcur2.frozen (i * 4 + 1); have y2 := htcur2.frozen (i * 4 + 2); have y3 := htcur2.frozen (i * 4 + 3)
        have yl := htcur2.lt
        clear htcur2 htx2 htf2 hR2 hge2 hA2
        go_wp2
        refine wp_region_quiet_tail 9 (by kernel_rfl) (by kernel_rfl) ?_
        simp only [List.take_succ_cons, List.take_zero, List.drop_succ_cons, List.drop_zero]
        repeat (go_big_quiet_step (fail))
        refine wpQuiet_nil ?_
        go_wp2
        have HS4 := Lib.hid (HS2.out.put hin HO2.out).drew
        have HP4 := Lib.hid (blk_drew (HS2.out.putFar hin HP2.out (by decide) (.string t.name) (.int .i64 t.most) (.slice U un uc) (.slice R rn rc))); have HN4 := Lib.hid (blk_drew (HS2.out.putFar hin HN2.out (by decide) (.string t.name) (.int .i64 t.most) (.slice U un uc) (.slice R rn rc)))
        refine leaves_cons (f := 75) (args := #[.pointer (some ⟨W.heap.size, 0, none⟩), .pointer (some ⟨W.heap.size + 1, 0, none⟩)]) (by simp) (by simp [go_sem]) ?_
        refine (undo_door HS4.out HP4.out HN4.out hlc (Nat.le_of_lt hml)).mono ?_
        rintro e u' w'' ⟨rfl, rfl, hct⟩
        have HCT := Lib.hid hct
        clear hct
        simp [Leaves, settle, results, Tryz.results40, go_sem]
        unfold UndoP
        rw [HBK.out]
        exact HCT.out
      | true =>
        have hrd : RTab (w1.alloc (.cells #[.string t.name, .int .i64 t.most, .slice U un uc, .slice R rn rc] TTb)) (f4 (.string t.name) (.int .i64 t.most) (.slice U un uc) (.slice R rn rc)) (t.drop xi) := HO2.out.reads (by have := HTD.out.un; omega) (by have := HTD.out.rn; omega) (fun r hr => by have := HTD.out.dl r hr; omega)
        obtain ⟨U2, un2, uc2, R2, rn2, rc2, _, _, g2, g3, hu2, hr2, hta2⟩ := hrd.opens
        have g2 : Value.slice U un uc = .slice U2 un2 uc2 := g2
        have g3 : Value.slice R rn rc = .slice R2 rn2 rc2 := g3
        injection g2 with a1 a2 a3
        injection g3 with b1 b2 b3
        subst a1; subst a2; subst a3; subst b1; subst b2; subst b3
        obtain ⟨D', dc', hdv, hda, hdl⟩ := OwnK.sl HOW2.out (by omega)
        injection hdv with a1 a2 a3
        subst a1; subst a3; clear a2
        have hpu := table_Put B U un uc R rn rc (t.drop xi) D dc wm ⟨wi, wd⟩ (w1.alloc (.cells #[.string t.name, .int .i64 t.most, .slice U un uc, .slice R rn rc] TTb)) hta2 hu2 hr2 (by have := HTD.out.un; rw [hta2.un.out] at this; exact this) HTD.out.rb hda HWM.out (by rw [← HWM.out]; exact hdl) hwi HCS.out (HTS.out.next (HS2.out.k.mono hB)) (Nat.le_trans hB HS2.out.k.size)
        have HPU : Hid (Calls Tryz.prog 35 #[.agg #[.string t.name, .int .i64 t.most, .slice U un uc, .slice R rn rc], .agg #[.string wi, .slice D wm dc]] (w1.alloc (.cells #[.string t.name, .int .i64 t.most, .slice U un uc, .slice R rn rc] TTb)) fun e w' =>
            ((putB (t.drop xi) ⟨wi, wd⟩ ≠ 0 ∧ e = .returned (.tuple #[zTab, .int .i64 (putB (t.drop xi) ⟨wi, wd⟩)])) ∨ (putB (t.drop xi) ⟨wi, wd⟩ = 0 ∧ ∃ v, e = .returned (.tuple #[v, .int .i64 0]) ∧ TabV (w1.alloc (.cells #[.string t.name, .int .i64 t.most, .slice U un uc, .slice R rn rc] TTb)) w' v ((t.drop xi).put ⟨wi, wd⟩))) ∧ Below (w1.alloc (.cells #[.string t.name, .int .i64 t.most, .slice U un uc, .slice R rn rc] TTb)).heap.size (w1.alloc (.cells #[.string t.name, .int .i64 t.most, .slice U un uc, .slice R rn rc] TTb)) w') := Lib.hid hpu
        clear hrd hta2 hda hpu
        by_cases hput : PutOk (t.drop xi) ⟨wi, wd⟩
        · have HPB : Hid (putB (t.drop xi) ⟨wi, wd⟩ = 0) := Lib.hid (by rw [putB_eq, putE_iff]; exact hput)
          have HBK : Hid (back1 ts ⟨(i : Int), xi, true, ⟨wi, wd⟩⟩ = some (ts.set i ((t.drop xi).put ⟨wi, wd⟩))) := Lib.hid (by
            unfold back1
            rw [HTL.out, if_pos HC.out]
            simp only [Int.toNat_natCast, HTX.out]
            unfold backT
            simp only [if_true, yes_t hput, Option.map_some])
          clear hput
          go_wp2_with fail
          refine HPU.out.mono ?_
          rintro e w2 ⟨hres, k⟩
          obtain ⟨v, rfl, hv⟩ : ∃ v, e = .returned (.tuple #[v, .int .i64 0]) ∧ TabV (w1.alloc (.cells #[.string t.name, .int .i64 t.most, .slice U un uc, .slice R rn rc] TTb)) w2 v ((t.drop xi).put ⟨wi, wd⟩) := by
            rcases hres with ⟨h1, _⟩ | ⟨_, v, h1, h2⟩
            · exact absurd HPB.out h1
            · exact ⟨v, h1, h2⟩
          obtain ⟨V7, vn7, vc7, G7, gn7, gc7, hve, hv1, hv2⟩ := hv
          have hve : v = .agg #[.string t.name, .int .i64 t.most, .slice V7 vn7 vc7, .slice G7 gn7 gc7] := hve
          subst hve
          clear hres
          have HS3 := Lib.hid (HS2.out.next k); have HP3 := Lib.hid (HP2.out.below k HP2.out.lt); have HN3 := Lib.hid (HN2.out.below k HN2.out.lt); have HC3 := Lib.hid (HC2.out.below k HC2.out.lt); have HB3 := Lib.hid (HB2.out.below k HB2.out.lt)
          have hlz : w.heap.size ≤ (w1.alloc (.cells #[.string t.name, .int .i64 t.most, .slice U un uc, .slice R rn rc] TTb)).heap.size := HS2.out.k.size
          have HON : Hid (OTb w2 w.heap.size (f4 (.string t.name) (.int .i64 t.most) (.slice V7 vn7 vc7) (.slice G7 gn7 gc7)) ((t.drop xi).put ⟨wi, wd⟩)) := Lib.hid ⟨HRT.out.1, HRT.out.2, Own.lowerS hv1 hlz, (OwnK.lower hv2 hlz).monoR fun _ _ _ ho => ho.lower hlz⟩
          clear hlz hv1 hv2 k p0 pl c0 c2 c3 c4 cl e0 e1 e2 e3 el s0 sl
          have hpo3 := HP3.out.ne HS3.out.blk (by decide); have hno3 := HN3.out.ne HS3.out.blk (by decide); have hco3 := HC3.out.ne HS3.out.blk (by decide); have hbo3 := HB3.out.ne HS3.out.blk (by decide)
          have HST := Lib.hid (HS3.out.turn false)
          have HPT := Lib.hid (HP3.out.far (p := ⟨ob, 2, none⟩) hpo3 (.bool false)); have HNT := Lib.hid (HN3.out.far (p := ⟨ob, 2, none⟩) hno3 (.bool false)); have HCT3 := Lib.hid (HC3.out.far (p := ⟨ob, 2, none⟩) hco3 (.bool false)); have HBT3 := Lib.hid (HB3.out.far (p := ⟨ob, 2, none⟩) hbo3 (.bool false))
          have HOT3 := Lib.hid (OTab.far (i := 2) (u := .bool false) HON.out HS3.out.blk (by decide) (by decide) (by decide))
          have hrs := set4_blk HBT3.out (.string t.name) (.int .i64 t.most) (.slice V7 vn7 vc7) (.slice G7 gn7 gc7)
          have htb : w1.heap.size ≠ tg := by have h1 := HTG.out; have h2 := HK1.out.size; omega
          have hwb : w.heap.size ≤ w1.heap.size := Nat.le_trans HSY.out.k.size HK1.out.size
          have HSU := HST.out.box HBT3.out htb hrs hwb
          have hkl : Below (set4 (w2.setCell ⟨ob, 2, none⟩ (.bool false)) w1.heap.size (.string t.name) (.int .i64 t.most) (.slice V7 vn7 vc7) (.slice G7 gn7 gc7)).heap.size (set4 (w2.setCell ⟨ob, 2, none⟩ (.bool false)) w1.heap.size (.string t.name) (.int .i64 t.most) (.slice V7 vn7 vc7) (.slice G7 gn7 gc7)) ((set4 (w2.setCell ⟨ob, 2, none⟩ (.bool false)) w1.heap.size (.string t.name) (.int .i64 t.most) (.slice V7 vn7 vc7) (.slice G7 gn7 gc7)).alloc (.cells #[.string t.name, .int .i64 t.most, .slice V7 vn7 vc7, .slice G7 gn7 gc7] TTb)) := (Below.refl _ _).alloc (Nat.le_refl _) _
          have HS5 := Lib.hid (HSU.next hkl)
          have HP5 := Lib.hid ((hrs.far HPT.out (HPT.out.ne HBT3.out (by decide))).alloc (.cells #[.string t.name, .int .i64 t.most, .slice V7 vn7 vc7, .slice G7 gn7 gc7] TTb)); have HN5 := Lib.hid ((hrs.far HNT.out (HNT.out.ne HBT3.out (by decide))).alloc (.cells #[.string t.name, .int .i64 t.most, .slice V7 vn7 vc7, .slice G7 gn7 gc7] TTb)); have HC5 := Lib.hid ((hrs.far HCT3.out (HCT3.out.ne HBT3.out (by decide))).alloc (.cells #[.string t.name, .int .i64 t.most, .slice V7 vn7 vc7, .slice G7 gn7 gc7] TTb)); have HB5 := Lib.hid (hrs.blk.alloc (.cells #[.string t.name, .int .i64 t.most, .slice V7 vn7 vc7, .slice G7 gn7 gc7] TTb))
          have HO5 := Lib.hid ((OTab.farRow HOT3.out HBT3.out hrs).below hkl)
          have s2 := HS3.out.blk.cell 2; have s0 := HS3.out.blk.cell 0; have sf := HS3.out.blk.frozen 2; have sl := HS3.out.blk.lt
          have p0 := HP3.out.cell 0; have pl := HP3.out.lt
          have b0 := HBT3.out.cell 0; have b1 := HBT3.out.cell 1; have b2 := HBT3.out.cell 2; have b3 := HBT3.out.cell 3
          have bf0 := HBT3.out.frozen 0; have bf1 := HBT3.out.frozen 1; have bf2 := HBT3.out.frozen 2; have bf3 := HBT3.out.frozen 3; have bl := HBT3.out.lt
          have bl2 : w1.heap.size < w2.heap.size := HB3.out.lt
          have HBA := Lib.hid (HBT3.out.alloc (.cells #[.string t.name, .int .i64 t.most, .slice V7 vn7 vc7, .slice G7 gn7 gc7] TTb))
          have ba0 := HBA.out.cell 0; have ba1 := HBA.out.cell 1; have ba2 := HBA.out.cell 2; have ba3 := HBA.out.cell 3
          have baf0 := HBA.out.frozen 0; have baf1 := HBA.out.frozen 1; have baf2 := HBA.out.frozen 2; have baf3 := HBA.out.frozen 3
          have p5 := HP5.out.cell 0; have pl5 := HP5.out.lt
          have s5 := HS5.out.blk.cell 0; have sl5 := HS5.out.blk.lt
          have c5 := HC5.out.cell 0; have cl5 := HC5.out.lt
          have k0 := HB5.out.cell 0; have k1 := HB5.out.cell 1; have k2 := HB5.out.cell 2; have k3 := HB5.out.cell 3; have kl := HB5.out.lt
          obtain ⟨tg2, tcur2, t2, tf2, hA2, hge2, htcur2, htx2, htf2, hR2⟩ := HS5.out.tabs.gt hin
          obtain rfl := some_blk hA2
          have q0 := (htcur2.cell _).trans (htf2 0 (by omega)); have q1 := (htcur2.cell _).trans (htf2 1 (by omega)); have q2 := (htcur2.cell _).trans (htf2 2 (by omega)); have q3 := (htcur2.cell _).trans (htf2 3 (by omega))
          rw [Nat.add_zero] at q0
          have y0 := htcur2.frozen (i * 4); have y1 := htcur2.frozen (i * 4 + 1); have y2 := htcur2.frozen (i * 4 + 2); have y3 := htcur2.frozen (i * 4 + 3)
          have yl := htcur2.lt
          clear htcur2 htx2 htf2 hR2 hge2 hA2 hrs hkl HSU htb hwb hpo3 hno3 hco3 hbo3
          go_wp2
          refine wp_region_quiet_tail 9 (by kernel_rfl) (by kernel_rfl) ?_
          simp only [List.take_succ_cons, List.take_zero, List.drop_succ_cons, List.drop_zero]
          repeat (go_big_quiet_step (fail))
          refine wpQuiet_nil ?_
          go_wp2
          have HS6 := Lib.hid (HS5.out.put hin HO5.out).drew
          have HP6 := Lib.hid (blk_drew (HS5.out.putFar hin HP5.out (by decide) (.string t.name) (.int .i64 t.most) (.slice V7 vn7 vc7) (.slice G7 gn7 gc7))); have HN6 := Lib.hid (blk_drew (HS5.out.putFar hin HN5.out (by decide) (.string t.name) (.int .i64 t.most) (.slice V7 vn7 vc7) (.slice G7 gn7 gc7)))
          refine leaves_cons (f := 75) (args := #[.pointer (some ⟨W.heap.size, 0, none⟩), .pointer (some ⟨W.heap.size + 1, 0, none⟩)]) (by simp) (by simp [go_sem]) ?_
          refine (undo_door HS6.out HP6.out HN6.out hlc (Nat.le_of_lt hml)).mono ?_
          rintro e u' w'' ⟨rfl, rfl, hct⟩
          have HCT := Lib.hid hct
          clear hct
          simp [Leaves, settle, results, Tryz.results40, go_sem]
          unfold UndoP
          rw [HBK.out]
          exact HCT.out
        · have HPB : Hid (putB (t.drop xi) ⟨wi, wd⟩ ≠ 0) := Lib.hid (by rw [putB_eq]; exact fun h => hput (putE_iff.1 h))
          have HBK : Hid (back1 ts ⟨(i : Int), xi, true, ⟨wi, wd⟩⟩ = none) := Lib.hid (by
            unfold back1
            rw [HTL.out, if_pos HC.out]
            simp only [Int.toNat_natCast, HTX.out]
            unfold backT
            simp only [if_true, yes_f hput, Bool.false_eq_true, if_false, Option.map_none])
          clear hput
          go_wp2_with fail
          refine HPU.out.mono ?_
          rintro e w2 ⟨hres, k⟩
          obtain ⟨cd, rfl, hcd⟩ : ∃ cd : Int, e = .returned (.tuple #[zTab, .int .i64 cd]) ∧ cd ≠ 0 := by
            rcases hres with ⟨h1, h2⟩ | ⟨h1, _⟩
            · exact ⟨_, h2, h1⟩
            · exact absurd h1 HPB.out
          have hc1 : (cd == 0) = false := by simpa using hcd
          have hc2 : (cd != 0) = true := by simpa using hcd
          clear hres
          have HS3 := Lib.hid (HS2.out.next k); have HP3 := Lib.hid (HP2.out.below k HP2.out.lt); have HN3 := Lib.hid (HN2.out.below k HN2.out.lt); have HC3 := Lib.hid (HC2.out.below k HC2.out.lt); have HB3 := Lib.hid (HB2.out.below k HB2.out.lt)
          have HON : Hid (OTb w2 w.heap.size (f4 (.string ⟨#[]⟩) (.int .i64 0) (.slice none 0 0) (.slice none 0 0)) ⟨⟨#[]⟩, 0, [], []⟩) := Lib.hid ⟨⟨rfl, by decide⟩, ⟨rfl, by decide⟩, Own.nil, OwnK.nil⟩
          clear k p0 pl c0 c2 c3 c4 cl e0 e1 e2 e3 el s0 sl hcd
          have hpo3 := HP3.out.ne HS3.out.blk (by decide); have hno3 := HN3.out.ne HS3.out.blk (by decide); have hco3 := HC3.out.ne HS3.out.blk (by decide); have hbo3 := HB3.out.ne HS3.out.blk (by decide)
          have HST := Lib.hid (HS3.out.turn true)
          have HPT := Lib.hid (HP3.out.far (p := ⟨ob, 2, none⟩) hpo3 (.bool true)); have HNT := Lib.hid (HN3.out.far (p := ⟨ob, 2, none⟩) hno3 (.bool true)); have HCT3 := Lib.hid (HC3.out.far (p := ⟨ob, 2, none⟩) hco3 (.bool true)); have HBT3 := Lib.hid (HB3.out.far (p := ⟨ob, 2, none⟩) hbo3 (.bool true))
          have HOT3 := Lib.hid (OTab.far (i := 2) (u := .bool true) HON.out HS3.out.blk (by decide) (by decide) (by decide))
          have hrs := set4_blk HBT3.out (.string ⟨#[]⟩) (.int .i64 0) (.slice none 0 0) (.slice none 0 0)
          have htb : w1.heap.size ≠ tg := by have h1 := HTG.out; have h2 := HK1.out.size; omega
          have hwb : w.heap.size ≤ w1.heap.size := Nat.le_trans HSY.out.k.size HK1.out.size
          have HSU := HST.out.box HBT3.out htb hrs hwb
          have hkl : Below (set4 (w2.setCell ⟨ob, 2, none⟩ (.bool true)) w1.heap.size (.string ⟨#[]⟩) (.int .i64 0) (.slice none 0 0) (.slice none 0 0)).heap.size (set4 (w2.setCell ⟨ob, 2, none⟩ (.bool true)) w1.heap.size (.string ⟨#[]⟩) (.int .i64 0) (.slice none 0 0) (.slice none 0 0)) ((set4 (w2.setCell ⟨ob, 2, none⟩ (.bool true)) w1.heap.size (.string ⟨#[]⟩) (.int .i64 0) (.slice none 0 0) (.slice none 0 0)).alloc (.cells #[.string ⟨#[]⟩, .int .i64 0, .slice none 0 0, .slice none 0 0] TTb)) := (Below.refl _ _).alloc (Nat.le_refl _) _
          have HS5 := Lib.hid (HSU.next hkl)
          have HP5 := Lib.hid ((hrs.far HPT.out (HPT.out.ne HBT3.out (by decide))).alloc (.cells #[.string ⟨#[]⟩, .int .i64 0, .slice none 0 0, .slice none 0 0] TTb)); have HN5 := Lib.hid ((hrs.far HNT.out (HNT.out.ne HBT3.out (by decide))).alloc (.cells #[.string ⟨#[]⟩, .int .i64 0, .slice none 0 0, .slice none 0 0] TTb)); have HC5 := Lib.hid ((hrs.far HCT3.out (HCT3.out.ne HBT3.out (by decide))).alloc (.cells #[.string ⟨#[]⟩, .int .i64 0, .slice none 0 0, .slice none 0 0] TTb)); have HB5 := Lib.hid (hrs.blk.alloc (.cells #[.string ⟨#[]⟩, .int .i64 0, .slice none 0 0, .slice none 0 0] TTb))
          have HO5 := Lib.hid ((OTab.farRow HOT3.out HBT3.out hrs).below hkl)
          have s2 := HS3.out.blk.cell 2; have s0 := HS3.out.blk.cell 0; have sf := HS3.out.blk.frozen 2; have sl := HS3.out.blk.lt
          have p0 := HP3.out.cell 0; have pl := HP3.out.lt
          have b0 := HBT3.out.cell 0; have b1 := HBT3.out.cell 1; have b2 := HBT3.out.cell 2; have b3 := HBT3.out.cell 3
          have bf0 := HBT3.out.frozen 0; have bf1 := HBT3.out.frozen 1; have bf2 := HBT3.out.frozen 2; have bf3 := HBT3.out.frozen 3; have bl := HBT3.out.lt
          have bl2 : w1.heap.size < w2.heap.size := HB3.out.lt
          have HBA := Lib.hid (HBT3.out.alloc (.cells #[.string ⟨#[]⟩, .int .i64 0, .slice none 0 0, .slice none 0 0] TTb))
          have ba0 := HBA.out.cell 0; have ba1 := HBA.out.cell 1; have ba2 := HBA.out.cell 2; have ba3 := HBA.out.cell 3
          have baf0 := HBA.out.frozen 0; have baf1 := HBA.out.frozen 1; have baf2 := HBA.out.frozen 2; have baf3 := HBA.out.frozen 3
          have p5 := HP5.out.cell 0; have pl5 := HP5.out.lt
          have s5 := HS5.out.blk.cell 0; have sl5 := HS5.out.blk.lt
          have c5 := HC5.out.cell 0; have cl5 := HC5.out.lt
          have k0 := HB5.out.cell 0; have k1 := HB5.out.cell 1; have k2 := HB5.out.cell 2; have k3 := HB5.out.cell 3; have kl := HB5.out.lt
          obtain ⟨tg2, tcur2, t2, tf2, hA2, hge2, htcur2, htx2, htf2, hR2⟩ := HS5.out.tabs.gt hin
          obtain rfl := some_blk hA2
          have q0 := (htcur2.cell _).trans (htf2 0 (by omega)); have q1 := (htcur2.cell _).trans (htf2 1 (by omega)); have q2 := (htcur2.cell _).trans (htf2 2 (by omega)); have q3 := (htcur2.cell _).trans (htf2 3 (by omega))
          rw [Nat.add_zero] at q0
          have y0 := htcur2.frozen (i * 4); have y1 := htcur2.frozen (i * 4 + 1); have y2 := htcur2.frozen (i * 4 + 2); have y3 := htcur2.frozen (i * 4 + 3)
          have yl := htcur2.lt
          clear htcur2 htx2 htf2 hR2 hge2 hA2 hrs hkl HSU htb hwb hpo3 hno3 hco3 hbo3
          go_wp2
          refine wp_region_quiet_tail 9 (by kernel_rfl) (by kernel_rfl) ?_
          simp only [List.take_succ_cons, List.take_zero, List.drop_succ_cons, List.drop_zero]
          repeat (go_big_quiet_step (fail))
          refine wpQuiet_nil ?_
          go_wp2
          have HS6 := Lib.hid (HS5.out.put hin HO5.out).drew
          have HP6 := Lib.hid (blk_drew (HS5.out.putFar hin HP5.out (by decide) (.string ⟨#[]⟩) (.int .i64 0) (.slice none 0 0) (.slice none 0 0))); have HN6 := Lib.hid (blk_drew (HS5.out.putFar hin HN5.out (by decide) (.string ⟨#[]⟩) (.int .i64 0) (.slice none 0 0) (.slice none 0 0)))
          refine leaves_cons (f := 75) (args := #[.pointer (some ⟨W.heap.size, 0, none⟩), .pointer (some ⟨W.heap.size + 1, 0, none⟩)]) (by simp) (by simp [go_sem]) ?_
          refine (undo_door HS6.out HP6.out HN6.out hlc (Nat.le_of_lt hml)).mono ?_
          rintro e u' w'' ⟨rfl, rfl, hct⟩
          have HCT := Lib.hid hct
          clear hct
          simp [Leaves, settle, results, Tryz.results40, go_sem]
          unfold UndoP
          rw [HBK.out]
          exact ⟨HCT.out.blk, HCT.out.k⟩
    | true =>
      rw [HDB.out, hhas] at hres
      obtain ⟨v, rfl, hv⟩ : ∃ v, e = .returned (.tuple #[v, .int .i64 0]) ∧ TabV (Y.alloc (.cells #[.string t.name, .int .i64 t.most, .slice U un uc, .slice R rn rc] TTb)).drew w1 v (t.drop xi) := by
        rcases hres with ⟨h1, _⟩ | ⟨_, v, h1, h2⟩
        · exact absurd rfl h1
        · exact ⟨v, h1, h2⟩
      obtain ⟨V, vn, vc, G, gn, gc, hve, hv1, hv2⟩ := hv
      have hve : v = .agg #[.string t.name, .int .i64 t.most, .slice V vn vc, .slice G gn gc] := hve
      subst hve
      clear hres k hhas
      have hlw : w.heap.size ≤ (Y.alloc (.cells #[.string t.name, .int .i64 t.most, .slice U un uc, .slice R rn rc] TTb)).drew.heap.size := Nat.le_trans HSY.out.k.size HKZ.out.size
      have hka : Below Y.heap.size Y (w1.alloc (.cells #[.string t.name, .int .i64 t.most, .slice V vn vc, .slice G gn gc] TTb)) := HK1.out.alloc HK1.out.size _
      have hkb : Below w1.heap.size w1 (w1.alloc (.cells #[.string t.name, .int .i64 t.most, .slice V vn vc, .slice G gn gc] TTb)) := (Below.refl _ _).alloc (Nat.le_refl _) _
      have HS2 := Lib.hid (HSY.out.next hka); have HP2 := Lib.hid (HPY.out.below hka HPY.out.lt); have HN2 := Lib.hid (HNY.out.below hka HNY.out.lt); have HC2 := Lib.hid (HCY.out.below hka HCY.out.lt)
      have HB2 := Lib.hid (Blk.new w1 TTb #[.string t.name, .int .i64 t.most, .slice V vn vc, .slice G gn gc])
      have HO2 : Hid (OTb (w1.alloc (.cells #[.string t.name, .int .i64 t.most, .slice V vn vc, .slice G gn gc] TTb)) w.heap.size (f4 (.string t.name) (.int .i64 t.most) (.slice V vn vc) (.slice G gn gc)) (t.drop xi)) := Lib.hid ⟨HRT.out.1, HRT.out.2, Own.lowerS (hv1.below hkb) hlw, ((OwnK.lower hv2 hlw).below hkb).monoR fun _ _ _ ho => (ho.lower hlw).below hkb⟩
      have HOW2 := Lib.hid (HOWY.out.below hka)
      clear hka hkb hv1 hv2 hlw
      have htd2 : TabBd (t.drop xi) := ⟨HBT.out.un, Nat.le_trans (List.length_filter_le _ _) HBT.out.rn, fun r hr => HBT.out.rb r (delR_sub hr), fun r hr => HBT.out.dl r (delR_sub hr)⟩
      have HTD := Lib.hid htd2
      have HDR : Hid (TabOk (t.drop xi)) := Lib.hid (HTK.out.drop xi)
      clear p0 pl c0 c1 c2 c3 c4 cl s0 s1 s2 sf sl d0 d1 d2 d3 dl
      have p0 := HP2.out.cell 0; have pl := HP2.out.lt
      have c0 := HC2.out.cell 0; have c2 := HC2.out.cell 2; have c3 := HC2.out.cell 3; have c4 := HC2.out.cell 4; have cl := HC2.out.lt
      have e0 := HB2.out.cell 0; have e1 := HB2.out.cell 1; have e2 := HB2.out.cell 2; have e3 := HB2.out.cell 3; have el := HB2.out.lt
      have s0 := HS2.out.blk.cell 0; have sl := HS2.out.blk.lt
      simp at p0 c0 c2 c3 c4 s0
      clear htd2
      cases xh with
      | false =>
        have HBK : Hid (back1 ts ⟨(i : Int), xi, false, ⟨wi, wd⟩⟩ = some (ts.set i (t.drop xi))) := Lib.hid (by
          unfold back1
          rw [HTL.out, if_pos HC.out]
          simp only [Int.toNat_natCast, HTX.out]
          rfl)
        obtain ⟨tg2, tcur2, t2, tf2, hA2, hge2, htcur2, htx2, htf2, hR2⟩ := HS2.out.tabs.gt hin
        obtain rfl := some_blk hA2
        have q0 := (htcur2.cell _).trans (htf2 0 (by omega)); have q1 := (htcur2.cell _).trans (htf2 1 (by omega)); have q2 := (htcur2.cell _).trans (htf2 2 (by omega)); have q3 := (htcur2.cell _).trans (htf2 3 (by omega))
        rw [Nat.add_zero] at q0
        have y0 := htcur2.frozen (i * 4); have y1 := htcur2.frozen (i * 4 + 1); have y2 := htcur2.frozen (i * 4 + 2); have y3 := htcur2.frozen (i * 4 + 3)
        have yl := htcur2.lt
        clear htcur2 htx2 htf2 hR2 hge2 hA2
        go_wp2
        refine wp_region_quiet_tail 9 (by kernel_rfl) (by kernel_rfl) ?_
        simp only [List.take_succ_cons, List.take_zero, List.drop_succ_cons, List.drop_zero]
        repeat (go_big_quiet_step (fail))
        refine wpQuiet_nil ?_
        go_wp2
        have HS4 := Lib.hid (HS2.out.put hin HO2.out).drew
        have HP4 := Lib.hid (blk_drew (HS2.out.putFar hin HP2.out (by decide) (.string t.name) (.int .i64 t.most) (.slice V vn vc) (.slice G gn gc))); have HN4 := Lib.hid (blk_drew (HS2.out.putFar hin HN2.out (by decide) (.string t.name) (.int .i64 t.most) (.slice V vn vc) (.slice G gn gc)))
        refine leaves_cons (f := 75) (args := #[.pointer (some ⟨W.heap.size, 0, none⟩), .pointer (some ⟨W.heap.size + 1, 0, none⟩)]) (by simp) (by simp [go_sem]) ?_
        refine (undo_door HS4.out HP4.out HN4.out hlc (Nat.le_of_lt hml)).mono ?_
        rintro e u' w'' ⟨rfl, rfl, hct⟩
        have HCT := Lib.hid hct
        clear hct
        simp [Leaves, settle, results, Tryz.results40, go_sem]
        unfold UndoP
        rw [HBK.out]
        exact HCT.out
      | true =>
        have hrd : RTab (w1.alloc (.cells #[.string t.name, .int .i64 t.most, .slice V vn vc, .slice G gn gc] TTb)) (f4 (.string t.name) (.int .i64 t.most) (.slice V vn vc) (.slice G gn gc)) (t.drop xi) := HO2.out.reads (by have := HTD.out.un; omega) (by have := HTD.out.rn; omega) (fun r hr => by have := HTD.out.dl r hr; omega)
        obtain ⟨U2, un2, uc2, R2, rn2, rc2, _, _, g2, g3, hu2, hr2, hta2⟩ := hrd.opens
        have g2 : Value.slice V vn vc = .slice U2 un2 uc2 := g2
        have g3 : Value.slice G gn gc = .slice R2 rn2 rc2 := g3
        injection g2 with a1 a2 a3
        injection g3 with b1 b2 b3
        subst a1; subst a2; subst a3; subst b1; subst b2; subst b3
        obtain ⟨D', dc', hdv, hda, hdl⟩ := OwnK.sl HOW2.out (by omega)
        injection hdv with a1 a2 a3
        subst a1; subst a3; clear a2
        have hpu := table_Put B V vn vc G gn gc (t.drop xi) D dc wm ⟨wi, wd⟩ (w1.alloc (.cells #[.string t.name, .int .i64 t.most, .slice V vn vc, .slice G gn gc] TTb)) hta2 hu2 hr2 (by have := HTD.out.un; rw [hta2.un.out] at this; exact this) HTD.out.rb hda HWM.out (by rw [← HWM.out]; exact hdl) hwi HCS.out (HTS.out.next (HS2.out.k.mono hB)) (Nat.le_trans hB HS2.out.k.size)
        have HPU : Hid (Calls Tryz.prog 35 #[.agg #[.string t.name, .int .i64 t.most, .slice V vn vc, .slice G gn gc], .agg #[.string wi, .slice D wm dc]] (w1.alloc (.cells #[.string t.name, .int .i64 t.most, .slice V vn vc, .slice G gn gc] TTb)) fun e w' =>
            ((putB (t.drop xi) ⟨wi, wd⟩ ≠ 0 ∧ e = .returned (.tuple #[zTab, .int .i64 (putB (t.drop xi) ⟨wi, wd⟩)])) ∨ (putB (t.drop xi) ⟨wi, wd⟩ = 0 ∧ ∃ v, e = .returned (.tuple #[v, .int .i64 0]) ∧ TabV (w1.alloc (.cells #[.string t.name, .int .i64 t.most, .slice V vn vc, .slice G gn gc] TTb)) w' v ((t.drop xi).put ⟨wi, wd⟩))) ∧ Below (w1.alloc (.cells #[.string t.name, .int .i64 t.most, .slice V vn vc, .slice G gn gc] TTb)).heap.size (w1.alloc (.cells #[.string t.name, .int .i64 t.most, .slice V vn vc, .slice G gn gc] TTb)) w') := Lib.hid hpu
        clear hrd hta2 hda hpu
        by_cases hput : PutOk (t.drop xi) ⟨wi, wd⟩
        · have HPB : Hid (putB (t.drop xi) ⟨wi, wd⟩ = 0) := Lib.hid (by rw [putB_eq, putE_iff]; exact hput)
          have HBK : Hid (back1 ts ⟨(i : Int), xi, true, ⟨wi, wd⟩⟩ = some (ts.set i ((t.drop xi).put ⟨wi, wd⟩))) := Lib.hid (by
            unfold back1
            rw [HTL.out, if_pos HC.out]
            simp only [Int.toNat_natCast, HTX.out]
            unfold backT
            simp only [if_true, yes_t hput, Option.map_some])
          clear hput
          go_wp2_with fail
          refine HPU.out.mono ?_
          rintro e w2 ⟨hres, k⟩
          obtain ⟨v, rfl, hv⟩ : ∃ v, e = .returned (.tuple #[v, .int .i64 0]) ∧ TabV (w1.alloc (.cells #[.string t.name, .int .i64 t.most, .slice V vn vc, .slice G gn gc] TTb)) w2 v ((t.drop xi).put ⟨wi, wd⟩) := by
            rcases hres with ⟨h1, _⟩ | ⟨_, v, h1, h2⟩
            · exact absurd HPB.out h1
            · exact ⟨v, h1, h2⟩
          obtain ⟨V7, vn7, vc7, G7, gn7, gc7, hve, hv1, hv2⟩ := hv
          have hve : v = .agg #[.string t.name, .int .i64 t.most, .slice V7 vn7 vc7, .slice G7 gn7 gc7] := hve
          subst hve
          clear hres
          have HS3 := Lib.hid (HS2.out.next k); have HP3 := Lib.hid (HP2.out.below k HP2.out.lt); have HN3 := Lib.hid (HN2.out.below k HN2.out.lt); have HC3 := Lib.hid (HC2.out.below k HC2.out.lt); have HB3 := Lib.hid (HB2.out.below k HB2.out.lt)
          have hlz : w.heap.size ≤ (w1.alloc (.cells #[.string t.name, .int .i64 t.most, .slice V vn vc, .slice G gn gc] TTb)).heap.size := HS2.out.k.size
          have HON : Hid (OTb w2 w.heap.size (f4 (.string t.name) (.int .i64 t.most) (.slice V7 vn7 vc7) (.slice G7 gn7 gc7)) ((t.drop xi).put ⟨wi, wd⟩)) := Lib.hid ⟨HRT.out.1, HRT.out.2, Own.lowerS hv1 hlz, (OwnK.lower hv2 hlz).monoR fun _ _ _ ho => ho.lower hlz⟩
          clear hlz hv1 hv2 k p0 pl c0 c2 c3 c4 cl e0 e1 e2 e3 el s0 sl
          have hpo3 := HP3.out.ne HS3.out.blk (by decide); have hno3 := HN3.out.ne HS3.out.blk (by decide); have hco3 := HC3.out.ne HS3.out.blk (by decide); have hbo3 := HB3.out.ne HS3.out.blk (by decide)
          have HST := Lib.hid (HS3.out.turn false)
          have HPT := Lib.hid (HP3.out.far (p := ⟨ob, 2, none⟩) hpo3 (.bool false)); have HNT := Lib.hid (HN3.out.far (p := ⟨ob, 2, none⟩) hno3 (.bool false)); have HCT3 := Lib.hid (HC3.out.far (p := ⟨ob, 2, none⟩) hco3 (.bool false)); have HBT3 := Lib.hid (HB3.out.far (p := ⟨ob, 2, none⟩) hbo3 (.bool false))
          have HOT3 := Lib.hid (OTab.far (i := 2) (u := .bool false) HON.out HS3.out.blk (by decide) (by decide) (by decide))
          have hrs := set4_blk HBT3.out (.string t.name) (.int .i64 t.most) (.slice V7 vn7 vc7) (.slice G7 gn7 gc7)
          have htb : w1.heap.size ≠ tg := by have h1 := HTG.out; have h2 := HK1.out.size; omega
          have hwb : w.heap.size ≤ w1.heap.size := Nat.le_trans HSY.out.k.size HK1.out.size
          have HSU := HST.out.box HBT3.out htb hrs hwb
          have hkl : Below (set4 (w2.setCell ⟨ob, 2, none⟩ (.bool false)) w1.heap.size (.string t.name) (.int .i64 t.most) (.slice V7 vn7 vc7) (.slice G7 gn7 gc7)).heap.size (set4 (w2.setCell ⟨ob, 2, none⟩ (.bool false)) w1.heap.size (.string t.name) (.int .i64 t.most) (.slice V7 vn7 vc7) (.slice G7 gn7 gc7)) ((set4 (w2.setCell ⟨ob, 2, none⟩ (.bool false)) w1.heap.size (.string t.name) (.int .i64 t.most) (.slice V7 vn7 vc7) (.slice G7 gn7 gc7)).alloc (.cells #[.string t.name, .int .i64 t.most, .slice V7 vn7 vc7, .slice G7 gn7 gc7] TTb)) := (Below.refl _ _).alloc (Nat.le_refl _) _
          have HS5 := Lib.hid (HSU.next hkl)
          have HP5 := Lib.hid ((hrs.far HPT.out (HPT.out.ne HBT3.out (by decide))).alloc (.cells #[.string t.name, .int .i64 t.most, .slice V7 vn7 vc7, .slice G7 gn7 gc7] TTb)); have HN5 := Lib.hid ((hrs.far HNT.out (HNT.out.ne HBT3.out (by decide))).alloc (.cells #[.string t.name, .int .i64 t.most, .slice V7 vn7 vc7, .slice G7 gn7 gc7] TTb)); have HC5 := Lib.hid ((hrs.far HCT3.out (HCT3.out.ne HBT3.out (by decide))).alloc (.cells #[.string t.name, .int .i64 t.most, .slice V7 vn7 vc7, .slice G7 gn7 gc7] TTb)); have HB5 := Lib.hid (hrs.blk.alloc (.cells #[.string t.name, .int .i64 t.most, .slice V7 vn7 vc7, .slice G7 gn7 gc7] TTb))
          have HO5 := Lib.hid ((OTab.farRow HOT3.out HBT3.out hrs).below hkl)
          have s2 := HS3.out.blk.cell 2; have s0 := HS3.out.blk.cell 0; have sf := HS3.out.blk.frozen 2; have sl := HS3.out.blk.lt
          have p0 := HP3.out.cell 0; have pl := HP3.out.lt
          have b0 := HBT3.out.cell 0; have b1 := HBT3.out.cell 1; have b2 := HBT3.out.cell 2; have b3 := HBT3.out.cell 3
          have bf0 := HBT3.out.frozen 0; have bf1 := HBT3.out.frozen 1; have bf2 := HBT3.out.frozen 2; have bf3 := HBT3.out.frozen 3; have bl := HBT3.out.lt
          have bl2 : w1.heap.size < w2.heap.size := HB3.out.lt
          have HBA := Lib.hid (HBT3.out.alloc (.cells #[.string t.name, .int .i64 t.most, .slice V7 vn7 vc7, .slice G7 gn7 gc7] TTb))
          have ba0 := HBA.out.cell 0; have ba1 := HBA.out.cell 1; have ba2 := HBA.out.cell 2; have ba3 := HBA.out.cell 3
          have baf0 := HBA.out.frozen 0; have baf1 := HBA.out.frozen 1; have baf2 := HBA.out.frozen 2; have baf3 := HBA.out.frozen 3
          have p5 := HP5.out.cell 0; have pl5 := HP5.out.lt
          have s5 := HS5.out.blk.cell 0; have sl5 := HS5.out.blk.lt
          have c5 := HC5.out.cell 0; have cl5 := HC5.out.lt
          have k0 := HB5.out.cell 0; have k1 := HB5.out.cell 1; have k2 := HB5.out.cell 2; have k3 := HB5.out.cell 3; have kl := HB5.out.lt
          obtain ⟨tg2, tcur2, t2, tf2, hA2, hge2, htcur2, htx2, htf2, hR2⟩ := HS5.out.tabs.gt hin
          obtain rfl := some_blk hA2
          have q0 := (htcur2.cell _).trans (htf2 0 (by omega)); have q1 := (htcur2.cell _).trans (htf2 1 (by omega)); have q2 := (htcur2.cell _).trans (htf2 2 (by omega)); have q3 := (htcur2.cell _).trans (htf2 3 (by omega))
          rw [Nat.add_zero] at q0
          have y0 := htcur2.frozen (i * 4); have y1 := htcur2.frozen (i * 4 + 1); have y2 := htcur2.frozen (i * 4 + 2); have y3 := htcur2.frozen (i * 4 + 3)
          have yl := htcur2.lt
          clear htcur2 htx2 htf2 hR2 hge2 hA2 hrs hkl HSU htb hwb hpo3 hno3 hco3 hbo3
          go_wp2
          refine wp_region_quiet_tail 9 (by kernel_rfl) (by kernel_rfl) ?_
          simp only [List.take_succ_cons, List.take_zero, List.drop_succ_cons, List.drop_zero]
          repeat (go_big_quiet_step (fail))
          refine wpQuiet_nil ?_
          go_wp2
          have HS6 := Lib.hid (HS5.out.put hin HO5.out).drew
          have HP6 := Lib.hid (blk_drew (HS5.out.putFar hin HP5.out (by decide) (.string t.name) (.int .i64 t.most) (.slice V7 vn7 vc7) (.slice G7 gn7 gc7))); have HN6 := Lib.hid (blk_drew (HS5.out.putFar hin HN5.out (by decide) (.string t.name) (.int .i64 t.most) (.slice V7 vn7 vc7) (.slice G7 gn7 gc7)))
          refine leaves_cons (f := 75) (args := #[.pointer (some ⟨W.heap.size, 0, none⟩), .pointer (some ⟨W.heap.size + 1, 0, none⟩)]) (by simp) (by simp [go_sem]) ?_
          refine (undo_door HS6.out HP6.out HN6.out hlc (Nat.le_of_lt hml)).mono ?_
          rintro e u' w'' ⟨rfl, rfl, hct⟩
          have HCT := Lib.hid hct
          clear hct
          simp [Leaves, settle, results, Tryz.results40, go_sem]
          unfold UndoP
          rw [HBK.out]
          exact HCT.out
        · have HPB : Hid (putB (t.drop xi) ⟨wi, wd⟩ ≠ 0) := Lib.hid (by rw [putB_eq]; exact fun h => hput (putE_iff.1 h))
          have HBK : Hid (back1 ts ⟨(i : Int), xi, true, ⟨wi, wd⟩⟩ = none) := Lib.hid (by
            unfold back1
            rw [HTL.out, if_pos HC.out]
            simp only [Int.toNat_natCast, HTX.out]
            unfold backT
            simp only [if_true, yes_f hput, Bool.false_eq_true, if_false, Option.map_none])
          clear hput
          go_wp2_with fail
          refine HPU.out.mono ?_
          rintro e w2 ⟨hres, k⟩
          obtain ⟨cd, rfl, hcd⟩ : ∃ cd : Int, e = .returned (.tuple #[zTab, .int .i64 cd]) ∧ cd ≠ 0 := by
            rcases hres with ⟨h1, h2⟩ | ⟨h1, _⟩
            · exact ⟨_, h2, h1⟩
            · exact absurd h1 HPB.out
          have hc1 : (cd == 0) = false := by simpa using hcd
          have hc2 : (cd != 0) = true := by simpa using hcd
          clear hres
          have HS3 := Lib.hid (HS2.out.next k); have HP3 := Lib.hid (HP2.out.below k HP2.out.lt); have HN3 := Lib.hid (HN2.out.below k HN2.out.lt); have HC3 := Lib.hid (HC2.out.below k HC2.out.lt); have HB3 := Lib.hid (HB2.out.below k HB2.out.lt)
          have HON : Hid (OTb w2 w.heap.size (f4 (.string ⟨#[]⟩) (.int .i64 0) (.slice none 0 0) (.slice none 0 0)) ⟨⟨#[]⟩, 0, [], []⟩) := Lib.hid ⟨⟨rfl, by decide⟩, ⟨rfl, by decide⟩, Own.nil, OwnK.nil⟩
          clear k p0 pl c0 c2 c3 c4 cl e0 e1 e2 e3 el s0 sl hcd
          have hpo3 := HP3.out.ne HS3.out.blk (by decide); have hno3 := HN3.out.ne HS3.out.blk (by decide); have hco3 := HC3.out.ne HS3.out.blk (by decide); have hbo3 := HB3.out.ne HS3.out.blk (by decide)
          have HST := Lib.hid (HS3.out.turn true)
          have HPT := Lib.hid (HP3.out.far (p := ⟨ob, 2, none⟩) hpo3 (.bool true)); have HNT := Lib.hid (HN3.out.far (p := ⟨ob, 2, none⟩) hno3 (.bool true)); have HCT3 := Lib.hid (HC3.out.far (p := ⟨ob, 2, none⟩) hco3 (.bool true)); have HBT3 := Lib.hid (HB3.out.far (p := ⟨ob, 2, none⟩) hbo3 (.bool true))
          have HOT3 := Lib.hid (OTab.far (i := 2) (u := .bool true) HON.out HS3.out.blk (by decide) (by decide) (by decide))
          have hrs := set4_blk HBT3.out (.string ⟨#[]⟩) (.int .i64 0) (.slice none 0 0) (.slice none 0 0)
          have htb : w1.heap.size ≠ tg := by have h1 := HTG.out; have h2 := HK1.out.size; omega
          have hwb : w.heap.size ≤ w1.heap.size := Nat.le_trans HSY.out.k.size HK1.out.size
          have HSU := HST.out.box HBT3.out htb hrs hwb
          have hkl : Below (set4 (w2.setCell ⟨ob, 2, none⟩ (.bool true)) w1.heap.size (.string ⟨#[]⟩) (.int .i64 0) (.slice none 0 0) (.slice none 0 0)).heap.size (set4 (w2.setCell ⟨ob, 2, none⟩ (.bool true)) w1.heap.size (.string ⟨#[]⟩) (.int .i64 0) (.slice none 0 0) (.slice none 0 0)) ((set4 (w2.setCell ⟨ob, 2, none⟩ (.bool true)) w1.heap.size (.string ⟨#[]⟩) (.int .i64 0) (.slice none 0 0) (.slice none 0 0)).alloc (.cells #[.string ⟨#[]⟩, .int .i64 0, .slice none 0 0, .slice none 0 0] TTb)) := (Below.refl _ _).alloc (Nat.le_refl _) _
          have HS5 := Lib.hid (HSU.next hkl)
          have HP5 := Lib.hid ((hrs.far HPT.out (HPT.out.ne HBT3.out (by decide))).alloc (.cells #[.string ⟨#[]⟩, .int .i64 0, .slice none 0 0, .slice none 0 0] TTb)); have HN5 := Lib.hid ((hrs.far HNT.out (HNT.out.ne HBT3.out (by decide))).alloc (.cells #[.string ⟨#[]⟩, .int .i64 0, .slice none 0 0, .slice none 0 0] TTb)); have HC5 := Lib.hid ((hrs.far HCT3.out (HCT3.out.ne HBT3.out (by decide))).alloc (.cells #[.string ⟨#[]⟩, .int .i64 0, .slice none 0 0, .slice none 0 0] TTb)); have HB5 := Lib.hid (hrs.blk.alloc (.cells #[.string ⟨#[]⟩, .int .i64 0, .slice none 0 0, .slice none 0 0] TTb))
          have HO5 := Lib.hid ((OTab.farRow HOT3.out HBT3.out hrs).below hkl)
          have s2 := HS3.out.blk.cell 2; have s0 := HS3.out.blk.cell 0; have sf := HS3.out.blk.frozen 2; have sl := HS3.out.blk.lt
          have p0 := HP3.out.cell 0; have pl := HP3.out.lt
          have b0 := HBT3.out.cell 0; have b1 := HBT3.out.cell 1; have b2 := HBT3.out.cell 2; have b3 := HBT3.out.cell 3
          have bf0 := HBT3.out.frozen 0; have bf1 := HBT3.out.frozen 1; have bf2 := HBT3.out.frozen 2; have bf3 := HBT3.out.frozen 3; have bl := HBT3.out.lt
          have bl2 : w1.heap.size < w2.heap.size := HB3.out.lt
          have HBA := Lib.hid (HBT3.out.alloc (.cells #[.string ⟨#[]⟩, .int .i64 0, .slice none 0 0, .slice none 0 0] TTb))
          have ba0 := HBA.out.cell 0; have ba1 := HBA.out.cell 1; have ba2 := HBA.out.cell 2; have ba3 := HBA.out.cell 3
          have baf0 := HBA.out.frozen 0; have baf1 := HBA.out.frozen 1; have baf2 := HBA.out.frozen 2; have baf3 := HBA.out.frozen 3
          have p5 := HP5.out.cell 0; have pl5 := HP5.out.lt
          have s5 := HS5.out.blk.cell 0; have sl5 := HS5.out.blk.lt
          have c5 := HC5.out.cell 0; have cl5 := HC5.out.lt
          have k0 := HB5.out.cell 0; have k1 := HB5.out.cell 1; have k2 := HB5.out.cell 2; have k3 := HB5.out.cell 3; have kl := HB5.out.lt
          obtain ⟨tg2, tcur2, t2, tf2, hA2, hge2, htcur2, htx2, htf2, hR2⟩ := HS5.out.tabs.gt hin
          obtain rfl := some_blk hA2
          have q0 := (htcur2.cell _).trans (htf2 0 (by omega)); have q1 := (htcur2.cell _).trans (htf2 1 (by omega)); have q2 := (htcur2.cell _).trans (htf2 2 (by omega)); have q3 := (htcur2.cell _).trans (htf2 3 (by omega))
          rw [Nat.add_zero] at q0
          have y0 := htcur2.frozen (i * 4); have y1 := htcur2.frozen (i * 4 + 1); have y2 := htcur2.frozen (i * 4 + 2); have y3 := htcur2.frozen (i * 4 + 3)
          have yl := htcur2.lt
          clear htcur2 htx2 htf2 hR2 hge2 hA2 hrs hkl HSU htb hwb hpo3 hno3 hco3 hbo3
          go_wp2
          refine wp_region_quiet_tail 9 (by kernel_rfl) (by kernel_rfl) ?_
          simp only [List.take_succ_cons, List.take_zero, List.drop_succ_cons, List.drop_zero]
          repeat (go_big_quiet_step (fail))
          refine wpQuiet_nil ?_
          go_wp2
          have HS6 := Lib.hid (HS5.out.put hin HO5.out).drew
          have HP6 := Lib.hid (blk_drew (HS5.out.putFar hin HP5.out (by decide) (.string ⟨#[]⟩) (.int .i64 0) (.slice none 0 0) (.slice none 0 0))); have HN6 := Lib.hid (blk_drew (HS5.out.putFar hin HN5.out (by decide) (.string ⟨#[]⟩) (.int .i64 0) (.slice none 0 0) (.slice none 0 0)))
          refine leaves_cons (f := 75) (args := #[.pointer (some ⟨W.heap.size, 0, none⟩), .pointer (some ⟨W.heap.size + 1, 0, none⟩)]) (by simp) (by simp [go_sem]) ?_
          refine (undo_door HS6.out HP6.out HN6.out hlc (Nat.le_of_lt hml)).mono ?_
          rintro e u' w'' ⟨rfl, rfl, hct⟩
          have HCT := Lib.hid hct
          clear hct
          simp [Leaves, settle, results, Tryz.results40, go_sem]
          unfold UndoP
          rw [HBK.out]
          exact ⟨HCT.out.blk, HCT.out.k⟩
end Go.Proofs.YtbdkedjgfihamaaGreatDoor

namespace Pv
open Go Go.RowKit
/-- A row's length, of a cell. -/
def lenC : Option Value → Nat
  | some (.slice _ n _) => n
  | _ => 0
theorem TabOk.bd {t : Tab} (h : TabOk t) (hu : t.uniques.length ≤ 100000) (hr : ∀ r, r ∈ t.rows → ∀ x, x ∈ r.data → x.name.size ≤ 100000 ∧ x.text.size ≤ 100000) : TabBd t :=
  ⟨hu, by have h1 := h.few; have h2 := h.m2; omega, hr, fun r hx => by
    have h1 := h.one r hx
    unfold oneR at h1
    simp only [Bool.and_eq_true] at h1
    have := ((mayV_iff _).1 h1.1.1).few
    omega⟩
theorem back1_bd {ts ts' : List Tab} {c : Chg} (h : TabsOk ts) (hb : ∀ t, t ∈ ts → TabBd t) (hc : ∀ x, x ∈ c.was.data → x.name.size ≤ 100000 ∧ x.text.size ≤ 100000) (hk : back1 ts c = some ts') : ∀ t, t ∈ ts' → TabBd t := by
  have hok := (h.back1 hk).1
  obtain ⟨_, t, t', h1, h2, rfl⟩ := back1_some hk
  intro y hy
  rcases List.mem_or_eq_of_mem_set hy with hy | rfl
  · exact hb y hy
  · have hbt := hb t (mem_of_get h1)
    refine TabOk.bd (hok.each _ (by exact hy)) ?_ ?_
    · unfold backT at h2
      split at h2
      · split at h2
        · obtain rfl := Option.some.inj h2; exact hbt.un
        · cases h2
      · obtain rfl := Option.some.inj h2; exact hbt.un
    · unfold backT at h2
      split at h2
      · split at h2
        · obtain rfl := Option.some.inj h2
          intro r hr
          rcases insR_mem.1 hr with rfl | hr
          · exact hc
          · exact hbt.rb r (delR_sub hr)
        · cases h2
      · obtain rfl := Option.some.inj h2
        exact fun r hr => hbt.rb r (delR_sub hr)
theorem drop_rev {l : List Chg} {k : Nat} {x : Chg} (h : l[k]? = some x) : (l.drop k).reverse = (l.drop (k + 1)).reverse ++ [x] := by
  have hk := lt_of_get h
  rw [List.drop_eq_getElem_cons hk, List.reverse_cons]
  rw [List.getElem?_eq_getElem hk] at h
  rw [Option.some.inj h]
theorem backN_step {l : List Chg} {k : Nat} {x : Chg} {ts0 ts : List Tab} (h : l[k]? = some x) (hb : backN (l.drop (k + 1)).reverse ts0 = some ts) : backN (l.drop k).reverse ts0 = back1 ts x := by
  rw [drop_rev h, backN_app, hb]
  show (back1 ts x).bind (backN []) = back1 ts x
  cases back1 ts x <;> rfl
theorem backN_none {l : List Chg} {k : Nat} {ts0 : List Tab} (h : backN (l.drop k).reverse ts0 = none) : backN l.reverse ts0 = none := by
  rw [rev_split l k, backN_app, h]; rfl
end Pv
namespace Go.Proofs.YtbdkedjgfihamaaGreatDoor
open Go.RowKit Pv Go.Maps
/-- A store going back: so far it may be, or not. -/
def CheckI (w W : World) (ob : Nat) (T : Option Addr) (tn tc : Nat) (L : Option Addr) (lc : Nat) (s : Sto) (k : Nat) (bad : Bool) : Prop :=
  if bad then Blk W ob TSx #[.slice T tn tc, .slice L k lc, .bool true] ∧ Below w.heap.size w W ∧ ¬ StoOk s
  else ∃ ts, StoIn w W ob T tn tc L k lc false ts (s.log.take k) ∧ backN (s.log.drop k).reverse s.tables = some ts ∧ TabsOk ts ∧ ∀ t, t ∈ ts → TabBd t
theorem CheckI.yes {w W : World} {ob tn tc lc k : Nat} {T L : Option Addr} {s : Sto} (h : CheckI w W ob T tn tc L lc s k false) : ∃ ts, StoIn w W ob T tn tc L k lc false ts (s.log.take k) ∧ backN (s.log.drop k).reverse s.tables = some ts ∧ TabsOk ts ∧ ∀ t, t ∈ ts → TabBd t := h
theorem CheckI.no {w W : World} {ob tn tc lc k : Nat} {T L : Option Addr} {s : Sto} (h : CheckI w W ob T tn tc L lc s k true) : Blk W ob TSx #[.slice T tn tc, .slice L k lc, .bool true] ∧ Below w.heap.size w W ∧ ¬ StoOk s := h
set_option maxHeartbeats 8000000 in
set_option maxRecDepth 100000 in
theorem undo_Check (B : Nat) (T L : Option Addr) (tn tc ln lc : Nat) (s : Sto) (w : World) (h : StoAt w T tn L ln s) (hb : StoBd s) (hT : TabS B w) (hB : B ≤ w.heap.size) :
    Calls Tryz.prog 15 #[.agg #[.slice T tn tc, .slice L ln lc]] w fun e w' => e = .returned (.int .i64 (stoE s)) ∧ Below w.heap.size w w' := by
  have hk0 : Below w.heap.size w (w.alloc (.cells #[.slice T tn tc, .slice L ln lc] TSto)) := (Below.refl _ _).alloc (Nat.le_refl _) _
  have HB0 := Lib.hid (Blk.new w TSto #[.slice T tn tc, .slice L ln lc])
  have htn := hb.tn; have hln := hb.ln
  rw [h.tn.out] at htn; rw [h.ln.out] at hln
  have HTT := Lib.hid (undo_tables B T tc tn s.tables _ (AtTab.keep h.tabs (Keep.of hk0)) h.tn htn hb.tab (hT.next (hk0.mono hB)) (by have := hk0.size; omega))
  have HK0 := Lib.hid hk0
  have HH := Lib.hid h; have HBD := Lib.hid hb; have HTS := Lib.hid hT
  obtain ⟨tb, htb⟩ : ∃ b, yes (TabsOk s.tables) = b := ⟨_, rfl⟩
  rw [htb] at HTT
  have HTB := Lib.hid htb
  clear h hb hT hk0 htb
  cases tb with
  | false =>
    have HE : Hid (stoE s = 8) := Lib.hid (stoE_no fun h => of_no HTB.out h.tabs)
    go_enter Tryz.func15, Tryz.ntmps15
    go_wp2_with fail
    refine HTT.out.mono ?_
    rintro e w1 ⟨rfl, k⟩
    have HF := Lib.hid (HK0.out.trans (k.mono HK0.out.size))
    clear k
    go_wp2
    go_ret
    exact ⟨by rw [HE.out]; rfl, HF.out⟩
  | true =>
    by_cases h64 : 64 < ln
    · have i64 : (64 : Int) < (ln : Int) := by omega
      have HE : Hid (stoE s = 8) := Lib.hid (stoE_no fun h => by have := h.few; rw [HH.out.ln.out] at this; omega)
      go_enter Tryz.func15, Tryz.ntmps15
      go_wp2_with fail
      refine HTT.out.mono ?_
      rintro e w1 ⟨rfl, k⟩
      have HF := Lib.hid (HK0.out.trans (k.mono HK0.out.size))
      have hb1 := HB0.out.below k HB0.out.lt
      have b0 := hb1.cell 0; have b1 := hb1.cell 1; have bl := hb1.lt
      clear k hb1
      go_wp2
      go_ret
      exact ⟨by rw [HE.out]; rfl, HF.out⟩
    · have i64 : ¬ (64 : Int) < (ln : Int) := by omega
      go_enter Tryz.func15, Tryz.ntmps15
      go_wp2_with fail
      refine HTT.out.mono ?_
      rintro e w1 ⟨rfl, k⟩
      have HF1 := Lib.hid (HK0.out.trans (k.mono HK0.out.size))
      have hb1 := HB0.out.below k HB0.out.lt
      have b0 := hb1.cell 0; have b1 := hb1.cell 1; have bl := hb1.lt
      have HTW := Lib.hid (undo_Twin T L tn tc ln lc s w1 (HH.out.keep (Keep.of HF1.out)) HBD.out)
      clear k hb1
      go_wp2_with fail
      refine HTW.out.mono ?_
      rintro e w2 ⟨⟨T', tc', L', lc', rfl, hot, hol⟩, k⟩
      have hf2 := HF1.out.trans (k.mono HF1.out.size)
      have hka : Below w2.heap.size w2 (w2.alloc (.cells #[.slice T' tn tc', .slice L' ln lc', .bool false] TSx)) := (Below.refl _ _).alloc (Nat.le_refl _) _
      have HIN : Hid (CheckI w (w2.alloc (.cells #[.slice T' tn tc', .slice L' ln lc', .bool false] TSx)) w2.heap.size T' tn tc' L' lc' s ln false) := Lib.hid (by
        refine ⟨s.tables, ⟨hf2.size, Blk.new _ _ _, ((OwnK.lower hot HF1.out.size).below hka).monoR fun _ _ _ ho => (ho.lower HF1.out.size).below hka, ?_, hf2.trans (hka.mono hf2.size)⟩, ?_, of_yes HTB.out, HBD.out.tab⟩
        · rw [List.take_of_length_le (by rw [HH.out.ln.out]; exact Nat.le_refl _)]
          exact ((OwnK.lower hol HF1.out.size).below hka).monoR fun _ _ _ ho => (ho.lower HF1.out.size).below hka
        · rw [List.drop_of_length_le (by rw [HH.out.ln.out]; exact Nat.le_refl _)]; rfl)
      have hwl := hf2.size
      clear hot hol k hf2 hka b0 b1 bl
      go_wp2
      go_loopw [] (fun W => ∃ (k : Nat) (bad : Bool), k ≤ ln ∧ Hid (CheckI w W w2.heap.size T' tn tc' L' lc' s k bad)) (fun W => lenC (W.cell? ⟨w2.heap.size, 1, none⟩))
      case atStart => exact ⟨ln, false, Nat.le_refl _, HIN⟩
      case round =>
        clear HIN
        obtain ⟨k, bad, hk, HI⟩ := hrel
        cases bad with
        | true =>
          obtain ⟨hblk, hbe, hno⟩ := HI.out.no
          have HF := Lib.hid hbe
          have HE : Hid (stoE s = 8) := Lib.hid (stoE_no hno)
          have s0 := hblk.cell 0; have s1 := hblk.cell 1; have s2 := hblk.cell 2; have sl := hblk.lt
          simp at s0 s1 s2
          clear hblk hbe hno
          by_cases hk0 : 0 < k
          · have i0 : (0 : Int) < (k : Int) := by omega
            go_wp2
            go_ret
            exact ⟨by rw [HE.out]; rfl, HF.out⟩
          · have i0 : ¬ (0 : Int) < (k : Int) := by omega
            go_wp2
            go_ret
            exact ⟨by rw [HE.out]; rfl, HF.out⟩
        | false =>
          obtain ⟨ts, hin, hbk, hok, hbd⟩ := HI.out.yes
          have s0 := hin.blk.cell 0; have s1 := hin.blk.cell 1; have s2 := hin.blk.cell 2; have sl := hin.blk.lt
          simp at s0 s1 s2
          by_cases hk0 : 0 < k
          · have i0 : (0 : Int) < (k : Int) := by omega
            obtain ⟨m, rfl⟩ : ∃ m, k = m + 1 := ⟨k - 1, by omega⟩
            obtain ⟨lg, cur, x, f, rfl, _, _, hx, _, _⟩ := hin.log.gt (show m < m + 1 by omega)
            have hxl : s.log[m]? = some x := by rwa [List.getElem?_take_of_lt (by omega)] at hx
            have hw := HBD.out.was x (mem_of_get hxl)
            have HU := Lib.hid (undo_undo B w wr w2.heap.size T' tn tc' lg (m + 1) lc' m ts _ x hin (Lib.hid rfl) hx hok hbd hw.2 hw.1 htn (by omega) HTS.out hB)
            have hst := backN_step hxl hbk
            have HBK := Lib.hid hst
            have HL1 : Hid (lenC (wr.cell? ⟨w2.heap.size, 1, none⟩) = m + 1) := Lib.hid (by rw [s1]; rfl)
            have HOKT := Lib.hid hok; have HBDT := Lib.hid hbd; have HCX := Lib.hid hw.2
            clear hin hbk hok hbd hst hx hxl hw
            go_wp2_with fail
            refine HU.out.mono ?_
            rintro e w5 ⟨rfl, hp⟩
            cases hbx : back1 ts x with
            | some ts' =>
              have hs : StoIn w w5 w2.heap.size T' tn tc' (some ⟨lg, 0, none⟩) m lc' false ts' ((s.log.take (m + 1)).take m) := by
                unfold UndoP at hp; rw [hbx] at hp; exact hp
              rw [List.take_take, Nat.min_eq_left (by omega)] at hs
              have HS5 := Lib.hid hs
              have HK5 : Hid (backN (s.log.drop m).reverse s.tables = some ts') := Lib.hid (by rw [HBK.out, hbx])
              have HO5 := Lib.hid (HOKT.out.back1 hbx).1
              have HB5 := Lib.hid (back1_bd HOKT.out HBDT.out HCX.out hbx)
              have HL2 : Hid (lenC (w5.cell? ⟨w2.heap.size, 1, none⟩) = m) := Lib.hid (by rw [hs.blk.cell 1]; rfl)
              clear hs hp hbx
              go_wp2
              go_roundw
              case rel => exact ⟨m, false, by omega, Lib.hid ⟨ts', HS5.out, HK5.out, HO5.out, HB5.out⟩⟩
              case measure => rw [HL1.out, HL2.out]; omega
            | none =>
              have hs : Blk w5 w2.heap.size TSx #[.slice T' tn tc', .slice (some ⟨lg, 0, none⟩) m lc', .bool true] ∧ Below w.heap.size w w5 := by
                unfold UndoP at hp; rw [hbx] at hp; exact hp
              have HS5 := Lib.hid hs
              have HNO : Hid (¬ StoOk s) := Lib.hid fun h => by
                have h1 := h.back
                rw [backN_none (k := m) (by rw [HBK.out, hbx])] at h1
                cases h1
              have HL2 : Hid (lenC (w5.cell? ⟨w2.heap.size, 1, none⟩) = m) := Lib.hid (by rw [hs.1.cell 1]; rfl)
              clear hs hp hbx
              go_wp2
              go_roundw
              case rel => exact ⟨m, true, by omega, Lib.hid ⟨HS5.out.1, HS5.out.2, HNO.out⟩⟩
              case measure => rw [HL1.out, HL2.out]; omega
          · have i0 : ¬ (0 : Int) < (k : Int) := by omega
            have HE : Hid (stoE s = 0) := Lib.hid (stoE_yes ⟨of_yes HTB.out, by rw [HH.out.ln.out]; omega, by
              obtain rfl : k = 0 := by omega
              rw [List.drop_zero] at hbk
              rw [hbk]; rfl⟩)
            have HF := Lib.hid hin.k
            clear hin hbk hok hbd
            go_wp2
            go_ret
            exact ⟨by rw [HE.out]; rfl, HF.out⟩
end Go.Proofs.YtbdkedjgfihamaaGreatDoor
