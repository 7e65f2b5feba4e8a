/- Walks: whether an automaton accepts, by both. PUT1 -/
import Derived.Test.YtcmmmgblkbbdnaaGreatDoorLsg
import Derived.Defers
import Derived.Deep.RegionHeld3
namespace Go.Proofs.YtcmmmgblkbbdnaaGreatDoor
open Go.RowKit Go.Maps Pv

set_option maxHeartbeats 1000000 in
set_option maxRecDepth 100000 in
theorem run_last (lv bx rs : Nat) (A B : Option Addr) (c n bc j : Nat) (acc : Int) (l : List Int) (u : FrameMode) (w : World) (old : Value) (hB : At w B RI l) (HJ : Hid (l.length = j)) (c0 : w.cell? ⟨lv, 0, none⟩ = some (.slice B j bc)) (c1 : w.cell? ⟨bx, 0, none⟩ = some (.slice A n c)) (c2 : w.cell? ⟨bx, 1, none⟩ = some (.int .i64 acc)) (c3 : w.cell? ⟨rs, 0, none⟩ = some old) (c4 : w.frozen? ⟨rs, 0, none⟩ = false) :
    CallsD Tryz.prog 62 #[.pointer (some ⟨lv, 0, none⟩), .pointer (some ⟨bx, 0, none⟩), .pointer (some ⟨rs, 0, none⟩)] u w fun e u' w' => u' = u ∧ (e = .returned (.tuple #[]) ∧ w' = w.setCell ⟨rs, 0, none⟩ (.bool (decide (acc ∈ l)))) := by
  have HC := Lib.hid (contains_int B bc j l acc w hB HJ)
  obtain ⟨ans, hans⟩ : ∃ ans, decide (acc ∈ l) = ans := ⟨_, rfl⟩
  rw [hans] at HC ⊢
  clear hB hans
  go_enter_d Tryz.func62, Tryz.ntmps62
  go_wp2_with (go_at_call 55; refine HC.out.mono ?_; rintro e w2 ⟨rfl, rfl⟩)
  go_end0
  exact ⟨rfl, rfl⟩

theorem own_at {w : World} {b n j c : Nat} {B : Option Addr} {S : Nat → Prop} (h : w.ownsRow b 3 1 (.slice B j c) j ((stL n S).map (Value.int .i64))) (hn : n ≤ 100000) : At w B RI (stL n S) :=
  (At.of_own (R := RI) (xs := stL n S) h ⟨by simp, fun i u x hu hx => by
    rw [List.getElem?_map, hx] at hu
    simp only [Option.map_some, Option.some.injEq] at hu
    subst hu
    exact ⟨rfl, stL_bd hn x (mem_of_get hx)⟩⟩ (by have := stL_len n S; omega)).2.2
theorem int_ne : (3 : TypeId) ≠ 27 := by decide
theorem int_neb : (3 : TypeId) ≠ 4 := by decide

set_option maxHeartbeats 4000000 in
set_option maxRecDepth 100000 in
theorem auto_Run_ok (A : Option Addr) (c n : Nat) (acc : Int) (a : Au) (lA : Option Addr) (lc m : Nat) (l : List Int) (w : World) (ha : AtAu w A a) (HL : Hid (a.length = n)) (hl : At w lA RI l) (HM : Hid (l.length = m)) (hok : AuOk a acc) (hm : m ≤ 1024) :
    Calls Tryz.prog 26 #[.agg #[.slice A n c, .int .i64 acc], .slice lA m lc] w fun e w' => e = .returned (.tuple #[.bool (decide (acc ∈ stL n (runA a l))), .int .i64 0]) ∧ Below w.heap.size w w' := by
  have hmf : ∀ (fn : Fn) (first cap : Array Value) (w : World), (Instr.makeFunc fn first cap).run Tryz.prog w = .ok (.func fn first cap) w := fun _ _ _ _ => rfl
  have hn : n ≤ 256 := by have := hok.few; rwa [HL.out] at this
  have hn1 : 1 ≤ n := by have := hok.pos; rwa [HL.out] at this
  have HA := Lib.hid ha; have HLL := Lib.hid hl; have HOK := Lib.hid hok
  have HB0 := Lib.hid (((Below.refl w.heap.size w).alloc (Nat.le_refl _) (.cells #[.slice A n c, .int .i64 acc] TAuto)).alloc (by simp) (.cells #[.bool false] 4))
  have e1 : (w.alloc (.cells #[.slice A n c, .int .i64 acc] TAuto)).heap.size = w.heap.size + 1 := by simp
  have K0 := Lib.hid ((Blk.new w TAuto #[.slice A n c, .int .i64 acc]).alloc (.cells #[.bool false] 4))
  have R0 := Blk.new (w.alloc (.cells #[.slice A n c, .int .i64 acc] TAuto)) 4 #[.bool false]
  rw [e1] at R0
  have R0 := Lib.hid R0
  have HMY := Lib.hid (auto_Check A c n acc a _ (ha.keep (Keep.of HB0.out)) HL)
  rw [auE_yes hok] at HMY
  have HC0 := Lib.hid (fun W (hb : Below w.heap.size w W) (b : Nat) (hc : W.cell? ⟨b, 0, none⟩ = some (.int .i64 0)) => auto_reach A c n acc a (some ⟨b, 0, none⟩) 1 1 [0] W (HA.out.keep (Keep.of hb)) HL ⟨by simp, fun _ => ⟨b, 0, rfl, World.block_lt_of_cell? _ _ hc, fun i x hx => by
    match i, hx with
    | 0, hx => simp at hx; subst hx; exact ⟨_, hc, rfl, by omega, by omega⟩
    | i + 1, hx => simp at hx⟩⟩ (Lib.hid rfl) HOK.out (fun x hx => by simp at hx; subst hx; omega) (by omega))
  rw [of_zero] at HC0
  have hd : decide ((1024 : Int) < (m : Int)) = false := decide_eq_false (by omega)
  clear ha hl hok e1
  go_enter_defers Tryz.func26, Tryz.ntmps26
  go_wp2_with (first
    | (go_at_call 28
       refine HMY.out.mono ?_
       rintro e w1 ⟨rfl, hb1⟩
       have HB1 := Lib.hid (HB0.out.trans (hb1.mono (by simp; omega))); have K1 := Lib.hid (K0.out.below hb1 (by simp; omega)); have R1 := Lib.hid (R0.out.below hb1 (by simp))
       obtain ⟨p0, p1, _, _⟩ := Blk.two K1.out
       have hN := K1.out.lt
       clear hb1)
    | (go_at_call 61
       refine (HC0.out _ (HB1.out.alloc HB1.out.size _) _ (World.cell?_alloc_new ..)).mono ?_
       rintro e w2 ⟨v, rfl, hv, hb2⟩
       have HV := Lib.hid hv; have HB2 := Lib.hid ((HB1.out.alloc HB1.out.size (.cells #[.int .i64 0] 3)).trans (hb2.mono (by have := HB1.out.size; simp; omega)))
       have K2 := Lib.hid ((K1.out.alloc (.cells #[.int .i64 0] 3)).below hb2 (by simp; omega)); have R2 := Lib.hid ((R1.out.alloc (.cells #[.int .i64 0] 3)).below hb2 (by have := R1.out.lt; simp; omega))
       have hlv := hb2.size
       clear hb2 hv
       obtain ⟨B, bc, hv, how⟩ := HV.out.lower (b' := w.heap.size) (by have := HB1.out.size; simp; omega)
       subst hv
       have HOW := Lib.hid how
       clear how))
  obtain ⟨g, hg⟩ : ∃ g, g = w2.heap.size := ⟨_, rfl⟩
  have G2 := Lib.hid (show Blk (w2.alloc (.cells #[.slice B (stL n (Clo a fun s => s = 0)).length bc] 27)) g 27 #[.slice B (stL n (Clo a fun s => s = 0)).length bc] from hg ▸ Blk.new w2 27 #[.slice B (stL n (Clo a fun s => s = 0)).length bc])
  have hgw : w.heap.size + 2 ≤ g := by have h1 := HB1.out.size; have h2 := R1.out.lt; simp at hlv; omega
  rw [← hg]
  have HG := Lib.hid hg
  clear hg hlv
  have HBX := Lib.hid (HB2.out.alloc HB2.out.size (.cells #[.slice B (stL n (Clo a fun s => s = 0)).length bc] 27))
  have HOX := Lib.hid (HOW.out.alloc (.cells #[.slice B (stL n (Clo a fun s => s = 0)).length bc] 27))
  have KX := Lib.hid (K2.out.alloc (.cells #[.slice B (stL n (Clo a fun s => s = 0)).length bc] 27))
  have RX := Lib.hid (R2.out.alloc (.cells #[.slice B (stL n (Clo a fun s => s = 0)).length bc] 27))
  go_loopw [23] (fun iv wr => ∃ (i j : Nat) (B : Option Addr) (bc : Nat), iv = .int .i64 i ∧ i ≤ m ∧ j ≤ n ∧ Hid (Blk wr g 27 #[.slice B j bc]) ∧ Hid (j = (stL n (runA a (l.take i))).length) ∧ Hid (wr.ownsRow w.heap.size 3 1 (.slice B j bc) j ((stL n (runA a (l.take i))).map (Value.int .i64))) ∧ Hid (Blk wr w.heap.size TAuto #[.slice A n c, .int .i64 acc]) ∧ Hid (Blk wr (w.heap.size + 1) 4 #[.bool false]) ∧ Hid (Below w.heap.size w wr)) (fun iv _ => m - (intOf iv).toNat)
  case atStart => exact ⟨0, _, B, bc, rfl, by omega, stL_len _ _, G2, Lib.hid rfl, HOX, KX, RX, HBX⟩
  case round =>
    clear G2 HOX KX RX HBX HOW HV HB2 K2 R2 HB1 K1 R1 p0 p1 hN
    obtain ⟨i, j, B, bc, rfl, hi, hj, HGB, HJ, HOW, HK, HR, HB⟩ := hrel
    obtain ⟨p0, p1, _, _⟩ := Blk.two HK.out
    have hN := HK.out.lt
    have g0 := HGB.out.cell 0
    have g1 := HGB.out.frozen 0
    have hgl := HGB.out.lt
    simp at g0
    by_cases hlt : i < m
    · obtain ⟨b1, o1, u, x, rfl, hb1, c1, ⟨rfl, _, _⟩, HX⟩ := (HLL.out.keep (Keep.of HB.out)).gt HM hlt
      have i1 : (0 : Int) ≤ (i : Int) := by omega
      have i2 : (i : Int) < (m : Int) := by omega
      have HS : Hid (wr.drew.cell? ⟨w.heap.size, 0, none⟩ = some (.slice A n c) ∧ wr.drew.cell? ⟨w.heap.size, 1, none⟩ = some (.int .i64 acc) ∧ wr.drew.cell? ⟨b1, o1 + i, none⟩ = some (.int .i64 x) ∧ wr.drew.cell? ⟨g, 0, none⟩ = some (.slice B j bc)) := Lib.hid ⟨p0, p1, c1, g0⟩
      have HBD := Lib.hid HB.out.drew
      have HAT := Lib.hid (own_at HOW.out (by omega))
      have HCB := Lib.hid (auto_step A c n acc a B bc j _ x wr.drew (HA.out.keep (Keep.of HBD.out)) HL HAT.out (Lib.hid HJ.out.symm) HOK.out stL_in (by omega))
      go_wp2
      refine wp_region_noPanic ?_
      refine wp_region_T 9 (fun W => W.cell? ⟨w.heap.size, 0, none⟩ = some (.slice A n c) ∧ W.cell? ⟨w.heap.size, 1, none⟩ = some (.int .i64 acc) ∧ W.cell? ⟨b1, o1 + i, none⟩ = some (.int .i64 x) ∧ W.cell? ⟨g, 0, none⟩ = some (.slice B j bc)) (by kernel_rfl) ?_
      refine wpAnyT_take (i := 0) (v := ?_) rfl (by kernel_rfl) (by kernel_rfl) (by kernel_rfl) (by kernel_rfl) (by kernel_rfl) (fun _ _ _ h => h) (.inl ⟨rfl, ?_⟩) HS.out ?_
      rotate_left
      · intro W__ hW__
        obtain ⟨h1, h2, h3, h4⟩ := hW__
        go_simp
        (try with_reducible rfl)
      try simp only [Act.put]
      refine wpAnyT_take (i := 1) (v := ?_) rfl (by kernel_rfl) (by kernel_rfl) (by kernel_rfl) (by kernel_rfl) (by kernel_rfl) (fun _ _ _ h => h) (.inl ⟨rfl, ?_⟩) HS.out ?_
      rotate_left
      · intro W__ hW__
        obtain ⟨h1, h2, h3, h4⟩ := hW__
        go_simp
        (try with_reducible rfl)
      try simp only [Act.put]
      refine wpAnyT_take (i := 2) (v := ?_) rfl (by kernel_rfl) (by kernel_rfl) (by kernel_rfl) (by kernel_rfl) (by kernel_rfl) (fun _ _ _ h => h) (.inl ⟨rfl, ?_⟩) HS.out ?_
      rotate_left
      · intro W__ hW__
        obtain ⟨h1, h2, h3, h4⟩ := hW__
        go_simp
        (try with_reducible rfl)
      try simp only [Act.put]
      refine wpAnyT_take (i := 3) (v := ?_) rfl (by kernel_rfl) (by kernel_rfl) (by kernel_rfl) (by kernel_rfl) (by kernel_rfl) (fun _ _ _ h => h) (.inl ⟨rfl, ?_⟩) HS.out ?_
      rotate_left
      · intro W__ hW__
        obtain ⟨h1, h2, h3, h4⟩ := hW__
        go_simp
        (try with_reducible rfl)
      try simp only [Act.put]
      refine wpAnyT_take (i := 4) (v := ?_) rfl (by kernel_rfl) (by kernel_rfl) (by kernel_rfl) (by kernel_rfl) (by kernel_rfl) (fun _ _ _ h => h) (.inl ⟨rfl, ?_⟩) HS.out ?_
      rotate_left
      · intro W__ hW__
        obtain ⟨h1, h2, h3, h4⟩ := hW__
        go_simp
        (try with_reducible rfl)
      try simp only [Act.put]
      refine wpAnyT_take (i := 5) (v := ?_) rfl (by kernel_rfl) (by kernel_rfl) (by kernel_rfl) (by kernel_rfl) (by kernel_rfl) (fun _ _ _ h => h) (.inl ⟨rfl, ?_⟩) HS.out ?_
      rotate_left
      · intro W__ hW__
        obtain ⟨h1, h2, h3, h4⟩ := hW__
        go_simp
        (try with_reducible rfl)
      try simp only [Act.put]
      refine wpAnyT_take (i := 6) (v := ?_) rfl (by kernel_rfl) (by kernel_rfl) (by kernel_rfl) (by kernel_rfl) (by kernel_rfl) (fun _ _ _ h => h) (.inl ⟨rfl, ?_⟩) HS.out ?_
      rotate_left
      · intro W__ hW__
        obtain ⟨h1, h2, h3, h4⟩ := hW__
        go_simp
        (try with_reducible rfl)
      try simp only [Act.put]
      refine wpAnyT_one (i := 7) rfl (by kernel_rfl) rfl fun K__ hK__ => ?_
      unfold Oper.wp
      go_simp
      refine HCB.out.mono ?_
      rintro e w3 ⟨v2, rfl, hv2, hb3⟩
      have HSS : Hid (stL n (Stp a x (Of (stL n (runA a (l.take i))))) = stL n (Stp a x (runA a (l.take i)))) := Lib.hid (by rw [of_stL (fun s hs => by have := runA_in HOK.out _ s hs; rwa [HL.out] at this)])
      rw [HSS.out] at hv2
      have hz2 := stL_len n (Stp a x (runA a (l.take i)))
      obtain ⟨B2, bc2, rfl, hat2, _⟩ := hv2.at' (stL_bd (by omega)) (by omega)
      have HB3 := Lib.hid (HBD.out.trans (hb3.mono HBD.out.size))
      have HWW := Lib.hid (((Below.refl wr.heap.size wr).drew).trans hb3)
      have HK3 := Lib.hid (HK.out.below HWW.out HK.out.lt)
      have HR3 := Lib.hid (HR.out.below HWW.out HR.out.lt)
      have HG3 := Lib.hid (HGB.out.below HWW.out HGB.out.lt)
      obtain ⟨q0, q1, _, _⟩ := Blk.two HK3.out
      have q2 := HG3.out.cell 0
      simp at q2
      have c3 := ((Keep.of hb3).cell b1 (o1 + i) hb1).trans HS.out.2.2.1
      have HSN := Lib.hid (take_snoc HX.out)
      have HCC2 := Lib.hid (auto_reach A c n acc a B2 bc2 _ _ w3 (HA.out.keep (Keep.of HB3.out)) HL hat2 (Lib.hid rfl) HOK.out stL_in (by omega))
      rw [of_stL (fun s hs => by have := stp_in HOK.out hs; rwa [HL.out] at this)] at HCC2
      rw [← runA_snoc, ← HSN.out] at HCC2
      generalize (stL n (Stp a x (runA a (l.take i)))).length = j2 at *
      clear hv2 hb3 hat2
      refine hK__ _ _ ⟨q0, q1, c3, q2⟩ ?_
      clear hK__
      refine wpAnyT_one (i := 8) rfl (by kernel_rfl) rfl fun K__ hK__ => ?_
      unfold Oper.wp
      go_simp
      refine HCC2.out.mono ?_
      rintro e w4 ⟨v4, rfl, hv4, hb4⟩
      have hz4 := stL_len n (runA a (l.take (i + 1)))
      obtain ⟨B4, bc4, rfl, how4⟩ := hv4.lower (b' := w.heap.size) HB3.out.size
      have HB4 := Lib.hid (HB3.out.trans (hb4.mono HB3.out.size))
      have HK4 := Lib.hid (HK3.out.below hb4 HK3.out.lt)
      have HR4 := Lib.hid (HR3.out.below hb4 HR3.out.lt)
      have HG4 := Lib.hid (HG3.out.below hb4 HG3.out.lt)
      obtain ⟨r0, r1, _, _⟩ := Blk.two HK4.out
      have r2 := HG4.out.cell 0
      have r3 := HG4.out.frozen 0
      simp at r2
      have c4 := ((Keep.of hb4).cell b1 (o1 + i) (World.block_lt_of_cell? _ _ c3)).trans c3
      have HO4 := Lib.hid (ownsRow_setFar how4 HG4.out int_ne 0 (.slice B4 (stL n (runA a (l.take (i + 1)))).length bc4))
      have HGS := Lib.hid (HG4.out.set 0 (.slice B4 (stL n (runA a (l.take (i + 1)))).length bc4))
      have HKS := Lib.hid (HK4.out.far (p := ⟨g, 0, none⟩) (by simp; omega) (.slice B4 (stL n (runA a (l.take (i + 1)))).length bc4))
      have HRS := Lib.hid (HR4.out.far (p := ⟨g, 0, none⟩) (by simp; omega) (.slice B4 (stL n (runA a (l.take (i + 1)))).length bc4))
      have HBS := Lib.hid (HB4.out.setCell (p := ⟨g, 0, none⟩) (by simp; omega) (.slice B4 (stL n (runA a (l.take (i + 1)))).length bc4))
      clear hv4 hb4 how4
      refine hK__ _ _ ⟨r0, r1, c4, r2⟩ ?_
      clear hK__
      refine wpAnyT_end (i := 9) rfl (by kernel_rfl) rfl (by kernel_rfl) fun K__ hK__ => ?_
      unfold Oper.wp
      go_simp
      refine hK__ _ _ ?_
      clear hK__
      refine wpAnyT_done (by kernel_rfl) ?_ _
      refine NoPanic.normal ?_
      clear q0 q1 q2 r0 r1 r2 r3 c3 c4 p0 p1 c1 g0 g1
      go_wp2
      go_roundw
      case rel => exact ⟨i + 1, _, B4, bc4, by go_num, by omega, hz4, HGS, Lib.hid rfl, HO4, HKS, HRS, HBS⟩
      case measure => simp [intOf]; omega
    · obtain rfl : i = m := by omega
      have HTK := Lib.hid (show l.take i = l from List.take_of_length_le (by rw [HM.out]; omega))
      rw [HTK.out] at HJ HOW
      have r0 := HR.out.cell 0
      have r1 := HR.out.frozen 0
      simp at r0
      have hRl := HR.out.lt
      go_wp2
      have HO5 := Lib.hid (own_at (ownsRow_setFar HOW.out HR.out int_neb 0 (.bool false)) (by omega))
      have HK5 := Lib.hid (HK.out.far (p := ⟨w.heap.size + 1, 0, none⟩) (by simp) (.bool false))
      have HG5 := Lib.hid (HGB.out.far (p := ⟨w.heap.size + 1, 0, none⟩) (by simp; omega) (.bool false))
      have HR5 := Lib.hid (HR.out.set 0 (.bool false))
      have HB5 := Lib.hid ((HB.out.setCell (p := ⟨w.heap.size + 1, 0, none⟩) (by simp) (.bool false)).setCell (p := ⟨w.heap.size + 1, 0, none⟩) (by simp) (.bool (decide (acc ∈ stL n (runA a l)))))
      refine leaves_cons (f := 62) (args := #[.pointer (some ⟨g, 0, none⟩), .pointer (some ⟨w.heap.size, 0, none⟩), .pointer (some ⟨w.heap.size + 1, 0, none⟩)]) (by simp) (by simp [go_sem]) ?_
      refine (run_last g w.heap.size (w.heap.size + 1) A B c n bc j acc (stL n (runA a l)) .returning _ (.bool false) HO5.out (Lib.hid HJ.out.symm) (HG5.out.cell 0) (HK5.out.cell 0) (HK5.out.cell 1) (HR5.out.cell 0) (HR5.out.frozen 0)).mono ?_
      rintro e u' w'' ⟨rfl, rfl, rfl⟩
      have HR6 := HR5.out.set 0 (.bool (decide (acc ∈ stL n (runA a l))))
      have hfin := HR6.cell 0
      have HFIN := HB5.out
      generalize decide (acc ∈ stL n (runA a l)) = ans at *
      simp at hfin
      simp [Leaves, settle, results, Tryz.results26, go_sem, hfin]
      exact HFIN

theorem runB_no {a : Au} {acc : Int} {l : List Int} (h : ¬ AuOk a acc) : runB a acc l = false ∧ runE a acc l = 8 := by
  unfold runB runE
  rw [auB_no h]
  simp
theorem runB_many {a : Au} {acc : Int} {l : List Int} (h : AuOk a acc) (h2 : 1024 < l.length) : runB a acc l = false ∧ runE a acc l = 4 := by
  unfold runB runE
  rw [auB_yes h, if_neg (by omega), if_pos rfl, if_neg (by omega)]
  exact ⟨rfl, rfl⟩
theorem runB_ok {a : Au} {acc : Int} {l : List Int} (h : AuOk a acc) (h2 : l.length ≤ 1024) : runB a acc l = decide (acc ∈ stL a.length (runA a l)) ∧ runE a acc l = 0 := by
  unfold runB runE
  rw [auB_yes h, if_pos ⟨rfl, h2⟩, if_pos rfl, if_pos h2]
  exact ⟨rfl, rfl⟩

set_option maxHeartbeats 1000000 in
set_option maxRecDepth 100000 in
theorem auto_Run (A : Option Addr) (c n : Nat) (acc : Int) (a : Au) (lA : Option Addr) (lc m : Nat) (l : List Int) (w : World) (ha : AtAu w A a) (HL : Hid (a.length = n)) (hl : At w lA RI l) (HM : Hid (l.length = m)) :
    Calls Tryz.prog 26 #[.agg #[.slice A n c, .int .i64 acc], .slice lA m lc] w fun e w' => e = .returned (.tuple #[.bool (runB a acc l), .int .i64 (runE a acc l)]) ∧ Below w.heap.size w w' := by
  have hml : m ≤ 140737488355328 := by have := hl.1; rwa [HM.out] at this
  by_cases hok : AuOk a acc
  · by_cases hm : m ≤ 1024
    · obtain ⟨e1, e2⟩ := runB_ok (l := l) hok (by rw [HM.out]; exact hm)
      rw [e1, e2, HL.out]
      exact auto_Run_ok A c n acc a lA lc m l w ha HL hl HM hok hm
    case neg =>
      obtain ⟨e1, e2⟩ := runB_many (l := l) hok (by rw [HM.out]; omega)
      rw [e1, e2]
      have HB0 := Lib.hid (((Below.refl w.heap.size w).alloc (Nat.le_refl _) (.cells #[.slice A n c, .int .i64 acc] TAuto)).alloc (by simp) (.cells #[.bool false] 4))
      have R0 := Blk.new (w.alloc (.cells #[.slice A n c, .int .i64 acc] TAuto)) 4 #[.bool false]
      rw [show (w.alloc (.cells #[.slice A n c, .int .i64 acc] TAuto)).heap.size = w.heap.size + 1 by simp] at R0
      have R0 := Lib.hid R0
      have HMY := Lib.hid (auto_Check A c n acc a _ (ha.keep (Keep.of HB0.out)) HL)
      rw [auE_yes hok] at HMY
      have hm2 : (1024 : Int) < (m : Int) := by omega
      clear ha hl hok e1 e2 hm
      go_enter_defers Tryz.func26, Tryz.ntmps26
      go_wp2_with (go_at_call 28; refine HMY.out.mono ?_; rintro e w1 ⟨rfl, hb1⟩; have HB1 := Lib.hid (HB0.out.trans (hb1.mono (by simp; omega))); have R1 := Lib.hid (R0.out.below hb1 (by simp)); have r0 := R1.out.cell 0; have r1 := R1.out.frozen 0; simp at r0; clear hb1)
      have hfin := (R1.out.set 0 (.bool false)).cell 0
      have HFIN := HB1.out.setCell (p := ⟨w.heap.size + 1, 0, none⟩) (by simp) (.bool false)
      simp at hfin
      simp [bodyPostD, Leaves, results, Tryz.results26, go_sem, hfin]
      exact HFIN
  · obtain ⟨e1, e2⟩ := runB_no (l := l) hok
    rw [e1, e2]
    have HB0 := Lib.hid (((Below.refl w.heap.size w).alloc (Nat.le_refl _) (.cells #[.slice A n c, .int .i64 acc] TAuto)).alloc (by simp) (.cells #[.bool false] 4))
    have R0 := Blk.new (w.alloc (.cells #[.slice A n c, .int .i64 acc] TAuto)) 4 #[.bool false]
    rw [show (w.alloc (.cells #[.slice A n c, .int .i64 acc] TAuto)).heap.size = w.heap.size + 1 by simp] at R0
    have R0 := Lib.hid R0
    have HMY := Lib.hid (auto_Check A c n acc a _ (ha.keep (Keep.of HB0.out)) HL)
    rw [auE_no hok] at HMY
    clear ha hl hok e1 e2
    go_enter_defers Tryz.func26, Tryz.ntmps26
    go_wp2_with (go_at_call 28; refine HMY.out.mono ?_; rintro e w1 ⟨rfl, hb1⟩; have HB1 := Lib.hid (HB0.out.trans (hb1.mono (by simp; omega))); have R1 := Lib.hid (R0.out.below hb1 (by simp)); have r0 := R1.out.cell 0; have r1 := R1.out.frozen 0; simp at r0; clear hb1)
    have hfin := (R1.out.set 0 (.bool false)).cell 0
    have HFIN := HB1.out.setCell (p := ⟨w.heap.size + 1, 0, none⟩) (by simp) (.bool false)
    simp at hfin
    simp [bodyPostD, Leaves, results, Tryz.results26, go_sem, hfin]
    exact HFIN
end Go.Proofs.YtcmmmgblkbbdnaaGreatDoor
