/- Walks: the first word that tells two automata apart (the document's). PUT1 -/
import Derived.Test.YtjnjbcigbnjmkaaGny
import Derived.Test.YtjnjbcigbnjmkaaWky
namespace Go.Proofs.Ytjnjbcigbnjmkaa
open Go.RowKit Pv

theorem at_one {W : World} {b o : Nat} {y : Int} (h : W.cell? ⟨b, o, none⟩ = some (.int .i64 y)) (h1 : -9223372036854775808 ≤ y) (h2 : y ≤ 9223372036854775807) : At W (some ⟨b, o, none⟩) RI [y] :=
  ⟨by simp, fun _ => ⟨b, o, rfl, World.block_lt_of_cell? _ _ h, fun i x hx => by
    match i, hx with
    | 0, hx => simp at hx; subst hx; exact ⟨_, h, rfl, h1, h2⟩
    | i + 1, hx => simp at hx⟩⟩

set_option maxHeartbeats 8000000 in
set_option maxRecDepth 100000 in
theorem ref11_Word (A1 A2 A3 B1 B2 B3 : Option Addr) (c1 c2 c3 n1 n n3 d1 d2 d3 m1 m m3 : Nat) (d o : Dfa) (w : World) (H : DfaAt w A1 A2 A3 n1 n n3 d) (K : DfaAt w B1 B2 B3 m1 m m3 o) (hok : d.Ok) (hoo : o.Ok) :
    Calls Try.prog 103 #[.agg #[.slice A1 n1 c1, .slice A2 n c2, .slice A3 n3 c3], .agg #[.slice B1 m1 d1, .slice B2 m d2, .slice B3 m3 d3]] w (WordP (wordD d o) w) := by
  have HD := Lib.hid H; have HO := Lib.hid K
  obtain ⟨b2, o2, b3, o3, e2, e3, hb2, hb3, e4, _, hacc⟩ := H.rows hok
  obtain ⟨a2, q2, a3, q3, e5, e6, ha2, ha3, e7, _, kacc⟩ := K.rows hoo
  subst e2; subst e3; subst e5; subst e6
  obtain rfl := e4.symm
  obtain rfl := e7.symm
  have hn : n ≤ 64 := by have := hok.n2; have := H.hn.out; omega
  have hm : m ≤ 64 := by have := hoo.n2; have := K.hn.out; omega
  have hn1 : 1 ≤ n := by have := hok.n1; have := H.hn.out; omega
  have hm1' : 1 ≤ m := by have := hoo.n1; have := K.hn.out; omega
  have hc : n1 ≤ 256 := by have := hok.c2; have := H.hc.out; omega
  have hc' : m1 ≤ 256 := by have := hoo.c2; have := K.hc.out; omega
  have HNN := H.hn; have HNC := H.hc; have HMN := K.hn; have HMC := K.hc
  have HOK := Lib.hid hok; have HOO := Lib.hid hoo; have HA := Lib.hid hacc; have HA' := Lib.hid kacc
  obtain ⟨i0, hi0, hz0, hs0, hb0⟩ := info_parts info_int9
  obtain ⟨i9, hi9, hz9, hs9, hb9⟩ := info_parts info_pair
  have KK := blk2 w #[.slice A1 n1 c1, .slice (some ⟨b2, o2, none⟩) n c2, .slice (some ⟨b3, o3, none⟩) n c3] #[.slice B1 m1 d1, .slice (some ⟨a2, q2, none⟩) m d2, .slice (some ⟨a3, q3, none⟩) m d3] TDfa TDfa
  have HT0 := Lib.hid (show Two w _ _ _ from ⟨KK.1, KK.2, ((Below.refl w.heap.size w).alloc (Nat.le_refl _) (.cells #[.slice A1 n1 c1, .slice (some ⟨b2, o2, none⟩) n c2, .slice (some ⟨b3, o3, none⟩) n c3] TDfa)).alloc (by simp) (.cells #[.slice B1 m1 d1, .slice (some ⟨a2, q2, none⟩) m d2, .slice (some ⟨a3, q3, none⟩) m d3] TDfa)⟩)
  have HNU := Lib.hid (ref11_numbers A1 (some ⟨b2, o2, none⟩) (some ⟨b3, o3, none⟩) B1 (some ⟨a2, q2, none⟩) (some ⟨a3, q3, none⟩) c1 c2 c3 n1 n n d1 d2 d3 m1 m m d o _ (H.keep (Keep.of HT0.out.be)) (K.keep (Keep.of HT0.out.be)) hc hc')
  obtain ⟨L, hL⟩ : ∃ L, mergeL d.cuts o.cuts = L := ⟨_, rfl⟩
  have HL := Lib.hid hL
  rw [hL] at HNU
  have HLB : Hid (∀ x, x ∈ L → -9223372036854775808 ≤ x ∧ x ≤ 9223372036854775807) := Lib.hid (fun x hx => by
    rw [← hL, mergeL_mem] at hx
    rcases hx with hx | hx
    · obtain ⟨i, hi⟩ := List.getElem?_of_mem hx
      obtain ⟨_, _, u, x', _, _, _, ⟨_, h1, h2⟩, hx'⟩ := H.c.gt H.hc (k := i) (by have := lt_of_get hi; have := H.hc.out; omega)
      obtain rfl := Option.some.inj (hi.symm.trans hx'.out)
      exact ⟨h1, h2⟩
    · obtain ⟨i, hi⟩ := List.getElem?_of_mem hx
      obtain ⟨_, _, u, x', _, _, _, ⟨_, h1, h2⟩, hx'⟩ := K.c.gt K.hc (k := i) (by have := lt_of_get hi; have := K.hc.out; omega)
      obtain rfl := Option.some.inj (hi.symm.trans hx'.out)
      exact ⟨h1, h2⟩)
  have HLL : Hid (L.length ≤ n1 + m1) := Lib.hid (by rw [← hL, ← HNC.out, ← HMC.out]; exact mergeL_len _ _)
  obtain ⟨F, hF⟩ : ∃ F, n * m = F := ⟨_, rfl⟩
  have HF0 := Lib.hid hF
  have hF2 : F ≤ 4096 := by rw [← hF]; exact Nat.mul_le_mul hn hm
  obtain ⟨R, hR⟩ : ∃ R, wordD d o = R := ⟨_, rfl⟩
  have HR : Hid (wordF d o L (F + 1) 0 [⟨0, 0, []⟩] = R) := Lib.hid (by rw [← hR, wordD, hL, HNN.out, HMN.out, hF])
  rw [hR]
  clear H K KK hL hF hR hok hoo hacc kacc
  go_enter Try.func103, Try.ntmps103
  go_wp2_with fail
  refine HNU.out.mono ?_
  rintro e w1 ⟨v, rfl, hv, hb1⟩
  have HT1 := Lib.hid (HT0.out.next hb1)
  have HV := Lib.hid (hv.lower HT0.out.be.size)
  obtain ⟨LA, lc, ev, _⟩ := hv
  obtain ⟨na, HNA⟩ : ∃ na, Hid (L.length = na) := ⟨_, Lib.hid rfl⟩
  rw [HNA.out] at ev
  subst ev
  have hna : na ≤ 512 := by have := HLL.out; rw [HNA.out] at this; omega
  clear hb1 HT0 HNU
  have bb := (Below.refl w1.heap.size w1).alloc (Nat.le_refl _) (.cells #[.int .i64 0, .int .i64 0, .slice none 0 0] TPair)
  have HP0 : Hid (Ps (w1.alloc (.cells #[.int .i64 0, .int .i64 0, .slice none 0 0] TPair)) w.heap.size (.slice (some ⟨w1.heap.size, 0, none⟩) 1 1) [⟨0, 0, []⟩]) := Lib.hid (Ps.one HT1.out.be.size)
  have HT2 := Lib.hid (HT1.out.next bb)
  have HV2 := Lib.hid (OwnI.below HV.out bb)
  clear bb HT1 HV
  go_wp2
  go_loopw [8, 7] (fun iv mv W => ∃ (i k qc : Nat) (Q : Option Addr) (l : List Pr), iv = .int .i64 i ∧ mv = .slice Q k qc ∧ i ≤ k ∧ k ≤ F ∧ Hid (l.length = k) ∧ Hid (PrOk d o l) ∧ Hid (wordF d o L (F + 1 - i) i l = R) ∧ Hid (WOk l) ∧ Hid (Ps W w.heap.size (.slice Q k qc) l) ∧ Hid (OwnI W w.heap.size (.slice LA na lc) L) ∧
    Hid (Two w W #[.slice A1 n1 c1, .slice (some ⟨b2, o2, none⟩) n c2, .slice (some ⟨b3, o3, none⟩) n c3] #[.slice B1 m1 d1, .slice (some ⟨a2, q2, none⟩) m d2, .slice (some ⟨a3, q3, none⟩) m d3])) (fun iv _ _ => F + 1 - (intOf iv).toNat)
  case atStart => exact ⟨0, 1, 1, _, _, rfl, rfl, by omega, by rw [← HF0.out]; exact Nat.mul_le_mul hn1 hm1', Lib.hid rfl, Lib.hid (PrOk.one HOK.out HOO.out), HR, Lib.hid (by intro x hx; simp at hx; subst hx; simp), HP0, HV2, HT2⟩
  case round =>
    clear HP0 HV2 HT2 HR
    obtain ⟨i, k, qc, Q, l, rfl, rfl, hik, hkF, HKL, HPO, HRE, HWO, HPS, HV, HT⟩ := hrel
    have i1 : (0 : Int) ≤ (i : Int) := by omega
    obtain ⟨p0, p1, p2, _, _, _⟩ := Blk.three HT.out.a
    obtain ⟨r0, r1, r2, _, _, _⟩ := Blk.three HT.out.b
    have hNa := HT.out.a.lt; have hNb := HT.out.b.lt
    by_cases hlt : i < k
    · have i2 : (i : Int) < (k : Int) := by omega
      obtain ⟨bq, oq, xa, xb, T, q, tc, xw, eQ, hbq, ⟨x0, x1, x2⟩, hxw, HXW, HX, hkc⟩ := HPS.out.gt HKL (by omega) hlt
      subst eQ
      have HXQ : Hid (q ≤ 4096) := Lib.hid (by have h1 := HWO.out _ (mem_of_get HX.out); rw [HKL.out] at h1; simp only [HXW.out] at h1; omega)
      have HWO2 : Hid (WOk (rowP d o ⟨xa, xb, xw⟩ l L)) := Lib.hid (HWO.out.row L (HWO.out _ (mem_of_get HX.out)))
      have hpr := HPO.out.lt _ (mem_of_get HX.out)
      have hxa : xa < n := by rw [← HNN.out]; exact hpr.1
      have hxb : xb < m := by rw [← HMN.out]; exact hpr.2
      have y1 := ((Keep.of HT.out.be).cell _ _ hb3).trans (HA.out xa hxa)
      have y2 := ((Keep.of HT.out.be).cell _ _ ha3).trans (HA'.out xb hxb)
      have l3 : b3 < wr.heap.size := World.block_lt_of_cell? _ _ y1
      have l3' : a3 < wr.heap.size := World.block_lt_of_cell? _ _ y2
      have a0 : (0 : Int) ≤ (xa : Int) := by omega
      have a1 : (xa : Int) < (n : Int) := by omega
      have a0' : (0 : Int) ≤ (xb : Int) := by omega
      have a1' : (xb : Int) < (m : Int) := by omega
      obtain ⟨pb, hpb⟩ : ∃ pb, d.acc xa = pb := ⟨_, rfl⟩
      have HPB := Lib.hid hpb
      rw [hpb] at y1
      by_cases hab : o.acc xb = pb
      case neg =>
        have hrb : o.acc xb = !pb := by cases pb <;> simpa using hab
        rw [hrb] at y2
        have HW : Hid (R = some xw) := Lib.hid (by
          rw [← HRE.out, show F + 1 - i = (F - i) + 1 by omega]
          exact wordF_word HX.out (fun e => hab (by rw [← hpb]; exact e.symm)))
        have HTW := Lib.hid (HT.out.be.alloc HT.out.be.size (.cells #[.int .i64 xa, .int .i64 xb, .slice T q tc] TPair))
        have HWW := Lib.hid (OwnI.below hxw ((Below.refl _ _).alloc (Nat.le_refl _) (.cells #[.int .i64 xa, .int .i64 xb, .slice T q tc] TPair)))
        clear hpr hpb hab hrb hxw
        go_wp2
        go_quiet (fail)
        go_wp2
        exact bodyPost_ret (v := .tuple #[.slice T q tc, .bool true]) (by simp [results, Try.results103, go_sem]) rfl ⟨.slice T q tc, by rw [HW.out]; rfl, by rw [HW.out]; exact OwnI.below HWW.out (below_drewN (Below.refl _ _) _), below_drewN HTW.out _⟩
      rw [hab] at y2
      have HRE2 : Hid (wordF d o L (F - i) (i + 1) (rowP d o ⟨xa, xb, xw⟩ l L) = R) := Lib.hid (by
        rw [← HRE.out, show F + 1 - i = (F - i) + 1 by omega]
        exact (wordF_row HX.out (by rw [hpb]; exact hab.symm)).symm)
      have b9 := (Below.refl wr.heap.size wr).alloc (Nat.le_refl _) (.cells #[.int .i64 xa, .int .i64 xb, .slice T q tc] TPair)
      have HPS9 := Lib.hid (fun nq => (HPS.out.below b9).below (below_drewN (Below.refl _ _) nq))
      have HV9 := Lib.hid (fun nq => OwnI.below (OwnI.below HV.out b9) (below_drewN (Below.refl _ _) nq))
      have HT9 := Lib.hid (fun nq => (HT.out.next b9).next (below_drewN (Below.refl _ _) nq))
      have HW9 := Lib.hid (fun nq => OwnI.below (OwnI.below hxw b9) (below_drewN (Below.refl _ _) nq))
      have HX9 := Lib.hid (fun nq => (Blk.new wr TPair #[.int .i64 xa, .int .i64 xb, .slice T q tc]).drewN nq)
      have HNE : Hid ((Value.slice (some ⟨bq, oq, none⟩) k qc).ownBlock ≠ some wr.heap.size) := Lib.hid (fun e => by have := (HPS.out.lt e).2; omega)
      clear hpr hpb hab hxw b9
      go_wp2
      go_quiet (fail)
      go_wp2
      clear p0 p1 p2 r0 r1 r2 hNa hNb x0 x1 x2 y1 y2 l3 l3' hbq
      have hX := HT.out.be.size
      generalize wr.heap.size = X at *
      go_loopw [10, 7] (fun cv mv W => ∃ (p k qc : Nat) (Q : Option Addr), cv = .int .i64 p ∧ mv = .slice Q k qc ∧ p ≤ na ∧ i < k ∧ k ≤ F ∧ Hid ((rowP d o ⟨xa, xb, xw⟩ l (L.take p)).length = k) ∧ Hid (PrOk d o (rowP d o ⟨xa, xb, xw⟩ l (L.take p))) ∧ Hid (Ps W w.heap.size (.slice Q k qc) (rowP d o ⟨xa, xb, xw⟩ l (L.take p))) ∧ Hid ((Value.slice Q k qc).ownBlock ≠ some X) ∧
        Hid (OwnI W w.heap.size (.slice LA na lc) L) ∧ Hid (Two w W #[.slice A1 n1 c1, .slice (some ⟨b2, o2, none⟩) n c2, .slice (some ⟨b3, o3, none⟩) n c3] #[.slice B1 m1 d1, .slice (some ⟨a2, q2, none⟩) m d2, .slice (some ⟨a3, q3, none⟩) m d3]) ∧
        Hid (OwnI W w.heap.size (.slice T q tc) xw) ∧ Hid (Blk W X TPair #[.int .i64 xa, .int .i64 xb, .slice T q tc])) (fun cv _ _ => na - (intOf cv).toNat)
      case atStart => exact ⟨0, k, qc, _, rfl, rfl, by omega, hlt, hkF, HKL, HPO, HPS9.out _, HNE, HV9.out _, HT9.out _, HW9.out _, HX9.out _⟩
      case round =>
        clear HPS9 HNE HV9 HT9 HW9 HX9 HPS HV HT HPO HKL hik hkF hlt i2 HRE
        obtain ⟨p, k, qc, Q, rfl, rfl, hpa, hik, hkF, HKL, HPO, HPS, HNE, HV, HT, HWD, HXB⟩ := hrel
        have i3 : (0 : Int) ≤ (p : Int) := by omega
        obtain ⟨p0, p1, p2, _, _, _⟩ := Blk.three HT.out.a
        obtain ⟨r0, r1, r2, _, _, _⟩ := Blk.three HT.out.b
        have hNa := HT.out.a.lt; have hNb := HT.out.b.lt
        by_cases hpl : p < na
        · have i4 : (p : Int) < (na : Int) := by omega
          obtain ⟨LA', lc', ev, hat, hlc⟩ := OwnI.at' HV.out HLB.out (by rw [HNA.out]; omega)
          rw [HNA.out] at ev hlc
          injection ev with ev1 _ ev3
          subst ev1; subst ev3
          obtain ⟨bL, oL, uL, y, eL, hbL, cL, ⟨rfl, hy1, hy2⟩, HY⟩ := hat.gt HNA hpl
          subst eL
          obtain ⟨ya, hya⟩ : ∃ ya, d.step xa y = ya := ⟨_, rfl⟩
          obtain ⟨yb, hyb⟩ : ∃ yb, o.step xb y = yb := ⟨_, rfl⟩
          have HXA := Lib.hid (show xa < n ∧ xb < m from ⟨hxa, hxb⟩)
          have HCA := Lib.hid (fun W (hb : Below wr.heap.size wr W) => (show Calls Try.prog 53 #[.agg #[.slice A1 n1 c1, .slice (some ⟨b2, o2, none⟩) n c2, .slice (some ⟨b3, o3, none⟩) n c3], .int .i64 xa, .slice (some ⟨bL, oL + p, none⟩) 1 (lc - p)] W fun e w' => e = .returned (.int .i64 (ya : Nat)) ∧ Below W.heap.size W w' by
            have h := ref10_To A1 (some ⟨b2, o2, none⟩) (some ⟨b3, o3, none⟩) (some ⟨bL, oL + p, none⟩) c1 c2 c3 (lc - p) n1 n n 1 d xa [y] W (HD.out.keep (Keep.of (HT.out.be.trans (hb.mono HT.out.be.size)))) HOK.out hxa (at_one (((Keep.of hb).cell _ _ hbL).trans cL) hy1 hy2) (Lib.hid rfl)
            rw [show d.to xa [y] = ya from hya] at h
            exact h))
          have HCB := Lib.hid (fun W (hb : Below wr.heap.size wr W) => (show Calls Try.prog 53 #[.agg #[.slice B1 m1 d1, .slice (some ⟨a2, q2, none⟩) m d2, .slice (some ⟨a3, q3, none⟩) m d3], .int .i64 xb, .slice (some ⟨bL, oL + p, none⟩) 1 (lc - p)] W fun e w' => e = .returned (.int .i64 (yb : Nat)) ∧ Below W.heap.size W w' by
            have h := ref10_To B1 (some ⟨a2, q2, none⟩) (some ⟨a3, q3, none⟩) (some ⟨bL, oL + p, none⟩) d1 d2 d3 (lc - p) m1 m m 1 o xb [y] W (HO.out.keep (Keep.of (HT.out.be.trans (hb.mono HT.out.be.size)))) HOO.out hxb (at_one (((Keep.of hb).cell _ _ hbL).trans cL) hy1 hy2) (Lib.hid rfl)
            rw [show o.to xb [y] = yb from hyb] at h
            exact h))
          have HS : Hid ((wr.drew.cell? ⟨w.heap.size, 0, none⟩ = some (.slice A1 n1 c1) ∧ wr.drew.cell? ⟨w.heap.size, 1, none⟩ = some (.slice (some ⟨b2, o2, none⟩) n c2) ∧ wr.drew.cell? ⟨w.heap.size, 2, none⟩ = some (.slice (some ⟨b3, o3, none⟩) n c3)) ∧
              (wr.drew.cell? ⟨w.heap.size + 1, 0, none⟩ = some (.slice B1 m1 d1) ∧ wr.drew.cell? ⟨w.heap.size + 1, 1, none⟩ = some (.slice (some ⟨a2, q2, none⟩) m d2) ∧ wr.drew.cell? ⟨w.heap.size + 1, 2, none⟩ = some (.slice (some ⟨a3, q3, none⟩) m d3)) ∧ wr.drew.cell? ⟨X, 0, none⟩ = some (.int .i64 xa) ∧ wr.drew.cell? ⟨X, 1, none⟩ = some (.int .i64 xb)) := Lib.hid ⟨⟨p0, p1, p2⟩, ⟨r0, r1, r2⟩, HXB.out.cell 0, HXB.out.cell 1⟩
          have hp1 : (p : Int) ≤ (p : Int) + 1 := by omega
          have hp2 : (p : Int) + 1 ≤ (na : Int) := by omega
          have hp3 : (p : Int) + 1 ≤ (lc : Int) := by omega
          have hp4 : (na : Int) ≤ (lc : Int) := by omega
          have hwv : IntKind.i64.wrap ((p : Int) + 1) = (p : Int) + 1 := by rw [IntKind.wrap_i64]; omega
          go_wp2
          refine wp_region_T 20 (fun W => (W.cell? ⟨w.heap.size, 0, none⟩ = some (.slice A1 n1 c1) ∧ W.cell? ⟨w.heap.size, 1, none⟩ = some (.slice (some ⟨b2, o2, none⟩) n c2) ∧ W.cell? ⟨w.heap.size, 2, none⟩ = some (.slice (some ⟨b3, o3, none⟩) n c3)) ∧
              (W.cell? ⟨w.heap.size + 1, 0, none⟩ = some (.slice B1 m1 d1) ∧ W.cell? ⟨w.heap.size + 1, 1, none⟩ = some (.slice (some ⟨a2, q2, none⟩) m d2) ∧ W.cell? ⟨w.heap.size + 1, 2, none⟩ = some (.slice (some ⟨a3, q3, none⟩) m d3)) ∧ W.cell? ⟨X, 0, none⟩ = some (.int .i64 xa) ∧ W.cell? ⟨X, 1, none⟩ = some (.int .i64 xb)) (by kernel_rfl) ?_
          refine wpAnyT_take (i := 0) (v := ?_) rfl (by kernel_rfl) (by kernel_rfl) (by kernel_rfl) (by kernel_rfl) (by kernel_rfl) (fun _ _ _ h => h) (.inl ⟨rfl, ?_⟩) HS.out ?_
          rotate_left
          · intro W__ hW__
            obtain ⟨⟨h1, h2, h3⟩, ⟨h4, h5, h6⟩, h7, h8⟩ := hW__
            go_simp
            (try with_reducible rfl)
          try simp only [Act.put]
          refine wpAnyT_take (i := 1) (v := ?_) rfl (by kernel_rfl) (by kernel_rfl) (by kernel_rfl) (by kernel_rfl) (by kernel_rfl) (fun _ _ _ h => h) (.inl ⟨rfl, ?_⟩) HS.out ?_
          rotate_left
          · intro W__ hW__
            obtain ⟨⟨h1, h2, h3⟩, ⟨h4, h5, h6⟩, h7, h8⟩ := hW__
            go_simp
            (try with_reducible rfl)
          try simp only [Act.put]
          refine wpAnyT_take (i := 2) (v := ?_) rfl (by kernel_rfl) (by kernel_rfl) (by kernel_rfl) (by kernel_rfl) (by kernel_rfl) (fun _ _ _ h => h) (.inl ⟨rfl, ?_⟩) HS.out ?_
          rotate_left
          · intro W__ hW__
            obtain ⟨⟨h1, h2, h3⟩, ⟨h4, h5, h6⟩, h7, h8⟩ := hW__
            go_simp
            (try with_reducible rfl)
          try simp only [Act.put]
          refine wpAnyT_take (i := 3) (v := ?_) rfl (by kernel_rfl) (by kernel_rfl) (by kernel_rfl) (by kernel_rfl) (by kernel_rfl) (fun _ _ _ h => h) (.inl ⟨rfl, ?_⟩) HS.out ?_
          rotate_left
          · intro W__ hW__
            obtain ⟨⟨h1, h2, h3⟩, ⟨h4, h5, h6⟩, h7, h8⟩ := hW__
            go_simp
            (try with_reducible rfl)
          try simp only [Act.put]
          refine wpAnyT_take (i := 4) (v := ?_) rfl (by kernel_rfl) (by kernel_rfl) (by kernel_rfl) (by kernel_rfl) (by kernel_rfl) (fun _ _ _ h => h) (.inl ⟨rfl, ?_⟩) HS.out ?_
          rotate_left
          · intro W__ hW__
            obtain ⟨⟨h1, h2, h3⟩, ⟨h4, h5, h6⟩, h7, h8⟩ := hW__
            go_simp
            (try with_reducible rfl)
          try simp only [Act.put]
          refine wpAnyT_take (i := 5) (v := ?_) rfl (by kernel_rfl) (by kernel_rfl) (by kernel_rfl) (by kernel_rfl) (by kernel_rfl) (fun _ _ _ h => h) (.inl ⟨rfl, ?_⟩) HS.out ?_
          rotate_left
          · intro W__ hW__
            obtain ⟨⟨h1, h2, h3⟩, ⟨h4, h5, h6⟩, h7, h8⟩ := hW__
            go_simp
            (try with_reducible rfl)
          try simp only [Act.put]
          refine wpAnyT_take (i := 6) (v := ?_) rfl (by kernel_rfl) (by kernel_rfl) (by kernel_rfl) (by kernel_rfl) (by kernel_rfl) (fun _ _ _ h => h) (.inl ⟨rfl, ?_⟩) HS.out ?_
          rotate_left
          · intro W__ hW__
            obtain ⟨⟨h1, h2, h3⟩, ⟨h4, h5, h6⟩, h7, h8⟩ := hW__
            go_simp
            (try with_reducible rfl)
          try simp only [Act.put]
          refine wpAnyT_take (i := 7) (v := .slice (some ⟨bL, oL + p, none⟩) 1 (lc - p)) rfl (by kernel_rfl) (by kernel_rfl) (by kernel_rfl) (by kernel_rfl) (by kernel_rfl) (fun _ _ _ h => h) (.inl ⟨rfl, ?_⟩) HS.out ?_
          · intro W__ hW__
            obtain ⟨⟨h1, h2, h3⟩, ⟨h4, h5, h6⟩, h7, h8⟩ := hW__
            go_simp; intro hh; omega
          try simp only [Act.put]
          refine wpAnyT_take (i := 9) (v := ?_) rfl (by kernel_rfl) (by kernel_rfl) (by kernel_rfl) (by kernel_rfl) (by kernel_rfl) (fun _ _ _ h => h) (.inl ⟨rfl, ?_⟩) HS.out ?_
          rotate_left
          · intro W__ hW__
            obtain ⟨⟨h1, h2, h3⟩, ⟨h4, h5, h6⟩, h7, h8⟩ := hW__
            go_simp
            (try with_reducible rfl)
          try simp only [Act.put]
          refine wpAnyT_take (i := 10) (v := ?_) rfl (by kernel_rfl) (by kernel_rfl) (by kernel_rfl) (by kernel_rfl) (by kernel_rfl) (fun _ _ _ h => h) (.inl ⟨rfl, ?_⟩) HS.out ?_
          rotate_left
          · intro W__ hW__
            obtain ⟨⟨h1, h2, h3⟩, ⟨h4, h5, h6⟩, h7, h8⟩ := hW__
            go_simp
            (try with_reducible rfl)
          try simp only [Act.put]
          refine wpAnyT_take (i := 11) (v := ?_) rfl (by kernel_rfl) (by kernel_rfl) (by kernel_rfl) (by kernel_rfl) (by kernel_rfl) (fun _ _ _ h => h) (.inl ⟨rfl, ?_⟩) HS.out ?_
          rotate_left
          · intro W__ hW__
            obtain ⟨⟨h1, h2, h3⟩, ⟨h4, h5, h6⟩, h7, h8⟩ := hW__
            go_simp
            (try with_reducible rfl)
          try simp only [Act.put]
          refine wpAnyT_take (i := 12) (v := ?_) rfl (by kernel_rfl) (by kernel_rfl) (by kernel_rfl) (by kernel_rfl) (by kernel_rfl) (fun _ _ _ h => h) (.inl ⟨rfl, ?_⟩) HS.out ?_
          rotate_left
          · intro W__ hW__
            obtain ⟨⟨h1, h2, h3⟩, ⟨h4, h5, h6⟩, h7, h8⟩ := hW__
            go_simp
            (try with_reducible rfl)
          try simp only [Act.put]
          refine wpAnyT_take (i := 13) (v := ?_) rfl (by kernel_rfl) (by kernel_rfl) (by kernel_rfl) (by kernel_rfl) (by kernel_rfl) (fun _ _ _ h => h) (.inl ⟨rfl, ?_⟩) HS.out ?_
          rotate_left
          · intro W__ hW__
            obtain ⟨⟨h1, h2, h3⟩, ⟨h4, h5, h6⟩, h7, h8⟩ := hW__
            go_simp
            (try with_reducible rfl)
          try simp only [Act.put]
          refine wpAnyT_take (i := 14) (v := ?_) rfl (by kernel_rfl) (by kernel_rfl) (by kernel_rfl) (by kernel_rfl) (by kernel_rfl) (fun _ _ _ h => h) (.inl ⟨rfl, ?_⟩) HS.out ?_
          rotate_left
          · intro W__ hW__
            obtain ⟨⟨h1, h2, h3⟩, ⟨h4, h5, h6⟩, h7, h8⟩ := hW__
            go_simp
            (try with_reducible rfl)
          try simp only [Act.put]
          refine wpAnyT_take (i := 15) (v := ?_) rfl (by kernel_rfl) (by kernel_rfl) (by kernel_rfl) (by kernel_rfl) (by kernel_rfl) (fun _ _ _ h => h) (.inl ⟨rfl, ?_⟩) HS.out ?_
          rotate_left
          · intro W__ hW__
            obtain ⟨⟨h1, h2, h3⟩, ⟨h4, h5, h6⟩, h7, h8⟩ := hW__
            go_simp
            (try with_reducible rfl)
          try simp only [Act.put]
          refine wpAnyT_take (i := 16) (v := .slice (some ⟨bL, oL + p, none⟩) 1 (lc - p)) rfl (by kernel_rfl) (by kernel_rfl) (by kernel_rfl) (by kernel_rfl) (by kernel_rfl) (fun _ _ _ h => h) (.inl ⟨rfl, ?_⟩) HS.out ?_
          · intro W__ hW__
            obtain ⟨⟨h1, h2, h3⟩, ⟨h4, h5, h6⟩, h7, h8⟩ := hW__
            go_simp; intro hh; omega
          try simp only [Act.put]
          have SK : Hid (∀ (U V : World), Below U.heap.size U V → ((U.cell? ⟨w.heap.size, 0, none⟩ = some (.slice A1 n1 c1) ∧ U.cell? ⟨w.heap.size, 1, none⟩ = some (.slice (some ⟨b2, o2, none⟩) n c2) ∧ U.cell? ⟨w.heap.size, 2, none⟩ = some (.slice (some ⟨b3, o3, none⟩) n c3)) ∧
              (U.cell? ⟨w.heap.size + 1, 0, none⟩ = some (.slice B1 m1 d1) ∧ U.cell? ⟨w.heap.size + 1, 1, none⟩ = some (.slice (some ⟨a2, q2, none⟩) m d2) ∧ U.cell? ⟨w.heap.size + 1, 2, none⟩ = some (.slice (some ⟨a3, q3, none⟩) m d3)) ∧ U.cell? ⟨X, 0, none⟩ = some (.int .i64 xa) ∧ U.cell? ⟨X, 1, none⟩ = some (.int .i64 xb)) →
              ((V.cell? ⟨w.heap.size, 0, none⟩ = some (.slice A1 n1 c1) ∧ V.cell? ⟨w.heap.size, 1, none⟩ = some (.slice (some ⟨b2, o2, none⟩) n c2) ∧ V.cell? ⟨w.heap.size, 2, none⟩ = some (.slice (some ⟨b3, o3, none⟩) n c3)) ∧
              (V.cell? ⟨w.heap.size + 1, 0, none⟩ = some (.slice B1 m1 d1) ∧ V.cell? ⟨w.heap.size + 1, 1, none⟩ = some (.slice (some ⟨a2, q2, none⟩) m d2) ∧ V.cell? ⟨w.heap.size + 1, 2, none⟩ = some (.slice (some ⟨a3, q3, none⟩) m d3)) ∧ V.cell? ⟨X, 0, none⟩ = some (.int .i64 xa) ∧ V.cell? ⟨X, 1, none⟩ = some (.int .i64 xb))) := Lib.hid (by
            intro U V hb
            have k := fun b o v (h : U.cell? ⟨b, o, none⟩ = some v) => ((Keep.of hb).cell b o (World.block_lt_of_cell? _ _ h)).trans h
            rintro ⟨⟨h1, h2, h3⟩, ⟨h4, h5, h6⟩, h7, h8⟩
            exact ⟨⟨k _ _ _ h1, k _ _ _ h2, k _ _ _ h3⟩, ⟨k _ _ _ h4, k _ _ _ h5, k _ _ _ h6⟩, k _ _ _ h7, k _ _ _ h8⟩)
          have HB0 := Lib.hid (show Below wr.heap.size wr wr.drew from (Below.refl _ _).drew)
          clear p0 p1 p2 r0 r1 r2 hNa hNb cL hbL hat hwv hp1 hp2 hp3 hp4
          refine wpAnyT_two (i := 8) (j := 19) rfl rfl (by kernel_rfl) rfl rfl (fun K__ hK__ => ?_) (fun K__ hK__ => ?_)
          · unfold Oper.wp
            go_simp
            refine (HCA.out _ HB0.out).mono ?_
            rintro e w5 ⟨rfl, hbx⟩
            have HB5 := Lib.hid (HB0.out.trans (hbx.mono HB0.out.size))
            have HS5 := Lib.hid (SK.out _ _ hbx HS.out)
            refine hK__ _ _ HS5.out ?_
            clear hK__ hbx
            try simp only [Act.put]
            refine wpAnyT_two (i := 17) (j := 19) rfl rfl (by kernel_rfl) rfl rfl (fun K__ hK__ => ?_) (fun K__ hK__ => ?_)
            · unfold Oper.wp
              go_simp
              refine (HCB.out _ HB5.out).mono ?_
              rintro e w6 ⟨rfl, hbx⟩
              have HB6 := Lib.hid (HB5.out.trans (hbx.mono HB5.out.size))
              have HS6 := Lib.hid (SK.out _ _ hbx HS5.out)
              refine hK__ _ _ HS6.out ?_
              clear hK__ hbx
              try simp only [Act.put]
              refine wpAnyT_take (i := 18) (v := ?_) rfl (by kernel_rfl) (by kernel_rfl) (by kernel_rfl) (by kernel_rfl) (by kernel_rfl) (fun _ _ _ h => h) (.inl ⟨rfl, ?_⟩) HS6.out ?_
              rotate_left
              · intro W__ hW__
                obtain ⟨⟨h1, h2, h3⟩, ⟨h4, h5, h6⟩, h7, h8⟩ := hW__
                go_simp
                (try with_reducible rfl)
              try simp only [Act.put]
              refine wpAnyT_one (i := 19) rfl (by kernel_rfl) rfl fun K__ hK__ => ?_
              unfold Oper.wp
              go_simp
              have ba := (Below.refl w6.heap.size w6).alloc (Nat.le_refl _) (.cells #[.int .i64 0, .int .i64 0, .slice none 0 0] TPair)
              have HS7 := Lib.hid (SK.out _ _ ba HS6.out)
              have HB7 := Lib.hid (HB6.out.trans (ba.mono HB6.out.size))
              refine hK__ _ _ HS7.out ?_
              clear hK__ ba
              try simp only [Act.put]
              refine wpAnyT_end (i := 20) rfl (by kernel_rfl) rfl (by kernel_rfl) fun K__ hK__ => ?_
              unfold Oper.wp
              go_simp
              refine hK__ _ _ ?_
              clear hK__
              refine wpAnyT_done (by kernel_rfl) ?_ _
              have HF : Hid (wr.heap.size ≤ w6.heap.size ∧ Below wr.heap.size wr (w6.alloc (.cells #[.int .i64 ya, .int .i64 yb, .slice none 0 0] TPair)) ∧ Blk (w6.alloc (.cells #[.int .i64 ya, .int .i64 yb, .slice none 0 0] TPair)) w6.heap.size TPair #[.int .i64 ya, .int .i64 yb, .slice none 0 0]) := Lib.hid
                ⟨HB6.out.size, HB6.out.alloc HB6.out.size _, Blk.new w6 TPair _⟩
              generalize w6.alloc (.cells #[.int .i64 ya, .int .i64 yb, .slice none 0 0] TPair) = W9 at *
              generalize w6.heap.size = Y at *
              clear HB5 HB6 HS5 HS6 HS7 HB7
              have HT9 := Lib.hid (HT.out.next HF.out.2.1)
              have HPS9 := Lib.hid (HPS.out.below HF.out.2.1)
              have HV9 := Lib.hid (OwnI.below HV.out HF.out.2.1); have HW9 := Lib.hid (OwnI.below HWD.out HF.out.2.1)
              have HX9 := Lib.hid (HXB.out.below HF.out.2.1 HXB.out.lt)
              have HYB9 := Lib.hid HF.out.2.2
              have hXY : X < Y := by have := HXB.out.lt; have := HF.out.1; omega
              have HQY : Hid ((Value.slice Q k qc).ownBlock ≠ some Y) := Lib.hid (fun e => by have := (HPS.out.lt e).2; have := HF.out.1; omega)
              have HD0 : Hid (Drawn W9 W9) := Lib.hid (Drawn.refl _)
              have HK0 : Hid (false = yes (∃ (z : Nat) (x : Pr), z < 0 ∧ (rowP d o ⟨xa, xb, xw⟩ l (L.take p))[z]? = some x ∧ x.a = ya ∧ x.b = yb)) := Lib.hid (yes_f (fun ⟨z, x, h, _⟩ => by omega)).symm
              clear HS HCA HCB HB0 SK HPS HV HWD HXB HT
              go_wp2
              go_loopw [13, 12] (fun jv kv W => ∃ (j : Nat) (kb : Bool), jv = .int .i64 j ∧ kv = .bool kb ∧ j ≤ k ∧ Hid (kb = yes (∃ (z : Nat) (x : Pr), z < j ∧ (rowP d o ⟨xa, xb, xw⟩ l (L.take p))[z]? = some x ∧ x.a = ya ∧ x.b = yb)) ∧ Hid (Drawn W9 W)) (fun jv _ _ => k - (intOf jv).toNat)
              case atStart => exact ⟨0, false, rfl, rfl, by omega, HK0, HD0⟩
              case round =>
                clear HK0 HD0
                obtain ⟨j, kb, rfl, rfl, hj, HKB, HDR⟩ := hrel
                have j1 : (0 : Int) ≤ (j : Int) := by omega
                have HBD : Hid (Below W9.heap.size W9 wr) := Lib.hid (by obtain ⟨nd, e⟩ := HDR.out; rw [e]; exact below_drewN (Below.refl _ _) nd)
                have HPSX := Lib.hid (HPS9.out.below HBD.out)
                have HYB := Lib.hid (HYB9.out.below HBD.out HYB9.out.lt)
                by_cases hjk : j < k
                · have j2 : (j : Int) < (k : Int) := by omega
                  obtain ⟨bz, oz, za, zb, T2, q2', tc2, zw, eQ, hbz, ⟨z0, z1, z2⟩, _, _, HZ, _⟩ := HPSX.out.gt HKL (by omega) hjk
                  subst eQ
                  obtain ⟨v0, v1, v2, _, _, _⟩ := Blk.three HYB.out
                  have HDN := Lib.hid (fun q : Nat => HDR.out.drewN q)
                  have hlY := HYB.out.lt
                  have HNEXT : Hid (yes (∃ (z : Nat) (x : Pr), z < j + 1 ∧ (rowP d o ⟨xa, xb, xw⟩ l (L.take p))[z]? = some x ∧ x.a = ya ∧ x.b = yb) = (kb || (decide (za = ya) && decide (zb = yb)))) := Lib.hid (by
                    rw [HKB.out]
                    by_cases e : ∃ (z : Nat) (x : Pr), z < j ∧ (rowP d o ⟨xa, xb, xw⟩ l (L.take p))[z]? = some x ∧ x.a = ya ∧ x.b = yb
                    · rw [yes_t e]
                      obtain ⟨z, x, h1, h2⟩ := e
                      rw [yes_t ⟨z, x, by omega, h2⟩]; rfl
                    · rw [yes_f e, Bool.false_or]
                      by_cases e2 : za = ya ∧ zb = yb
                      · rw [yes_t ⟨j, _, Nat.lt_succ_self j, HZ.out, e2.1, e2.2⟩]; simp [e2]
                      · rw [yes_f]
                        · by_cases e3 : za = ya
                          · have : ¬ zb = yb := fun h => e2 ⟨e3, h⟩
                            simp [this]
                          · simp [e3]
                        · rintro ⟨z, x, h1, h2, h3, h4⟩
                          by_cases ez : z = j
                          · subst ez
                            rw [HZ.out] at h2
                            obtain rfl := Option.some.inj h2
                            exact e2 ⟨h3, h4⟩
                          · exact e ⟨z, x, by omega, h2, h3, h4⟩)
                  clear z2 v2
                  cases kb
                  case true =>
                    go_wp2
                    go_quiet (fail)
                    go_wp2
                    go_roundw
                    case rel => exact ⟨j + 1, true, by go_num, rfl, by omega, Lib.hid (by rw [HNEXT.out]; rfl), Lib.hid (HDN.out _)⟩
                    case measure => simp [intOf]; omega
                  case false =>
                    by_cases ea : za = ya
                    · subst ea
                      have ga : ((za : Int) == (za : Int)) = true := by simp
                      by_cases eb : zb = yb
                      · subst eb
                        go_wp2
                        go_quiet (fail)
                        go_wp2
                        go_roundw
                        case rel => exact ⟨j + 1, true, by go_num, rfl, by omega, Lib.hid (by rw [HNEXT.out]; simp), Lib.hid (HDN.out _)⟩
                        case measure => simp [intOf]; omega
                      · have gb : ((zb : Int) == (yb : Int)) = false := by simp; omega
                        have HEB := Lib.hid eb
                        clear eb
                        go_wp2
                        go_quiet (fail)
                        go_wp2
                        go_roundw
                        case rel => exact ⟨j + 1, false, by go_num, rfl, by omega, Lib.hid (by rw [HNEXT.out]; simp [HEB.out]), Lib.hid (HDN.out _)⟩
                        case measure => simp [intOf]; omega
                    · have ga : ((za : Int) == (ya : Int)) = false := by simp; omega
                      have HEA := Lib.hid ea
                      clear ea
                      go_wp2
                      go_quiet (fail)
                      go_wp2
                      go_roundw
                      case rel => exact ⟨j + 1, false, by go_num, rfl, by omega, Lib.hid (by rw [HNEXT.out]; simp [HEA.out]), Lib.hid (HDN.out _)⟩
                      case measure => simp [intOf]; omega
                · have hjj : ¬ (j : Int) < (k : Int) := by omega
                  have HKP : Hid (kb = yes (knownP (rowP d o ⟨xa, xb, xw⟩ l (L.take p)) ya yb)) := Lib.hid (by
                    rw [HKB.out]
                    congr 1
                    refine propext ⟨fun ⟨z, x, _, h2, h3, h4⟩ => ⟨x, mem_of_get h2, h3, h4⟩, fun ⟨x, h1, h3, h4⟩ => ?_⟩
                    obtain ⟨z, hz⟩ := List.getElem?_of_mem h1
                    exact ⟨z, x, by have := lt_of_get hz; rw [HKL.out] at this; omega, hz, h3, h4⟩)
                  have HSN : Hid (rowP d o ⟨xa, xb, xw⟩ l (L.take (p + 1)) = addP (rowP d o ⟨xa, xb, xw⟩ l (L.take p)) ⟨ya, yb, xw ++ [y]⟩) := Lib.hid (by
                    rw [take_snoc HY.out, rowP_snoc]
                    show addP _ (nextP d o ⟨xa, xb, xw⟩ y) = _
                    unfold nextP
                    rw [← hya, ← hyb])
                  have HYY := Lib.hid (show ya < n ∧ yb < m from ⟨by rw [← hya, ← HNN.out]; exact step_lt HOK.out (by rw [HNN.out]; exact hxa) y, by rw [← hyb, ← HMN.out]; exact step_lt HOO.out (by rw [HMN.out]; exact hxb) y⟩)
                  have HV2 := Lib.hid (OwnI.below HV9.out HBD.out); have HW2 := Lib.hid (OwnI.below HW9.out HBD.out)
                  have HT2 := Lib.hid (HT9.out.next HBD.out); have HX2 := Lib.hid (HX9.out.below HBD.out HX9.out.lt)
                  have HPS3 := Lib.hid HPSX.out
                  cases kb
                  case true =>
                    have HRN : Hid (rowP d o ⟨xa, xb, xw⟩ l (L.take (p + 1)) = rowP d o ⟨xa, xb, xw⟩ l (L.take p)) := Lib.hid (by rw [HSN.out, addP_in (of_yes HKP.out.symm)])
                    go_wp2
                    go_roundw
                    case rel => exact ⟨p + 1, k, qc, Q, by go_num, rfl, by omega, hik, hkF, Lib.hid (by rw [HRN.out]; exact HKL.out), Lib.hid (by rw [HRN.out]; exact HPO.out), Lib.hid (by rw [HRN.out]; exact HPS3.out), HNE, HV2, HT2, HW2, HX2⟩
                    case measure => simp [intOf]; omega
                  case false =>
                    have HRN : Hid (rowP d o ⟨xa, xb, xw⟩ l (L.take (p + 1)) = rowP d o ⟨xa, xb, xw⟩ l (L.take p) ++ [⟨ya, yb, xw ++ [y]⟩]) := Lib.hid (by rw [HSN.out, addP_new (of_no HKP.out.symm)])
                    have HPN : Hid (PrOk d o (rowP d o ⟨xa, xb, xw⟩ l (L.take p) ++ [⟨ya, yb, xw ++ [y]⟩])) := Lib.hid (by
                      have h := HPO.out.add (x := ⟨ya, yb, xw ++ [y]⟩) (by rw [HNN.out]; exact HYY.out.1) (by rw [HMN.out]; exact HYY.out.2)
                      rwa [addP_new (of_no HKP.out.symm)] at h)
                    have hk1 : k + 1 ≤ F := by
                      have h := HPN.out.len
                      rw [List.length_append, HKL.out, HNN.out, HMN.out, HF0.out] at h
                      simpa using h
                    obtain ⟨bL', oL', uL', y', eL', hbL', cL', ⟨rfl, _, _⟩, HY'⟩ := (OwnI.atL HV2.out HLB.out HNA (by omega)).gt HNA hpl
                    injection eL' with eL'
                    injection eL' with eL1 eL2
                    subst eL1; subst eL2
                    obtain rfl : y = y' := Option.some.inj (HY.out.symm.trans HY'.out)
                    obtain ⟨us0, hus, hsrc⟩ := OwnI.src HW2.out (by rw [HXW.out]; have := HXQ.out; omega)
                    rw [HXW.out] at hsrc
                    subst hus
                    obtain ⟨v0, v1, v2, _, _, _⟩ := Blk.three HX2.out
                    have HS2 : Hid (wr.drew.cell? ⟨X, 2, none⟩ = some (.slice T q tc) ∧ wr.drew.cell? ⟨bL, oL + p, none⟩ = some (.int .i64 y)) := Lib.hid ⟨v2, cL'⟩
                    have HSRC := Lib.hid (show Src wr.drew T 1 q (xw.map (Value.int .i64)) from hsrc.keep (Keep.drew wr))
                    have SK2 : Hid (∀ (U V : World), Below U.heap.size U V → (U.cell? ⟨X, 2, none⟩ = some (.slice T q tc) ∧ U.cell? ⟨bL, oL + p, none⟩ = some (.int .i64 y)) → (V.cell? ⟨X, 2, none⟩ = some (.slice T q tc) ∧ V.cell? ⟨bL, oL + p, none⟩ = some (.int .i64 y))) := Lib.hid (by
                      intro U V hb
                      rintro ⟨h1, h2⟩
                      exact ⟨((Keep.of hb).cell _ _ (World.block_lt_of_cell? _ _ h1)).trans h1, ((Keep.of hb).cell _ _ (World.block_lt_of_cell? _ _ h2)).trans h2⟩)
                    have Q1 : Hid (q + 1 ≤ maxLen) := Lib.hid (by have := HXQ.out; simp only [maxLen]; omega)
                    have Q2 : Hid ((q + 1) * 8 ≤ 140737488355328) := Lib.hid (by have := HXQ.out; omega)
                    have Q5 : Hid (0 + q ≤ maxLen) := Lib.hid (by have := HXQ.out; simp only [maxLen]; omega)
                    have Q6 : Hid ((0 + q) * 8 ≤ 140737488355328) := Lib.hid (by have := HXQ.out; omega)
                    have Q3 : Hid (k + 1 ≤ maxLen) := Lib.hid (by simp only [maxLen]; omega)
                    have Q4 : Hid ((k + 1) * 40 ≤ 140737488355328) := Lib.hid (by omega)
                    have HPSb := Lib.hid (HPS3.out.below (Below.refl _ _).drew)
                    clear HPS3
                    have HPS3 := HPSb
                    have HVb := Lib.hid (OwnI.below HV2.out (Below.refl _ _).drew); have HWb := Lib.hid (OwnI.below HW2.out (Below.refl _ _).drew)
                    have HTb := Lib.hid (HT2.out.next (Below.refl _ _).drew); have HXb := Lib.hid (HX2.out.below (Below.refl _ _).drew HX2.out.lt)
                    have HYb := Lib.hid (HYB.out.below (Below.refl _ _).drew HYB.out.lt)
                    have hLl := hbL'
                    clear HV2 HW2 HT2 HX2 HYB
                    have HV2 := HVb; have HW2 := HWb; have HT2 := HTb; have HX2 := HXb; have HYB := HYb
                    clear HVb HWb HTb HXb HYb HPSb hsrc cL' HKP HSN HPSX HBD HDR
                    go_wp2
                    refine wp_region_T 8 (fun W => W.cell? ⟨X, 2, none⟩ = some (.slice T q tc) ∧ W.cell? ⟨bL, oL + p, none⟩ = some (.int .i64 y)) (by kernel_rfl) ?_
                    clear v0 v1 v2 hLl hbL'
                    generalize wr.drew = Wb at *
                    refine wpAnyT_takeC (i := 0) [8, 2, 1] (v := ?_) rfl (by kernel_rfl) (by kernel_rfl) (by kernel_rfl) (by kernel_rfl) (by kernel_rfl) (by kernel_rfl) (fun _ _ _ h => h) (.inl ⟨rfl, ?_⟩) HS2.out ?_
                    rotate_left
                    · intro W__ hW__
                      obtain ⟨h1, h2⟩ := hW__
                      go_simp
                      (try with_reducible rfl)
                    try simp only [Act.put]
                    refine wpAnyT_takeC (i := 1) [8, 2] (v := ?_) rfl (by kernel_rfl) (by kernel_rfl) (by kernel_rfl) (by kernel_rfl) (by kernel_rfl) (by kernel_rfl) (fun _ _ _ h => h) (.inl ⟨rfl, ?_⟩) HS2.out ?_
                    rotate_left
                    · intro W__ hW__
                      obtain ⟨h1, h2⟩ := hW__
                      go_simp
                      (try with_reducible rfl)
                    try simp only [Act.put]
                    refine wpAnyT_takeC (i := 3) [8, 7, 6, 5] (v := ?_) rfl (by kernel_rfl) (by kernel_rfl) (by kernel_rfl) (by kernel_rfl) (by kernel_rfl) (by kernel_rfl) (fun _ _ _ h => h) (.inl ⟨rfl, ?_⟩) HS2.out ?_
                    rotate_left
                    · intro W__ hW__
                      obtain ⟨h1, h2⟩ := hW__
                      go_simp
                      (try with_reducible rfl)
                    try simp only [Act.put]
                    refine wpAnyT_takeC (i := 4) [8, 7, 6, 5] (v := ?_) rfl (by kernel_rfl) (by kernel_rfl) (by kernel_rfl) (by kernel_rfl) (by kernel_rfl) (by kernel_rfl) (fun _ _ _ h => h) (.inl ⟨rfl, ?_⟩) HS2.out ?_
                    rotate_left
                    · intro W__ hW__
                      obtain ⟨h1, h2⟩ := hW__
                      go_simp
                      (try with_reducible rfl)
                    try simp only [Act.put]
                    refine wpAnyT_takeC (i := 5) [8, 7, 6] (v := ?_) rfl (by kernel_rfl) (by kernel_rfl) (by kernel_rfl) (by kernel_rfl) (by kernel_rfl) (by kernel_rfl) (fun _ _ _ h => h) (.inl ⟨rfl, ?_⟩) HS2.out ?_
                    rotate_left
                    · intro W__ hW__
                      obtain ⟨h1, h2⟩ := hW__
                      go_simp
                      (try with_reducible rfl)
                    try simp only [Act.put]
                    refine wpAnyT_takeC (i := 6) [8, 7] (v := ?_) rfl (by kernel_rfl) (by kernel_rfl) (by kernel_rfl) (by kernel_rfl) (by kernel_rfl) (by kernel_rfl) (fun _ _ _ h => h) (.inl ⟨rfl, ?_⟩) HS2.out ?_
                    rotate_left
                    · intro W__ hW__
                      obtain ⟨h1, h2⟩ := hW__
                      go_simp
                      (try with_reducible rfl)
                    try simp only [Act.put]
                    refine wpAnyT_two (i := 2) (j := 7) rfl rfl (by kernel_rfl) rfl rfl (fun K__ hK__ => ?_) (fun K__ hK__ => ?_)
                    · refine wp_append_src _ (.const (.slice none 0 0)) (.tmp 99) 22 rfl Wb.heap.size TLI i0 (.int .i64 0) 1 8 Try.underlying22 hi0 hz0 hs0 hb0 rfl (by decide) none 0 0 [] (by simp [Act.eval]) (World.ownsRow_nil _ _ _ _) T q tc _ (by simp [Act.eval]) HSRC.out Q5.out Q6.out (Nat.le_refl _) ?_
                      intro A9 c9 w10 own9 gr9 _
                      simp only [Nat.zero_add, List.nil_append] at own9
                      have B9 := (Below.refl Wb.heap.size Wb).grown gr9 (Nat.le_refl _) (fun g hg => by cases hg)
                      have HS9 := Lib.hid (SK2.out _ _ B9 HS2.out)
                      refine hK__ _ _ HS9.out ?_
                      clear hK__
                      try simp only [Act.put]
                      refine wpAnyT_one (i := 7) rfl (by kernel_rfl) rfl fun K__ hK__ => ?_
                      unfold Oper.wp
                      go_simp
                      have ba := (Below.refl w10.heap.size w10).alloc (Nat.le_refl _) (.cells #[.int .i64 y] TLI)
                      refine hK__ _ _ (SK2.out _ _ ba HS9.out) ?_
                      clear hK__
                      try simp only [Act.put]
                      have OW9 := own9.alloc (.cells #[.int .i64 y] TLI)
                      have SR9 := Src.one (w := w10) (x := .int .i64 y) (t := TLI) rfl
                      have B10 := B9.alloc B9.size (.cells #[.int .i64 y] TLI)
                      refine wpAnyT_end (i := 8) rfl (by kernel_rfl) rfl (by kernel_rfl) fun K__ hK__ => ?_
                      refine wp_append_src _ (.tmp 100) (.tmp 105) 22 rfl Wb.heap.size TLI i0 (.int .i64 0) 1 8 Try.underlying22 hi0 hz0 hs0 hb0 rfl (by decide) A9 c9 q _ (by simp [Act.eval]) OW9 _ 1 1 _ (by simp [Act.eval]) SR9 Q1.out Q2.out B10.size ?_
                      intro A10 c10 w12 own10 gr10 _
                      have B12 := Lib.hid (B10.grown gr10 B10.size (fun g hg => (OW9.lt g hg).1))
                      have OWW := Lib.hid own10
                      clear own9 gr9 B9 HS9 ba OW9 SR9 B10
                      have hYb := HYB.out.below B12.out HYB.out.lt
                      obtain ⟨t0, t1, t2, f0, f1, f2⟩ := Blk.three hYb
                      have HY3 := Lib.hid (hYb.set 2 (.slice A10 (q + 1) c10))
                      have HP3 := Lib.hid (Ps.put (i := 2) (HPS3.out.below B12.out) hYb HQY.out (.slice A10 (q + 1) c10))
                      have HV3 := Lib.hid (OwnI.far (i := 2) (u := .slice A10 (q + 1) c10) (OwnI.below HV2.out B12.out) hYb (by decide))
                      have HW3 := Lib.hid (OwnI.far (i := 2) (u := .slice A10 (q + 1) c10) (OwnI.below HW2.out B12.out) hYb (by decide))
                      have HT3 := Lib.hid (Two.far (i := 2) (u := .slice A10 (q + 1) c10) (HT2.out.next B12.out) hYb (by decide) (by omega))
                      have HX3 := Lib.hid ((HX2.out.below B12.out HX2.out.lt).far (p := ⟨Y, 2, none⟩) (by simp; omega) (.slice A10 (q + 1) c10))
                      have HN3 : Hid (OwnI (w12.setCell ⟨Y, 2, none⟩ (.slice A10 (q + 1) c10)) w.heap.size (.slice A10 (q + 1) c10) (xw ++ [y])) := Lib.hid (OwnI.far (OwnI.lower (b := Wb.heap.size) ⟨A10, c10, by rw [List.length_append, HXW.out]; rfl, by rw [List.length_append, HXW.out, List.map_append]; exact OWW.out⟩ HT2.out.be.size) hYb (by decide))
                      refine hK__ _ _ ?_
                      clear hK__ own10 gr10 hYb
                      simp only [Act.put]
                      refine wpAnyT_end (i := 9) rfl (by kernel_rfl) rfl (by kernel_rfl) fun K__ hK__ => ?_
                      unfold Oper.wp
                      go_simp
                      refine hK__ _ _ ?_
                      clear hK__
                      refine wpAnyT_end (i := 10) rfl (by kernel_rfl) rfl (by kernel_rfl) fun K__ hK__ => ?_
                      unfold Oper.wp
                      go_simp
                      refine hK__ _ _ ?_
                      clear hK__
                      refine wpAnyT_done (by kernel_rfl) ?_ _
                      clear t0 t1 t2 f0 f1 f2
                      generalize w12.setCell ⟨Y, 2, none⟩ (.slice A10 (q + 1) c10) = W3 at *
                      obtain ⟨Qx, qx, us, eqv, owq, relq⟩ := HP3.out
                      rw [HKL.out] at eqv owq
                      injection eqv with eq1 _ eq3
                      subst eq1; subst eq3
                      obtain ⟨u0, u1, u2, _, _, _⟩ := Blk.three HY3.out
                      have hYl := HY3.out.lt
                      have OWQ := Lib.hid owq; have RLQ := Lib.hid relq
                      have OWA := Lib.hid (owq.alloc (.cells #[.int .i64 ya, .int .i64 yb, .slice A10 (q + 1) c10] TPair))
                      have SRA := Lib.hid (Src.many (w := W3) (arr := #[.int .i64 ya, .int .i64 yb, .slice A10 (q + 1) c10]) (t := TPair) (size := 3) (by simp [Value.oneCell']) rfl)
                      have BA3 := Lib.hid ((Below.refl W3.heap.size W3).alloc (Nat.le_refl _) (.cells #[.int .i64 ya, .int .i64 yb, .slice A10 (q + 1) c10] TPair))
                      have HTA := Lib.hid (HT3.out.next BA3.out)
                      have Z9 : Hid (w.heap.size ≤ (W3.alloc (.cells #[.int .i64 ya, .int .i64 yb, .slice A10 (q + 1) c10] TPair)).heap.size) := Lib.hid HTA.out.be.size
                      have HVA := Lib.hid (OwnI.below HV3.out BA3.out); have HWA := Lib.hid (OwnI.below HW3.out BA3.out)
                      have HXA3 := Lib.hid (HX3.out.below BA3.out HX3.out.lt)
                      clear owq relq
                      go_wp2_with (first
                      | (at_builtin
                         go_must (refine wpList_append_src _ rfl (.tmp 108) (.tmp 110) 202 rfl w.heap.size TPair i9 (.agg #[.int .i64 0, .int .i64 0, .slice none 0 0]) 3 40 Try.underlying202 hi9 hz9 hs9 hb9 rfl (by decide) Q qc k _ rfl OWA.out _ 1 1 _ rfl SRA.out Q3.out Q4.out Z9.out ?_)
                         intro A13 c13 w13 own13 gr13 hn13
                         have HP13 := Lib.hid (Ps.push (x := ⟨ya, yb, xw ++ [y]⟩) OWQ.out RLQ.out HKL HN3.out own13 gr13)
                         have HV13 := Lib.hid (OwnI.keepQ HVA.out OWA.out (by decide) gr13); have HW13 := Lib.hid (OwnI.keepQ HWA.out OWA.out (by decide) gr13)
                         have HT13 := Lib.hid (HTA.out.grown OWA.out (by decide) gr13 (Nat.le_refl _))
                         have HX13 := Lib.hid (HXA3.out.grown gr13 (fun e => HNE.out e.symm))
                         have HN13 : Hid ((Value.slice A13 (k + 1) c13).ownBlock ≠ some X) := Lib.hid (by
                           rcases hn13 with e | e
                           · rw [e]; exact HNE.out
                           · rw [e]; have := HX3.out.lt; simp; omega)
                         clear own13 gr13 hn13))
                      go_roundw
                      case rel => exact ⟨p + 1, k + 1, c13, A13, by go_num, rfl, by omega, by omega, hk1, Lib.hid (by rw [HRN.out, List.length_append, HKL.out]; rfl), Lib.hid (by rw [HRN.out]; exact HPN.out), Lib.hid (by rw [HRN.out]; exact HP13.out), HN13, HV13, HT13, HW13, HX13⟩
                      case measure => simp [intOf]; omega
                    · unfold Oper.wp
                      go_simp
                      have ba := (Below.refl Wb.heap.size Wb).alloc (Nat.le_refl _) (.cells #[.int .i64 y] TLI)
                      have HS9 := Lib.hid (SK2.out _ _ ba HS2.out)
                      refine hK__ _ _ HS9.out ?_
                      clear hK__
                      try simp only [Act.put]
                      have SRa := Src.one (w := Wb) (x := .int .i64 y) (t := TLI) rfl
                      have SWa := HSRC.out.keep (Keep.of ba)
                      refine wpAnyT_one (i := 2) rfl (by kernel_rfl) rfl fun K__ hK__ => ?_
                      refine wp_append_src _ (.const (.slice none 0 0)) (.tmp 99) 22 rfl Wb.heap.size TLI i0 (.int .i64 0) 1 8 Try.underlying22 hi0 hz0 hs0 hb0 rfl (by decide) none 0 0 [] (by simp [Act.eval]) (World.ownsRow_nil _ _ _ _) T q tc _ (by simp [Act.eval]) SWa Q5.out Q6.out ba.size ?_
                      intro A9 c9 w10 own9 gr9 _
                      simp only [Nat.zero_add, List.nil_append] at own9
                      have b9 := (Below.refl (Wb.alloc (.cells #[.int .i64 y] TLI)).heap.size (Wb.alloc (.cells #[.int .i64 y] TLI))).grown gr9 (Nat.le_refl _) (fun g hg => by cases hg)
                      have B9 := ba.trans (b9.mono ba.size)
                      refine hK__ _ _ (SK2.out _ _ b9 HS9.out) ?_
                      clear hK__
                      try simp only [Act.put]
                      have SR9 := SRa.keep (Keep.of b9)
                      refine wpAnyT_end (i := 8) rfl (by kernel_rfl) rfl (by kernel_rfl) fun K__ hK__ => ?_
                      refine wp_append_src _ (.tmp 100) (.tmp 105) 22 rfl Wb.heap.size TLI i0 (.int .i64 0) 1 8 Try.underlying22 hi0 hz0 hs0 hb0 rfl (by decide) A9 c9 q _ (by simp [Act.eval]) own9 _ 1 1 _ (by simp [Act.eval]) SR9 Q1.out Q2.out B9.size ?_
                      intro A10 c10 w12 own10 gr10 _
                      have B12 := Lib.hid (B9.grown gr10 B9.size (fun g hg => (own9.lt g hg).1))
                      have OWW := Lib.hid own10
                      clear own9 gr9 B9 HS9 ba SRa SWa b9 SR9
                      have hYb := HYB.out.below B12.out HYB.out.lt
                      obtain ⟨t0, t1, t2, f0, f1, f2⟩ := Blk.three hYb
                      have HY3 := Lib.hid (hYb.set 2 (.slice A10 (q + 1) c10))
                      have HP3 := Lib.hid (Ps.put (i := 2) (HPS3.out.below B12.out) hYb HQY.out (.slice A10 (q + 1) c10))
                      have HV3 := Lib.hid (OwnI.far (i := 2) (u := .slice A10 (q + 1) c10) (OwnI.below HV2.out B12.out) hYb (by decide))
                      have HW3 := Lib.hid (OwnI.far (i := 2) (u := .slice A10 (q + 1) c10) (OwnI.below HW2.out B12.out) hYb (by decide))
                      have HT3 := Lib.hid (Two.far (i := 2) (u := .slice A10 (q + 1) c10) (HT2.out.next B12.out) hYb (by decide) (by omega))
                      have HX3 := Lib.hid ((HX2.out.below B12.out HX2.out.lt).far (p := ⟨Y, 2, none⟩) (by simp; omega) (.slice A10 (q + 1) c10))
                      have HN3 : Hid (OwnI (w12.setCell ⟨Y, 2, none⟩ (.slice A10 (q + 1) c10)) w.heap.size (.slice A10 (q + 1) c10) (xw ++ [y])) := Lib.hid (OwnI.far (OwnI.lower (b := Wb.heap.size) ⟨A10, c10, by rw [List.length_append, HXW.out]; rfl, by rw [List.length_append, HXW.out, List.map_append]; exact OWW.out⟩ HT2.out.be.size) hYb (by decide))
                      refine hK__ _ _ ?_
                      clear hK__ own10 gr10 hYb
                      simp only [Act.put]
                      refine wpAnyT_end (i := 9) rfl (by kernel_rfl) rfl (by kernel_rfl) fun K__ hK__ => ?_
                      unfold Oper.wp
                      go_simp
                      refine hK__ _ _ ?_
                      clear hK__
                      refine wpAnyT_end (i := 10) rfl (by kernel_rfl) rfl (by kernel_rfl) fun K__ hK__ => ?_
                      unfold Oper.wp
                      go_simp
                      refine hK__ _ _ ?_
                      clear hK__
                      refine wpAnyT_done (by kernel_rfl) ?_ _
                      clear t0 t1 t2 f0 f1 f2
                      generalize w12.setCell ⟨Y, 2, none⟩ (.slice A10 (q + 1) c10) = W3 at *
                      obtain ⟨Qx, qx, us, eqv, owq, relq⟩ := HP3.out
                      rw [HKL.out] at eqv owq
                      injection eqv with eq1 _ eq3
                      subst eq1; subst eq3
                      obtain ⟨u0, u1, u2, _, _, _⟩ := Blk.three HY3.out
                      have hYl := HY3.out.lt
                      have OWQ := Lib.hid owq; have RLQ := Lib.hid relq
                      have OWA := Lib.hid (owq.alloc (.cells #[.int .i64 ya, .int .i64 yb, .slice A10 (q + 1) c10] TPair))
                      have SRA := Lib.hid (Src.many (w := W3) (arr := #[.int .i64 ya, .int .i64 yb, .slice A10 (q + 1) c10]) (t := TPair) (size := 3) (by simp [Value.oneCell']) rfl)
                      have BA3 := Lib.hid ((Below.refl W3.heap.size W3).alloc (Nat.le_refl _) (.cells #[.int .i64 ya, .int .i64 yb, .slice A10 (q + 1) c10] TPair))
                      have HTA := Lib.hid (HT3.out.next BA3.out)
                      have Z9 : Hid (w.heap.size ≤ (W3.alloc (.cells #[.int .i64 ya, .int .i64 yb, .slice A10 (q + 1) c10] TPair)).heap.size) := Lib.hid HTA.out.be.size
                      have HVA := Lib.hid (OwnI.below HV3.out BA3.out); have HWA := Lib.hid (OwnI.below HW3.out BA3.out)
                      have HXA3 := Lib.hid (HX3.out.below BA3.out HX3.out.lt)
                      clear owq relq
                      go_wp2_with (first
                      | (at_builtin
                         go_must (refine wpList_append_src _ rfl (.tmp 108) (.tmp 110) 202 rfl w.heap.size TPair i9 (.agg #[.int .i64 0, .int .i64 0, .slice none 0 0]) 3 40 Try.underlying202 hi9 hz9 hs9 hb9 rfl (by decide) Q qc k _ rfl OWA.out _ 1 1 _ rfl SRA.out Q3.out Q4.out Z9.out ?_)
                         intro A13 c13 w13 own13 gr13 hn13
                         have HP13 := Lib.hid (Ps.push (x := ⟨ya, yb, xw ++ [y]⟩) OWQ.out RLQ.out HKL HN3.out own13 gr13)
                         have HV13 := Lib.hid (OwnI.keepQ HVA.out OWA.out (by decide) gr13); have HW13 := Lib.hid (OwnI.keepQ HWA.out OWA.out (by decide) gr13)
                         have HT13 := Lib.hid (HTA.out.grown OWA.out (by decide) gr13 (Nat.le_refl _))
                         have HX13 := Lib.hid (HXA3.out.grown gr13 (fun e => HNE.out e.symm))
                         have HN13 : Hid ((Value.slice A13 (k + 1) c13).ownBlock ≠ some X) := Lib.hid (by
                           rcases hn13 with e | e
                           · rw [e]; exact HNE.out
                           · rw [e]; have := HX3.out.lt; simp; omega)
                         clear own13 gr13 hn13))
                      go_roundw
                      case rel => exact ⟨p + 1, k + 1, c13, A13, by go_num, rfl, by omega, by omega, hk1, Lib.hid (by rw [HRN.out, List.length_append, HKL.out]; rfl), Lib.hid (by rw [HRN.out]; exact HPN.out), Lib.hid (by rw [HRN.out]; exact HP13.out), HN13, HV13, HT13, HW13, HX13⟩
                      case measure => simp [intOf]; omega

            · unfold Oper.wp
              go_simp
              have ba := (Below.refl w5.heap.size w5).alloc (Nat.le_refl _) (.cells #[.int .i64 0, .int .i64 0, .slice none 0 0] TPair)
              have HS6 := Lib.hid (SK.out _ _ ba HS5.out)
              have HB6 := Lib.hid (HB5.out.trans (ba.mono HB5.out.size))
              have BY0 := Lib.hid (Blk.new w5 TPair #[.int .i64 0, .int .i64 0, .slice none 0 0])
              have hYW : wr.heap.size ≤ w5.heap.size := HB5.out.size
              refine hK__ _ _ HS6.out ?_
              clear hK__ ba
              try simp only [Act.put]
              refine wpAnyT_one (i := 17) rfl (by kernel_rfl) rfl fun K__ hK__ => ?_
              unfold Oper.wp
              go_simp
              refine (HCB.out _ HB6.out).mono ?_
              rintro e w7 ⟨rfl, hbx⟩
              have HB7 := Lib.hid (HB6.out.trans (hbx.mono HB6.out.size))
              have HS7 := Lib.hid (SK.out _ _ hbx HS6.out)
              have BY1 := Lib.hid (BY0.out.below hbx BY0.out.lt)
              clear BY0
              have BY0 := BY1
              refine hK__ _ _ HS7.out ?_
              clear hK__ hbx
              try simp only [Act.put]
              refine wpAnyT_take (i := 18) (v := ?_) rfl (by kernel_rfl) (by kernel_rfl) (by kernel_rfl) (by kernel_rfl) (by kernel_rfl) (fun _ _ _ h => h) (.inl ⟨rfl, ?_⟩) HS7.out ?_
              rotate_left
              · intro W__ hW__
                obtain ⟨⟨h1, h2, h3⟩, ⟨h4, h5, h6⟩, h7, h8⟩ := hW__
                go_simp
                (try with_reducible rfl)
              try simp only [Act.put]
              obtain ⟨t0, t1, t2, f0, f1, f2⟩ := Blk.three BY0.out
              refine wpAnyT_end (i := 20) rfl (by kernel_rfl) rfl (by kernel_rfl) fun K__ hK__ => ?_
              unfold Oper.wp
              go_simp
              refine hK__ _ _ ?_
              clear hK__
              refine wpAnyT_done (by kernel_rfl) ?_ _
              clear t0 t1 t2 f0 f1 f2
              have HF : Hid (wr.heap.size ≤ w5.heap.size ∧ Below wr.heap.size wr (((w7.setCell ⟨w5.heap.size, 0, none⟩ (.int .i64 ya)).setCell ⟨w5.heap.size, 1, none⟩ (.int .i64 yb)).setCell ⟨w5.heap.size, 2, none⟩ (.slice none 0 0)) ∧ Blk (((w7.setCell ⟨w5.heap.size, 0, none⟩ (.int .i64 ya)).setCell ⟨w5.heap.size, 1, none⟩ (.int .i64 yb)).setCell ⟨w5.heap.size, 2, none⟩ (.slice none 0 0)) w5.heap.size TPair #[.int .i64 ya, .int .i64 yb, .slice none 0 0]) := Lib.hid
                ⟨hYW, below3 HB7.out hYW, Blk.set3 BY0.out⟩
              clear BY0 hYW
              generalize ((w7.setCell ⟨w5.heap.size, 0, none⟩ (.int .i64 ya)).setCell ⟨w5.heap.size, 1, none⟩ (.int .i64 yb)).setCell ⟨w5.heap.size, 2, none⟩ (.slice none 0 0) = W9 at *
              generalize w5.heap.size = Y at *
              clear HB5 HB6 HS5 HS6 HS7 HB7
              have HT9 := Lib.hid (HT.out.next HF.out.2.1)
              have HPS9 := Lib.hid (HPS.out.below HF.out.2.1)
              have HV9 := Lib.hid (OwnI.below HV.out HF.out.2.1); have HW9 := Lib.hid (OwnI.below HWD.out HF.out.2.1)
              have HX9 := Lib.hid (HXB.out.below HF.out.2.1 HXB.out.lt)
              have HYB9 := Lib.hid HF.out.2.2
              have hXY : X < Y := by have := HXB.out.lt; have := HF.out.1; omega
              have HQY : Hid ((Value.slice Q k qc).ownBlock ≠ some Y) := Lib.hid (fun e => by have := (HPS.out.lt e).2; have := HF.out.1; omega)
              have HD0 : Hid (Drawn W9 W9) := Lib.hid (Drawn.refl _)
              have HK0 : Hid (false = yes (∃ (z : Nat) (x : Pr), z < 0 ∧ (rowP d o ⟨xa, xb, xw⟩ l (L.take p))[z]? = some x ∧ x.a = ya ∧ x.b = yb)) := Lib.hid (yes_f (fun ⟨z, x, h, _⟩ => by omega)).symm
              clear HS HCA HCB HB0 SK HPS HV HWD HXB HT
              go_wp2
              go_loopw [13, 12] (fun jv kv W => ∃ (j : Nat) (kb : Bool), jv = .int .i64 j ∧ kv = .bool kb ∧ j ≤ k ∧ Hid (kb = yes (∃ (z : Nat) (x : Pr), z < j ∧ (rowP d o ⟨xa, xb, xw⟩ l (L.take p))[z]? = some x ∧ x.a = ya ∧ x.b = yb)) ∧ Hid (Drawn W9 W)) (fun jv _ _ => k - (intOf jv).toNat)
              case atStart => exact ⟨0, false, rfl, rfl, by omega, HK0, HD0⟩
              case round =>
                clear HK0 HD0
                obtain ⟨j, kb, rfl, rfl, hj, HKB, HDR⟩ := hrel
                have j1 : (0 : Int) ≤ (j : Int) := by omega
                have HBD : Hid (Below W9.heap.size W9 wr) := Lib.hid (by obtain ⟨nd, e⟩ := HDR.out; rw [e]; exact below_drewN (Below.refl _ _) nd)
                have HPSX := Lib.hid (HPS9.out.below HBD.out)
                have HYB := Lib.hid (HYB9.out.below HBD.out HYB9.out.lt)
                by_cases hjk : j < k
                · have j2 : (j : Int) < (k : Int) := by omega
                  obtain ⟨bz, oz, za, zb, T2, q2', tc2, zw, eQ, hbz, ⟨z0, z1, z2⟩, _, _, HZ, _⟩ := HPSX.out.gt HKL (by omega) hjk
                  subst eQ
                  obtain ⟨v0, v1, v2, _, _, _⟩ := Blk.three HYB.out
                  have HDN := Lib.hid (fun q : Nat => HDR.out.drewN q)
                  have hlY := HYB.out.lt
                  have HNEXT : Hid (yes (∃ (z : Nat) (x : Pr), z < j + 1 ∧ (rowP d o ⟨xa, xb, xw⟩ l (L.take p))[z]? = some x ∧ x.a = ya ∧ x.b = yb) = (kb || (decide (za = ya) && decide (zb = yb)))) := Lib.hid (by
                    rw [HKB.out]
                    by_cases e : ∃ (z : Nat) (x : Pr), z < j ∧ (rowP d o ⟨xa, xb, xw⟩ l (L.take p))[z]? = some x ∧ x.a = ya ∧ x.b = yb
                    · rw [yes_t e]
                      obtain ⟨z, x, h1, h2⟩ := e
                      rw [yes_t ⟨z, x, by omega, h2⟩]; rfl
                    · rw [yes_f e, Bool.false_or]
                      by_cases e2 : za = ya ∧ zb = yb
                      · rw [yes_t ⟨j, _, Nat.lt_succ_self j, HZ.out, e2.1, e2.2⟩]; simp [e2]
                      · rw [yes_f]
                        · by_cases e3 : za = ya
                          · have : ¬ zb = yb := fun h => e2 ⟨e3, h⟩
                            simp [this]
                          · simp [e3]
                        · rintro ⟨z, x, h1, h2, h3, h4⟩
                          by_cases ez : z = j
                          · subst ez
                            rw [HZ.out] at h2
                            obtain rfl := Option.some.inj h2
                            exact e2 ⟨h3, h4⟩
                          · exact e ⟨z, x, by omega, h2, h3, h4⟩)
                  clear z2 v2
                  cases kb
                  case true =>
                    go_wp2
                    go_quiet (fail)
                    go_wp2
                    go_roundw
                    case rel => exact ⟨j + 1, true, by go_num, rfl, by omega, Lib.hid (by rw [HNEXT.out]; rfl), Lib.hid (HDN.out _)⟩
                    case measure => simp [intOf]; omega
                  case false =>
                    by_cases ea : za = ya
                    · subst ea
                      have ga : ((za : Int) == (za : Int)) = true := by simp
                      by_cases eb : zb = yb
                      · subst eb
                        go_wp2
                        go_quiet (fail)
                        go_wp2
                        go_roundw
                        case rel => exact ⟨j + 1, true, by go_num, rfl, by omega, Lib.hid (by rw [HNEXT.out]; simp), Lib.hid (HDN.out _)⟩
                        case measure => simp [intOf]; omega
                      · have gb : ((zb : Int) == (yb : Int)) = false := by simp; omega
                        have HEB := Lib.hid eb
                        clear eb
                        go_wp2
                        go_quiet (fail)
                        go_wp2
                        go_roundw
                        case rel => exact ⟨j + 1, false, by go_num, rfl, by omega, Lib.hid (by rw [HNEXT.out]; simp [HEB.out]), Lib.hid (HDN.out _)⟩
                        case measure => simp [intOf]; omega
                    · have ga : ((za : Int) == (ya : Int)) = false := by simp; omega
                      have HEA := Lib.hid ea
                      clear ea
                      go_wp2
                      go_quiet (fail)
                      go_wp2
                      go_roundw
                      case rel => exact ⟨j + 1, false, by go_num, rfl, by omega, Lib.hid (by rw [HNEXT.out]; simp [HEA.out]), Lib.hid (HDN.out _)⟩
                      case measure => simp [intOf]; omega
                · have hjj : ¬ (j : Int) < (k : Int) := by omega
                  have HKP : Hid (kb = yes (knownP (rowP d o ⟨xa, xb, xw⟩ l (L.take p)) ya yb)) := Lib.hid (by
                    rw [HKB.out]
                    congr 1
                    refine propext ⟨fun ⟨z, x, _, h2, h3, h4⟩ => ⟨x, mem_of_get h2, h3, h4⟩, fun ⟨x, h1, h3, h4⟩ => ?_⟩
                    obtain ⟨z, hz⟩ := List.getElem?_of_mem h1
                    exact ⟨z, x, by have := lt_of_get hz; rw [HKL.out] at this; omega, hz, h3, h4⟩)
                  have HSN : Hid (rowP d o ⟨xa, xb, xw⟩ l (L.take (p + 1)) = addP (rowP d o ⟨xa, xb, xw⟩ l (L.take p)) ⟨ya, yb, xw ++ [y]⟩) := Lib.hid (by
                    rw [take_snoc HY.out, rowP_snoc]
                    show addP _ (nextP d o ⟨xa, xb, xw⟩ y) = _
                    unfold nextP
                    rw [← hya, ← hyb])
                  have HYY := Lib.hid (show ya < n ∧ yb < m from ⟨by rw [← hya, ← HNN.out]; exact step_lt HOK.out (by rw [HNN.out]; exact hxa) y, by rw [← hyb, ← HMN.out]; exact step_lt HOO.out (by rw [HMN.out]; exact hxb) y⟩)
                  have HV2 := Lib.hid (OwnI.below HV9.out HBD.out); have HW2 := Lib.hid (OwnI.below HW9.out HBD.out)
                  have HT2 := Lib.hid (HT9.out.next HBD.out); have HX2 := Lib.hid (HX9.out.below HBD.out HX9.out.lt)
                  have HPS3 := Lib.hid HPSX.out
                  cases kb
                  case true =>
                    have HRN : Hid (rowP d o ⟨xa, xb, xw⟩ l (L.take (p + 1)) = rowP d o ⟨xa, xb, xw⟩ l (L.take p)) := Lib.hid (by rw [HSN.out, addP_in (of_yes HKP.out.symm)])
                    go_wp2
                    go_roundw
                    case rel => exact ⟨p + 1, k, qc, Q, by go_num, rfl, by omega, hik, hkF, Lib.hid (by rw [HRN.out]; exact HKL.out), Lib.hid (by rw [HRN.out]; exact HPO.out), Lib.hid (by rw [HRN.out]; exact HPS3.out), HNE, HV2, HT2, HW2, HX2⟩
                    case measure => simp [intOf]; omega
                  case false =>
                    have HRN : Hid (rowP d o ⟨xa, xb, xw⟩ l (L.take (p + 1)) = rowP d o ⟨xa, xb, xw⟩ l (L.take p) ++ [⟨ya, yb, xw ++ [y]⟩]) := Lib.hid (by rw [HSN.out, addP_new (of_no HKP.out.symm)])
                    have HPN : Hid (PrOk d o (rowP d o ⟨xa, xb, xw⟩ l (L.take p) ++ [⟨ya, yb, xw ++ [y]⟩])) := Lib.hid (by
                      have h := HPO.out.add (x := ⟨ya, yb, xw ++ [y]⟩) (by rw [HNN.out]; exact HYY.out.1) (by rw [HMN.out]; exact HYY.out.2)
                      rwa [addP_new (of_no HKP.out.symm)] at h)
                    have hk1 : k + 1 ≤ F := by
                      have h := HPN.out.len
                      rw [List.length_append, HKL.out, HNN.out, HMN.out, HF0.out] at h
                      simpa using h
                    obtain ⟨bL', oL', uL', y', eL', hbL', cL', ⟨rfl, _, _⟩, HY'⟩ := (OwnI.atL HV2.out HLB.out HNA (by omega)).gt HNA hpl
                    injection eL' with eL'
                    injection eL' with eL1 eL2
                    subst eL1; subst eL2
                    obtain rfl : y = y' := Option.some.inj (HY.out.symm.trans HY'.out)
                    obtain ⟨us0, hus, hsrc⟩ := OwnI.src HW2.out (by rw [HXW.out]; have := HXQ.out; omega)
                    rw [HXW.out] at hsrc
                    subst hus
                    obtain ⟨v0, v1, v2, _, _, _⟩ := Blk.three HX2.out
                    have HS2 : Hid (wr.drew.cell? ⟨X, 2, none⟩ = some (.slice T q tc) ∧ wr.drew.cell? ⟨bL, oL + p, none⟩ = some (.int .i64 y)) := Lib.hid ⟨v2, cL'⟩
                    have HSRC := Lib.hid (show Src wr.drew T 1 q (xw.map (Value.int .i64)) from hsrc.keep (Keep.drew wr))
                    have SK2 : Hid (∀ (U V : World), Below U.heap.size U V → (U.cell? ⟨X, 2, none⟩ = some (.slice T q tc) ∧ U.cell? ⟨bL, oL + p, none⟩ = some (.int .i64 y)) → (V.cell? ⟨X, 2, none⟩ = some (.slice T q tc) ∧ V.cell? ⟨bL, oL + p, none⟩ = some (.int .i64 y))) := Lib.hid (by
                      intro U V hb
                      rintro ⟨h1, h2⟩
                      exact ⟨((Keep.of hb).cell _ _ (World.block_lt_of_cell? _ _ h1)).trans h1, ((Keep.of hb).cell _ _ (World.block_lt_of_cell? _ _ h2)).trans h2⟩)
                    have Q1 : Hid (q + 1 ≤ maxLen) := Lib.hid (by have := HXQ.out; simp only [maxLen]; omega)
                    have Q2 : Hid ((q + 1) * 8 ≤ 140737488355328) := Lib.hid (by have := HXQ.out; omega)
                    have Q5 : Hid (0 + q ≤ maxLen) := Lib.hid (by have := HXQ.out; simp only [maxLen]; omega)
                    have Q6 : Hid ((0 + q) * 8 ≤ 140737488355328) := Lib.hid (by have := HXQ.out; omega)
                    have Q3 : Hid (k + 1 ≤ maxLen) := Lib.hid (by simp only [maxLen]; omega)
                    have Q4 : Hid ((k + 1) * 40 ≤ 140737488355328) := Lib.hid (by omega)
                    have HPSb := Lib.hid (HPS3.out.below (Below.refl _ _).drew)
                    clear HPS3
                    have HPS3 := HPSb
                    have HVb := Lib.hid (OwnI.below HV2.out (Below.refl _ _).drew); have HWb := Lib.hid (OwnI.below HW2.out (Below.refl _ _).drew)
                    have HTb := Lib.hid (HT2.out.next (Below.refl _ _).drew); have HXb := Lib.hid (HX2.out.below (Below.refl _ _).drew HX2.out.lt)
                    have HYb := Lib.hid (HYB.out.below (Below.refl _ _).drew HYB.out.lt)
                    have hLl := hbL'
                    clear HV2 HW2 HT2 HX2 HYB
                    have HV2 := HVb; have HW2 := HWb; have HT2 := HTb; have HX2 := HXb; have HYB := HYb
                    clear HVb HWb HTb HXb HYb HPSb hsrc cL' HKP HSN HPSX HBD HDR
                    go_wp2
                    refine wp_region_T 8 (fun W => W.cell? ⟨X, 2, none⟩ = some (.slice T q tc) ∧ W.cell? ⟨bL, oL + p, none⟩ = some (.int .i64 y)) (by kernel_rfl) ?_
                    clear v0 v1 v2 hLl hbL'
                    generalize wr.drew = Wb at *
                    refine wpAnyT_takeC (i := 0) [8, 2, 1] (v := ?_) rfl (by kernel_rfl) (by kernel_rfl) (by kernel_rfl) (by kernel_rfl) (by kernel_rfl) (by kernel_rfl) (fun _ _ _ h => h) (.inl ⟨rfl, ?_⟩) HS2.out ?_
                    rotate_left
                    · intro W__ hW__
                      obtain ⟨h1, h2⟩ := hW__
                      go_simp
                      (try with_reducible rfl)
                    try simp only [Act.put]
                    refine wpAnyT_takeC (i := 1) [8, 2] (v := ?_) rfl (by kernel_rfl) (by kernel_rfl) (by kernel_rfl) (by kernel_rfl) (by kernel_rfl) (by kernel_rfl) (fun _ _ _ h => h) (.inl ⟨rfl, ?_⟩) HS2.out ?_
                    rotate_left
                    · intro W__ hW__
                      obtain ⟨h1, h2⟩ := hW__
                      go_simp
                      (try with_reducible rfl)
                    try simp only [Act.put]
                    refine wpAnyT_takeC (i := 3) [8, 7, 6, 5] (v := ?_) rfl (by kernel_rfl) (by kernel_rfl) (by kernel_rfl) (by kernel_rfl) (by kernel_rfl) (by kernel_rfl) (fun _ _ _ h => h) (.inl ⟨rfl, ?_⟩) HS2.out ?_
                    rotate_left
                    · intro W__ hW__
                      obtain ⟨h1, h2⟩ := hW__
                      go_simp
                      (try with_reducible rfl)
                    try simp only [Act.put]
                    refine wpAnyT_takeC (i := 4) [8, 7, 6, 5] (v := ?_) rfl (by kernel_rfl) (by kernel_rfl) (by kernel_rfl) (by kernel_rfl) (by kernel_rfl) (by kernel_rfl) (fun _ _ _ h => h) (.inl ⟨rfl, ?_⟩) HS2.out ?_
                    rotate_left
                    · intro W__ hW__
                      obtain ⟨h1, h2⟩ := hW__
                      go_simp
                      (try with_reducible rfl)
                    try simp only [Act.put]
                    refine wpAnyT_takeC (i := 5) [8, 7, 6] (v := ?_) rfl (by kernel_rfl) (by kernel_rfl) (by kernel_rfl) (by kernel_rfl) (by kernel_rfl) (by kernel_rfl) (fun _ _ _ h => h) (.inl ⟨rfl, ?_⟩) HS2.out ?_
                    rotate_left
                    · intro W__ hW__
                      obtain ⟨h1, h2⟩ := hW__
                      go_simp
                      (try with_reducible rfl)
                    try simp only [Act.put]
                    refine wpAnyT_takeC (i := 6) [8, 7] (v := ?_) rfl (by kernel_rfl) (by kernel_rfl) (by kernel_rfl) (by kernel_rfl) (by kernel_rfl) (by kernel_rfl) (fun _ _ _ h => h) (.inl ⟨rfl, ?_⟩) HS2.out ?_
                    rotate_left
                    · intro W__ hW__
                      obtain ⟨h1, h2⟩ := hW__
                      go_simp
                      (try with_reducible rfl)
                    try simp only [Act.put]
                    refine wpAnyT_two (i := 2) (j := 7) rfl rfl (by kernel_rfl) rfl rfl (fun K__ hK__ => ?_) (fun K__ hK__ => ?_)
                    · refine wp_append_src _ (.const (.slice none 0 0)) (.tmp 99) 22 rfl Wb.heap.size TLI i0 (.int .i64 0) 1 8 Try.underlying22 hi0 hz0 hs0 hb0 rfl (by decide) none 0 0 [] (by simp [Act.eval]) (World.ownsRow_nil _ _ _ _) T q tc _ (by simp [Act.eval]) HSRC.out Q5.out Q6.out (Nat.le_refl _) ?_
                      intro A9 c9 w10 own9 gr9 _
                      simp only [Nat.zero_add, List.nil_append] at own9
                      have B9 := (Below.refl Wb.heap.size Wb).grown gr9 (Nat.le_refl _) (fun g hg => by cases hg)
                      have HS9 := Lib.hid (SK2.out _ _ B9 HS2.out)
                      refine hK__ _ _ HS9.out ?_
                      clear hK__
                      try simp only [Act.put]
                      refine wpAnyT_one (i := 7) rfl (by kernel_rfl) rfl fun K__ hK__ => ?_
                      unfold Oper.wp
                      go_simp
                      have ba := (Below.refl w10.heap.size w10).alloc (Nat.le_refl _) (.cells #[.int .i64 y] TLI)
                      refine hK__ _ _ (SK2.out _ _ ba HS9.out) ?_
                      clear hK__
                      try simp only [Act.put]
                      have OW9 := own9.alloc (.cells #[.int .i64 y] TLI)
                      have SR9 := Src.one (w := w10) (x := .int .i64 y) (t := TLI) rfl
                      have B10 := B9.alloc B9.size (.cells #[.int .i64 y] TLI)
                      refine wpAnyT_end (i := 8) rfl (by kernel_rfl) rfl (by kernel_rfl) fun K__ hK__ => ?_
                      refine wp_append_src _ (.tmp 100) (.tmp 105) 22 rfl Wb.heap.size TLI i0 (.int .i64 0) 1 8 Try.underlying22 hi0 hz0 hs0 hb0 rfl (by decide) A9 c9 q _ (by simp [Act.eval]) OW9 _ 1 1 _ (by simp [Act.eval]) SR9 Q1.out Q2.out B10.size ?_
                      intro A10 c10 w12 own10 gr10 _
                      have B12 := Lib.hid (B10.grown gr10 B10.size (fun g hg => (OW9.lt g hg).1))
                      have OWW := Lib.hid own10
                      clear own9 gr9 B9 HS9 ba OW9 SR9 B10
                      have hYb := HYB.out.below B12.out HYB.out.lt
                      obtain ⟨t0, t1, t2, f0, f1, f2⟩ := Blk.three hYb
                      have HY3 := Lib.hid (hYb.set 2 (.slice A10 (q + 1) c10))
                      have HP3 := Lib.hid (Ps.put (i := 2) (HPS3.out.below B12.out) hYb HQY.out (.slice A10 (q + 1) c10))
                      have HV3 := Lib.hid (OwnI.far (i := 2) (u := .slice A10 (q + 1) c10) (OwnI.below HV2.out B12.out) hYb (by decide))
                      have HW3 := Lib.hid (OwnI.far (i := 2) (u := .slice A10 (q + 1) c10) (OwnI.below HW2.out B12.out) hYb (by decide))
                      have HT3 := Lib.hid (Two.far (i := 2) (u := .slice A10 (q + 1) c10) (HT2.out.next B12.out) hYb (by decide) (by omega))
                      have HX3 := Lib.hid ((HX2.out.below B12.out HX2.out.lt).far (p := ⟨Y, 2, none⟩) (by simp; omega) (.slice A10 (q + 1) c10))
                      have HN3 : Hid (OwnI (w12.setCell ⟨Y, 2, none⟩ (.slice A10 (q + 1) c10)) w.heap.size (.slice A10 (q + 1) c10) (xw ++ [y])) := Lib.hid (OwnI.far (OwnI.lower (b := Wb.heap.size) ⟨A10, c10, by rw [List.length_append, HXW.out]; rfl, by rw [List.length_append, HXW.out, List.map_append]; exact OWW.out⟩ HT2.out.be.size) hYb (by decide))
                      refine hK__ _ _ ?_
                      clear hK__ own10 gr10 hYb
                      simp only [Act.put]
                      refine wpAnyT_end (i := 9) rfl (by kernel_rfl) rfl (by kernel_rfl) fun K__ hK__ => ?_
                      unfold Oper.wp
                      go_simp
                      refine hK__ _ _ ?_
                      clear hK__
                      refine wpAnyT_end (i := 10) rfl (by kernel_rfl) rfl (by kernel_rfl) fun K__ hK__ => ?_
                      unfold Oper.wp
                      go_simp
                      refine hK__ _ _ ?_
                      clear hK__
                      refine wpAnyT_done (by kernel_rfl) ?_ _
                      clear t0 t1 t2 f0 f1 f2
                      generalize w12.setCell ⟨Y, 2, none⟩ (.slice A10 (q + 1) c10) = W3 at *
                      obtain ⟨Qx, qx, us, eqv, owq, relq⟩ := HP3.out
                      rw [HKL.out] at eqv owq
                      injection eqv with eq1 _ eq3
                      subst eq1; subst eq3
                      obtain ⟨u0, u1, u2, _, _, _⟩ := Blk.three HY3.out
                      have hYl := HY3.out.lt
                      have OWQ := Lib.hid owq; have RLQ := Lib.hid relq
                      have OWA := Lib.hid (owq.alloc (.cells #[.int .i64 ya, .int .i64 yb, .slice A10 (q + 1) c10] TPair))
                      have SRA := Lib.hid (Src.many (w := W3) (arr := #[.int .i64 ya, .int .i64 yb, .slice A10 (q + 1) c10]) (t := TPair) (size := 3) (by simp [Value.oneCell']) rfl)
                      have BA3 := Lib.hid ((Below.refl W3.heap.size W3).alloc (Nat.le_refl _) (.cells #[.int .i64 ya, .int .i64 yb, .slice A10 (q + 1) c10] TPair))
                      have HTA := Lib.hid (HT3.out.next BA3.out)
                      have Z9 : Hid (w.heap.size ≤ (W3.alloc (.cells #[.int .i64 ya, .int .i64 yb, .slice A10 (q + 1) c10] TPair)).heap.size) := Lib.hid HTA.out.be.size
                      have HVA := Lib.hid (OwnI.below HV3.out BA3.out); have HWA := Lib.hid (OwnI.below HW3.out BA3.out)
                      have HXA3 := Lib.hid (HX3.out.below BA3.out HX3.out.lt)
                      clear owq relq
                      go_wp2_with (first
                      | (at_builtin
                         go_must (refine wpList_append_src _ rfl (.tmp 108) (.tmp 110) 202 rfl w.heap.size TPair i9 (.agg #[.int .i64 0, .int .i64 0, .slice none 0 0]) 3 40 Try.underlying202 hi9 hz9 hs9 hb9 rfl (by decide) Q qc k _ rfl OWA.out _ 1 1 _ rfl SRA.out Q3.out Q4.out Z9.out ?_)
                         intro A13 c13 w13 own13 gr13 hn13
                         have HP13 := Lib.hid (Ps.push (x := ⟨ya, yb, xw ++ [y]⟩) OWQ.out RLQ.out HKL HN3.out own13 gr13)
                         have HV13 := Lib.hid (OwnI.keepQ HVA.out OWA.out (by decide) gr13); have HW13 := Lib.hid (OwnI.keepQ HWA.out OWA.out (by decide) gr13)
                         have HT13 := Lib.hid (HTA.out.grown OWA.out (by decide) gr13 (Nat.le_refl _))
                         have HX13 := Lib.hid (HXA3.out.grown gr13 (fun e => HNE.out e.symm))
                         have HN13 : Hid ((Value.slice A13 (k + 1) c13).ownBlock ≠ some X) := Lib.hid (by
                           rcases hn13 with e | e
                           · rw [e]; exact HNE.out
                           · rw [e]; have := HX3.out.lt; simp; omega)
                         clear own13 gr13 hn13))
                      go_roundw
                      case rel => exact ⟨p + 1, k + 1, c13, A13, by go_num, rfl, by omega, by omega, hk1, Lib.hid (by rw [HRN.out, List.length_append, HKL.out]; rfl), Lib.hid (by rw [HRN.out]; exact HPN.out), Lib.hid (by rw [HRN.out]; exact HP13.out), HN13, HV13, HT13, HW13, HX13⟩
                      case measure => simp [intOf]; omega
                    · unfold Oper.wp
                      go_simp
                      have ba := (Below.refl Wb.heap.size Wb).alloc (Nat.le_refl _) (.cells #[.int .i64 y] TLI)
                      have HS9 := Lib.hid (SK2.out _ _ ba HS2.out)
                      refine hK__ _ _ HS9.out ?_
                      clear hK__
                      try simp only [Act.put]
                      have SRa := Src.one (w := Wb) (x := .int .i64 y) (t := TLI) rfl
                      have SWa := HSRC.out.keep (Keep.of ba)
                      refine wpAnyT_one (i := 2) rfl (by kernel_rfl) rfl fun K__ hK__ => ?_
                      refine wp_append_src _ (.const (.slice none 0 0)) (.tmp 99) 22 rfl Wb.heap.size TLI i0 (.int .i64 0) 1 8 Try.underlying22 hi0 hz0 hs0 hb0 rfl (by decide) none 0 0 [] (by simp [Act.eval]) (World.ownsRow_nil _ _ _ _) T q tc _ (by simp [Act.eval]) SWa Q5.out Q6.out ba.size ?_
                      intro A9 c9 w10 own9 gr9 _
                      simp only [Nat.zero_add, List.nil_append] at own9
                      have b9 := (Below.refl (Wb.alloc (.cells #[.int .i64 y] TLI)).heap.size (Wb.alloc (.cells #[.int .i64 y] TLI))).grown gr9 (Nat.le_refl _) (fun g hg => by cases hg)
                      have B9 := ba.trans (b9.mono ba.size)
                      refine hK__ _ _ (SK2.out _ _ b9 HS9.out) ?_
                      clear hK__
                      try simp only [Act.put]
                      have SR9 := SRa.keep (Keep.of b9)
                      refine wpAnyT_end (i := 8) rfl (by kernel_rfl) rfl (by kernel_rfl) fun K__ hK__ => ?_
                      refine wp_append_src _ (.tmp 100) (.tmp 105) 22 rfl Wb.heap.size TLI i0 (.int .i64 0) 1 8 Try.underlying22 hi0 hz0 hs0 hb0 rfl (by decide) A9 c9 q _ (by simp [Act.eval]) own9 _ 1 1 _ (by simp [Act.eval]) SR9 Q1.out Q2.out B9.size ?_
                      intro A10 c10 w12 own10 gr10 _
                      have B12 := Lib.hid (B9.grown gr10 B9.size (fun g hg => (own9.lt g hg).1))
                      have OWW := Lib.hid own10
                      clear own9 gr9 B9 HS9 ba SRa SWa b9 SR9
                      have hYb := HYB.out.below B12.out HYB.out.lt
                      obtain ⟨t0, t1, t2, f0, f1, f2⟩ := Blk.three hYb
                      have HY3 := Lib.hid (hYb.set 2 (.slice A10 (q + 1) c10))
                      have HP3 := Lib.hid (Ps.put (i := 2) (HPS3.out.below B12.out) hYb HQY.out (.slice A10 (q + 1) c10))
                      have HV3 := Lib.hid (OwnI.far (i := 2) (u := .slice A10 (q + 1) c10) (OwnI.below HV2.out B12.out) hYb (by decide))
                      have HW3 := Lib.hid (OwnI.far (i := 2) (u := .slice A10 (q + 1) c10) (OwnI.below HW2.out B12.out) hYb (by decide))
                      have HT3 := Lib.hid (Two.far (i := 2) (u := .slice A10 (q + 1) c10) (HT2.out.next B12.out) hYb (by decide) (by omega))
                      have HX3 := Lib.hid ((HX2.out.below B12.out HX2.out.lt).far (p := ⟨Y, 2, none⟩) (by simp; omega) (.slice A10 (q + 1) c10))
                      have HN3 : Hid (OwnI (w12.setCell ⟨Y, 2, none⟩ (.slice A10 (q + 1) c10)) w.heap.size (.slice A10 (q + 1) c10) (xw ++ [y])) := Lib.hid (OwnI.far (OwnI.lower (b := Wb.heap.size) ⟨A10, c10, by rw [List.length_append, HXW.out]; rfl, by rw [List.length_append, HXW.out, List.map_append]; exact OWW.out⟩ HT2.out.be.size) hYb (by decide))
                      refine hK__ _ _ ?_
                      clear hK__ own10 gr10 hYb
                      simp only [Act.put]
                      refine wpAnyT_end (i := 9) rfl (by kernel_rfl) rfl (by kernel_rfl) fun K__ hK__ => ?_
                      unfold Oper.wp
                      go_simp
                      refine hK__ _ _ ?_
                      clear hK__
                      refine wpAnyT_end (i := 10) rfl (by kernel_rfl) rfl (by kernel_rfl) fun K__ hK__ => ?_
                      unfold Oper.wp
                      go_simp
                      refine hK__ _ _ ?_
                      clear hK__
                      refine wpAnyT_done (by kernel_rfl) ?_ _
                      clear t0 t1 t2 f0 f1 f2
                      generalize w12.setCell ⟨Y, 2, none⟩ (.slice A10 (q + 1) c10) = W3 at *
                      obtain ⟨Qx, qx, us, eqv, owq, relq⟩ := HP3.out
                      rw [HKL.out] at eqv owq
                      injection eqv with eq1 _ eq3
                      subst eq1; subst eq3
                      obtain ⟨u0, u1, u2, _, _, _⟩ := Blk.three HY3.out
                      have hYl := HY3.out.lt
                      have OWQ := Lib.hid owq; have RLQ := Lib.hid relq
                      have OWA := Lib.hid (owq.alloc (.cells #[.int .i64 ya, .int .i64 yb, .slice A10 (q + 1) c10] TPair))
                      have SRA := Lib.hid (Src.many (w := W3) (arr := #[.int .i64 ya, .int .i64 yb, .slice A10 (q + 1) c10]) (t := TPair) (size := 3) (by simp [Value.oneCell']) rfl)
                      have BA3 := Lib.hid ((Below.refl W3.heap.size W3).alloc (Nat.le_refl _) (.cells #[.int .i64 ya, .int .i64 yb, .slice A10 (q + 1) c10] TPair))
                      have HTA := Lib.hid (HT3.out.next BA3.out)
                      have Z9 : Hid (w.heap.size ≤ (W3.alloc (.cells #[.int .i64 ya, .int .i64 yb, .slice A10 (q + 1) c10] TPair)).heap.size) := Lib.hid HTA.out.be.size
                      have HVA := Lib.hid (OwnI.below HV3.out BA3.out); have HWA := Lib.hid (OwnI.below HW3.out BA3.out)
                      have HXA3 := Lib.hid (HX3.out.below BA3.out HX3.out.lt)
                      clear owq relq
                      go_wp2_with (first
                      | (at_builtin
                         go_must (refine wpList_append_src _ rfl (.tmp 108) (.tmp 110) 202 rfl w.heap.size TPair i9 (.agg #[.int .i64 0, .int .i64 0, .slice none 0 0]) 3 40 Try.underlying202 hi9 hz9 hs9 hb9 rfl (by decide) Q qc k _ rfl OWA.out _ 1 1 _ rfl SRA.out Q3.out Q4.out Z9.out ?_)
                         intro A13 c13 w13 own13 gr13 hn13
                         have HP13 := Lib.hid (Ps.push (x := ⟨ya, yb, xw ++ [y]⟩) OWQ.out RLQ.out HKL HN3.out own13 gr13)
                         have HV13 := Lib.hid (OwnI.keepQ HVA.out OWA.out (by decide) gr13); have HW13 := Lib.hid (OwnI.keepQ HWA.out OWA.out (by decide) gr13)
                         have HT13 := Lib.hid (HTA.out.grown OWA.out (by decide) gr13 (Nat.le_refl _))
                         have HX13 := Lib.hid (HXA3.out.grown gr13 (fun e => HNE.out e.symm))
                         have HN13 : Hid ((Value.slice A13 (k + 1) c13).ownBlock ≠ some X) := Lib.hid (by
                           rcases hn13 with e | e
                           · rw [e]; exact HNE.out
                           · rw [e]; have := HX3.out.lt; simp; omega)
                         clear own13 gr13 hn13))
                      go_roundw
                      case rel => exact ⟨p + 1, k + 1, c13, A13, by go_num, rfl, by omega, by omega, hk1, Lib.hid (by rw [HRN.out, List.length_append, HKL.out]; rfl), Lib.hid (by rw [HRN.out]; exact HPN.out), Lib.hid (by rw [HRN.out]; exact HP13.out), HN13, HV13, HT13, HW13, HX13⟩
                      case measure => simp [intOf]; omega

          · unfold Oper.wp
            go_simp
            have ba := (Below.refl wr.drew.heap.size wr.drew).alloc (Nat.le_refl _) (.cells #[.int .i64 0, .int .i64 0, .slice none 0 0] TPair)
            have HS5 := Lib.hid (SK.out _ _ ba HS.out)
            have HB5 := Lib.hid (HB0.out.trans (ba.mono HB0.out.size))
            have BY0 := Lib.hid (show Blk (wr.drew.alloc (.cells #[.int .i64 0, .int .i64 0, .slice none 0 0] TPair)) wr.heap.size TPair #[.int .i64 0, .int .i64 0, .slice none 0 0] from Blk.new wr.drew TPair #[.int .i64 0, .int .i64 0, .slice none 0 0])
            have hYW : wr.heap.size ≤ wr.heap.size := Nat.le_refl _
            refine hK__ _ _ HS5.out ?_
            clear hK__ ba
            try simp only [Act.put]
            refine wpAnyT_one (i := 8) rfl (by kernel_rfl) rfl fun K__ hK__ => ?_
            unfold Oper.wp
            go_simp
            refine (HCA.out _ HB5.out).mono ?_
            rintro e w6 ⟨rfl, hbx⟩
            have HB6 := Lib.hid (HB5.out.trans (hbx.mono HB5.out.size))
            have HS6 := Lib.hid (SK.out _ _ hbx HS5.out)
            have BY1 := Lib.hid (BY0.out.below hbx BY0.out.lt)
            clear BY0
            have BY0 := BY1
            refine hK__ _ _ HS6.out ?_
            clear hK__ hbx
            try simp only [Act.put]
            refine wpAnyT_one (i := 17) rfl (by kernel_rfl) rfl fun K__ hK__ => ?_
            unfold Oper.wp
            go_simp
            refine (HCB.out _ HB6.out).mono ?_
            rintro e w7 ⟨rfl, hbx⟩
            have HB7 := Lib.hid (HB6.out.trans (hbx.mono HB6.out.size))
            have HS7 := Lib.hid (SK.out _ _ hbx HS6.out)
            have BY2 := Lib.hid (BY0.out.below hbx BY0.out.lt)
            clear BY0
            have BY0 := BY2
            refine hK__ _ _ HS7.out ?_
            clear hK__ hbx
            try simp only [Act.put]
            refine wpAnyT_take (i := 18) (v := ?_) rfl (by kernel_rfl) (by kernel_rfl) (by kernel_rfl) (by kernel_rfl) (by kernel_rfl) (fun _ _ _ h => h) (.inl ⟨rfl, ?_⟩) HS7.out ?_
            rotate_left
            · intro W__ hW__
              obtain ⟨⟨h1, h2, h3⟩, ⟨h4, h5, h6⟩, h7, h8⟩ := hW__
              go_simp
              (try with_reducible rfl)
            try simp only [Act.put]
            obtain ⟨t0, t1, t2, f0, f1, f2⟩ := Blk.three BY0.out
            refine wpAnyT_end (i := 20) rfl (by kernel_rfl) rfl (by kernel_rfl) fun K__ hK__ => ?_
            unfold Oper.wp
            go_simp
            refine hK__ _ _ ?_
            clear hK__
            refine wpAnyT_done (by kernel_rfl) ?_ _
            clear t0 t1 t2 f0 f1 f2
            have HF : Hid (wr.heap.size ≤ wr.heap.size ∧ Below wr.heap.size wr (((w7.setCell ⟨wr.heap.size, 0, none⟩ (.int .i64 ya)).setCell ⟨wr.heap.size, 1, none⟩ (.int .i64 yb)).setCell ⟨wr.heap.size, 2, none⟩ (.slice none 0 0)) ∧ Blk (((w7.setCell ⟨wr.heap.size, 0, none⟩ (.int .i64 ya)).setCell ⟨wr.heap.size, 1, none⟩ (.int .i64 yb)).setCell ⟨wr.heap.size, 2, none⟩ (.slice none 0 0)) wr.heap.size TPair #[.int .i64 ya, .int .i64 yb, .slice none 0 0]) := Lib.hid
              ⟨hYW, below3 HB7.out hYW, Blk.set3 BY0.out⟩
            clear BY0 hYW
            generalize ((w7.setCell ⟨wr.heap.size, 0, none⟩ (.int .i64 ya)).setCell ⟨wr.heap.size, 1, none⟩ (.int .i64 yb)).setCell ⟨wr.heap.size, 2, none⟩ (.slice none 0 0) = W9 at *
            generalize hY : wr.heap.size = Y
            have HF1 : Hid (wr.heap.size ≤ Y ∧ Below wr.heap.size wr W9 ∧ Blk W9 Y TPair #[.int .i64 ya, .int .i64 yb, .slice none 0 0]) := Lib.hid ⟨by omega, HF.out.2.1, by rw [← hY]; exact HF.out.2.2⟩
            clear HF hY
            have HF := HF1
            clear HB5 HB6 HS5 HS6 HS7 HB7
            have HT9 := Lib.hid (HT.out.next HF.out.2.1)
            have HPS9 := Lib.hid (HPS.out.below HF.out.2.1)
            have HV9 := Lib.hid (OwnI.below HV.out HF.out.2.1); have HW9 := Lib.hid (OwnI.below HWD.out HF.out.2.1)
            have HX9 := Lib.hid (HXB.out.below HF.out.2.1 HXB.out.lt)
            have HYB9 := Lib.hid HF.out.2.2
            have hXY : X < Y := by have := HXB.out.lt; have := HF.out.1; omega
            have HQY : Hid ((Value.slice Q k qc).ownBlock ≠ some Y) := Lib.hid (fun e => by have := (HPS.out.lt e).2; have := HF.out.1; omega)
            have HD0 : Hid (Drawn W9 W9) := Lib.hid (Drawn.refl _)
            have HK0 : Hid (false = yes (∃ (z : Nat) (x : Pr), z < 0 ∧ (rowP d o ⟨xa, xb, xw⟩ l (L.take p))[z]? = some x ∧ x.a = ya ∧ x.b = yb)) := Lib.hid (yes_f (fun ⟨z, x, h, _⟩ => by omega)).symm
            clear HS HCA HCB HB0 SK HPS HV HWD HXB HT
            go_wp2
            go_loopw [13, 12] (fun jv kv W => ∃ (j : Nat) (kb : Bool), jv = .int .i64 j ∧ kv = .bool kb ∧ j ≤ k ∧ Hid (kb = yes (∃ (z : Nat) (x : Pr), z < j ∧ (rowP d o ⟨xa, xb, xw⟩ l (L.take p))[z]? = some x ∧ x.a = ya ∧ x.b = yb)) ∧ Hid (Drawn W9 W)) (fun jv _ _ => k - (intOf jv).toNat)
            case atStart => exact ⟨0, false, rfl, rfl, by omega, HK0, HD0⟩
            case round =>
              clear HK0 HD0
              obtain ⟨j, kb, rfl, rfl, hj, HKB, HDR⟩ := hrel
              have j1 : (0 : Int) ≤ (j : Int) := by omega
              have HBD : Hid (Below W9.heap.size W9 wr) := Lib.hid (by obtain ⟨nd, e⟩ := HDR.out; rw [e]; exact below_drewN (Below.refl _ _) nd)
              have HPSX := Lib.hid (HPS9.out.below HBD.out)
              have HYB := Lib.hid (HYB9.out.below HBD.out HYB9.out.lt)
              by_cases hjk : j < k
              · have j2 : (j : Int) < (k : Int) := by omega
                obtain ⟨bz, oz, za, zb, T2, q2', tc2, zw, eQ, hbz, ⟨z0, z1, z2⟩, _, _, HZ, _⟩ := HPSX.out.gt HKL (by omega) hjk
                subst eQ
                obtain ⟨v0, v1, v2, _, _, _⟩ := Blk.three HYB.out
                have HDN := Lib.hid (fun q : Nat => HDR.out.drewN q)
                have hlY := HYB.out.lt
                have HNEXT : Hid (yes (∃ (z : Nat) (x : Pr), z < j + 1 ∧ (rowP d o ⟨xa, xb, xw⟩ l (L.take p))[z]? = some x ∧ x.a = ya ∧ x.b = yb) = (kb || (decide (za = ya) && decide (zb = yb)))) := Lib.hid (by
                  rw [HKB.out]
                  by_cases e : ∃ (z : Nat) (x : Pr), z < j ∧ (rowP d o ⟨xa, xb, xw⟩ l (L.take p))[z]? = some x ∧ x.a = ya ∧ x.b = yb
                  · rw [yes_t e]
                    obtain ⟨z, x, h1, h2⟩ := e
                    rw [yes_t ⟨z, x, by omega, h2⟩]; rfl
                  · rw [yes_f e, Bool.false_or]
                    by_cases e2 : za = ya ∧ zb = yb
                    · rw [yes_t ⟨j, _, Nat.lt_succ_self j, HZ.out, e2.1, e2.2⟩]; simp [e2]
                    · rw [yes_f]
                      · by_cases e3 : za = ya
                        · have : ¬ zb = yb := fun h => e2 ⟨e3, h⟩
                          simp [this]
                        · simp [e3]
                      · rintro ⟨z, x, h1, h2, h3, h4⟩
                        by_cases ez : z = j
                        · subst ez
                          rw [HZ.out] at h2
                          obtain rfl := Option.some.inj h2
                          exact e2 ⟨h3, h4⟩
                        · exact e ⟨z, x, by omega, h2, h3, h4⟩)
                clear z2 v2
                cases kb
                case true =>
                  go_wp2
                  go_quiet (fail)
                  go_wp2
                  go_roundw
                  case rel => exact ⟨j + 1, true, by go_num, rfl, by omega, Lib.hid (by rw [HNEXT.out]; rfl), Lib.hid (HDN.out _)⟩
                  case measure => simp [intOf]; omega
                case false =>
                  by_cases ea : za = ya
                  · subst ea
                    have ga : ((za : Int) == (za : Int)) = true := by simp
                    by_cases eb : zb = yb
                    · subst eb
                      go_wp2
                      go_quiet (fail)
                      go_wp2
                      go_roundw
                      case rel => exact ⟨j + 1, true, by go_num, rfl, by omega, Lib.hid (by rw [HNEXT.out]; simp), Lib.hid (HDN.out _)⟩
                      case measure => simp [intOf]; omega
                    · have gb : ((zb : Int) == (yb : Int)) = false := by simp; omega
                      have HEB := Lib.hid eb
                      clear eb
                      go_wp2
                      go_quiet (fail)
                      go_wp2
                      go_roundw
                      case rel => exact ⟨j + 1, false, by go_num, rfl, by omega, Lib.hid (by rw [HNEXT.out]; simp [HEB.out]), Lib.hid (HDN.out _)⟩
                      case measure => simp [intOf]; omega
                  · have ga : ((za : Int) == (ya : Int)) = false := by simp; omega
                    have HEA := Lib.hid ea
                    clear ea
                    go_wp2
                    go_quiet (fail)
                    go_wp2
                    go_roundw
                    case rel => exact ⟨j + 1, false, by go_num, rfl, by omega, Lib.hid (by rw [HNEXT.out]; simp [HEA.out]), Lib.hid (HDN.out _)⟩
                    case measure => simp [intOf]; omega
              · have hjj : ¬ (j : Int) < (k : Int) := by omega
                have HKP : Hid (kb = yes (knownP (rowP d o ⟨xa, xb, xw⟩ l (L.take p)) ya yb)) := Lib.hid (by
                  rw [HKB.out]
                  congr 1
                  refine propext ⟨fun ⟨z, x, _, h2, h3, h4⟩ => ⟨x, mem_of_get h2, h3, h4⟩, fun ⟨x, h1, h3, h4⟩ => ?_⟩
                  obtain ⟨z, hz⟩ := List.getElem?_of_mem h1
                  exact ⟨z, x, by have := lt_of_get hz; rw [HKL.out] at this; omega, hz, h3, h4⟩)
                have HSN : Hid (rowP d o ⟨xa, xb, xw⟩ l (L.take (p + 1)) = addP (rowP d o ⟨xa, xb, xw⟩ l (L.take p)) ⟨ya, yb, xw ++ [y]⟩) := Lib.hid (by
                  rw [take_snoc HY.out, rowP_snoc]
                  show addP _ (nextP d o ⟨xa, xb, xw⟩ y) = _
                  unfold nextP
                  rw [← hya, ← hyb])
                have HYY := Lib.hid (show ya < n ∧ yb < m from ⟨by rw [← hya, ← HNN.out]; exact step_lt HOK.out (by rw [HNN.out]; exact hxa) y, by rw [← hyb, ← HMN.out]; exact step_lt HOO.out (by rw [HMN.out]; exact hxb) y⟩)
                have HV2 := Lib.hid (OwnI.below HV9.out HBD.out); have HW2 := Lib.hid (OwnI.below HW9.out HBD.out)
                have HT2 := Lib.hid (HT9.out.next HBD.out); have HX2 := Lib.hid (HX9.out.below HBD.out HX9.out.lt)
                have HPS3 := Lib.hid HPSX.out
                cases kb
                case true =>
                  have HRN : Hid (rowP d o ⟨xa, xb, xw⟩ l (L.take (p + 1)) = rowP d o ⟨xa, xb, xw⟩ l (L.take p)) := Lib.hid (by rw [HSN.out, addP_in (of_yes HKP.out.symm)])
                  go_wp2
                  go_roundw
                  case rel => exact ⟨p + 1, k, qc, Q, by go_num, rfl, by omega, hik, hkF, Lib.hid (by rw [HRN.out]; exact HKL.out), Lib.hid (by rw [HRN.out]; exact HPO.out), Lib.hid (by rw [HRN.out]; exact HPS3.out), HNE, HV2, HT2, HW2, HX2⟩
                  case measure => simp [intOf]; omega
                case false =>
                  have HRN : Hid (rowP d o ⟨xa, xb, xw⟩ l (L.take (p + 1)) = rowP d o ⟨xa, xb, xw⟩ l (L.take p) ++ [⟨ya, yb, xw ++ [y]⟩]) := Lib.hid (by rw [HSN.out, addP_new (of_no HKP.out.symm)])
                  have HPN : Hid (PrOk d o (rowP d o ⟨xa, xb, xw⟩ l (L.take p) ++ [⟨ya, yb, xw ++ [y]⟩])) := Lib.hid (by
                    have h := HPO.out.add (x := ⟨ya, yb, xw ++ [y]⟩) (by rw [HNN.out]; exact HYY.out.1) (by rw [HMN.out]; exact HYY.out.2)
                    rwa [addP_new (of_no HKP.out.symm)] at h)
                  have hk1 : k + 1 ≤ F := by
                    have h := HPN.out.len
                    rw [List.length_append, HKL.out, HNN.out, HMN.out, HF0.out] at h
                    simpa using h
                  obtain ⟨bL', oL', uL', y', eL', hbL', cL', ⟨rfl, _, _⟩, HY'⟩ := (OwnI.atL HV2.out HLB.out HNA (by omega)).gt HNA hpl
                  injection eL' with eL'
                  injection eL' with eL1 eL2
                  subst eL1; subst eL2
                  obtain rfl : y = y' := Option.some.inj (HY.out.symm.trans HY'.out)
                  obtain ⟨us0, hus, hsrc⟩ := OwnI.src HW2.out (by rw [HXW.out]; have := HXQ.out; omega)
                  rw [HXW.out] at hsrc
                  subst hus
                  obtain ⟨v0, v1, v2, _, _, _⟩ := Blk.three HX2.out
                  have HS2 : Hid (wr.drew.cell? ⟨X, 2, none⟩ = some (.slice T q tc) ∧ wr.drew.cell? ⟨bL, oL + p, none⟩ = some (.int .i64 y)) := Lib.hid ⟨v2, cL'⟩
                  have HSRC := Lib.hid (show Src wr.drew T 1 q (xw.map (Value.int .i64)) from hsrc.keep (Keep.drew wr))
                  have SK2 : Hid (∀ (U V : World), Below U.heap.size U V → (U.cell? ⟨X, 2, none⟩ = some (.slice T q tc) ∧ U.cell? ⟨bL, oL + p, none⟩ = some (.int .i64 y)) → (V.cell? ⟨X, 2, none⟩ = some (.slice T q tc) ∧ V.cell? ⟨bL, oL + p, none⟩ = some (.int .i64 y))) := Lib.hid (by
                    intro U V hb
                    rintro ⟨h1, h2⟩
                    exact ⟨((Keep.of hb).cell _ _ (World.block_lt_of_cell? _ _ h1)).trans h1, ((Keep.of hb).cell _ _ (World.block_lt_of_cell? _ _ h2)).trans h2⟩)
                  have Q1 : Hid (q + 1 ≤ maxLen) := Lib.hid (by have := HXQ.out; simp only [maxLen]; omega)
                  have Q2 : Hid ((q + 1) * 8 ≤ 140737488355328) := Lib.hid (by have := HXQ.out; omega)
                  have Q5 : Hid (0 + q ≤ maxLen) := Lib.hid (by have := HXQ.out; simp only [maxLen]; omega)
                  have Q6 : Hid ((0 + q) * 8 ≤ 140737488355328) := Lib.hid (by have := HXQ.out; omega)
                  have Q3 : Hid (k + 1 ≤ maxLen) := Lib.hid (by simp only [maxLen]; omega)
                  have Q4 : Hid ((k + 1) * 40 ≤ 140737488355328) := Lib.hid (by omega)
                  have HPSb := Lib.hid (HPS3.out.below (Below.refl _ _).drew)
                  clear HPS3
                  have HPS3 := HPSb
                  have HVb := Lib.hid (OwnI.below HV2.out (Below.refl _ _).drew); have HWb := Lib.hid (OwnI.below HW2.out (Below.refl _ _).drew)
                  have HTb := Lib.hid (HT2.out.next (Below.refl _ _).drew); have HXb := Lib.hid (HX2.out.below (Below.refl _ _).drew HX2.out.lt)
                  have HYb := Lib.hid (HYB.out.below (Below.refl _ _).drew HYB.out.lt)
                  have hLl := hbL'
                  clear HV2 HW2 HT2 HX2 HYB
                  have HV2 := HVb; have HW2 := HWb; have HT2 := HTb; have HX2 := HXb; have HYB := HYb
                  clear HVb HWb HTb HXb HYb HPSb hsrc cL' HKP HSN HPSX HBD HDR
                  go_wp2
                  refine wp_region_T 8 (fun W => W.cell? ⟨X, 2, none⟩ = some (.slice T q tc) ∧ W.cell? ⟨bL, oL + p, none⟩ = some (.int .i64 y)) (by kernel_rfl) ?_
                  clear v0 v1 v2 hLl hbL'
                  generalize wr.drew = Wb at *
                  refine wpAnyT_takeC (i := 0) [8, 2, 1] (v := ?_) rfl (by kernel_rfl) (by kernel_rfl) (by kernel_rfl) (by kernel_rfl) (by kernel_rfl) (by kernel_rfl) (fun _ _ _ h => h) (.inl ⟨rfl, ?_⟩) HS2.out ?_
                  rotate_left
                  · intro W__ hW__
                    obtain ⟨h1, h2⟩ := hW__
                    go_simp
                    (try with_reducible rfl)
                  try simp only [Act.put]
                  refine wpAnyT_takeC (i := 1) [8, 2] (v := ?_) rfl (by kernel_rfl) (by kernel_rfl) (by kernel_rfl) (by kernel_rfl) (by kernel_rfl) (by kernel_rfl) (fun _ _ _ h => h) (.inl ⟨rfl, ?_⟩) HS2.out ?_
                  rotate_left
                  · intro W__ hW__
                    obtain ⟨h1, h2⟩ := hW__
                    go_simp
                    (try with_reducible rfl)
                  try simp only [Act.put]
                  refine wpAnyT_takeC (i := 3) [8, 7, 6, 5] (v := ?_) rfl (by kernel_rfl) (by kernel_rfl) (by kernel_rfl) (by kernel_rfl) (by kernel_rfl) (by kernel_rfl) (fun _ _ _ h => h) (.inl ⟨rfl, ?_⟩) HS2.out ?_
                  rotate_left
                  · intro W__ hW__
                    obtain ⟨h1, h2⟩ := hW__
                    go_simp
                    (try with_reducible rfl)
                  try simp only [Act.put]
                  refine wpAnyT_takeC (i := 4) [8, 7, 6, 5] (v := ?_) rfl (by kernel_rfl) (by kernel_rfl) (by kernel_rfl) (by kernel_rfl) (by kernel_rfl) (by kernel_rfl) (fun _ _ _ h => h) (.inl ⟨rfl, ?_⟩) HS2.out ?_
                  rotate_left
                  · intro W__ hW__
                    obtain ⟨h1, h2⟩ := hW__
                    go_simp
                    (try with_reducible rfl)
                  try simp only [Act.put]
                  refine wpAnyT_takeC (i := 5) [8, 7, 6] (v := ?_) rfl (by kernel_rfl) (by kernel_rfl) (by kernel_rfl) (by kernel_rfl) (by kernel_rfl) (by kernel_rfl) (fun _ _ _ h => h) (.inl ⟨rfl, ?_⟩) HS2.out ?_
                  rotate_left
                  · intro W__ hW__
                    obtain ⟨h1, h2⟩ := hW__
                    go_simp
                    (try with_reducible rfl)
                  try simp only [Act.put]
                  refine wpAnyT_takeC (i := 6) [8, 7] (v := ?_) rfl (by kernel_rfl) (by kernel_rfl) (by kernel_rfl) (by kernel_rfl) (by kernel_rfl) (by kernel_rfl) (fun _ _ _ h => h) (.inl ⟨rfl, ?_⟩) HS2.out ?_
                  rotate_left
                  · intro W__ hW__
                    obtain ⟨h1, h2⟩ := hW__
                    go_simp
                    (try with_reducible rfl)
                  try simp only [Act.put]
                  refine wpAnyT_two (i := 2) (j := 7) rfl rfl (by kernel_rfl) rfl rfl (fun K__ hK__ => ?_) (fun K__ hK__ => ?_)
                  · refine wp_append_src _ (.const (.slice none 0 0)) (.tmp 99) 22 rfl Wb.heap.size TLI i0 (.int .i64 0) 1 8 Try.underlying22 hi0 hz0 hs0 hb0 rfl (by decide) none 0 0 [] (by simp [Act.eval]) (World.ownsRow_nil _ _ _ _) T q tc _ (by simp [Act.eval]) HSRC.out Q5.out Q6.out (Nat.le_refl _) ?_
                    intro A9 c9 w10 own9 gr9 _
                    simp only [Nat.zero_add, List.nil_append] at own9
                    have B9 := (Below.refl Wb.heap.size Wb).grown gr9 (Nat.le_refl _) (fun g hg => by cases hg)
                    have HS9 := Lib.hid (SK2.out _ _ B9 HS2.out)
                    refine hK__ _ _ HS9.out ?_
                    clear hK__
                    try simp only [Act.put]
                    refine wpAnyT_one (i := 7) rfl (by kernel_rfl) rfl fun K__ hK__ => ?_
                    unfold Oper.wp
                    go_simp
                    have ba := (Below.refl w10.heap.size w10).alloc (Nat.le_refl _) (.cells #[.int .i64 y] TLI)
                    refine hK__ _ _ (SK2.out _ _ ba HS9.out) ?_
                    clear hK__
                    try simp only [Act.put]
                    have OW9 := own9.alloc (.cells #[.int .i64 y] TLI)
                    have SR9 := Src.one (w := w10) (x := .int .i64 y) (t := TLI) rfl
                    have B10 := B9.alloc B9.size (.cells #[.int .i64 y] TLI)
                    refine wpAnyT_end (i := 8) rfl (by kernel_rfl) rfl (by kernel_rfl) fun K__ hK__ => ?_
                    refine wp_append_src _ (.tmp 100) (.tmp 105) 22 rfl Wb.heap.size TLI i0 (.int .i64 0) 1 8 Try.underlying22 hi0 hz0 hs0 hb0 rfl (by decide) A9 c9 q _ (by simp [Act.eval]) OW9 _ 1 1 _ (by simp [Act.eval]) SR9 Q1.out Q2.out B10.size ?_
                    intro A10 c10 w12 own10 gr10 _
                    have B12 := Lib.hid (B10.grown gr10 B10.size (fun g hg => (OW9.lt g hg).1))
                    have OWW := Lib.hid own10
                    clear own9 gr9 B9 HS9 ba OW9 SR9 B10
                    have hYb := HYB.out.below B12.out HYB.out.lt
                    obtain ⟨t0, t1, t2, f0, f1, f2⟩ := Blk.three hYb
                    have HY3 := Lib.hid (hYb.set 2 (.slice A10 (q + 1) c10))
                    have HP3 := Lib.hid (Ps.put (i := 2) (HPS3.out.below B12.out) hYb HQY.out (.slice A10 (q + 1) c10))
                    have HV3 := Lib.hid (OwnI.far (i := 2) (u := .slice A10 (q + 1) c10) (OwnI.below HV2.out B12.out) hYb (by decide))
                    have HW3 := Lib.hid (OwnI.far (i := 2) (u := .slice A10 (q + 1) c10) (OwnI.below HW2.out B12.out) hYb (by decide))
                    have HT3 := Lib.hid (Two.far (i := 2) (u := .slice A10 (q + 1) c10) (HT2.out.next B12.out) hYb (by decide) (by omega))
                    have HX3 := Lib.hid ((HX2.out.below B12.out HX2.out.lt).far (p := ⟨Y, 2, none⟩) (by simp; omega) (.slice A10 (q + 1) c10))
                    have HN3 : Hid (OwnI (w12.setCell ⟨Y, 2, none⟩ (.slice A10 (q + 1) c10)) w.heap.size (.slice A10 (q + 1) c10) (xw ++ [y])) := Lib.hid (OwnI.far (OwnI.lower (b := Wb.heap.size) ⟨A10, c10, by rw [List.length_append, HXW.out]; rfl, by rw [List.length_append, HXW.out, List.map_append]; exact OWW.out⟩ HT2.out.be.size) hYb (by decide))
                    refine hK__ _ _ ?_
                    clear hK__ own10 gr10 hYb
                    simp only [Act.put]
                    refine wpAnyT_end (i := 9) rfl (by kernel_rfl) rfl (by kernel_rfl) fun K__ hK__ => ?_
                    unfold Oper.wp
                    go_simp
                    refine hK__ _ _ ?_
                    clear hK__
                    refine wpAnyT_end (i := 10) rfl (by kernel_rfl) rfl (by kernel_rfl) fun K__ hK__ => ?_
                    unfold Oper.wp
                    go_simp
                    refine hK__ _ _ ?_
                    clear hK__
                    refine wpAnyT_done (by kernel_rfl) ?_ _
                    clear t0 t1 t2 f0 f1 f2
                    generalize w12.setCell ⟨Y, 2, none⟩ (.slice A10 (q + 1) c10) = W3 at *
                    obtain ⟨Qx, qx, us, eqv, owq, relq⟩ := HP3.out
                    rw [HKL.out] at eqv owq
                    injection eqv with eq1 _ eq3
                    subst eq1; subst eq3
                    obtain ⟨u0, u1, u2, _, _, _⟩ := Blk.three HY3.out
                    have hYl := HY3.out.lt
                    have OWQ := Lib.hid owq; have RLQ := Lib.hid relq
                    have OWA := Lib.hid (owq.alloc (.cells #[.int .i64 ya, .int .i64 yb, .slice A10 (q + 1) c10] TPair))
                    have SRA := Lib.hid (Src.many (w := W3) (arr := #[.int .i64 ya, .int .i64 yb, .slice A10 (q + 1) c10]) (t := TPair) (size := 3) (by simp [Value.oneCell']) rfl)
                    have BA3 := Lib.hid ((Below.refl W3.heap.size W3).alloc (Nat.le_refl _) (.cells #[.int .i64 ya, .int .i64 yb, .slice A10 (q + 1) c10] TPair))
                    have HTA := Lib.hid (HT3.out.next BA3.out)
                    have Z9 : Hid (w.heap.size ≤ (W3.alloc (.cells #[.int .i64 ya, .int .i64 yb, .slice A10 (q + 1) c10] TPair)).heap.size) := Lib.hid HTA.out.be.size
                    have HVA := Lib.hid (OwnI.below HV3.out BA3.out); have HWA := Lib.hid (OwnI.below HW3.out BA3.out)
                    have HXA3 := Lib.hid (HX3.out.below BA3.out HX3.out.lt)
                    clear owq relq
                    go_wp2_with (first
                    | (at_builtin
                       go_must (refine wpList_append_src _ rfl (.tmp 108) (.tmp 110) 202 rfl w.heap.size TPair i9 (.agg #[.int .i64 0, .int .i64 0, .slice none 0 0]) 3 40 Try.underlying202 hi9 hz9 hs9 hb9 rfl (by decide) Q qc k _ rfl OWA.out _ 1 1 _ rfl SRA.out Q3.out Q4.out Z9.out ?_)
                       intro A13 c13 w13 own13 gr13 hn13
                       have HP13 := Lib.hid (Ps.push (x := ⟨ya, yb, xw ++ [y]⟩) OWQ.out RLQ.out HKL HN3.out own13 gr13)
                       have HV13 := Lib.hid (OwnI.keepQ HVA.out OWA.out (by decide) gr13); have HW13 := Lib.hid (OwnI.keepQ HWA.out OWA.out (by decide) gr13)
                       have HT13 := Lib.hid (HTA.out.grown OWA.out (by decide) gr13 (Nat.le_refl _))
                       have HX13 := Lib.hid (HXA3.out.grown gr13 (fun e => HNE.out e.symm))
                       have HN13 : Hid ((Value.slice A13 (k + 1) c13).ownBlock ≠ some X) := Lib.hid (by
                         rcases hn13 with e | e
                         · rw [e]; exact HNE.out
                         · rw [e]; have := HX3.out.lt; simp; omega)
                       clear own13 gr13 hn13))
                    go_roundw
                    case rel => exact ⟨p + 1, k + 1, c13, A13, by go_num, rfl, by omega, by omega, hk1, Lib.hid (by rw [HRN.out, List.length_append, HKL.out]; rfl), Lib.hid (by rw [HRN.out]; exact HPN.out), Lib.hid (by rw [HRN.out]; exact HP13.out), HN13, HV13, HT13, HW13, HX13⟩
                    case measure => simp [intOf]; omega
                  · unfold Oper.wp
                    go_simp
                    have ba := (Below.refl Wb.heap.size Wb).alloc (Nat.le_refl _) (.cells #[.int .i64 y] TLI)
                    have HS9 := Lib.hid (SK2.out _ _ ba HS2.out)
                    refine hK__ _ _ HS9.out ?_
                    clear hK__
                    try simp only [Act.put]
                    have SRa := Src.one (w := Wb) (x := .int .i64 y) (t := TLI) rfl
                    have SWa := HSRC.out.keep (Keep.of ba)
                    refine wpAnyT_one (i := 2) rfl (by kernel_rfl) rfl fun K__ hK__ => ?_
                    refine wp_append_src _ (.const (.slice none 0 0)) (.tmp 99) 22 rfl Wb.heap.size TLI i0 (.int .i64 0) 1 8 Try.underlying22 hi0 hz0 hs0 hb0 rfl (by decide) none 0 0 [] (by simp [Act.eval]) (World.ownsRow_nil _ _ _ _) T q tc _ (by simp [Act.eval]) SWa Q5.out Q6.out ba.size ?_
                    intro A9 c9 w10 own9 gr9 _
                    simp only [Nat.zero_add, List.nil_append] at own9
                    have b9 := (Below.refl (Wb.alloc (.cells #[.int .i64 y] TLI)).heap.size (Wb.alloc (.cells #[.int .i64 y] TLI))).grown gr9 (Nat.le_refl _) (fun g hg => by cases hg)
                    have B9 := ba.trans (b9.mono ba.size)
                    refine hK__ _ _ (SK2.out _ _ b9 HS9.out) ?_
                    clear hK__
                    try simp only [Act.put]
                    have SR9 := SRa.keep (Keep.of b9)
                    refine wpAnyT_end (i := 8) rfl (by kernel_rfl) rfl (by kernel_rfl) fun K__ hK__ => ?_
                    refine wp_append_src _ (.tmp 100) (.tmp 105) 22 rfl Wb.heap.size TLI i0 (.int .i64 0) 1 8 Try.underlying22 hi0 hz0 hs0 hb0 rfl (by decide) A9 c9 q _ (by simp [Act.eval]) own9 _ 1 1 _ (by simp [Act.eval]) SR9 Q1.out Q2.out B9.size ?_
                    intro A10 c10 w12 own10 gr10 _
                    have B12 := Lib.hid (B9.grown gr10 B9.size (fun g hg => (own9.lt g hg).1))
                    have OWW := Lib.hid own10
                    clear own9 gr9 B9 HS9 ba SRa SWa b9 SR9
                    have hYb := HYB.out.below B12.out HYB.out.lt
                    obtain ⟨t0, t1, t2, f0, f1, f2⟩ := Blk.three hYb
                    have HY3 := Lib.hid (hYb.set 2 (.slice A10 (q + 1) c10))
                    have HP3 := Lib.hid (Ps.put (i := 2) (HPS3.out.below B12.out) hYb HQY.out (.slice A10 (q + 1) c10))
                    have HV3 := Lib.hid (OwnI.far (i := 2) (u := .slice A10 (q + 1) c10) (OwnI.below HV2.out B12.out) hYb (by decide))
                    have HW3 := Lib.hid (OwnI.far (i := 2) (u := .slice A10 (q + 1) c10) (OwnI.below HW2.out B12.out) hYb (by decide))
                    have HT3 := Lib.hid (Two.far (i := 2) (u := .slice A10 (q + 1) c10) (HT2.out.next B12.out) hYb (by decide) (by omega))
                    have HX3 := Lib.hid ((HX2.out.below B12.out HX2.out.lt).far (p := ⟨Y, 2, none⟩) (by simp; omega) (.slice A10 (q + 1) c10))
                    have HN3 : Hid (OwnI (w12.setCell ⟨Y, 2, none⟩ (.slice A10 (q + 1) c10)) w.heap.size (.slice A10 (q + 1) c10) (xw ++ [y])) := Lib.hid (OwnI.far (OwnI.lower (b := Wb.heap.size) ⟨A10, c10, by rw [List.length_append, HXW.out]; rfl, by rw [List.length_append, HXW.out, List.map_append]; exact OWW.out⟩ HT2.out.be.size) hYb (by decide))
                    refine hK__ _ _ ?_
                    clear hK__ own10 gr10 hYb
                    simp only [Act.put]
                    refine wpAnyT_end (i := 9) rfl (by kernel_rfl) rfl (by kernel_rfl) fun K__ hK__ => ?_
                    unfold Oper.wp
                    go_simp
                    refine hK__ _ _ ?_
                    clear hK__
                    refine wpAnyT_end (i := 10) rfl (by kernel_rfl) rfl (by kernel_rfl) fun K__ hK__ => ?_
                    unfold Oper.wp
                    go_simp
                    refine hK__ _ _ ?_
                    clear hK__
                    refine wpAnyT_done (by kernel_rfl) ?_ _
                    clear t0 t1 t2 f0 f1 f2
                    generalize w12.setCell ⟨Y, 2, none⟩ (.slice A10 (q + 1) c10) = W3 at *
                    obtain ⟨Qx, qx, us, eqv, owq, relq⟩ := HP3.out
                    rw [HKL.out] at eqv owq
                    injection eqv with eq1 _ eq3
                    subst eq1; subst eq3
                    obtain ⟨u0, u1, u2, _, _, _⟩ := Blk.three HY3.out
                    have hYl := HY3.out.lt
                    have OWQ := Lib.hid owq; have RLQ := Lib.hid relq
                    have OWA := Lib.hid (owq.alloc (.cells #[.int .i64 ya, .int .i64 yb, .slice A10 (q + 1) c10] TPair))
                    have SRA := Lib.hid (Src.many (w := W3) (arr := #[.int .i64 ya, .int .i64 yb, .slice A10 (q + 1) c10]) (t := TPair) (size := 3) (by simp [Value.oneCell']) rfl)
                    have BA3 := Lib.hid ((Below.refl W3.heap.size W3).alloc (Nat.le_refl _) (.cells #[.int .i64 ya, .int .i64 yb, .slice A10 (q + 1) c10] TPair))
                    have HTA := Lib.hid (HT3.out.next BA3.out)
                    have Z9 : Hid (w.heap.size ≤ (W3.alloc (.cells #[.int .i64 ya, .int .i64 yb, .slice A10 (q + 1) c10] TPair)).heap.size) := Lib.hid HTA.out.be.size
                    have HVA := Lib.hid (OwnI.below HV3.out BA3.out); have HWA := Lib.hid (OwnI.below HW3.out BA3.out)
                    have HXA3 := Lib.hid (HX3.out.below BA3.out HX3.out.lt)
                    clear owq relq
                    go_wp2_with (first
                    | (at_builtin
                       go_must (refine wpList_append_src _ rfl (.tmp 108) (.tmp 110) 202 rfl w.heap.size TPair i9 (.agg #[.int .i64 0, .int .i64 0, .slice none 0 0]) 3 40 Try.underlying202 hi9 hz9 hs9 hb9 rfl (by decide) Q qc k _ rfl OWA.out _ 1 1 _ rfl SRA.out Q3.out Q4.out Z9.out ?_)
                       intro A13 c13 w13 own13 gr13 hn13
                       have HP13 := Lib.hid (Ps.push (x := ⟨ya, yb, xw ++ [y]⟩) OWQ.out RLQ.out HKL HN3.out own13 gr13)
                       have HV13 := Lib.hid (OwnI.keepQ HVA.out OWA.out (by decide) gr13); have HW13 := Lib.hid (OwnI.keepQ HWA.out OWA.out (by decide) gr13)
                       have HT13 := Lib.hid (HTA.out.grown OWA.out (by decide) gr13 (Nat.le_refl _))
                       have HX13 := Lib.hid (HXA3.out.grown gr13 (fun e => HNE.out e.symm))
                       have HN13 : Hid ((Value.slice A13 (k + 1) c13).ownBlock ≠ some X) := Lib.hid (by
                         rcases hn13 with e | e
                         · rw [e]; exact HNE.out
                         · rw [e]; have := HX3.out.lt; simp; omega)
                       clear own13 gr13 hn13))
                    go_roundw
                    case rel => exact ⟨p + 1, k + 1, c13, A13, by go_num, rfl, by omega, by omega, hk1, Lib.hid (by rw [HRN.out, List.length_append, HKL.out]; rfl), Lib.hid (by rw [HRN.out]; exact HPN.out), Lib.hid (by rw [HRN.out]; exact HP13.out), HN13, HV13, HT13, HW13, HX13⟩
                    case measure => simp [intOf]; omega

        · obtain rfl : na = p := by omega
          have HTK : Hid (L.take na = L) := Lib.hid (List.take_of_length_le (by rw [HNA.out]; exact Nat.le_refl _))
          rw [HTK.out] at HKL HPO HPS
          have HRE3 : Hid (wordF d o L (F + 1 - (i + 1)) (i + 1) (rowP d o ⟨xa, xb, xw⟩ l L) = R) := Lib.hid (by
            rw [show F + 1 - (i + 1) = F - i by omega]; exact HRE2.out)
          go_wp2
          go_roundw
          case rel => exact ⟨i + 1, k, qc, Q, _, by go_num, rfl, by omega, hkF, HKL, HPO, HRE3, HWO2, HPS, HV, HT⟩
          case measure => simp [intOf]; omega
    · have hki : k = i := by omega
      have HN : Hid (R = none) := Lib.hid (by rw [← HRE.out]; exact wordF_end (by rw [HKL.out, hki]; exact Nat.le_refl _))
      have g1 : ¬ (i : Int) < (k : Int) := by omega
      clear hki
      go_wp2
      exact bodyPost_ret (v := .tuple #[.slice none 0 0, .bool false]) (by simp [results, Try.results103, go_sem]) rfl ⟨.slice none 0 0, by rw [HN.out]; rfl, by rw [HN.out]; exact OwnI.nil _ _, HT.out.be⟩
end Go.Proofs.Ytjnjbcigbnjmkaa
