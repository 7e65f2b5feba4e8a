/- Walks: the document's least automaton. PUT1 -/
import Derived.Test.YtjnjbcigbnjmkaaGreatGiy
import Derived.Test.YtjnjbcigbnjmkaaGreatGky
namespace Pv
open Go Go.RowKit
theorem metRow_len {d : Dfa} {met : List Nat} (hd : d.Ok) (h : MetOk d met) {m : Nat} (hm : m < d.next.length) {c : Nat} (hc : c ≤ d.cuts.length) : (metRow d m met c).length ≤ d.next.length := (h.row hd hm hc).len
theorem metRow_get {d : Dfa} {met : List Nat} {m c i s : Nat} (h : met[i]? = some s) : (metRow d m met c)[i]? = some s := by
  obtain ⟨t, ht⟩ := metRow_pre d m met c
  rw [← ht, List.getElem?_append_left (lt_of_get h)]; exact h
theorem numI_snoc (l : List Nat) (s : Nat) : numI (l ++ [s]) = numI l ++ [(s : Int)] := by simp
theorem metL_eq (d : Dfa) : metF d (d.next.length + 1) 0 [rep d 0] = metL d := rfl
end Pv
namespace Go.Proofs.YtjnjbcigbnjmkaaGreat
open Go.RowKit Pv

/-- What lies there from before: the automaton's box, the answer's, the table, the automaton. -/
structure OldM (w W : World) (g n n1 : Nat) (v1 : Value) (b2 o2 c2 b3 o3 c3 : Nat) (d : Dfa) : Prop where
  a : Blk W w.heap.size TDfa #[v1, .slice (some ⟨b2, o2, none⟩) n c2, .slice (some ⟨b3, o3, none⟩) n c3]
  o : Blk W (w.heap.size + 1) TDfa #[.slice none 0 0, .slice none 0 0, .slice none 0 0]
  t : TbN W g n n (fun s t => ¬ Lks d s t)
  r : ∀ s, s < n → ∃ rb ro rc, W.cell? ⟨b2, o2 + s, none⟩ = some (.slice (some ⟨rb, ro, none⟩) n1 rc) ∧ ∀ c, c < n1 → W.cell? ⟨rb, ro + c, none⟩ = some (.int .i64 (d.go s c)) ∧ d.go s c < n
  acc : ∀ s, s < n → W.cell? ⟨b3, o3 + s, none⟩ = some (.bool (d.acc s))
theorem OldM.next {w W W' : World} {g n n1 b2 o2 c2 b3 o3 c3 : Nat} {v1 : Value} {d : Dfa} (h : OldM w W g n n1 v1 b2 o2 c2 b3 o3 c3 d) (hb : Below W.heap.size W W') : OldM w W' g n n1 v1 b2 o2 c2 b3 o3 c3 d := by
  refine ⟨h.a.below hb h.a.lt, h.o.below hb h.o.lt, h.t.next hb, fun s hs => ?_, fun s hs => ?_⟩
  · obtain ⟨rb, ro, rc, h1, h2⟩ := h.r s hs
    refine ⟨rb, ro, rc, ((Keep.of hb).cell _ _ (World.block_lt_of_cell? _ _ h1)).trans h1, fun c hc => ?_⟩
    obtain ⟨h3, h4⟩ := h2 c hc
    exact ⟨((Keep.of hb).cell _ _ (World.block_lt_of_cell? _ _ h3)).trans h3, h4⟩
  · have h1 := h.acc s hs
    exact ((Keep.of hb).cell _ _ (World.block_lt_of_cell? _ _ h1)).trans h1
/-- The least automaton, of the call's own. -/
def LeastPost (d : Dfa) (w : World) (e : Ending) (w' : World) : Prop :=
  ∃ v1 v2 v3, e = .returned (.agg #[v1, v2, v3]) ∧ Res w' w.heap.size v1 v2 v3 (leastD d).cuts (leastD d).next (leastD d).accept ∧ Below w.heap.size w w'
theorem numI_bd {n : Nat} {l : List Nat} (h : ∀ s, s ∈ l → s < n) (hn : n ≤ 1000000) : ∀ x, x ∈ numI l → -9223372036854775808 ≤ x ∧ x ≤ 9223372036854775807 := fun x hx => by
  obtain ⟨s, hs, rfl⟩ := List.mem_map.1 hx
  have := h s hs
  omega
/-- A row of states of the call's own, as a list in memory. -/
theorem clsN_lt {d : Dfa} {met : List Nat} {k x : Nat} (h : x ∈ clsN d met k) : x < k := by
  unfold clsN at h
  have := (List.mem_filter.1 h).1
  simpa using this
theorem OwnI.atN {w : World} {base n q c : Nat} {B : Option Addr} {l : List Nat} (h : OwnI w base (.slice B q c) (numI l)) (hl : ∀ s, s ∈ l → s < n) (hn : n ≤ 1000000) (hq : (numI l).length = q) (hq2 : q ≤ 1000000) : At w B RI (numI l) := by
  obtain ⟨A, d, e, hat, _⟩ := h.at' (numI_bd hl hn) (by omega)
  injection e with e1 _ _
  subst e1
  exact hat
theorem own_states {w : World} {base n m c : Nat} {B : Option Addr} {l : List Nat} (h : w.ownsRow base TLI 1 (.slice B m c) m ((numI l).map (Value.int .i64))) (hl : ∀ s, s ∈ l → s < n) (hn : n ≤ 1000000) (hm : l.length = m) (hm2 : m ≤ 1000000) : At w B RI (numI l) ∧ m ≤ c := by
  have h1 : Rel RI ((numI l).map (Value.int .i64)) (numI l) := ⟨by simp, fun i u x hu hx => by
    rw [List.getElem?_map, hx] at hu
    obtain rfl := Option.some.inj hu
    exact ⟨rfl, numI_bd hl hn x (mem_of_get hx)⟩⟩
  obtain ⟨_, h3, h4⟩ := At.of_own h h1 (by simp; omega)
  exact ⟨h4, h3⟩

set_option maxHeartbeats 8000000 in
set_option maxRecDepth 100000 in
theorem ref11_Made (A1 A2 A3 : Option Addr) (c1 c2 c3 n1 n n3 : Nat) (d : Dfa) (w : World) (H : DfaAt w A1 A2 A3 n1 n n3 d) (hok : d.Ok) :
    Calls Tryz.prog 13 #[.agg #[.slice A1 n1 c1, .slice A2 n c2, .slice A3 n3 c3]] w (LeastPost d w) := by
  obtain ⟨b2, o2, b3, o3, e2, e3, hb2, hb3, e4, hrow, hacc⟩ := H.rows hok
  subst e2; subst e3
  obtain rfl := e4.symm
  have hn : n ≤ 64 := by have := hok.n2; have := H.hn.out; omega
  have hn1 : 1 ≤ n := by have := hok.n1; have := H.hn.out; omega
  have hc : n1 ≤ 256 := by have := hok.c2; have := H.hc.out; omega
  have HNN := H.hn; have HNC := H.hc
  have HD := Lib.hid H
  have HOK := Lib.hid hok; have HR := Lib.hid hrow; have HA := Lib.hid hacc
  obtain ⟨i0, hi0, hz0, hs0, hb0⟩ := info_parts info_int9
  obtain ⟨i1', hi1, hz1, hs1, hb1'⟩ := info_parts info_bool9
  obtain ⟨i2', hi2, hz2, hs2, hb2'⟩ := info_parts info_ints9
  have KK := blk2 w #[.slice A1 n1 c1, .slice (some ⟨b2, o2, none⟩) n c2, .slice (some ⟨b3, o3, none⟩) n c3] #[.slice none 0 0, .slice none 0 0, .slice none 0 0] TDfa TDfa
  have KA := Lib.hid KK.1; have KO := Lib.hid KK.2
  have HB0 := Lib.hid (((Below.refl w.heap.size w).alloc (Nat.le_refl _) (.cells #[.slice A1 n1 c1, .slice (some ⟨b2, o2, none⟩) n c2, .slice (some ⟨b3, o3, none⟩) n c3] TDfa)).alloc (by simp) (.cells #[.slice none 0 0, .slice none 0 0, .slice none 0 0] TDfa))
  have HUN := Lib.hid (ref11_unlike A1 (some ⟨b2, o2, none⟩) (some ⟨b3, o3, none⟩) c1 c2 c3 n1 n n d _ (H.keep (Keep.of HB0.out)) hok)
  clear hrow hacc H hok KK
  go_enter Tryz.func13, Tryz.ntmps13
  go_wp2_with fail
  refine HUN.out.mono ?_
  rintro e w1 ⟨g, rfl, hg, htb, hb1⟩
  have HB1 := Lib.hid (HB0.out.trans (hb1.mono HB0.out.size))
  have HOL := Lib.hid (show OldM w w1 g n n1 (.slice A1 n1 c1) b2 o2 c2 b3 o3 c3 d from ⟨KA.out.below hb1 KA.out.lt, KO.out.below hb1 KO.out.lt, htb, fun s hs => by
    obtain ⟨rb, ro, rc, _, h2, h3⟩ := HR.out s hs
    have kp := Keep.of HB1.out
    exact ⟨rb, ro, rc, (kp.cell _ _ hb2).trans h2, fun c hc => ⟨(kp.cell _ _ (World.block_lt_of_cell? _ _ (h3 c hc).1)).trans (h3 c hc).1, (h3 c hc).2⟩⟩, fun s hs => ((Keep.of HB1.out).cell _ _ hb3).trans (HA.out s hs)⟩)
  have HF0 := Lib.hid (ref11_first d g n n 0 w1 htb (by omega) (by omega))
  clear htb hb1 hg HUN KA KO HB0
  go_wp2_with fail
  refine HF0.out.mono ?_
  rintro e w2 ⟨rfl, rfl⟩
  obtain ⟨s0, hs0'⟩ : ∃ s, rep d 0 = s := ⟨_, rfl⟩
  have HS0 := Lib.hid hs0'
  rw [hs0']
  have O0 := own_lit w2 w2.heap.size (.int .i64 s0) TLI (Nat.le_refl _)
  have HO0 : Hid ((w2.alloc (.cells #[.int .i64 s0] TLI)).ownsRow w2.heap.size TLI 1 (.slice (some ⟨w2.heap.size, 0, none⟩) 1 1) 1 ((numI [s0]).map (Value.int .i64))) := Lib.hid O0
  have HW0 := Lib.hid ((Below.refl w2.heap.size w2).alloc (Nat.le_refl _) (.cells #[.int .i64 s0] TLI))
  have HM0 : Hid (MetOk d [s0]) := Lib.hid (by rw [← HS0.out]; exact MetOk.one HOK.out)
  have HF0' : Hid (metF d (n + 1 - 0) 0 [s0] = metL d) := Lib.hid (by rw [← HS0.out, ← HNN.out]; rfl)
  clear O0 hs0'
  go_wp2
  go_loopw [5, 4] (fun iv mv wr => ∃ (i m : Nat) (B : Option Addr) (bc : Nat) (met : List Nat), iv = .int .i64 i ∧ mv = .slice B m bc ∧ i ≤ m ∧ m ≤ n ∧ Hid (met.length = m) ∧ Hid (MetOk d met) ∧ Hid (metF d (n + 1 - i) i met = metL d) ∧
    Hid (wr.ownsRow w2.heap.size TLI 1 (.slice B m bc) m ((numI met).map (Value.int .i64))) ∧ Hid (Below w2.heap.size w2 wr)) (fun iv _ _ => n + 1 - (intOf iv).toNat)
  case atStart => exact ⟨0, 1, _, 1, [s0], rfl, rfl, by omega, by omega, Lib.hid rfl, HM0, HF0', HO0, HW0⟩
  case round =>
    clear HM0 HF0' HO0 HW0
    obtain ⟨i, m, B, bc, met, rfl, rfl, him, hmn, HM, HOK2, HREST, HO, HW⟩ := hrel
    have i1 : (0 : Int) ≤ (i : Int) := by omega
    by_cases hlt : i < m
    · have i2 : (i : Int) < (m : Int) := by omega
      obtain ⟨s, HSI⟩ : ∃ s, Hid (met[i]? = some s) := ⟨_, Lib.hid (List.getElem?_eq_getElem (by rw [HM.out]; exact hlt))⟩
      have hsn : s < n := by have := HOK2.out.lt s (mem_of_get HSI.out); rwa [HNN.out] at this
      have HRE2 : Hid (metF d (n - i) (i + 1) (metRow d s met d.cuts.length) = metL d) := Lib.hid (by
        rw [← HREST.out, show n + 1 - i = (n - i) + 1 by omega, metF_row HSI.out])
      go_wp2
      go_loopw [6, 4] (fun cv mv wr => ∃ (c m : Nat) (B : Option Addr) (bc : Nat), cv = .int .i64 c ∧ mv = .slice B m bc ∧ c ≤ n1 ∧ i < m ∧ m ≤ n ∧ Hid ((metRow d s met c).length = m) ∧
        Hid (wr.ownsRow w2.heap.size TLI 1 (.slice B m bc) m ((numI (metRow d s met c)).map (Value.int .i64))) ∧ Hid (Below w2.heap.size w2 wr)) (fun cv _ _ => n1 - (intOf cv).toNat)
      case atStart => exact ⟨0, m, B, bc, rfl, rfl, by omega, hlt, hmn, HM, HO, HW⟩
      case round =>
        clear HM HO HW him hmn hlt i2 HREST
        obtain ⟨c, m, B, bc, rfl, rfl, hcn, him, hmn, HM, HO, HW⟩ := hrel
        have i3 : (0 : Int) ≤ (c : Int) := by omega
        have HOLW := Lib.hid (HOL.out.next HW.out)
        obtain ⟨d0, d1, d2, _, _, _⟩ := Blk.three HOLW.out.a
        have hNd := HOLW.out.a.lt
        by_cases hc1 : c < n1
        · have i4 : (c : Int) < (n1 : Int) := by omega
          have i5 : (i : Int) < (m : Int) := by omega
          have HMO := Lib.hid (HOK2.out.row HOK.out (m := s) (c := c) (by rw [HNN.out]; exact hsn) (by rw [HNC.out]; omega))
          obtain ⟨hat, hmc⟩ := own_states HO.out (fun x hx => by have := HMO.out.lt x hx; rwa [HNN.out] at this) (by omega : n ≤ 1000000) HM.out (by omega)
          obtain ⟨bm, om, um, xm, rfl, hbm, cm, ⟨rfl, _, _⟩, HXM⟩ := hat.gt (n := m) (Lib.hid (by simp; exact HM.out)) him
          have hxm : xm = (s : Int) := by
            have h1 := HXM.out
            rw [List.getElem?_map, metRow_get HSI.out] at h1
            exact (Option.some.inj h1).symm
          subst hxm
          obtain ⟨rb, ro, rc, k1, k2⟩ := HOLW.out.r s hsn
          obtain ⟨k3, k4⟩ := k2 c hc1
          have i6 : (0 : Int) ≤ (s : Int) := by omega
          have i7 : (s : Int) < (n : Int) := by omega
          obtain ⟨t, ht⟩ : ∃ t, d.go s c = t := ⟨_, rfl⟩
          have HT := Lib.hid ht
          rw [ht] at k3 k4
          have HFI := Lib.hid (fun q : Nat => ref11_first d g n n t (wr.drewN q) (HOLW.out.t.next (below_drewN (Below.refl _ _) q)) k4 (by omega))
          clear k2 ht hat
          go_wp2
          go_quiet ((go_at_call 39; with_reducible exact Calls.quiet_of_same (HFI.out _)))
          rename_i nq
          obtain ⟨tr, htr⟩ : ∃ t', rep d t = t' := ⟨_, rfl⟩
          have HTR := Lib.hid htr
          rw [htr]
          obtain ⟨hat2, _⟩ := own_states (ownsRow_drewN HO.out nq) (fun x hx => by have := HMO.out.lt x hx; rwa [HNN.out] at this) (by omega : n ≤ 1000000) HM.out (by omega)
          have HHA := Lib.hid (ref11_has (some ⟨bm, om, none⟩) bc m (metRow d s met c) tr (wr.drewN nq) hat2 HM)
          clear htr hat2
          go_wp2_with fail
          refine HHA.out.mono ?_
          rintro e w5 ⟨rfl, rfl⟩
          have HSC : Hid (metRow d s met (c + 1) = addN (metRow d s met c) tr) := Lib.hid (by rw [metRow_succ, HT.out, HTR.out])
          have HWD := Lib.hid (below_drewN HW.out nq)
          have HOD := Lib.hid (ownsRow_drewN HO.out nq)
          by_cases hin : tr ∈ metRow d s met c
          · have HPL := Lib.hid (placeI_in hin)
            rw [HPL.out]
            have HAD := Lib.hid (addN_in hin)
            have p0 : decide (((List.idxOf tr (metRow d s met c) : Nat) : Int) < 0) = false := decide_eq_false (by omega)
            generalize List.idxOf tr (metRow d s met c) = pi at *
            clear hin
            go_wp2
            go_roundw
            case rel => exact ⟨c + 1, m, _, bc, by go_num, rfl, by omega, him, hmn, Lib.hid (by rw [HSC.out, HAD.out]; exact HM.out), Lib.hid (by rw [HSC.out, HAD.out]; exact HOD.out), HWD⟩
            case measure => simp [intOf]; omega
          · have HPL := Lib.hid (placeI_out hin)
            rw [HPL.out]
            have HAD := Lib.hid (addN_new hin)
            have HMN := Lib.hid (show m + 1 ≤ n by
              have h1 := (HOK2.out.row HOK.out (m := s) (c := c + 1) (by rw [HNN.out]; exact hsn) (by rw [HNC.out]; omega)).len
              rw [HSC.out, HAD.out, List.length_append, HM.out, HNN.out] at h1
              simpa using h1)
            have hmn2 := HMN.out
            have OWA := Lib.hid (HOD.out.alloc (.cells #[.int .i64 tr] TLI))
            have SRA := Lib.hid (Src.one (w := wr.drewN nq) (x := .int .i64 tr) (t := TLI) rfl)
            have Q1 : Hid (m + 1 ≤ maxLen) := Lib.hid (by simp only [maxLen]; omega)
            have Q2 : Hid ((m + 1) * 8 ≤ 140737488355328) := Lib.hid (by omega)
            have BWA := Lib.hid (HWD.out.alloc HWD.out.size (.cells #[.int .i64 tr] TLI))
            clear hin
            go_wp2_with (first
            | (at_builtin
               go_must (refine wpList_append_src _ rfl (.tmp 51) (.tmp 53) 26 rfl w2.heap.size TLI i0 (.int .i64 0) 1 8 Tryz.underlying26 hi0 hz0 hs0 hb0 rfl (by decide) (some ⟨bm, om, none⟩) bc m _ rfl OWA.out _ 1 1 _ rfl SRA.out Q1.out Q2.out BWA.out.size ?_)
               intro A9 c9 w9 own9 gr9 _
               have O9 := Lib.hid own9
               have B9 := Lib.hid (BWA.out.grown gr9 BWA.out.size (fun g hg => (OWA.out.lt g hg).1))
               clear own9 gr9))
            go_roundw
            case rel => exact ⟨c + 1, m + 1, A9, c9, by go_num, rfl, by omega, by omega, hmn2, Lib.hid (by rw [HSC.out, HAD.out, List.length_append, HM.out]; rfl), Lib.hid (by rw [HSC.out, HAD.out, numI_snoc, List.map_append]; exact O9.out), B9⟩
            case measure => simp [intOf]; omega
        · obtain rfl : n1 = c := by omega
          have HMO := Lib.hid (HOK2.out.row HOK.out (m := s) (c := n1) (by rw [HNN.out]; exact hsn) (by rw [HNC.out]; exact Nat.le_refl _))
          have HRE3 : Hid (metF d (n + 1 - (i + 1)) (i + 1) (metRow d s met n1) = metL d) := Lib.hid (by
            have h := HRE2.out
            rw [HNC.out] at h
            rw [show n + 1 - (i + 1) = n - i by omega]
            exact h)
          go_wp2
          go_roundw
          case rel => exact ⟨i + 1, m, B, bc, metRow d s met n1, by go_num, rfl, by omega, hmn, HM, HMO, HRE3, HO, HW⟩
          case measure => simp [intOf]; omega
    · have him2 : m = i := by omega
      have HMT : Hid (met = metL d) := Lib.hid (by rw [← HREST.out]; exact (metF_end (by rw [HM.out, him2]; exact Nat.le_refl _)).symm)
      have g0 : decide ((i : Int) < (m : Int)) = false := decide_eq_false (by omega)
      clear him2
      have HOL3 := Lib.hid (fun W (hb : Below wr.heap.size wr W) => (HOL.out.next HW.out).next hb)
      have hmet : met.length = m := HM.out
      obtain ⟨hatm, _⟩ := own_states HO.out (fun x hx => by have := HOK2.out.lt x hx; rwa [HNN.out] at this) (by omega : n ≤ 1000000) hmet (by omega)
      have HATM := Lib.hid (fun W (hb : Below wr.heap.size wr W) => hatm.keep (Keep.of hb))
      have HBW := Lib.hid (HB1.out.trans (HW.out.mono HB1.out.size))
      have hwr := HBW.out.size
      have HWD1 := (HOL.out.next HW.out).o.lt
      have HB30 := Lib.hid ((Below.refl wr.heap.size wr).alloc (Nat.le_refl _) (.cells #[.slice none 0 0, .slice none 0 0, .slice none 0 0] TDfa))
      have HD30 := Lib.hid (Blk.new wr TDfa #[.slice none 0 0, .slice none 0 0, .slice none 0 0])
      have g00 : ¬ (i : Int) < (m : Int) := by omega
      have g01 : (m : Int) ≤ (i : Int) := by omega
      clear hatm hmet HREST
      go_wp2
      clear g0 g00 g01 hlt him
      obtain ⟨w8, rfl⟩ : ∃ w8, w8 = wr := ⟨_, rfl⟩
      generalize w8.heap.size = D at *
      go_loopw [10, 9] (fun cv lv W => ∃ (c q : Nat) (B' : Option Addr) (bc' : Nat) (v1 : Value), cv = .int .i64 c ∧ lv = .slice B' q bc' ∧ c ≤ n1 ∧ q ≤ c ∧ Hid ((clsN d met c).length = q) ∧ Hid (W.ownsRow D TLI 1 (.slice B' q bc') q ((numI (clsN d met c)).map (Value.int .i64))) ∧
        Hid (OwnI W D v1 ((clsN d met c).map fun c => d.cuts.getD c 0)) ∧ Hid (v1.ownBlock = none ∨ v1.ownBlock ≠ (Value.slice B' q bc').ownBlock) ∧ Hid (Blk W D TDfa #[v1, .slice none 0 0, .slice none 0 0]) ∧ Hid (Below D w8 W)) (fun cv _ _ => n1 - (intOf cv).toNat)
      case atStart => exact ⟨0, 0, none, 0, .slice none 0 0, rfl, rfl, by omega, by omega, Lib.hid rfl, Lib.hid (World.ownsRow_nil _ _ _ _), Lib.hid (OwnI.nil _ _), Lib.hid (.inl rfl), HD30, HB30⟩
      case round =>
        clear HB30 HD30 HO HW
        obtain ⟨c, q, B', bc', v1, rfl, rfl, hcn, hqc, HQ, HCL, HV1, HNE, HDB, HB3⟩ := hrel
        have i3 : (0 : Int) ≤ (c : Int) := by omega
        have HOLW := Lib.hid (HOL3.out wr HB3.out)
        obtain ⟨d0, d1, d2, _, _, _⟩ := Blk.three HOLW.out.a
        have hNd := HOLW.out.a.lt
        by_cases hc1 : c < n1
        · have i4 : (c : Int) < (n1 : Int) := by omega
          obtain ⟨tb0, ht0⟩ : ∃ b, ((c : Int) == 0) = b := ⟨_, rfl⟩
          have HTB0 := Lib.hid (show tb0 = yes (c = 0 ∨ ∃ k s, k < 0 ∧ met[k]? = some s ∧ rep d (d.go s c) ≠ rep d (d.go s (c - 1))) by
            rw [← ht0]
            by_cases e : c = 0
            · rw [yes_t (.inl e), e]; rfl
            · rw [yes_f (fun h => by rcases h with h | ⟨k, _, h, _⟩; exact e h; omega)]
              simp; omega)
          obtain ⟨wc, hwc⟩ : ∃ wc, wc = wr := ⟨_, rfl⟩
          have HWC := Lib.hid hwc
          clear hwc
          go_wp2
          clear ht0
          go_loopw [12, 11] (fun iv tv W => ∃ (i : Nat) (tb : Bool), iv = .int .i64 i ∧ tv = .bool tb ∧ i ≤ m ∧ Hid (tb = yes (c = 0 ∨ ∃ k s, k < i ∧ met[k]? = some s ∧ rep d (d.go s c) ≠ rep d (d.go s (c - 1)))) ∧ Hid (Drawn wc W)) (fun iv _ _ => m - (intOf iv).toNat)
          case atStart => exact ⟨0, tb0, rfl, rfl, by omega, HTB0, Lib.hid (by rw [HWC.out]; exact Drawn.refl _)⟩
          case round =>
            obtain ⟨i, tb, rfl, rfl, him, HTB, HDR⟩ := hrel
            obtain rfl := HWC.out
            have i5 : (0 : Int) ≤ (i : Int) := by omega
            have HBD : Hid (Below wc.heap.size wc wr) := Lib.hid (by obtain ⟨nd, e⟩ := HDR.out; rw [e]; exact below_drewN (Below.refl _ _) nd)
            have HOX := Lib.hid (HOLW.out.next HBD.out)
            have HBX := Lib.hid (HB3.out.trans (HBD.out.mono (Nat.le_of_lt HDB.out.lt)))
            have HATX := Lib.hid (HATM.out wr HBX.out)
            clear d0 d1 d2 hNd
            obtain ⟨d0, d1, d2, _, _, _⟩ := Blk.three HOX.out.a
            have hNd := HOX.out.a.lt
            have hx : (i < m ∧ 0 < c) ∨ (i < m ∧ c = 0) ∨ ¬ i < m := by omega
            rcases hx with ⟨h1, h2⟩ | ⟨h1, h2⟩ | h1
            · have g1 : (i : Int) < (m : Int) := by omega
              have g2 : (0 : Int) < (c : Int) := by omega
              obtain ⟨bm, om, um, xm, rfl, hbm, cm, ⟨rfl, _, _⟩, HXM⟩ := HATX.out.gt (n := m) (Lib.hid (by simp; exact HM.out)) h1
              obtain ⟨s, hs, rfl⟩ : ∃ s : Nat, met[i]? = some s ∧ (s : Int) = xm := by
                have h1 := HXM.out
                rw [List.getElem?_map] at h1
                obtain ⟨y, h2, h3⟩ := Option.map_eq_some_iff.1 h1
                exact ⟨y, h2, h3⟩
              have HS := Lib.hid hs
              have hsn : s < n := by have := HOK2.out.lt s (mem_of_get hs); rwa [HNN.out] at this
              obtain ⟨rb, ro, rc, k1, k2⟩ := HOX.out.r s hsn
              obtain ⟨c', hc'⟩ : ∃ c', c - 1 = c' := ⟨_, rfl⟩
              have HC' := Lib.hid hc'
              obtain ⟨k3, k4⟩ := k2 c hc1
              obtain ⟨k5, k6⟩ := k2 c' (by omega)
              have i6 : (0 : Int) ≤ (s : Int) := by omega
              have i7 : (s : Int) < (n : Int) := by omega
              have w1' : wrap64 ((c : Int) - 1) = (c' : Int) := by rw [show (c : Int) - 1 = (c' : Int) by omega]; simp [wrap64]; omega
              have w2' : IntKind.i64.wrap ((c : Int) - 1) = (c' : Int) := by rw [IntKind.wrap_i64]; omega
              have i8 : (0 : Int) ≤ (c' : Int) := by omega
              have i9 : (c' : Int) < (n1 : Int) := by omega
              have HF1 := Lib.hid (fun q : Nat => ref11_first d g n n (d.go s c) (wr.drewN q) (HOX.out.t.next (below_drewN (Below.refl _ _) q)) k4 (by omega))
              have HF2 := Lib.hid (fun q : Nat => ref11_first d g n n (d.go s c') (wr.drewN q) (HOX.out.t.next (below_drewN (Below.refl _ _) q)) k6 (by omega))
              have HTN : Hid (yes (c = 0 ∨ ∃ k s, k < i + 1 ∧ met[k]? = some s ∧ rep d (d.go s c) ≠ rep d (d.go s (c - 1))) = (tb || !((rep d (d.go s c) : Int) == (rep d (d.go s c') : Int)))) := Lib.hid (by
                rw [HTB.out, ← HC'.out]
                by_cases e : rep d (d.go s c) = rep d (d.go s (c - 1))
                · have e2 : ((rep d (d.go s c) : Int) == (rep d (d.go s (c - 1)) : Int)) = true := by simp; omega
                  rw [e2, Bool.not_true, Bool.or_false]
                  congr 1
                  refine propext (or_congr_right ⟨fun ⟨k, t, h3, h4, h5⟩ => ?_, fun ⟨k, t, h3, h4, h5⟩ => ⟨k, t, by omega, h4, h5⟩⟩)
                  by_cases ek : k = i
                  · subst ek
                    rw [HS.out] at h4
                    obtain rfl := Option.some.inj h4
                    exact absurd e h5
                  · exact ⟨k, t, by omega, h4, h5⟩
                · have e2 : ((rep d (d.go s c) : Int) == (rep d (d.go s (c - 1)) : Int)) = false := by simp; omega
                  rw [e2, Bool.not_false, Bool.or_true]
                  exact yes_t (.inr ⟨i, s, Nat.lt_succ_self i, HS.out, e⟩))
              have HDN := Lib.hid (fun q : Nat => HDR.out.drewN q)
              obtain ⟨t, ht⟩ : ∃ t, d.go s c = t := ⟨_, rfl⟩
              obtain ⟨u, hu⟩ : ∃ t, d.go s c' = t := ⟨_, rfl⟩
              rw [ht] at k3 HF1 HTN
              rw [hu] at k5 HF2 HTN
              obtain ⟨tr, htr⟩ : ∃ t', rep d t = t' := ⟨_, rfl⟩
              obtain ⟨ur, hur⟩ : ∃ t', rep d u = t' := ⟨_, rfl⟩
              rw [htr] at HF1 HTN
              rw [hur] at HF2 HTN
              clear ht hu htr hur k2 k4 k6 hs hc' HXM h1 h2
              cases tb
              case true =>
                go_wp2
                go_quiet (fail)
                rename_i nq
                go_wp2
                go_roundw
                case rel => exact ⟨i + 1, true, by go_num, rfl, by omega, Lib.hid (by rw [HTN.out]; rfl), Lib.hid (HDN.out _)⟩
                case measure => simp [intOf]; omega
              case false =>
                go_wp2
                go_quiet ((go_at_call 39; with_reducible (first | exact Calls.quiet_of_same (HF1.out _) | exact Calls.quiet_of_same (HF2.out _))))
                rename_i nq
                go_wp2
                go_roundw
                case rel => exact ⟨i + 1, !((tr : Int) == (ur : Int)), by go_num, rfl, by omega, Lib.hid (by rw [HTN.out]; rfl), Lib.hid (HDN.out _)⟩
                case measure => simp [intOf]; omega
            · have HTC : Hid (tb = yes (TurnsC d met c)) := Lib.hid (by rw [HTB.out, yes_t (.inl h2), yes_t (p := TurnsC d met c) (.inl h2)])
              have g1 : (i : Int) < (m : Int) := by omega
              have g2 : ¬ (0 : Int) < (c : Int) := by omega
              have g3 : (c : Int) ≤ 0 := by omega
              clear h1 h2
              cases tb
              case false =>
                have HE : Hid (clsN d met (c + 1) = clsN d met c) := Lib.hid (by rw [clsN_succ, ← HTC.out, if_neg (by simp)])
                go_wp2
                go_roundw
                case rel => exact ⟨c + 1, q, B', bc', v1, by go_num, rfl, by omega, by omega, Lib.hid (by rw [HE.out]; exact HQ.out), Lib.hid (by rw [HE.out]; exact ownsRow_below HCL.out HBD.out), Lib.hid (by rw [HE.out]; exact OwnI.below HV1.out HBD.out), HNE, Lib.hid (HDB.out.below HBD.out HDB.out.lt), HBX⟩
                case measure => simp [intOf]; omega
              case true =>
                have HE : Hid (clsN d met (c + 1) = clsN d met c ++ [c]) := Lib.hid (by rw [clsN_succ, ← HTC.out, if_pos rfl])
                obtain ⟨Av, cv, ev, hvo⟩ := HV1.out
                have hvl : ((clsN d met c).map fun c => d.cuts.getD c 0).length = q := by rw [List.length_map]; exact HQ.out
                rw [hvl] at ev hvo
                subst ev
                have HVO := Lib.hid (ownsRow_below hvo HBD.out)
                have HDW := Lib.hid (HDB.out.below HBD.out HDB.out.lt)
                have HCW := Lib.hid (ownsRow_below HCL.out HBD.out)
                have OWA := Lib.hid (HCW.out.alloc (.cells #[.int .i64 c] TLI))
                have SRA := Lib.hid (Src.one (w := wr) (x := .int .i64 (c : Int)) (t := TLI) rfl)
                have Q1 : Hid (q + 1 ≤ maxLen) := Lib.hid (by simp only [maxLen]; omega)
                have Q2 : Hid ((q + 1) * 8 ≤ 140737488355328) := Lib.hid (by omega)
                have hDl := HDW.out.lt
                have Z1 : Hid (D ≤ (wr.alloc (.cells #[.int .i64 (c : Int)] TLI)).heap.size) := Lib.hid (by simp; omega)
                have HDA := Lib.hid (HDW.out.alloc (.cells #[.int .i64 (c : Int)] TLI))
                have HBA := Lib.hid (HBX.out.alloc (Nat.le_of_lt HDW.out.lt) (.cells #[.int .i64 (c : Int)] TLI))
                have HVA := Lib.hid (HVO.out.alloc (.cells #[.int .i64 (c : Int)] TLI))
                obtain ⟨b4, o4, u4, y, eA1, hb4, cc4, ⟨rfl, hy1, hy2⟩, HY⟩ := HD.out.c.gt HNC hc1
                have HYD : Hid (d.cuts.getD c 0 = y) := Lib.hid (by rw [List.getD_eq_getElem?_getD, HY.out]; rfl)
                subst eA1
                clear hvo hvl
                go_wp2_with (first
                | (at_builtin
                   go_must (refine wpList_append_src _ rfl (.tmp 106) (.tmp 108) 26 rfl D TLI i0 (.int .i64 0) 1 8 Tryz.underlying26 hi0 hz0 hs0 hb0 rfl (by decide) B' bc' q _ rfl OWA.out _ 1 1 _ rfl SRA.out Q1.out Q2.out Z1.out ?_)
                   intro A9 c9 w9 own9 gr9 hn9
                   have hd9 := HDA.out.grown gr9 (own_blk_ne OWA.out HDA.out (by decide))
                   have HD9 := Lib.hid (show Blk w9.drew D TDfa #[.slice Av q cv, .slice none 0 0, .slice none 0 0] from hd9)
                   have hv9 := HVA.out.kept gr9 HNE.out
                   have HV9 := Lib.hid (ownsRow_drew hv9)
                   have HB9 := Lib.hid ((HBA.out.grown gr9 (Nat.le_of_lt HDA.out.lt) (fun g hgg => (OWA.out.lt g hgg).1)).drew)
                   have HC9 := Lib.hid (ownsRow_drew own9)
                   have HN9 := Lib.hid (off_new (v := .slice Av q cv) (s := (Value.slice A9 (q + 1) c9).ownBlock) HNE.out (fun k hk => (HVA.out.lt k hk).2) hn9)
                   clear own9 gr9 hn9 hd9 hv9))
                have HOL9 := Lib.hid (HOL3.out w9.drew HB9.out)
                obtain ⟨x0, x1, x2, _, _, _⟩ := Blk.three HD9.out
                obtain ⟨y0, y1, y2, _, _, _⟩ := Blk.three HOL9.out.a
                have hlt9 := HD9.out.lt
                have kc := (Keep.of (HBW.out.trans (HB9.out.mono hwr))).cell b4 (o4 + c) hb4
                rw [cc4] at kc
                have HS : Hid (w9.drew.cell? ⟨D, 0, none⟩ = some (.slice Av q cv) ∧ w9.drew.cell? ⟨w.heap.size, 0, none⟩ = some (.slice (some ⟨b4, o4, none⟩) n1 c1) ∧ w9.drew.cell? ⟨b4, o4 + c, none⟩ = some (.int .i64 y)) := Lib.hid ⟨x0, y0, kc⟩
                have hD1 : w.heap.size + 1 < D := HWD1
                refine wp_region_T 8 (fun W => W.cell? ⟨D, 0, none⟩ = some (.slice Av q cv) ∧ W.cell? ⟨w.heap.size, 0, none⟩ = some (.slice (some ⟨b4, o4, none⟩) n1 c1) ∧ W.cell? ⟨b4, o4 + c, none⟩ = some (.int .i64 y)) (by kernel_rfl) ?_
                clear x0 x1 x2 y0 y1 y2 kc cc4 hb4
                generalize w9.drew = W at *
                have OWB := Lib.hid (HV9.out.alloc (.cells #[.int .i64 y] TLI))
                have SRB := Lib.hid (Src.one (w := W) (x := .int .i64 y) (t := TLI) rfl)
                have Z3 : Hid (D ≤ (W.alloc (.cells #[.int .i64 y] TLI)).heap.size) := Lib.hid (by simp; omega)
                refine wpAnyT_takeC (i := 0) [8, 1] (v := ?_) rfl (by kernel_rfl) (by kernel_rfl) (by kernel_rfl) (by kernel_rfl) (by kernel_rfl) (by kernel_rfl) (fun _ _ _ h => h) (.inl ⟨rfl, ?_⟩) HS.out ?_
                rotate_left
                · intro W__ hW__
                  obtain ⟨h1, h2, h3⟩ := hW__
                  go_simp
                  (try with_reducible rfl)
                try simp only [Act.put]
                refine wpAnyT_takeC (i := 1) [8] (v := ?_) rfl (by kernel_rfl) (by kernel_rfl) (by kernel_rfl) (by kernel_rfl) (by kernel_rfl) (by kernel_rfl) (fun _ _ _ h => h) (.inl ⟨rfl, ?_⟩) HS.out ?_
                rotate_left
                · intro W__ hW__
                  obtain ⟨h1, h2, h3⟩ := hW__
                  go_simp
                  (try with_reducible rfl)
                try simp only [Act.put]
                refine wpAnyT_takeC (i := 2) [8, 7, 6, 5, 3] (v := ?_) rfl (by kernel_rfl) (by kernel_rfl) (by kernel_rfl) (by kernel_rfl) (by kernel_rfl) (by kernel_rfl) (fun _ _ _ h => h) (.inl ⟨rfl, ?_⟩) HS.out ?_
                rotate_left
                · intro W__ hW__
                  obtain ⟨h1, h2, h3⟩ := hW__
                  go_simp
                  (try with_reducible rfl)
                try simp only [Act.put]
                refine wpAnyT_takeC (i := 3) [8, 7, 6, 5] (v := ?_) rfl (by kernel_rfl) (by kernel_rfl) (by kernel_rfl) (by kernel_rfl) (by kernel_rfl) (by kernel_rfl) (fun _ _ _ h => h) (.inl ⟨rfl, ?_⟩) HS.out ?_
                rotate_left
                · intro W__ hW__
                  obtain ⟨h1, h2, h3⟩ := hW__
                  go_simp
                  (try with_reducible rfl)
                try simp only [Act.put]
                refine wpAnyT_takeC (i := 4) [8, 7, 6, 5] (v := ?_) rfl (by kernel_rfl) (by kernel_rfl) (by kernel_rfl) (by kernel_rfl) (by kernel_rfl) (by kernel_rfl) (fun _ _ _ h => h) (.inl ⟨rfl, ?_⟩) HS.out ?_
                rotate_left
                · intro W__ hW__
                  obtain ⟨h1, h2, h3⟩ := hW__
                  go_simp
                  (try with_reducible rfl)
                try simp only [Act.put]
                refine wpAnyT_takeC (i := 5) [8, 7, 6] (v := ?_) rfl (by kernel_rfl) (by kernel_rfl) (by kernel_rfl) (by kernel_rfl) (by kernel_rfl) (by kernel_rfl) (fun _ _ _ h => h) (.inl ⟨rfl, ?_⟩) HS.out ?_
                rotate_left
                · intro W__ hW__
                  obtain ⟨h1, h2, h3⟩ := hW__
                  go_simp
                  (try with_reducible rfl)
                try simp only [Act.put]
                refine wpAnyT_takeC (i := 6) [8, 7] (v := ?_) rfl (by kernel_rfl) (by kernel_rfl) (by kernel_rfl) (by kernel_rfl) (by kernel_rfl) (by kernel_rfl) (fun _ _ _ h => h) (.inl ⟨rfl, ?_⟩) HS.out ?_
                rotate_left
                · intro W__ hW__
                  obtain ⟨h1, h2, h3⟩ := hW__
                  go_simp
                  (try with_reducible rfl)
                try simp only [Act.put]
                refine wpAnyT_one (i := 7) rfl (by kernel_rfl) rfl fun K__ hK__ => ?_
                unfold Oper.wp
                go_simp
                refine hK__ _ _ ⟨((Keep.alloc W _).cell _ _ (World.block_lt_of_cell? _ _ HS.out.1)).trans HS.out.1, ((Keep.alloc W _).cell _ _ (World.block_lt_of_cell? _ _ HS.out.2.1)).trans HS.out.2.1, ((Keep.alloc W _).cell _ _ (World.block_lt_of_cell? _ _ HS.out.2.2)).trans HS.out.2.2⟩ ?_
                clear hK__
                refine wpAnyT_end (i := 8) rfl (by kernel_rfl) rfl (by kernel_rfl) fun K__ hK__ => ?_
                refine wp_append_src _ (.tmp 111) (.tmp 117) 26 rfl D TLI i0 (.int .i64 0) 1 8 Tryz.underlying26 hi0 hz0 hs0 hb0 rfl (by decide) Av cv q _ (by simp [Act.eval]) OWB.out _ 1 1 _ (by simp [Act.eval]) SRB.out Q1.out Q2.out Z3.out ?_
                intro A10 c10 w10 own10 gr10 hn10
                have HBW10 := Lib.hid ((Below.refl W.heap.size W).alloc (Nat.le_refl _) (.cells #[.int .i64 y] TLI))
                have HD10 := Lib.hid ((HD9.out.below HBW10.out HD9.out.lt).grown gr10 (own_blk_ne OWB.out (HD9.out.below HBW10.out HD9.out.lt) (by decide)))
                obtain ⟨x0, x1, x2, xf0, xf1, xf2⟩ := Blk.three HD10.out
                have HB10 := Lib.hid (((HB9.out.alloc (Nat.le_of_lt hlt9) (.cells #[.int .i64 y] TLI)).grown gr10 (by simp; omega) (fun g hgg => (OWB.out.lt g hgg).1)).setCell (p := ⟨D, 0, none⟩) (Nat.le_refl _) (.slice A10 (q + 1) c10))
                have HN9' : Hid ((Value.slice A9 (q + 1) c9).ownBlock = none ∨ (Value.slice A9 (q + 1) c9).ownBlock ≠ (Value.slice Av q cv).ownBlock) := Lib.hid (off_symm HN9.out)
                have HCX := Lib.hid ((HC9.out.alloc (.cells #[.int .i64 y] TLI)).kept gr10 HN9'.out)
                have HC10 := Lib.hid (ownsRow_setFar HCX.out HD10.out (by decide) 0 (.slice A10 (q + 1) c10))
                have HV10 := Lib.hid (ownsRow_setFar own10 HD10.out (by decide) 0 (.slice A10 (q + 1) c10))
                have HN10 : Hid ((Value.slice A10 (q + 1) c10).ownBlock = none ∨ (Value.slice A10 (q + 1) c10).ownBlock ≠ (Value.slice A9 (q + 1) c9).ownBlock) := Lib.hid (off_symm (off_new HN9'.out (fun k hk => ((HC9.out.alloc (.cells #[.int .i64 y] TLI)).lt k hk).2) hn10))
                refine hK__ _ _ ?_
                clear hK__ own10 gr10 hn10
                simp only [Act.put]
                refine wpAnyT_end (i := 9) rfl (by kernel_rfl) rfl (by kernel_rfl) fun K__ hK__ => ?_
                unfold Oper.wp
                go_simp
                refine hK__ _ _ ?_
                clear hK__
                refine wpAnyT_end (i := 10) rfl (by kernel_rfl) rfl (by kernel_rfl) fun K__ hK__ => ?_
                unfold Oper.wp
                go_simp
                refine hK__ _ _ ?_
                clear hK__
                refine wpAnyT_done (by kernel_rfl) ?_ _
                clear x0 x1 x2 xf0 xf1 xf2
                go_wp2
                go_roundw
                case rel => exact ⟨c + 1, q + 1, A9, c9, .slice A10 (q + 1) c10, by go_num, rfl, by omega, by omega, Lib.hid (by rw [HE.out, List.length_append, HQ.out]; rfl), Lib.hid (by rw [HE.out, numI_snoc, List.map_append]; exact HC10.out), Lib.hid ⟨A10, c10, by rw [HE.out, List.length_map, List.length_append, HQ.out]; rfl, by rw [HE.out, List.length_map, List.length_append, HQ.out, List.map_append, List.map_append]; simp only [List.map_cons, List.map_nil, HYD.out]; exact HV10.out⟩, HN10, Lib.hid (HD10.out.set 0 _), HB10⟩
                case measure => simp [intOf]; omega
            · have HTC : Hid (tb = yes (TurnsC d met c)) := Lib.hid (by
                rw [HTB.out]
                congr 1
                refine propext (or_congr_right ⟨fun ⟨k, t, _, h4, h5⟩ => ⟨t, mem_of_get h4, h5⟩, fun ⟨t, h4, h5⟩ => ?_⟩)
                obtain ⟨k, hk⟩ := List.getElem?_of_mem h4
                have := lt_of_get hk
                rw [HM.out] at this
                exact ⟨k, t, by omega, hk, h5⟩)
              have g1 : ¬ (i : Int) < (m : Int) := by omega
              have g2 : (m : Int) ≤ (i : Int) := by omega
              clear h1
              cases tb
              case false =>
                have HE : Hid (clsN d met (c + 1) = clsN d met c) := Lib.hid (by rw [clsN_succ, ← HTC.out, if_neg (by simp)])
                go_wp2
                go_roundw
                case rel => exact ⟨c + 1, q, B', bc', v1, by go_num, rfl, by omega, by omega, Lib.hid (by rw [HE.out]; exact HQ.out), Lib.hid (by rw [HE.out]; exact ownsRow_below HCL.out HBD.out), Lib.hid (by rw [HE.out]; exact OwnI.below HV1.out HBD.out), HNE, Lib.hid (HDB.out.below HBD.out HDB.out.lt), HBX⟩
                case measure => simp [intOf]; omega
              case true =>
                have HE : Hid (clsN d met (c + 1) = clsN d met c ++ [c]) := Lib.hid (by rw [clsN_succ, ← HTC.out, if_pos rfl])
                obtain ⟨Av, cv, ev, hvo⟩ := HV1.out
                have hvl : ((clsN d met c).map fun c => d.cuts.getD c 0).length = q := by rw [List.length_map]; exact HQ.out
                rw [hvl] at ev hvo
                subst ev
                have HVO := Lib.hid (ownsRow_below hvo HBD.out)
                have HDW := Lib.hid (HDB.out.below HBD.out HDB.out.lt)
                have HCW := Lib.hid (ownsRow_below HCL.out HBD.out)
                have OWA := Lib.hid (HCW.out.alloc (.cells #[.int .i64 c] TLI))
                have SRA := Lib.hid (Src.one (w := wr) (x := .int .i64 (c : Int)) (t := TLI) rfl)
                have Q1 : Hid (q + 1 ≤ maxLen) := Lib.hid (by simp only [maxLen]; omega)
                have Q2 : Hid ((q + 1) * 8 ≤ 140737488355328) := Lib.hid (by omega)
                have hDl := HDW.out.lt
                have Z1 : Hid (D ≤ (wr.alloc (.cells #[.int .i64 (c : Int)] TLI)).heap.size) := Lib.hid (by simp; omega)
                have HDA := Lib.hid (HDW.out.alloc (.cells #[.int .i64 (c : Int)] TLI))
                have HBA := Lib.hid (HBX.out.alloc (Nat.le_of_lt HDW.out.lt) (.cells #[.int .i64 (c : Int)] TLI))
                have HVA := Lib.hid (HVO.out.alloc (.cells #[.int .i64 (c : Int)] TLI))
                obtain ⟨b4, o4, u4, y, eA1, hb4, cc4, ⟨rfl, hy1, hy2⟩, HY⟩ := HD.out.c.gt HNC hc1
                have HYD : Hid (d.cuts.getD c 0 = y) := Lib.hid (by rw [List.getD_eq_getElem?_getD, HY.out]; rfl)
                subst eA1
                clear hvo hvl
                go_wp2_with (first
                | (at_builtin
                   go_must (refine wpList_append_src _ rfl (.tmp 106) (.tmp 108) 26 rfl D TLI i0 (.int .i64 0) 1 8 Tryz.underlying26 hi0 hz0 hs0 hb0 rfl (by decide) B' bc' q _ rfl OWA.out _ 1 1 _ rfl SRA.out Q1.out Q2.out Z1.out ?_)
                   intro A9 c9 w9 own9 gr9 hn9
                   have hd9 := HDA.out.grown gr9 (own_blk_ne OWA.out HDA.out (by decide))
                   have HD9 := Lib.hid (show Blk w9.drew D TDfa #[.slice Av q cv, .slice none 0 0, .slice none 0 0] from hd9)
                   have hv9 := HVA.out.kept gr9 HNE.out
                   have HV9 := Lib.hid (ownsRow_drew hv9)
                   have HB9 := Lib.hid ((HBA.out.grown gr9 (Nat.le_of_lt HDA.out.lt) (fun g hgg => (OWA.out.lt g hgg).1)).drew)
                   have HC9 := Lib.hid (ownsRow_drew own9)
                   have HN9 := Lib.hid (off_new (v := .slice Av q cv) (s := (Value.slice A9 (q + 1) c9).ownBlock) HNE.out (fun k hk => (HVA.out.lt k hk).2) hn9)
                   clear own9 gr9 hn9 hd9 hv9))
                have HOL9 := Lib.hid (HOL3.out w9.drew HB9.out)
                obtain ⟨x0, x1, x2, _, _, _⟩ := Blk.three HD9.out
                obtain ⟨y0, y1, y2, _, _, _⟩ := Blk.three HOL9.out.a
                have hlt9 := HD9.out.lt
                have kc := (Keep.of (HBW.out.trans (HB9.out.mono hwr))).cell b4 (o4 + c) hb4
                rw [cc4] at kc
                have HS : Hid (w9.drew.cell? ⟨D, 0, none⟩ = some (.slice Av q cv) ∧ w9.drew.cell? ⟨w.heap.size, 0, none⟩ = some (.slice (some ⟨b4, o4, none⟩) n1 c1) ∧ w9.drew.cell? ⟨b4, o4 + c, none⟩ = some (.int .i64 y)) := Lib.hid ⟨x0, y0, kc⟩
                have hD1 : w.heap.size + 1 < D := HWD1
                refine wp_region_T 8 (fun W => W.cell? ⟨D, 0, none⟩ = some (.slice Av q cv) ∧ W.cell? ⟨w.heap.size, 0, none⟩ = some (.slice (some ⟨b4, o4, none⟩) n1 c1) ∧ W.cell? ⟨b4, o4 + c, none⟩ = some (.int .i64 y)) (by kernel_rfl) ?_
                clear x0 x1 x2 y0 y1 y2 kc cc4 hb4
                generalize w9.drew = W at *
                have OWB := Lib.hid (HV9.out.alloc (.cells #[.int .i64 y] TLI))
                have SRB := Lib.hid (Src.one (w := W) (x := .int .i64 y) (t := TLI) rfl)
                have Z3 : Hid (D ≤ (W.alloc (.cells #[.int .i64 y] TLI)).heap.size) := Lib.hid (by simp; omega)
                refine wpAnyT_takeC (i := 0) [8, 1] (v := ?_) rfl (by kernel_rfl) (by kernel_rfl) (by kernel_rfl) (by kernel_rfl) (by kernel_rfl) (by kernel_rfl) (fun _ _ _ h => h) (.inl ⟨rfl, ?_⟩) HS.out ?_
                rotate_left
                · intro W__ hW__
                  obtain ⟨h1, h2, h3⟩ := hW__
                  go_simp
                  (try with_reducible rfl)
                try simp only [Act.put]
                refine wpAnyT_takeC (i := 1) [8] (v := ?_) rfl (by kernel_rfl) (by kernel_rfl) (by kernel_rfl) (by kernel_rfl) (by kernel_rfl) (by kernel_rfl) (fun _ _ _ h => h) (.inl ⟨rfl, ?_⟩) HS.out ?_
                rotate_left
                · intro W__ hW__
                  obtain ⟨h1, h2, h3⟩ := hW__
                  go_simp
                  (try with_reducible rfl)
                try simp only [Act.put]
                refine wpAnyT_takeC (i := 2) [8, 7, 6, 5, 3] (v := ?_) rfl (by kernel_rfl) (by kernel_rfl) (by kernel_rfl) (by kernel_rfl) (by kernel_rfl) (by kernel_rfl) (fun _ _ _ h => h) (.inl ⟨rfl, ?_⟩) HS.out ?_
                rotate_left
                · intro W__ hW__
                  obtain ⟨h1, h2, h3⟩ := hW__
                  go_simp
                  (try with_reducible rfl)
                try simp only [Act.put]
                refine wpAnyT_takeC (i := 3) [8, 7, 6, 5] (v := ?_) rfl (by kernel_rfl) (by kernel_rfl) (by kernel_rfl) (by kernel_rfl) (by kernel_rfl) (by kernel_rfl) (fun _ _ _ h => h) (.inl ⟨rfl, ?_⟩) HS.out ?_
                rotate_left
                · intro W__ hW__
                  obtain ⟨h1, h2, h3⟩ := hW__
                  go_simp
                  (try with_reducible rfl)
                try simp only [Act.put]
                refine wpAnyT_takeC (i := 4) [8, 7, 6, 5] (v := ?_) rfl (by kernel_rfl) (by kernel_rfl) (by kernel_rfl) (by kernel_rfl) (by kernel_rfl) (by kernel_rfl) (fun _ _ _ h => h) (.inl ⟨rfl, ?_⟩) HS.out ?_
                rotate_left
                · intro W__ hW__
                  obtain ⟨h1, h2, h3⟩ := hW__
                  go_simp
                  (try with_reducible rfl)
                try simp only [Act.put]
                refine wpAnyT_takeC (i := 5) [8, 7, 6] (v := ?_) rfl (by kernel_rfl) (by kernel_rfl) (by kernel_rfl) (by kernel_rfl) (by kernel_rfl) (by kernel_rfl) (fun _ _ _ h => h) (.inl ⟨rfl, ?_⟩) HS.out ?_
                rotate_left
                · intro W__ hW__
                  obtain ⟨h1, h2, h3⟩ := hW__
                  go_simp
                  (try with_reducible rfl)
                try simp only [Act.put]
                refine wpAnyT_takeC (i := 6) [8, 7] (v := ?_) rfl (by kernel_rfl) (by kernel_rfl) (by kernel_rfl) (by kernel_rfl) (by kernel_rfl) (by kernel_rfl) (fun _ _ _ h => h) (.inl ⟨rfl, ?_⟩) HS.out ?_
                rotate_left
                · intro W__ hW__
                  obtain ⟨h1, h2, h3⟩ := hW__
                  go_simp
                  (try with_reducible rfl)
                try simp only [Act.put]
                refine wpAnyT_one (i := 7) rfl (by kernel_rfl) rfl fun K__ hK__ => ?_
                unfold Oper.wp
                go_simp
                refine hK__ _ _ ⟨((Keep.alloc W _).cell _ _ (World.block_lt_of_cell? _ _ HS.out.1)).trans HS.out.1, ((Keep.alloc W _).cell _ _ (World.block_lt_of_cell? _ _ HS.out.2.1)).trans HS.out.2.1, ((Keep.alloc W _).cell _ _ (World.block_lt_of_cell? _ _ HS.out.2.2)).trans HS.out.2.2⟩ ?_
                clear hK__
                refine wpAnyT_end (i := 8) rfl (by kernel_rfl) rfl (by kernel_rfl) fun K__ hK__ => ?_
                refine wp_append_src _ (.tmp 111) (.tmp 117) 26 rfl D TLI i0 (.int .i64 0) 1 8 Tryz.underlying26 hi0 hz0 hs0 hb0 rfl (by decide) Av cv q _ (by simp [Act.eval]) OWB.out _ 1 1 _ (by simp [Act.eval]) SRB.out Q1.out Q2.out Z3.out ?_
                intro A10 c10 w10 own10 gr10 hn10
                have HBW10 := Lib.hid ((Below.refl W.heap.size W).alloc (Nat.le_refl _) (.cells #[.int .i64 y] TLI))
                have HD10 := Lib.hid ((HD9.out.below HBW10.out HD9.out.lt).grown gr10 (own_blk_ne OWB.out (HD9.out.below HBW10.out HD9.out.lt) (by decide)))
                obtain ⟨x0, x1, x2, xf0, xf1, xf2⟩ := Blk.three HD10.out
                have HB10 := Lib.hid (((HB9.out.alloc (Nat.le_of_lt hlt9) (.cells #[.int .i64 y] TLI)).grown gr10 (by simp; omega) (fun g hgg => (OWB.out.lt g hgg).1)).setCell (p := ⟨D, 0, none⟩) (Nat.le_refl _) (.slice A10 (q + 1) c10))
                have HN9' : Hid ((Value.slice A9 (q + 1) c9).ownBlock = none ∨ (Value.slice A9 (q + 1) c9).ownBlock ≠ (Value.slice Av q cv).ownBlock) := Lib.hid (off_symm HN9.out)
                have HCX := Lib.hid ((HC9.out.alloc (.cells #[.int .i64 y] TLI)).kept gr10 HN9'.out)
                have HC10 := Lib.hid (ownsRow_setFar HCX.out HD10.out (by decide) 0 (.slice A10 (q + 1) c10))
                have HV10 := Lib.hid (ownsRow_setFar own10 HD10.out (by decide) 0 (.slice A10 (q + 1) c10))
                have HN10 : Hid ((Value.slice A10 (q + 1) c10).ownBlock = none ∨ (Value.slice A10 (q + 1) c10).ownBlock ≠ (Value.slice A9 (q + 1) c9).ownBlock) := Lib.hid (off_symm (off_new HN9'.out (fun k hk => ((HC9.out.alloc (.cells #[.int .i64 y] TLI)).lt k hk).2) hn10))
                refine hK__ _ _ ?_
                clear hK__ own10 gr10 hn10
                simp only [Act.put]
                refine wpAnyT_end (i := 9) rfl (by kernel_rfl) rfl (by kernel_rfl) fun K__ hK__ => ?_
                unfold Oper.wp
                go_simp
                refine hK__ _ _ ?_
                clear hK__
                refine wpAnyT_end (i := 10) rfl (by kernel_rfl) rfl (by kernel_rfl) fun K__ hK__ => ?_
                unfold Oper.wp
                go_simp
                refine hK__ _ _ ?_
                clear hK__
                refine wpAnyT_done (by kernel_rfl) ?_ _
                clear x0 x1 x2 xf0 xf1 xf2
                go_wp2
                go_roundw
                case rel => exact ⟨c + 1, q + 1, A9, c9, .slice A10 (q + 1) c10, by go_num, rfl, by omega, by omega, Lib.hid (by rw [HE.out, List.length_append, HQ.out]; rfl), Lib.hid (by rw [HE.out, numI_snoc, List.map_append]; exact HC10.out), Lib.hid ⟨A10, c10, by rw [HE.out, List.length_map, List.length_append, HQ.out]; rfl, by rw [HE.out, List.length_map, List.length_append, HQ.out, List.map_append, List.map_append]; simp only [List.map_cons, List.map_nil, HYD.out]; exact HV10.out⟩, HN10, Lib.hid (HD10.out.set 0 _), HB10⟩
                case measure => simp [intOf]; omega
        · obtain rfl : n1 = c := by omega
          have hclt : ∀ x, x ∈ clsN d met n1 → x < n1 := fun x hx => clsN_lt hx
          obtain ⟨CL, hCL⟩ : ∃ CL, clsN d met n1 = CL := ⟨_, rfl⟩
          rw [hCL] at HQ HCL HV1 hclt
          have HCLS : Hid (CL = clsN d (metL d) d.cuts.length) := Lib.hid (by rw [← hCL, HMT.out, HNC.out])
          have HCLT := Lib.hid hclt
          obtain ⟨CU, hCU⟩ : ∃ CU, (CL.map fun c => d.cuts.getD c 0) = CU := ⟨_, rfl⟩
          rw [hCU] at HV1
          have HCU : Hid (CU = (leastD d).cuts) := Lib.hid (by rw [← hCU, HCLS.out]; rfl)
          have hql : (numI CL).length = q := by simp; exact HQ.out
          have hcul : CU.length = q := by rw [← hCU, List.length_map]; exact HQ.out
          have HQN := Lib.hid hql
          obtain ⟨Av, cv, ev, hvo⟩ := HV1.out
          rw [hcul] at ev
          subst ev
          have HL0 : Hid (LMk w8 wr D none (.slice Av q cv) (.slice B' q bc') (.slice none 0 0) (.slice none 0 0) CU (numI CL) [] []) := Lib.hid
            ⟨HDB.out, HV1.out, off_none _, ⟨B', bc', by rw [hql], by rw [hql]; exact HCL.out⟩, off_none _, Ls.nil _ _ _, Own.nil, HB3.out⟩
          clear hCL hCU hql hcul hvo hclt HQ HCL HV1 HNE HDB HB3 hcn hc1
          go_wp2
          clear HOLW d0 d1 d2 hNd
          go_loopw [13] (fun iv W => ∃ (i : Nat) (v2 v3 : Value), iv = .int .i64 i ∧ i ≤ m ∧ Hid (LMk w8 W D none (.slice Av q cv) (.slice B' q bc') v2 v3 CU (numI CL) ((met.take i).map (rowN d met CL)) ((met.take i).map d.acc))) (fun iv _ => m - (intOf iv).toNat)
          case atStart => exact ⟨0, _, _, rfl, by omega, HL0⟩
          case round =>
            clear HL0
            obtain ⟨i, v2, v3, rfl, him, HM3⟩ := hrel
            have i5 : (0 : Int) ≤ (i : Int) := by omega
            by_cases hlt : i < m
            · have i6 : (i : Int) < (m : Int) := by omega
              obtain ⟨s, HSI⟩ : ∃ s, Hid (met[i]? = some s) := ⟨_, Lib.hid (List.getElem?_eq_getElem (by rw [HM.out]; exact hlt))⟩
              have hsn : s < n := by have := HOK2.out.lt s (mem_of_get HSI.out); rwa [HNN.out] at this
              have HSM : Hid (s ∈ metL d) := Lib.hid (by rw [← HMT.out]; exact mem_of_get HSI.out)
              have s0 : (0 : Int) ≤ (s : Int) := by omega
              have s1 : (s : Int) < (n : Int) := by omega
              go_wp2
              go_loopw [15, 14] (fun pv rv W => ∃ (p : Nat) (R : Option Addr) (rcp : Nat), pv = .int .i64 p ∧ rv = .slice R p rcp ∧ p ≤ q ∧ Hid (W.ownsRow D TLI 1 (.slice R p rcp) p ((rowN d met (CL.take p) s).map (Value.int .i64))) ∧
                Hid (LMk w8 W D (Value.slice R p rcp).ownBlock (.slice Av q cv) (.slice B' q bc') v2 v3 CU (numI CL) ((met.take i).map (rowN d met CL)) ((met.take i).map d.acc))) (fun pv _ _ => q - (intOf pv).toNat)
              case atStart => exact ⟨0, none, 0, rfl, rfl, by omega, Lib.hid (World.ownsRow_nil _ _ _ _), HM3⟩
              case round =>
                clear HM3
                obtain ⟨p, R, rcp, rfl, rfl, hpq, HO, HM3⟩ := hrel
                have i7 : (0 : Int) ≤ (p : Int) := by omega
                have HOX := Lib.hid (HOL3.out wr HM3.out.b)
                have HATX := Lib.hid (HATM.out wr HM3.out.b)
                have hDl := HM3.out.d.lt
                obtain ⟨bm, om, um, xm, eBm, hbm, cm, ⟨rfl, _, _⟩, HXM⟩ := HATX.out.gt (n := m) (Lib.hid (by simp; exact HM.out)) hlt
                subst eBm
                have hxm : xm = (s : Int) := by
                  have h1 := HXM.out
                  rw [List.getElem?_map, HSI.out] at h1
                  exact (Option.some.inj h1).symm
                subst hxm
                by_cases hp : p < q
                · have i8 : (p : Int) < (q : Int) := by omega
                  have hatc := OwnI.atN HM3.out.k HCLT.out (by omega) HQN.out (by omega)
                  obtain ⟨b5, o5, u5, x5, eB5, hb5, cc5, ⟨rfl, _, _⟩, HX5⟩ := hatc.gt HQN hp
                  subst eB5
                  obtain ⟨cc, hcc, rfl⟩ : ∃ cc : Nat, CL[p]? = some cc ∧ (cc : Int) = x5 := by
                    have h1 := HX5.out
                    rw [List.getElem?_map] at h1
                    obtain ⟨y, h2, h3⟩ := Option.map_eq_some_iff.1 h1
                    exact ⟨y, h2, h3⟩
                  have HCC := Lib.hid hcc
                  have hcn1 : cc < n1 := HCLT.out cc (mem_of_get hcc)
                  obtain ⟨rb, ro, rc, k1, k2⟩ := HOX.out.r s hsn
                  obtain ⟨k3, k4⟩ := k2 cc hcn1
                  have c0 : (0 : Int) ≤ (cc : Int) := by omega
                  have c1' : (cc : Int) < (n1 : Int) := by omega
                  have hshut := metL_shut HOK.out HSM.out (c := cc) (by rw [HNC.out]; exact hcn1)
                  obtain ⟨y0, y1, y2, _, _, _⟩ := Blk.three HOX.out.a
                  have HRN : Hid (rowN d met (CL.take (p + 1)) s = rowN d met (CL.take p) s ++ [(met.idxOf (rep d (d.go s cc)) : Int)]) := Lib.hid (by
                    unfold rowN; rw [take_snoc HCC.out, List.map_append]; rfl)
                  obtain ⟨t, ht⟩ : ∃ t, d.go s cc = t := ⟨_, rfl⟩
                  rw [ht] at k3 k4 hshut HRN
                  have HFI := Lib.hid (ref11_first d g n n t wr.drew (HOX.out.t.next (Below.refl _ _).drew) k4 (by omega))
                  obtain ⟨tr, htr⟩ : ∃ t', rep d t = t' := ⟨_, rfl⟩
                  rw [htr] at HFI hshut HRN
                  have HHA := Lib.hid (ref11_has (some ⟨bm, om, none⟩) bc m met tr wr.drew HATX.out HM)
                  rw [placeI_in (by rw [HMT.out]; exact hshut)] at HHA
                  obtain ⟨pl, hpl⟩ : ∃ pl, met.idxOf tr = pl := ⟨_, rfl⟩
                  rw [hpl] at HHA HRN
                  have HS : Hid (wr.drew.cell? ⟨w.heap.size, 1, none⟩ = some (.slice (some ⟨b2, o2, none⟩) n c2) ∧ wr.drew.cell? ⟨bm, om + i, none⟩ = some (.int .i64 s) ∧ wr.drew.cell? ⟨b2, o2 + s, none⟩ = some (.slice (some ⟨rb, ro, none⟩) n1 rc) ∧ wr.drew.cell? ⟨b5, o5 + p, none⟩ = some (.int .i64 cc) ∧ wr.drew.cell? ⟨rb, ro + cc, none⟩ = some (.int .i64 t)) := Lib.hid ⟨y1, cm, k1, cc5, k3⟩
                  have HOW : Hid (wr.drew.ownsRow D TLI 1 (.slice R p rcp) p ((rowN d met (CL.take p) s).map (Value.int .i64))) := Lib.hid HO.out
                  have HMW := Lib.hid (HM3.out.below (Below.refl _ _).drew)
                  have Q1 : Hid (p + 1 ≤ maxLen) := Lib.hid (by simp only [maxLen]; omega)
                  have Q2 : Hid ((p + 1) * 8 ≤ 140737488355328) := Lib.hid (by omega)
                  have hDl' : D < wr.drew.heap.size := hDl
                  clear k2 k4 ht htr hpl hshut hcc hatc HO HX5 HXM
                  go_wp2
                  refine wp_region_T 20 (fun W => W.cell? ⟨w.heap.size, 1, none⟩ = some (.slice (some ⟨b2, o2, none⟩) n c2) ∧ W.cell? ⟨bm, om + i, none⟩ = some (.int .i64 s) ∧ W.cell? ⟨b2, o2 + s, none⟩ = some (.slice (some ⟨rb, ro, none⟩) n1 rc) ∧ W.cell? ⟨b5, o5 + p, none⟩ = some (.int .i64 cc) ∧ W.cell? ⟨rb, ro + cc, none⟩ = some (.int .i64 t)) (by kernel_rfl) ?_
                  clear y0 y1 y2 cm k1 cc5 k3 HOX HATX HM3 hDl
                  generalize wr.drew = W at *
                  have OWB := Lib.hid (HOW.out.alloc (.cells #[.int .i64 (pl : Int)] TLI))
                  have SRB := Lib.hid (Src.one (w := W) (x := .int .i64 (pl : Int)) (t := TLI) rfl)
                  have Z3 : Hid (D ≤ (W.alloc (.cells #[.int .i64 (pl : Int)] TLI)).heap.size) := Lib.hid (by simp; omega)
                  have HMA := Lib.hid (HMW.out.below ((Below.refl _ _).alloc (Nat.le_refl _) (.cells #[.int .i64 (pl : Int)] TLI)))
                  refine wpAnyT_takeC (i := 0) [20] (v := ?_) rfl (by kernel_rfl) (by kernel_rfl) (by kernel_rfl) (by kernel_rfl) (by kernel_rfl) (by kernel_rfl) (fun _ _ _ h => h) (.inl ⟨rfl, ?_⟩) HS.out ?_
                  rotate_left
                  · intro W__ hW__
                    obtain ⟨h1, h2, h3, h4, h5⟩ := hW__
                    go_simp
                    (try with_reducible rfl)
                  try simp only [Act.put]
                  refine wpAnyT_takeC (i := 1) [20, 18] (v := ?_) rfl (by kernel_rfl) (by kernel_rfl) (by kernel_rfl) (by kernel_rfl) (by kernel_rfl) (by kernel_rfl) (fun _ _ _ h => h) (.inl ⟨rfl, ?_⟩) HS.out ?_
                  rotate_left
                  · intro W__ hW__
                    obtain ⟨h1, h2, h3, h4, h5⟩ := hW__
                    go_simp
                    (try with_reducible rfl)
                  try simp only [Act.put]
                  refine wpAnyT_takeC (i := 2) [20, 18, 17] (v := ?_) rfl (by kernel_rfl) (by kernel_rfl) (by kernel_rfl) (by kernel_rfl) (by kernel_rfl) (by kernel_rfl) (fun _ _ _ h => h) (.inl ⟨rfl, ?_⟩) HS.out ?_
                  rotate_left
                  · intro W__ hW__
                    obtain ⟨h1, h2, h3, h4, h5⟩ := hW__
                    go_simp
                    (try with_reducible rfl)
                  try simp only [Act.put]
                  refine wpAnyT_takeC (i := 3) [20, 18, 17, 16, 15, 10, 9, 4] (v := ?_) rfl (by kernel_rfl) (by kernel_rfl) (by kernel_rfl) (by kernel_rfl) (by kernel_rfl) (by kernel_rfl) (fun _ _ _ h => h) (.inl ⟨rfl, ?_⟩) HS.out ?_
                  rotate_left
                  · intro W__ hW__
                    obtain ⟨h1, h2, h3, h4, h5⟩ := hW__
                    go_simp
                    (try with_reducible rfl)
                  try simp only [Act.put]
                  refine wpAnyT_takeC (i := 4) [20, 18, 17, 16, 15, 10, 9] (v := ?_) rfl (by kernel_rfl) (by kernel_rfl) (by kernel_rfl) (by kernel_rfl) (by kernel_rfl) (by kernel_rfl) (fun _ _ _ h => h) (.inl ⟨rfl, ?_⟩) HS.out ?_
                  rotate_left
                  · intro W__ hW__
                    obtain ⟨h1, h2, h3, h4, h5⟩ := hW__
                    go_simp
                    (try with_reducible rfl)
                  try simp only [Act.put]
                  refine wpAnyT_takeC (i := 5) [20, 18, 17, 16, 15, 10, 9, 8, 7] (v := ?_) rfl (by kernel_rfl) (by kernel_rfl) (by kernel_rfl) (by kernel_rfl) (by kernel_rfl) (by kernel_rfl) (fun _ _ _ h => h) (.inl ⟨rfl, ?_⟩) HS.out ?_
                  rotate_left
                  · intro W__ hW__
                    obtain ⟨h1, h2, h3, h4, h5⟩ := hW__
                    go_simp
                    (try with_reducible rfl)
                  try simp only [Act.put]
                  refine wpAnyT_takeC (i := 6) [20, 18, 17, 16, 15, 10, 9, 8, 7] (v := ?_) rfl (by kernel_rfl) (by kernel_rfl) (by kernel_rfl) (by kernel_rfl) (by kernel_rfl) (by kernel_rfl) (fun _ _ _ h => h) (.inl ⟨rfl, ?_⟩) HS.out ?_
                  rotate_left
                  · intro W__ hW__
                    obtain ⟨h1, h2, h3, h4, h5⟩ := hW__
                    go_simp
                    (try with_reducible rfl)
                  try simp only [Act.put]
                  refine wpAnyT_takeC (i := 7) [20, 18, 17, 16, 15, 10, 9, 8] (v := ?_) rfl (by kernel_rfl) (by kernel_rfl) (by kernel_rfl) (by kernel_rfl) (by kernel_rfl) (by kernel_rfl) (fun _ _ _ h => h) (.inl ⟨rfl, ?_⟩) HS.out ?_
                  rotate_left
                  · intro W__ hW__
                    obtain ⟨h1, h2, h3, h4, h5⟩ := hW__
                    go_simp
                    (try with_reducible rfl)
                  try simp only [Act.put]
                  refine wpAnyT_takeC (i := 8) [20, 18, 17, 16, 15, 10, 9] (v := ?_) rfl (by kernel_rfl) (by kernel_rfl) (by kernel_rfl) (by kernel_rfl) (by kernel_rfl) (by kernel_rfl) (fun _ _ _ h => h) (.inl ⟨rfl, ?_⟩) HS.out ?_
                  rotate_left
                  · intro W__ hW__
                    obtain ⟨h1, h2, h3, h4, h5⟩ := hW__
                    go_simp
                    (try with_reducible rfl)
                  try simp only [Act.put]
                  refine wpAnyT_takeC (i := 9) [20, 18, 17, 16, 15, 10] (v := ?_) rfl (by kernel_rfl) (by kernel_rfl) (by kernel_rfl) (by kernel_rfl) (by kernel_rfl) (by kernel_rfl) (fun _ _ _ h => h) (.inl ⟨rfl, ?_⟩) HS.out ?_
                  rotate_left
                  · intro W__ hW__
                    obtain ⟨h1, h2, h3, h4, h5⟩ := hW__
                    go_simp
                    (try with_reducible rfl)
                  try simp only [Act.put]
                  refine wpAnyT_takeC (i := 10) [20, 18, 17, 16, 15] (v := ?_) rfl (by kernel_rfl) (by kernel_rfl) (by kernel_rfl) (by kernel_rfl) (by kernel_rfl) (by kernel_rfl) (fun _ _ _ h => h) (.inl ⟨rfl, ?_⟩) HS.out ?_
                  rotate_left
                  · intro W__ hW__
                    obtain ⟨h1, h2, h3, h4, h5⟩ := hW__
                    go_simp
                    (try with_reducible rfl)
                  try simp only [Act.put]
                  refine wpAnyT_takeC (i := 11) [20, 18, 17, 16, 15, 14, 13] (v := ?_) rfl (by kernel_rfl) (by kernel_rfl) (by kernel_rfl) (by kernel_rfl) (by kernel_rfl) (by kernel_rfl) (fun _ _ _ h => h) (.inl ⟨rfl, ?_⟩) HS.out ?_
                  rotate_left
                  · intro W__ hW__
                    obtain ⟨h1, h2, h3, h4, h5⟩ := hW__
                    go_simp
                    (try with_reducible rfl)
                  try simp only [Act.put]
                  refine wpAnyT_takeC (i := 12) [20, 18, 17, 16, 15, 14, 13] (v := ?_) rfl (by kernel_rfl) (by kernel_rfl) (by kernel_rfl) (by kernel_rfl) (by kernel_rfl) (by kernel_rfl) (fun _ _ _ h => h) (.inl ⟨rfl, ?_⟩) HS.out ?_
                  rotate_left
                  · intro W__ hW__
                    obtain ⟨h1, h2, h3, h4, h5⟩ := hW__
                    go_simp
                    (try with_reducible rfl)
                  try simp only [Act.put]
                  refine wpAnyT_takeC (i := 13) [20, 18, 17, 16, 15, 14] (v := ?_) rfl (by kernel_rfl) (by kernel_rfl) (by kernel_rfl) (by kernel_rfl) (by kernel_rfl) (by kernel_rfl) (fun _ _ _ h => h) (.inl ⟨rfl, ?_⟩) HS.out ?_
                  rotate_left
                  · intro W__ hW__
                    obtain ⟨h1, h2, h3, h4, h5⟩ := hW__
                    go_simp
                    (try with_reducible rfl)
                  try simp only [Act.put]
                  refine wpAnyT_takeC (i := 14) [20, 18, 17, 16, 15] (v := ?_) rfl (by kernel_rfl) (by kernel_rfl) (by kernel_rfl) (by kernel_rfl) (by kernel_rfl) (by kernel_rfl) (fun _ _ _ h => h) (.inl ⟨rfl, ?_⟩) HS.out ?_
                  rotate_left
                  · intro W__ hW__
                    obtain ⟨h1, h2, h3, h4, h5⟩ := hW__
                    go_simp
                    (try with_reducible rfl)
                  try simp only [Act.put]
                  refine wpAnyT_takeC (i := 15) [20, 18, 17, 16] (v := ?_) rfl (by kernel_rfl) (by kernel_rfl) (by kernel_rfl) (by kernel_rfl) (by kernel_rfl) (by kernel_rfl) (fun _ _ _ h => h) (.inl ⟨rfl, ?_⟩) HS.out ?_
                  rotate_left
                  · intro W__ hW__
                    obtain ⟨h1, h2, h3, h4, h5⟩ := hW__
                    go_simp
                    (try with_reducible rfl)
                  try simp only [Act.put]
                  refine wpAnyT_takeC (i := 16) [20, 18, 17] (v := ?_) rfl (by kernel_rfl) (by kernel_rfl) (by kernel_rfl) (by kernel_rfl) (by kernel_rfl) (by kernel_rfl) (fun _ _ _ h => h) (.inl ⟨rfl, ?_⟩) HS.out ?_
                  rotate_left
                  · intro W__ hW__
                    obtain ⟨h1, h2, h3, h4, h5⟩ := hW__
                    go_simp
                    (try with_reducible rfl)
                  try simp only [Act.put]
                  refine wpAnyT_one (i := 17) rfl (by kernel_rfl) rfl fun K__ hK__ => ?_
                  unfold Oper.wp
                  go_simp
                  refine HFI.out.mono ?_
                  rintro e w10 ⟨rfl, rfl⟩
                  refine hK__ _ _ HS.out ?_
                  clear hK__
                  refine wpAnyT_one (i := 18) rfl (by kernel_rfl) rfl fun K__ hK__ => ?_
                  unfold Oper.wp
                  go_simp
                  refine HHA.out.mono ?_
                  rintro e w11 ⟨rfl, rfl⟩
                  refine hK__ _ _ HS.out ?_
                  clear hK__
                  refine wpAnyT_one (i := 19) rfl (by kernel_rfl) rfl fun K__ hK__ => ?_
                  unfold Oper.wp
                  go_simp
                  have KW := Keep.alloc w11 (.cells #[.int .i64 (pl : Int)] TLI)
                  refine hK__ _ _ ⟨(KW.cell _ _ (World.block_lt_of_cell? _ _ HS.out.1)).trans HS.out.1, (KW.cell _ _ (World.block_lt_of_cell? _ _ HS.out.2.1)).trans HS.out.2.1, (KW.cell _ _ (World.block_lt_of_cell? _ _ HS.out.2.2.1)).trans HS.out.2.2.1, (KW.cell _ _ (World.block_lt_of_cell? _ _ HS.out.2.2.2.1)).trans HS.out.2.2.2.1, (KW.cell _ _ (World.block_lt_of_cell? _ _ HS.out.2.2.2.2)).trans HS.out.2.2.2.2⟩ ?_
                  clear hK__ KW
                  refine wpAnyT_end (i := 20) rfl (by kernel_rfl) rfl (by kernel_rfl) fun K__ hK__ => ?_
                  refine wp_append_src _ (.tmp 132) (.tmp 151) 26 rfl D TLI i0 (.int .i64 0) 1 8 Tryz.underlying26 hi0 hz0 hs0 hb0 rfl (by decide) R rcp p _ (by simp [Act.eval]) OWB.out _ 1 1 _ (by simp [Act.eval]) SRB.out Q1.out Q2.out Z3.out ?_
                  intro A10 c10 w12 own10 gr10 hn10
                  have HM9 := Lib.hid (LMk.row (rv' := .slice A10 (p + 1) c10) HMA.out OWB.out gr10 hn10 (Nat.le_refl _))
                  have HO9 := Lib.hid own10
                  refine hK__ _ _ ?_
                  clear hK__ own10 gr10 hn10
                  simp only [Act.put]
                  refine wpAnyT_end (i := 21) rfl (by kernel_rfl) rfl (by kernel_rfl) fun K__ hK__ => ?_
                  unfold Oper.wp
                  go_simp
                  refine hK__ _ _ ?_
                  clear hK__
                  refine wpAnyT_done (by kernel_rfl) ?_ _
                  go_wp2
                  go_roundw
                  case rel => exact ⟨p + 1, A10, c10, by go_num, rfl, by omega, Lib.hid (by rw [HRN.out, List.map_append]; exact HO9.out), HM9⟩
                  case measure => simp [intOf]; omega
                · obtain rfl : q = p := by omega
                  obtain ⟨A2, cA2, us2, ev2, ow2, rel2⟩ := HM3.out.free.r
                  obtain ⟨A3, cA3, us3, ev3, ow3, rel3⟩ := HM3.out.t
                  have hrl : ((met.take i).map (rowN d met CL)).length = i := by rw [List.length_map, List.length_take, HM.out]; omega
                  have hal : ((met.take i).map d.acc).length = i := by rw [List.length_map, List.length_take, HM.out]; omega
                  rw [hrl] at ev2 ow2
                  rw [hal] at ev3 ow3
                  subst ev2; subst ev3
                  have HRL := Lib.hid hrl; have HAL := Lib.hid hal
                  have OW2 := Lib.hid ow2; have REL2 := Lib.hid rel2
                  have HU : Hid (OwnI wr D (.slice R q rcp) (rowN d met CL s)) := Lib.hid ⟨R, rcp, by rw [rowN, List.length_map]; have := HQN.out; simp at this; rw [this], by
                    have h1 := HO.out
                    rw [List.take_of_length_le (by have := HQN.out; simp at this; omega)] at h1
                    rw [show (rowN d met CL s).length = q by rw [rowN, List.length_map]; simpa using HQN.out]
                    exact h1⟩
                  have HMF := Lib.hid HM3.out.free
                  have OWA := Lib.hid (ow2.alloc (.cells #[.slice R q rcp] TLL))
                  have SRA := Lib.hid (Src.one (w := wr) (x := .slice R q rcp) (t := TLL) rfl)
                  have Q1 : Hid (i + 1 ≤ maxLen) := Lib.hid (by simp only [maxLen]; omega)
                  have Q2 : Hid ((i + 1) * 24 ≤ 140737488355328) := Lib.hid (by omega)
                  have Q4 : Hid ((i + 1) * 1 ≤ 140737488355328) := Lib.hid (by omega)
                  have Z1 : Hid (D ≤ (wr.alloc (.cells #[.slice R q rcp] TLL)).heap.size) := Lib.hid (by simp; omega)
                  have HDA := Lib.hid (HMF.out.d.alloc (.cells #[.slice R q rcp] TLL))
                  obtain ⟨z0, z1, z2, _, _, _⟩ := Blk.three HMF.out.d
                  have hD1 : w.heap.size + 1 < D := HWD1
                  clear hrl hal ow2 rel2 ow3 rel3 cm HXM hbm
                  go_wp2_with (first
                  | (at_builtin
                     go_must (refine wpList_append_src _ rfl (.tmp 154) (.tmp 156) 27 rfl D TLL i2' (.slice none 0 0) 1 24 Tryz.underlying27 hi2 hz2 hs2 hb2' rfl (by decide) A2 cA2 i us2 rfl OWA.out _ 1 1 _ rfl SRA.out Q1.out Q2.out Z1.out ?_)
                     intro A9 c9 w9 own9 gr9 _
                     have HMD := Lib.hid (LMk.done HMF.out OW2.out REL2.out HRL.out HU.out own9 gr9)
                     obtain ⟨s0', s1', s2', f0', f1', f2'⟩ := Blk.three (HDA.out.grown gr9 (own_blk_ne OWA.out HDA.out (by decide)))
                     clear own9 gr9))
                  have HMX := Lib.hid (HMD.out.below (Below.refl _ _).drew)
                  obtain ⟨A3', cA3', us3', ev3', ow3', rel3'⟩ := HMX.out.t
                  rw [HAL.out] at ev3' ow3'
                  injection ev3' with ev31 _ ev33
                  subst ev31; subst ev33
                  have OW3 := Lib.hid ow3'; have REL3 := Lib.hid rel3'
                  have HOX9 := Lib.hid (HOL3.out _ HMX.out.b)
                  have hatx := HATM.out _ HMX.out.b
                  obtain ⟨b6, o6, u6, x6, e6, hb6, cc6, ⟨rfl, _, _⟩, HX6⟩ := hatx.gt (n := m) (Lib.hid (by simp; exact HM.out)) hlt
                  injection e6 with e6
                  injection e6 with e61 e62
                  subst e61; subst e62
                  have hx6 : x6 = (s : Int) := by
                    have h1 := HX6.out
                    rw [List.getElem?_map, HSI.out] at h1
                    exact (Option.some.inj h1).symm
                  subst hx6
                  obtain ⟨y0, y1, y2, _, _, _⟩ := Blk.three HOX9.out.a
                  have ya := HOX9.out.acc s hsn
                  obtain ⟨x0, x1, x2, xf0, xf1, xf2⟩ := Blk.three HMX.out.d
                  obtain ⟨bb, hbb⟩ : ∃ bb, d.acc s = bb := ⟨_, rfl⟩
                  have HBB := Lib.hid hbb
                  rw [hbb] at ya
                  have HS : Hid (((w9.setCell ⟨D, 1, none⟩ (.slice A9 (i + 1) c9)).drew).cell? ⟨D, 2, none⟩ = some (.slice A3 i cA3) ∧ ((w9.setCell ⟨D, 1, none⟩ (.slice A9 (i + 1) c9)).drew).cell? ⟨w.heap.size, 2, none⟩ = some (.slice (some ⟨b3, o3, none⟩) n c3) ∧ ((w9.setCell ⟨D, 1, none⟩ (.slice A9 (i + 1) c9)).drew).cell? ⟨bm, om + i, none⟩ = some (.int .i64 s) ∧ ((w9.setCell ⟨D, 1, none⟩ (.slice A9 (i + 1) c9)).drew).cell? ⟨b3, o3 + s, none⟩ = some (.bool bb)) := Lib.hid ⟨x2, y2, cc6, ya⟩
                  refine wp_region_T 11 (fun W => W.cell? ⟨D, 2, none⟩ = some (.slice A3 i cA3) ∧ W.cell? ⟨w.heap.size, 2, none⟩ = some (.slice (some ⟨b3, o3, none⟩) n c3) ∧ W.cell? ⟨bm, om + i, none⟩ = some (.int .i64 s) ∧ W.cell? ⟨b3, o3 + s, none⟩ = some (.bool bb)) (by kernel_rfl) ?_
                  clear x0 x1 x2 xf0 xf1 xf2 y0 y1 y2 s0' s1' s2' f0' f1' f2' z0 z1 z2 ya cc6 hatx hbb ow3' rel3' HMD
                  generalize (w9.setCell ⟨D, 1, none⟩ (.slice A9 (i + 1) c9)).drew = W at *
                  have HS9 := Lib.hid (show (W.alloc (.cells #[.bool bb] 4)).cell? ⟨D, 2, none⟩ = some (.slice A3 i cA3) ∧ (W.alloc (.cells #[.bool bb] 4)).cell? ⟨w.heap.size, 2, none⟩ = some (.slice (some ⟨b3, o3, none⟩) n c3) ∧ (W.alloc (.cells #[.bool bb] 4)).cell? ⟨bm, om + i, none⟩ = some (.int .i64 s) ∧ (W.alloc (.cells #[.bool bb] 4)).cell? ⟨b3, o3 + s, none⟩ = some (.bool bb) from
                    ⟨((Keep.alloc W _).cell _ _ (World.block_lt_of_cell? _ _ HS.out.1)).trans HS.out.1, ((Keep.alloc W _).cell _ _ (World.block_lt_of_cell? _ _ HS.out.2.1)).trans HS.out.2.1, ((Keep.alloc W _).cell _ _ (World.block_lt_of_cell? _ _ HS.out.2.2.1)).trans HS.out.2.2.1, ((Keep.alloc W _).cell _ _ (World.block_lt_of_cell? _ _ HS.out.2.2.2)).trans HS.out.2.2.2⟩)
                  have OWB := Lib.hid (OW3.out.alloc (.cells #[.bool bb] 4))
                  have SRB := Lib.hid (Src.one (w := W) (x := .bool bb) (t := 4) rfl)
                  have Z3 : Hid (D ≤ (W.alloc (.cells #[.bool bb] 4)).heap.size) := Lib.hid (by have := HMX.out.d.lt; simp; omega)
                  refine wpAnyT_takeC (i := 0) [11, 1] (v := ?_) rfl (by kernel_rfl) (by kernel_rfl) (by kernel_rfl) (by kernel_rfl) (by kernel_rfl) (by kernel_rfl) (fun _ _ _ h => h) (.inl ⟨rfl, ?_⟩) HS.out ?_
                  rotate_left
                  · intro W__ hW__
                    obtain ⟨h1, h2, h3, h4⟩ := hW__
                    go_simp
                    (try with_reducible rfl)
                  try simp only [Act.put]
                  refine wpAnyT_takeC (i := 1) [11] (v := ?_) rfl (by kernel_rfl) (by kernel_rfl) (by kernel_rfl) (by kernel_rfl) (by kernel_rfl) (by kernel_rfl) (fun _ _ _ h => h) (.inl ⟨rfl, ?_⟩) HS.out ?_
                  rotate_left
                  · intro W__ hW__
                    obtain ⟨h1, h2, h3, h4⟩ := hW__
                    go_simp
                    (try with_reducible rfl)
                  try simp only [Act.put]
                  refine wpAnyT_takeC (i := 2) [11, 10, 9, 8, 3] (v := ?_) rfl (by kernel_rfl) (by kernel_rfl) (by kernel_rfl) (by kernel_rfl) (by kernel_rfl) (by kernel_rfl) (fun _ _ _ h => h) (.inl ⟨rfl, ?_⟩) HS.out ?_
                  rotate_left
                  · intro W__ hW__
                    obtain ⟨h1, h2, h3, h4⟩ := hW__
                    go_simp
                    (try with_reducible rfl)
                  try simp only [Act.put]
                  refine wpAnyT_takeC (i := 3) [11, 10, 9, 8] (v := ?_) rfl (by kernel_rfl) (by kernel_rfl) (by kernel_rfl) (by kernel_rfl) (by kernel_rfl) (by kernel_rfl) (fun _ _ _ h => h) (.inl ⟨rfl, ?_⟩) HS.out ?_
                  rotate_left
                  · intro W__ hW__
                    obtain ⟨h1, h2, h3, h4⟩ := hW__
                    go_simp
                    (try with_reducible rfl)
                  try simp only [Act.put]
                  refine wpAnyT_takeC (i := 4) [11, 10, 9, 8, 7, 6] (v := ?_) rfl (by kernel_rfl) (by kernel_rfl) (by kernel_rfl) (by kernel_rfl) (by kernel_rfl) (by kernel_rfl) (fun _ _ _ h => h) (.inl ⟨rfl, ?_⟩) HS.out ?_
                  rotate_left
                  · intro W__ hW__
                    obtain ⟨h1, h2, h3, h4⟩ := hW__
                    go_simp
                    (try with_reducible rfl)
                  try simp only [Act.put]
                  refine wpAnyT_takeC (i := 5) [11, 10, 9, 8, 7, 6] (v := ?_) rfl (by kernel_rfl) (by kernel_rfl) (by kernel_rfl) (by kernel_rfl) (by kernel_rfl) (by kernel_rfl) (fun _ _ _ h => h) (.inl ⟨rfl, ?_⟩) HS.out ?_
                  rotate_left
                  · intro W__ hW__
                    obtain ⟨h1, h2, h3, h4⟩ := hW__
                    go_simp
                    (try with_reducible rfl)
                  try simp only [Act.put]
                  refine wpAnyT_takeC (i := 6) [11, 10, 9, 8, 7] (v := ?_) rfl (by kernel_rfl) (by kernel_rfl) (by kernel_rfl) (by kernel_rfl) (by kernel_rfl) (by kernel_rfl) (fun _ _ _ h => h) (.inl ⟨rfl, ?_⟩) HS.out ?_
                  rotate_left
                  · intro W__ hW__
                    obtain ⟨h1, h2, h3, h4⟩ := hW__
                    go_simp
                    (try with_reducible rfl)
                  try simp only [Act.put]
                  refine wpAnyT_takeC (i := 7) [11, 10, 9, 8] (v := ?_) rfl (by kernel_rfl) (by kernel_rfl) (by kernel_rfl) (by kernel_rfl) (by kernel_rfl) (by kernel_rfl) (fun _ _ _ h => h) (.inl ⟨rfl, ?_⟩) HS.out ?_
                  rotate_left
                  · intro W__ hW__
                    obtain ⟨h1, h2, h3, h4⟩ := hW__
                    go_simp
                    (try with_reducible rfl)
                  try simp only [Act.put]
                  refine wpAnyT_takeC (i := 8) [11, 10, 9] (v := ?_) rfl (by kernel_rfl) (by kernel_rfl) (by kernel_rfl) (by kernel_rfl) (by kernel_rfl) (by kernel_rfl) (fun _ _ _ h => h) (.inl ⟨rfl, ?_⟩) HS.out ?_
                  rotate_left
                  · intro W__ hW__
                    obtain ⟨h1, h2, h3, h4⟩ := hW__
                    go_simp
                    (try with_reducible rfl)
                  try simp only [Act.put]
                  refine wpAnyT_takeC (i := 9) [11, 10] (v := ?_) rfl (by kernel_rfl) (by kernel_rfl) (by kernel_rfl) (by kernel_rfl) (by kernel_rfl) (by kernel_rfl) (fun _ _ _ h => h) (.inl ⟨rfl, ?_⟩) HS.out ?_
                  rotate_left
                  · intro W__ hW__
                    obtain ⟨h1, h2, h3, h4⟩ := hW__
                    go_simp
                    (try with_reducible rfl)
                  try simp only [Act.put]
                  refine wpAnyT_one (i := 10) rfl (by kernel_rfl) rfl fun K__ hK__ => ?_
                  unfold Oper.wp
                  go_simp
                  refine hK__ _ _ HS9.out ?_
                  clear hK__
                  refine wpAnyT_end (i := 11) rfl (by kernel_rfl) rfl (by kernel_rfl) fun K__ hK__ => ?_
                  refine wp_append_src _ (.tmp 160) (.tmp 169) 28 rfl D 4 i1' (.bool false) 1 1 Tryz.underlying28 hi1 hz1 hs1 hb1' rfl (by decide) A3 cA3 i us3' (by simp [Act.eval]) OWB.out _ 1 1 _ (by simp [Act.eval]) SRB.out Q1.out Q4.out Z3.out ?_
                  intro A10 c10 w10 own10 gr10 _
                  have HMD2 := Lib.hid (LMk.told HMX.out OW3.out REL3.out HAL.out own10 gr10)
                  obtain ⟨x0, x1, x2, xf0, xf1, xf2⟩ := Blk.three ((HMX.out.below ((Below.refl _ _).alloc (Nat.le_refl _) (.cells #[.bool bb] 4))).d.grown gr10 (own_blk_ne OWB.out (HMX.out.below ((Below.refl _ _).alloc (Nat.le_refl _) (.cells #[.bool bb] 4))).d (by decide)))
                  refine hK__ _ _ ?_
                  clear hK__ own10 gr10 HS9 HS OWB SRB Z3
                  simp only [Act.put]
                  refine wpAnyT_end (i := 12) rfl (by kernel_rfl) rfl (by kernel_rfl) fun K__ hK__ => ?_
                  unfold Oper.wp
                  go_simp
                  refine hK__ _ _ ?_
                  clear hK__
                  refine wpAnyT_end (i := 13) rfl (by kernel_rfl) rfl (by kernel_rfl) fun K__ hK__ => ?_
                  unfold Oper.wp
                  go_simp
                  refine hK__ _ _ ?_
                  clear hK__
                  refine wpAnyT_done (by kernel_rfl) ?_ _
                  clear x0 x1 x2 xf0 xf1 xf2
                  go_wp2
                  go_roundw
                  case rel => exact ⟨i + 1, _, _, by go_num, by omega, Lib.hid (by rw [take_snoc HSI.out, List.map_append, List.map_append]; have h9 := HMD2.out; rw [← HBB.out] at h9; exact h9)⟩
                  case measure => simp [intOf]; omega
            · have him3 : i = m := by omega
              have HIM := Lib.hid him3
              obtain ⟨A2, cA2, us2, ev2, _, _⟩ := HM3.out.r
              obtain ⟨A3, cA3, us3, ev3, _, _⟩ := HM3.out.t
              have hrows : (met.take i).map (rowN d met CL) = (leastD d).next := by
                rw [List.take_of_length_le (by rw [HM.out, him3]; exact Nat.le_refl _), HCLS.out, HMT.out]; rfl
              have haccs : (met.take i).map d.acc = (leastD d).accept := by
                rw [List.take_of_length_le (by rw [HM.out, him3]; exact Nat.le_refl _), HMT.out]; rfl
              rw [hrows] at ev2
              rw [haccs] at ev3
              obtain ⟨k2, hk2⟩ : ∃ k, (leastD d).next.length = k := ⟨_, rfl⟩
              obtain ⟨k3, hk3⟩ : ∃ k, (leastD d).accept.length = k := ⟨_, rfl⟩
              rw [hk2] at ev2
              rw [hk3] at ev3
              subst ev2; subst ev3
              have HRS : Hid (Res wr D (.slice Av q cv) (.slice A2 k2 cA2) (.slice A3 k3 cA3) (leastD d).cuts (leastD d).next (leastD d).accept) := Lib.hid (by
                rw [← hrows, ← haccs, ← HCU.out]
                exact ⟨HM3.out.u, HM3.out.r, HM3.out.t⟩)
              have HRS2 := Lib.hid (Res.lower HRS.out hwr)
              have HOX := Lib.hid (HOL3.out wr HM3.out.b)
              have HBE := Lib.hid (HBW.out.trans (HM3.out.b.mono hwr))
              obtain ⟨z0, z1, z2, _, _, _⟩ := Blk.three HM3.out.d
              obtain ⟨t0, t1, t2, tf0, tf1, tf2⟩ := Blk.three HOX.out.o
              have hN := HOX.out.o.lt
              have hDl := HM3.out.d.lt
              have gg1 : ¬ (i : Int) < (m : Int) := by omega
              have gg2 : (m : Int) ≤ (i : Int) := by omega
              clear him3 hrows haccs hk2 hk3 hlt him
              go_wp2
              have X9 := ((HOX.out.o.set 0 (.slice Av q cv)).set 1 (.slice A2 k2 cA2)).set 2 (.slice A3 k3 cA3)
              obtain ⟨y0, y1, y2, _, _, _⟩ := Blk.three X9
              refine bodyPost_ret (v := .agg #[.slice Av q cv, .slice A2 k2 cA2, .slice A3 k3 cA3]) (by simp [results, Tryz.results13, go_sem, y0, y1, y2]) rfl ⟨_, _, _, rfl, ?_, ?_⟩
              · exact Res.far3 HRS2.out HOX.out.o
              · exact below3 HBE.out (by simp)
end Go.Proofs.YtjnjbcigbnjmkaaGreat
