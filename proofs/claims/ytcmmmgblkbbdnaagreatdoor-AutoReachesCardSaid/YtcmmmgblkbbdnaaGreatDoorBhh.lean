/- Walks: the program's maker: states joined. -/
import Derived.Test.YtcmmmgblkbbdnaaGreatDoorBch
import Derived.Test.YtcmmmgblkbbdnaaGreatDoorBfh
import Derived.Laws.EntriesVeiled
namespace Go.Proofs.YtcmmmgblkbbdnaaGreatDoor
open Go.RowKit Pv

theorem TB_int : ∀ e, e ∈ TB → e ≠ TInt := by decide
theorem frees_snoc (m : Nat) : ∀ (l : List Nat) (a : Au) (s : Nat), auFrees m a (l ++ [s]) = auEdge (auFrees m a l) s ⟨m, true, []⟩
  | [], a, s => rfl
  | e :: l, a, s => by rw [List.cons_append, auFrees, auFrees, frees_snoc m l]
theorem frees_edges (m : Nat) : ∀ (l : List Nat) (a : Au), (∀ e, e ∈ l → e < a.length) → edgesN (auFrees m a l) = edgesN a + l.length
  | [], a, _ => rfl
  | e :: l, a, h => by
    rw [auFrees, frees_edges m l _ (fun e he => by rw [auEdge_length]; exact h e (by simp [he])), edgesN_edge _ _ _ (h e (by simp))]
    simp only [List.length_cons]; omega
/-- What joining leaves. -/
def MkJoin (w : World) (base pm n : Nat) (acc : Int) (x2 x3 : Value) (a : Au) (l : List Nat) (e : Ending) (w' : World) : Prop :=
  ∃ A' c', e = .returned (.int .i64 n) ∧ MkAt w' base pm A' (n + 1) c' acc x2 x3 (auJoin a l) ∧ Chg TB base w w'

set_option maxHeartbeats 2000000 in
set_option maxRecDepth 100000 in
theorem maker_join (A : Option Addr) (n c base pm : Nat) (acc : Int) (x2 x3 : Value) (a : Au) (LA : Option Addr) (ln lc e0 : Nat) (l : List Nat) (w : World) (h : MkAt w base pm A n c acc x2 x3 a) (hb : base ≤ w.heap.size) (hn : n ≤ 900) (he : edgesN a ≤ 900000)
    (hl : w.ownsRow e0 TInt 1 (.slice LA ln lc) ln (l.map fun (z : Nat) => Value.int .i64 (z : Int))) (hll : ∀ z, z ∈ l → z < n) (hln : l.length ≤ 1000) :
    Calls Tryz.prog 93 #[.pointer (some ⟨pm, 0, none⟩), .slice LA ln lc] w (MkJoin w base pm n acc x2 x3 a l) := by
  have hnl := h.au.len
  have hlen : l.length = ln := by have := hl.1; simpa using this
  have HST := Lib.hid (maker_state A n c base pm acc x2 x3 a w h hb (by omega))
  have HL := Lib.hid hl
  have HNL := Lib.hid hnl; have HLN := Lib.hid hlen; have HLL := Lib.hid hll; have HE := Lib.hid he
  have hln2 : ln ≤ 1000 := by omega
  clear h hl hnl hlen hll he
  go_enter Tryz.func93, Tryz.ntmps93
  go_wp2_with fail
  refine HST.out.mono ?_
  rintro e w1 ⟨A1, c1, rfl, mk1, ch1⟩
  have MK1 := Lib.hid mk1
  have CH1 := Lib.hid ch1
  have OL1 := Lib.hid (ownsRow_chg HL.out ch1 TB_int)
  clear mk1 ch1
  go_wp2
  go_loopw [12] (fun iv wr => ∃ k : Nat, iv = .int .i64 k ∧ k ≤ ln ∧ MkAt wr base pm A1 (n + 1) c1 acc x2 x3 (auFrees n (a ++ [[]]) (l.take k)) ∧ wr.ownsRow e0 TInt 1 (.slice LA ln lc) ln (l.map fun (z : Nat) => Value.int .i64 (z : Int)) ∧ Chg TB base w wr) (fun iv _ => ln - (intOf iv).toNat)
  case atStart => exact ⟨0, rfl, by omega, MK1.out, OL1.out, CH1.out⟩
  case round =>
    obtain ⟨k, rfl, hk, hmk, hol, hch⟩ := hrel
    have MK := Lib.hid hmk; have OL := Lib.hid hol; have CH := Lib.hid hch
    clear hmk hol hch
    by_cases hlt : k < ln
    · have hg : l[k]? = some (l[k]'(by rw [HLN.out]; exact hlt)) := List.getElem?_eq_getElem _
      generalize l[k]'(by rw [HLN.out]; exact hlt) = z at hg
      have HG := Lib.hid hg
      have hz := HLL.out z (mem_of_get hg)
      obtain ⟨g, rfl, hgl, hgc⟩ := own_get (k := k) (u := .int .i64 (z : Int)) OL.out (by rw [List.getElem?_map, hg]; rfl)
      have HED := Lib.hid (maker_edge A1 (n + 1) c1 base pm z acc x2 x3 (auFrees n (a ++ [[]]) (l.take k)) ⟨n, true, []⟩ none 0 0 wr MK.out (Nat.le_trans hb CH.out.size) (by omega) (by simp only; omega) (by
        have h1 := HE.out
        rw [frees_edges _ _ _ (fun e he => by have := HLL.out e (List.mem_of_mem_take he); have := HNL.out; simp; omega), edgesN_state, List.length_take]
        omega) (SetQ.nil _ _))
      clear hg
      go_wp2_with fail
      refine HED.out.mono ?_
      rintro e w2 ⟨rfl, mk2, ch2⟩
      have MK2 := Lib.hid mk2; have CH2 := Lib.hid (CH.out.trans ch2); have OL2 := Lib.hid (ownsRow_chg OL.out ch2 TB_int)
      clear mk2 ch2 hgc
      go_wp2
      go_roundw
      case rel => exact ⟨k + 1, by go_num, by omega, by rw [take_snoc HG.out, frees_snoc]; exact MK2.out, OL2.out, CH2.out⟩
      case measure => simp [intOf]; omega
    · have : k = ln := by omega
      subst this
      have ht : l.take k = l := List.take_of_length_le (by rw [HLN.out]; omega)
      have HT := Lib.hid ht
      clear ht
      go_wp2
      go_ret
      exact ⟨A1, c1, rfl, by have h1 := MK.out; rw [HT.out] at h1; unfold auJoin; rw [← HNL.out]; exact h1, CH.out⟩

end Go.Proofs.YtcmmmgblkbbdnaaGreatDoor

namespace Go.Proofs.YtcmmmgblkbbdnaaGreatDoor
open Go.RowKit Pv

theorem AuAt.reads {w : World} {base n c : Nat} {A : Option Addr} {a : Au} (h : AuAt w base A n c a) (hn : n ≤ 1000000) (he : edgesN a ≤ 1000000) : AtAu w A a := by
  obtain ⟨rows, h1, h2⟩ := h
  have hr : Rel (IsRow w) rows a := ⟨by rw [h2.len, h2.n], fun i u x hu hx => by
    obtain ⟨r, hr, ho⟩ := h2.row i x hx
    obtain rfl := Option.some.inj (hu.symm.trans hr)
    have hl := le_edgesN hx
    refine (OwnK.sl ho (by omega)).keepR (Keep.refl _) fun f y hy => ⟨hy.1, hy.2, hy.3.set⟩⟩
  exact (At.of_own h1 hr (by rw [← h2.n]; omega)).2.2
theorem AuQ.reads {w : World} {base n c : Nat} {A : Option Addr} {a : Au} (h : AuQ w base A n c a) (hn : n ≤ 1000000) (he : edgesN a ≤ 1000000) : AtAu w A a := by
  obtain ⟨rows, h1, h2⟩ := h
  have hr : Rel (IsRow w) rows a := ⟨by rw [h2.len, h2.n], fun i u x hu hx => by
    obtain ⟨r, hr, ho⟩ := h2.row i x hx
    obtain rfl := Option.some.inj (hu.symm.trans hr)
    have hl := le_edgesN hx
    refine (OwnK.sl ho (by omega)).keepR (Keep.refl _) fun f y hy => ⟨hy.1, hy.2, hy.3.set⟩⟩
  exact (At.of_own h1 hr (by rw [← h2.n]; omega)).2.2

end Go.Proofs.YtcmmmgblkbbdnaaGreatDoor

namespace Go.Proofs.YtcmmmgblkbbdnaaGreatDoor
open Go.RowKit Pv

/-- What the count reads: the maker, its nodes and the places behind them, the closure. -/
structure CEnv (w0 : World) (pm b1 b2 : Nat) (tA EA : Option Addr) (nt ct ec : Nat) (t : List Rx) : Prop where
  l1 : b1 < w0.heap.size
  l2 : b2 < w0.heap.size
  lm : pm < w0.heap.size
  c1 : w0.cell? ⟨b1, 0, none⟩ = some (.pointer (some ⟨pm, 0, none⟩))
  c2 : w0.cell? ⟨b2, 0, none⟩ = some (.func (.func 92) #[] #[.pointer (some ⟨b1, 0, none⟩), .pointer (some ⟨b2, 0, none⟩)])
  m2 : w0.cell? ⟨pm, 2, none⟩ = some (.slice tA nt ct)
  m3 : w0.cell? ⟨pm, 3, none⟩ = some (.slice EA nt ec)
  at' : AtRx w0 tA t
  ae : At w0 EA RI (endsL t)

theorem sizes_take_lt {ks : List Tr} {j : Nat} (hj : j < ks.length) : sizes (ks.take j) < sizes ks := by
  have h2 : sizes (ks.take j) + sizes (ks.drop j) = sizes ks := by
    rw [sizes, sizes, sizes, ← List.length_append, ← flats_app, List.take_append_drop]
  have h3 : ks.drop j = ks[j] :: ks.drop (j + 1) := List.drop_eq_getElem_cons hj
  rw [h3, sizes_cons] at h2
  have := ks[j].size_pos
  omega
theorem countL_snoc (k : Tr) : ∀ ks : List Tr, countL (ks ++ [k]) = countL ks + countT k
  | [] => by simp [countL]
  | j :: ks => by simp only [List.cons_append, countL]; rw [countL_snoc k ks]; omega

set_option maxHeartbeats 2000000 in
set_option maxRecDepth 100000 in
theorem maker_count (w0 : World) (pm b1 b2 : Nat) (tA EA : Option Addr) (nt ct ec : Nat) (t : List Rx) (HE : Hid (CEnv w0 pm b1 b2 tA EA nt ct ec t)) (HT : Hid (t.length = nt)) (hnt : nt ≤ 64) :
    ∀ (d : Nat), d ≤ 16 → ∀ (T : Tr) (i : Nat) (r : List Rx), T.Ok d → t.drop i = T.flat ++ r → ∀ W, Keep w0 W →
    Calls Tryz.prog 92 #[.int .i64 i, .pointer (some ⟨b1, 0, none⟩), .pointer (some ⟨b2, 0, none⟩)] W fun e w' => e = .returned (.int .i64 (countT T)) ∧ Below W.heap.size W w' := by
  intro d
  induction d using Nat.strongRecOn with
  | _ d ih =>
  intro hd T i r hT hdr W kp
  have hbT := tree_behind (hT.up hd) hdr
  obtain ⟨x, ks⟩ := T
  have hone := hT.one
  have hkid : ∀ k, k ∈ ks → k.Ok (d - 1) := fun k hk => hT.kid hk
  simp only [Tr.flat, List.cons_append] at hdr
  obtain ⟨hx, hdr2⟩ := drop_head hdr
  have hin : i < nt := by have := lt_of_get hx; rwa [HT.out] at this
  have HX := Lib.hid hx
  have HHE := HE.out
  obtain ⟨b, off, kd, B, cs, m, l, many, least, most, hA, H5, hs, HM, hm, ⟨hk0, hk1⟩, _, _, _, HX'⟩ := HHE.at'.g5 HT hin
  subst hA
  obtain rfl := Option.some.inj (HX'.out.symm.trans HX.out)
  have ⟨y0, y1, y2, y3, y4, y5⟩ := H5.next kp
  have q1 := (kp.cell _ 0 HHE.l1).trans HHE.c1
  have q2 := (kp.cell _ 2 HHE.lm).trans HHE.m2
  by_cases hk : kd ≤ 1
  · have HC := Lib.hid (show countT (.mk ⟨kd, l, many, least, most⟩ ks) = 1 by rw [countT, if_pos hk])
    clear ih hT hbT hone hkid hdr hdr2 hx HHE H5 hs
    go_enter Tryz.func92, Tryz.ntmps92
    go_wp2
    go_ret
    exact ⟨ret_int (by rw [HC.out]; rfl), (by repeat (first | exact Below.refl _ _ | exact (Below.refl _ _).alloc (Nat.le_refl _) _ | apply below_drewN))⟩
  have hd0 : 0 < d := by
    cases d with
    | zero => obtain ⟨_, hm0, _⟩ := hT; rcases hone with h | h | h | h <;> simp only at h hm0 <;> omega
    | succ d => omega
  have hlen := hT.len
  simp only at hlen
  have hk16 : ∀ k, k ∈ ks → k.Ok 16 := fun k hk => (hkid k hk).up (by omega)
  have HLE : Hid ((endsL t).length = nt) := Lib.hid (by simp [endsL, HT.out])
  obtain ⟨eb, eo, u, z, hEA, hel, hec, ⟨hu, _, _⟩, hz⟩ := HHE.ae.gt HLE hin
  subst hu
  have hzz : z = ((i + 1 + sizes ks : Nat) : Int) := by
    have := hz.out
    simp [endsL, HT.out, hin] at this
    rw [← this, hbT, bR_some, Tr.size_mk]; omega
  subst hzz
  have q3 := (kp.cell _ 3 HHE.lm).trans HHE.m3
  have HEA := Lib.hid hEA
  have HATK := Lib.hid (fun j (hj : j < ks.length) => (show again (behind t 16) j (i + 1) = some (i + 1 + sizes (ks.take j)) ∧ t.drop (i + 1 + sizes (ks.take j)) = flats (ks.drop j) ++ r from kids_at hdr2 hk16 j (by omega)))
  have HIH := Lib.hid (fun (j : Nat) (k : Tr) (hj : ks[j]? = some k) (W' : World) (kp' : Keep w0 W') => by
    have hjl := lt_of_get hj
    have h5 := (HATK.out j hjl).2
    rw [drop_cons hj] at h5
    simp only [flats, List.append_assoc] at h5
    exact ih (d - 1) (by omega) (by omega) k _ _ (hkid k (mem_of_get hj)) h5 W' kp')
  have HEND := Lib.hid (fun (j : Nat) (k : Tr) (hj : ks[j]? = some k) => (show (endsL t)[i + 1 + sizes (ks.take j)]? = some ((i + 1 + sizes (ks.take (j + 1)) : Nat) : Int) ∧ i + 1 + sizes (ks.take j) < nt from by
    have hjl := lt_of_get hj
    have h5 := (HATK.out j hjl).2
    rw [drop_cons hj] at h5
    simp only [flats, List.append_assoc] at h5
    have h6 := tree_behind ((hkid k (mem_of_get hj)).up (show d - 1 ≤ 16 by omega)) h5
    have h7 := behind_lt h6
    rw [HT.out] at h7
    have h8 : sizes (ks.take (j + 1)) = sizes (ks.take j) + k.size := by
      rw [take_snoc hj]
      show (flats (ks.take j ++ [k])).length = _
      rw [flats_app, List.length_append]; simp [flats, sizes, Tr.size]
    refine ⟨?_, by omega⟩
    have h9 : i + 1 + sizes (ks.take j) < nt := by omega
    simp only [endsL, HT.out, List.getElem?_map, List.getElem?_range h9, Option.map_some, h6, bR_some, h8]
    congr 2; omega))
  have hks64 : sizes ks ≤ 64 := by
    have := sizes_le hdr2 ks.length (by have := HT.out; omega)
    rw [List.take_of_length_le (Nat.le_refl _)] at this
    have := HT.out; omega
  have HH := Lib.hid HHE
  have HZI := Lib.hid (fun z2 (hz2 : (endsL t)[i]? = some z2) => (show z2 = ((i + 1 + sizes ks : Nat) : Int) from Option.some.inj (hz2.symm.trans hz.out)))
  have hW1 : Below W.heap.size W (W.alloc (.cells #[.int .u8 kd, .slice B m cs, .int .i64 many, .int .i64 least, .int .i64 most] 37)) := (Below.refl _ _).alloc (Nat.le_refl _) _
  have BX0 := Lib.hid (Blk.new W 37 #[.int .u8 kd, .slice B m cs, .int .i64 many, .int .i64 least, .int .i64 most])
  have HW1 := Lib.hid hW1
  have HKP := Lib.hid kp
  have HONE := Lib.hid hone
  have HCB := Lib.hid (fun j => (show countL (ks.take j) ≤ 64 * 256 from by
    have h1 : ∀ l : List Tr, (∀ k, k ∈ l → k.Ok 16) → countL l ≤ l.length * 256 := fun l => by
      induction l with
      | nil => intro _; simp [countL]
      | cons k l ihl =>
        intro h
        have h2 := countT_eq k 16 (h k (by simp))
        have h3 := ihl (fun k hk => h k (by simp [hk]))
        simp only [countL, List.length_cons, Nat.add_mul]; omega
    have h2 := h1 (ks.take j) (fun k hk => hk16 k (List.mem_of_mem_take hk))
    have h3 := length_sizes ks
    have h4 : (ks.take j).length ≤ 64 := by rw [List.length_take]; omega
    omega))
  clear ih hT hbT hkid hdr hdr2 hx HHE H5 hs hEA hz hec kp hW1 hone hk16
  have hkd : decide (kd ≤ 1) = false := decide_eq_false (by omega)
  go_enter Tryz.func92, Tryz.ntmps92
  go_wp2
  go_loopw [6, 7] (fun nv kv wr => ∃ j : Nat, j ≤ ks.length ∧ kv = .int .i64 ((i + 1 + sizes (ks.take j) : Nat) : Int) ∧ nv = .int .i64 ((countL (ks.take j) : Nat) : Int) ∧ Below W.heap.size W wr ∧ Blk wr W.heap.size 37 #[.int .u8 kd, .slice B m cs, .int .i64 many, .int .i64 least, .int .i64 most]) (fun _ kv _ => (i + 1 + sizes ks) - (intOf kv).toNat)
  case atStart => exact ⟨0, by omega, by simp [sizes, flats], by simp [countL], HW1.out, BX0.out⟩
  case round =>
    clear y0 y1 y2 y3 y4 y5 q1 q2 q3
    obtain ⟨j, hj, rfl, rfl, hbel, hbx⟩ := hrel
    have HB := Lib.hid hbel; have HBX := Lib.hid hbx
    have KP := Lib.hid (HKP.out.trans (Keep.of hbel))
    clear hbel hbx
    obtain ⟨eb2, eo2, u2, z2, hEA2, hel2, hec2, ⟨hu2, _, _⟩, hz2⟩ := HH.out.ae.gt HLE hin
    subst hu2
    have hzz2 : z2 = ((i + 1 + sizes ks : Nat) : Int) := HZI.out z2 hz2.out
    subst hzz2
    subst hEA2
    have p1 := (KP.out.cell _ 0 HH.out.l1).trans HH.out.c1
    have p2 := (KP.out.cell _ 0 HH.out.l2).trans HH.out.c2
    have p3 := (KP.out.cell _ 3 HH.out.lm).trans HH.out.m3
    have p4 := (KP.out.cell _ (eo2 + i) hel2).trans hec2
    obtain ⟨ze, hze⟩ : ∃ ze, i + 1 + sizes ks = ze := ⟨_, rfl⟩
    rw [hze] at p4
    obtain ⟨x0, x1, x2, x3, x4⟩ := Blk.five HBX.out
    have hcb := HCB.out j
    by_cases hlt : j < ks.length
    · have hkk : ks[j]? = some (ks[j]) := List.getElem?_eq_getElem hlt
      have hps := sizes_take_lt hlt
      generalize ks[j] = k0 at hkk
      obtain ⟨hen1, hen2⟩ := HEND.out j k0 hkk
      have hst : sizes (ks.take j) < sizes (ks.take (j + 1)) := by
        rw [take_snoc hkk]
        show _ < (flats (ks.take j ++ [k0])).length
        rw [flats_app, List.length_append]
        have := k0.size_pos
        simp only [flats, List.append_nil, sizes]
        simp only [Tr.size] at this
        omega
      have hst2 := sizes_take_le (ks := ks) (j + 1)
      have HKK := Lib.hid hkk
      have HEN1 := Lib.hid hen1
      have hcs := HCB.out (j + 1)
      have HCS := Lib.hid (show countL (ks.take (j + 1)) = countL (ks.take j) + countT k0 by rw [take_snoc hkk, countL_snoc])
      rw [HCS.out] at hcs
      have HC := Lib.hid (fun (W' : World) (kp' : Keep w0 W') => HIH.out j k0 hkk W' kp')
      generalize hp : i + 1 + sizes (ks.take j) = p at *
      have HP := Lib.hid hp
      have hpz : p < ze := by omega
      have HZE := Lib.hid hze
      clear hkk hen1 hp hze
      go_wp2_with fail
      refine (HC.out wr KP.out).mono ?_
      rintro e w5 ⟨rfl, hb5⟩
      have KP5 := Lib.hid (KP.out.trans (Keep.of hb5))
      have BX5 := Lib.hid (HBX.out.below hb5 HBX.out.lt)
      have HB5 := Lib.hid (HB.out.trans (hb5.mono HB.out.size))
      clear p1 p2 p3 p4 hb5 x0 x1 x2 x3 x4
      have p1 := (KP5.out.cell _ 0 HH.out.l1).trans HH.out.c1
      have p3 := (KP5.out.cell _ 3 HH.out.lm).trans HH.out.m3
      obtain ⟨u3, z3, _, hec3, ⟨hu3, _, _⟩, hz3⟩ := HH.out.ae.gt2 HLE hen2
      subst hu3
      obtain rfl := Option.some.inj (hz3.out.symm.trans HEN1.out)
      have p5 := (KP5.out.cell _ (eo2 + p) hel2).trans hec3
      clear hec3 hec2
      go_wp2
      go_roundw
      case rel => exact ⟨j + 1, by omega, rfl, by rw [HCS.out]; go_num, HB5.out, BX5.out⟩
      case measure => have := HZE.out; have h2 := HP.out; simp [intOf]; omega
    · have hjl : j = ks.length := by omega
      have htk : ks.take j = ks := List.take_of_length_le (by omega)
      rw [htk]
      rw [htk] at hcb
      have hdz : ¬ ((i + 1 + sizes ks : Nat) : Int) < (ze : Int) := by omega
      rw [hze]
      have HTK := Lib.hid htk
      clear htk hec2
      have HC1 := Lib.hid (fun (h : kd = 3) => (show countT (.mk ⟨kd, l, many, least, most⟩ ks) = min (countL ks + 1) 256 by rw [countT, if_neg (by simp only; omega), if_pos h]))
      have HC2 := Lib.hid (fun (h : kd = 2) => (show countT (.mk ⟨kd, l, many, least, most⟩ ks) = min (countL ks) 256 by rw [countT, if_neg (by simp only; omega), if_neg (by simp only; omega), if_neg (by simp only; omega)]))
      by_cases hk2 : kd = 2
      · have HC := Lib.hid (HC2.out hk2)
        subst hk2
        go_wp2
        all_goals
          go_ret
          exact ⟨ret_int (by rw [HC.out]; omega), HB.out⟩
      by_cases hk3 : kd = 3
      · have HC := Lib.hid (HC1.out hk3)
        subst hk3
        go_wp2
        all_goals
          go_ret
          exact ⟨ret_int (by rw [HC.out]; omega), HB.out⟩
      have h4 : kd = 4 ∧ many = 1 ∧ 0 ≤ least ∧ least ≤ 16 ∧ (most = -1 ∨ (least ≤ most ∧ most ≤ 16)) := by
        rcases HONE.out with h | h | h | h <;> simp only at h <;> first | omega | exact ⟨h.1, h.2.2.1, h.2.2.2.1, h.2.2.2.2.1, h.2.2.2.2.2⟩
      obtain ⟨rfl, rfl, hl0, hl1, hms⟩ := h4
      have hk1' : ks.length = 1 := by omega
      have hc256 : countL ks ≤ 256 := by
        match ks, hk1' with
        | [K], _ =>
          simp only [countL, Nat.add_zero]
          obtain ⟨y, ls⟩ := K
          rw [countT]; split <;> omega
      by_cases hm : most < 0
      · obtain ⟨P, hP⟩ : ∃ P, countL ks * (least.toNat + 1) = P := ⟨_, rfl⟩
        have hPb : P ≤ 256 * 17 := by rw [← hP]; exact Nat.mul_le_mul hc256 (by omega)
        have hmul : (countL ks : Int) * (least + 1) = (P : Int) := by
          rw [← hP, Int.natCast_mul, Int.natCast_add, Int.toNat_of_nonneg hl0]; rfl
        have HC := Lib.hid (show countT (.mk ⟨4, l, 1, least, most⟩ ks) = min (P + 1) 256 by rw [countT, if_neg (by simp), if_neg (by simp), if_pos rfl, if_pos hm, hP])
        clear hP
        go_wp2
        all_goals
          go_ret
          exact ⟨ret_int (by rw [HC.out]; omega), HB.out⟩
      · obtain ⟨P, hP⟩ : ∃ P, countL ks * most.toNat = P := ⟨_, rfl⟩
        have hPb : P ≤ 256 * 17 := by rw [← hP]; exact Nat.mul_le_mul hc256 (by omega)
        have hmul : (countL ks : Int) * most = (P : Int) := by
          rw [← hP, Int.natCast_mul, Int.toNat_of_nonneg (by omega)]
        have HC := Lib.hid (show countT (.mk ⟨4, l, 1, least, most⟩ ks) = min (P + 1) 256 by rw [countT, if_neg (by simp), if_neg (by simp), if_pos rfl, if_neg hm, hP])
        clear hP
        go_wp2
        all_goals
          go_ret
          exact ⟨ret_int (by rw [HC.out]; omega), HB.out⟩

end Go.Proofs.YtcmmmgblkbbdnaaGreatDoor

namespace Go.Proofs.YtcmmmgblkbbdnaaGreatDoor
open Go.RowKit Pv

set_option maxHeartbeats 1000000 in
set_option maxRecDepth 100000 in
theorem maker_many (w : World) (pm : Nat) (tA EA : Option Addr) (nt ct ec : Nat) (t : List Rx) (T : Tr) (hT : T.Ok 16) (hfl : t = T.flat) (HT : Hid (t.length = nt)) (hnt : nt ≤ 64) (hpm : pm < w.heap.size)
    (m2 : w.cell? ⟨pm, 2, none⟩ = some (.slice tA nt ct)) (m3 : w.cell? ⟨pm, 3, none⟩ = some (.slice EA nt ec)) (ht : AtRx w tA t) (hae : At w EA RI (endsL t)) :
    Calls Tryz.prog 58 #[.pointer (some ⟨pm, 0, none⟩)] w fun e w' => e = .returned (.int .i64 ((1 + countT T : Nat) : Int)) ∧ Below w.heap.size w w' := by
  have hc256 : countT T ≤ 256 := by obtain ⟨y, ls⟩ := T; rw [countT]; split <;> omega
  have hb : Below w.heap.size w ((w.alloc (.cells #[.pointer (some ⟨pm, 0, none⟩)] 94)).alloc (.cells #[.func (.func 92) #[] #[.pointer (some ⟨w.heap.size, 0, none⟩), .pointer (some ⟨w.heap.size + 1, 0, none⟩)]] 143)) := ((Below.refl _ _).alloc (Nat.le_refl _) _).alloc (by simp) _
  have BK := blk2 w #[.pointer (some ⟨pm, 0, none⟩)] #[.func (.func 92) #[] #[.pointer (some ⟨w.heap.size, 0, none⟩), .pointer (some ⟨w.heap.size + 1, 0, none⟩)]] 94 143
  have k := Keep.of hb
  have CE : CEnv _ pm w.heap.size (w.heap.size + 1) tA EA nt ct ec t := ⟨BK.1.lt, BK.2.lt, Nat.lt_of_lt_of_le hpm hb.size, BK.1.cell 0, BK.2.cell 0, (k.cell _ _ hpm).trans m2, (k.cell _ _ hpm).trans m3, AtRx.keep ht k, hae.keep k⟩
  have HC := Lib.hid (maker_count _ pm w.heap.size (w.heap.size + 1) tA EA nt ct ec t (Lib.hid CE) HT hnt 16 (Nat.le_refl _) T 0 [] hT (by simp [hfl]) _ (Keep.refl _))
  have HB := Lib.hid hb
  generalize countT T = q at *
  clear hb BK k CE ht hae
  go_enter Tryz.func58, Tryz.ntmps58
  go_wp2_with fail
  refine HC.out.mono ?_
  rintro e w1 ⟨rfl, hb1⟩
  go_wp2
  go_ret
  exact ⟨ret_int (by omega), HB.out.trans (hb1.mono HB.out.size)⟩

end Go.Proofs.YtcmmmgblkbbdnaaGreatDoor
