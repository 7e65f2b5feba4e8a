/- Walks: the program's maker: states joined. -/
import Derived.Test.YtilhicefhhgecaaGreatDoorBcn
import Derived.Test.YtilhicefhhgecaaGreatDoorTbn
import Derived.Laws.EntriesVeiled
namespace Go.Proofs.YtilhicefhhgecaaGreatDoor
open Go.RowKit Pv

theorem TB_int : ∀ e, e ∈ TB → e ≠ TInt := by decide
theorem frees_snoc (m : Nat) : ∀ (l : List Nat) (a : Au) (s : Nat), auFrees m a (l ++ [s]) = auEdge (auFrees m a l) s ⟨m, true, []⟩
  | [], a, s => rfl
  | e :: l, a, s => by rw [List.cons_append, auFrees, auFrees, frees_snoc m l]
theorem frees_edges (m : Nat) : ∀ (l : List Nat) (a : Au), (∀ e, e ∈ l → e < a.length) → edgesN (auFrees m a l) = edgesN a + l.length
  | [], a, _ => rfl
  | e :: l, a, h => by
    rw [auFrees, frees_edges m l _ (fun e he => by rw [auEdge_length]; exact h e (by simp [he])), edgesN_edge _ _ _ (h e (by simp))]
    simp only [List.length_cons]; omega
/-- What joining leaves. -/
def MkJoin (w : World) (base pm n : Nat) (acc : Int) (x2 x3 : Value) (a : Au) (l : List Nat) (e : Ending) (w' : World) : Prop :=
  ∃ A' c', e = .returned (.int .i64 n) ∧ MkAt w' base pm A' (n + 1) c' acc x2 x3 (auJoin a l) ∧ Chg TB base w w'

set_option maxHeartbeats 2000000 in
set_option maxRecDepth 100000 in
theorem maker_join (A : Option Addr) (n c base pm : Nat) (acc : Int) (x2 x3 : Value) (a : Au) (LA : Option Addr) (ln lc e0 : Nat) (l : List Nat) (w : World) (h : MkAt w base pm A n c acc x2 x3 a) (hb : base ≤ w.heap.size) (hn : n ≤ 900) (he : edgesN a ≤ 900000)
    (hl : w.ownsRow e0 TInt 1 (.slice LA ln lc) ln (l.map fun (z : Nat) => Value.int .i64 (z : Int))) (hll : ∀ z, z ∈ l → z < n) (hln : l.length ≤ 1000) :
    Calls Tryz.prog 79 #[.pointer (some ⟨pm, 0, none⟩), .slice LA ln lc] w (MkJoin w base pm n acc x2 x3 a l) := by
  have hnl := h.au.len
  have hlen : l.length = ln := by have := hl.1; simpa using this
  have HST := Lib.hid (maker_state A n c base pm acc x2 x3 a w h hb (by omega))
  have HL := Lib.hid hl
  have HNL := Lib.hid hnl; have HLN := Lib.hid hlen; have HLL := Lib.hid hll; have HE := Lib.hid he
  have hln2 : ln ≤ 1000 := by omega
  clear h hl hnl hlen hll he
  go_enter Tryz.func79, Tryz.ntmps79
  go_wp2_with fail
  refine HST.out.mono ?_
  rintro e w1 ⟨A1, c1, rfl, mk1, ch1⟩
  have MK1 := Lib.hid mk1
  have CH1 := Lib.hid ch1
  have OL1 := Lib.hid (ownsRow_chg HL.out ch1 TB_int)
  clear mk1 ch1
  go_wp2
  go_loopw [12] (fun iv wr => ∃ k : Nat, iv = .int .i64 k ∧ k ≤ ln ∧ MkAt wr base pm A1 (n + 1) c1 acc x2 x3 (auFrees n (a ++ [[]]) (l.take k)) ∧ wr.ownsRow e0 TInt 1 (.slice LA ln lc) ln (l.map fun (z : Nat) => Value.int .i64 (z : Int)) ∧ Chg TB base w wr) (fun iv _ => ln - (intOf iv).toNat)
  case atStart => exact ⟨0, rfl, by omega, MK1.out, OL1.out, CH1.out⟩
  case round =>
    obtain ⟨k, rfl, hk, hmk, hol, hch⟩ := hrel
    have MK := Lib.hid hmk; have OL := Lib.hid hol; have CH := Lib.hid hch
    clear hmk hol hch
    by_cases hlt : k < ln
    · have hg : l[k]? = some (l[k]'(by rw [HLN.out]; exact hlt)) := List.getElem?_eq_getElem _
      generalize l[k]'(by rw [HLN.out]; exact hlt) = z at hg
      have HG := Lib.hid hg
      have hz := HLL.out z (mem_of_get hg)
      obtain ⟨g, rfl, hgl, hgc⟩ := own_get (k := k) (u := .int .i64 (z : Int)) OL.out (by rw [List.getElem?_map, hg]; rfl)
      have HED := Lib.hid (maker_edge A1 (n + 1) c1 base pm z acc x2 x3 (auFrees n (a ++ [[]]) (l.take k)) ⟨n, true, []⟩ none 0 0 wr MK.out (Nat.le_trans hb CH.out.size) (by omega) (by simp only; omega) (by
        have h1 := HE.out
        rw [frees_edges _ _ _ (fun e he => by have := HLL.out e (List.mem_of_mem_take he); have := HNL.out; simp; omega), edgesN_state, List.length_take]
        omega) (SetQ.nil _ _))
      clear hg
      go_wp2_with fail
      refine HED.out.mono ?_
      rintro e w2 ⟨rfl, mk2, ch2⟩
      have MK2 := Lib.hid mk2; have CH2 := Lib.hid (CH.out.trans ch2); have OL2 := Lib.hid (ownsRow_chg OL.out ch2 TB_int)
      clear mk2 ch2 hgc
      go_wp2
      go_roundw
      case rel => exact ⟨k + 1, by go_num, by omega, by rw [take_snoc HG.out, frees_snoc]; exact MK2.out, OL2.out, CH2.out⟩
      case measure => simp [intOf]; omega
    · have : k = ln := by omega
      subst this
      have ht : l.take k = l := List.take_of_length_le (by rw [HLN.out]; omega)
      have HT := Lib.hid ht
      clear ht
      go_wp2
      go_ret
      exact ⟨A1, c1, rfl, by have h1 := MK.out; rw [HT.out] at h1; unfold auJoin; rw [← HNL.out]; exact h1, CH.out⟩

end Go.Proofs.YtilhicefhhgecaaGreatDoor

namespace Go.Proofs.YtilhicefhhgecaaGreatDoor
open Go.RowKit Pv

theorem AuAt.reads {w : World} {base n c : Nat} {A : Option Addr} {a : Au} (h : AuAt w base A n c a) (hn : n ≤ 1000000) (he : edgesN a ≤ 1000000) : AtAu w A a := by
  obtain ⟨rows, h1, h2⟩ := h
  have hr : Rel (IsRow w) rows a := ⟨by rw [h2.len, h2.n], fun i u x hu hx => by
    obtain ⟨r, hr, ho⟩ := h2.row i x hx
    obtain rfl := Option.some.inj (hu.symm.trans hr)
    have hl := le_edgesN hx
    refine (OwnK.sl ho (by omega)).keepR (Keep.refl _) fun f y hy => ⟨hy.1, hy.2, hy.3.set⟩⟩
  exact (At.of_own h1 hr (by rw [← h2.n]; omega)).2.2
theorem AuQ.reads {w : World} {base n c : Nat} {A : Option Addr} {a : Au} (h : AuQ w base A n c a) (hn : n ≤ 1000000) (he : edgesN a ≤ 1000000) : AtAu w A a := by
  obtain ⟨rows, h1, h2⟩ := h
  have hr : Rel (IsRow w) rows a := ⟨by rw [h2.len, h2.n], fun i u x hu hx => by
    obtain ⟨r, hr, ho⟩ := h2.row i x hx
    obtain rfl := Option.some.inj (hu.symm.trans hr)
    have hl := le_edgesN hx
    refine (OwnK.sl ho (by omega)).keepR (Keep.refl _) fun f y hy => ⟨hy.1, hy.2, hy.3.set⟩⟩
  exact (At.of_own h1 hr (by rw [← h2.n]; omega)).2.2

end Go.Proofs.YtilhicefhhgecaaGreatDoor

namespace Go.Proofs.YtilhicefhhgecaaGreatDoor
open Go.RowKit Pv

/-- What the count reads: the maker, its nodes and the places behind them, the closure. -/
structure CEnv (w0 : World) (pm b1 b2 : Nat) (tA EA : Option Addr) (nt ct ec : Nat) (t : List Rx) : Prop where
  l1 : b1 < w0.heap.size
  l2 : b2 < w0.heap.size
  lm : pm < w0.heap.size
  c1 : w0.cell? ⟨b1, 0, none⟩ = some (.pointer (some ⟨pm, 0, none⟩))
  c2 : w0.cell? ⟨b2, 0, none⟩ = some (.func (.func 78) #[] #[.pointer (some ⟨b1, 0, none⟩), .pointer (some ⟨b2, 0, none⟩)])
  m2 : w0.cell? ⟨pm, 2, none⟩ = some (.slice tA nt ct)
  m3 : w0.cell? ⟨pm, 3, none⟩ = some (.slice EA nt ec)
  at' : AtRx w0 tA t
  ae : At w0 EA RI (endsL t)

theorem sizes_take_lt {ks : List Tr} {j : Nat} (hj : j < ks.length) : sizes (ks.take j) < sizes ks := by
  have h2 : sizes (ks.take j) + sizes (ks.drop j) = sizes ks := by
    rw [sizes, sizes, sizes, ← List.length_append, ← flats_app, List.take_append_drop]
  have h3 : ks.drop j = ks[j] :: ks.drop (j + 1) := List.drop_eq_getElem_cons hj
  rw [h3, sizes_cons] at h2
  have := ks[j].size_pos
  omega
theorem countL_snoc (k : Tr) : ∀ ks : List Tr, countL (ks ++ [k]) = countL ks + countT k
  | [] => by simp [countL]
  | j :: ks => by simp only [List.cons_append, countL]; rw [countL_snoc k ks]; omega

set_option maxHeartbeats 2000000 in
set_option maxRecDepth 100000 in
theorem maker_count (w0 : World) (pm b1 b2 : Nat) (tA EA : Option Addr) (nt ct ec : Nat) (t : List Rx) (HE : Hid (CEnv w0 pm b1 b2 tA EA nt ct ec t)) (HT : Hid (t.length = nt)) (hnt : nt ≤ 64) :
    ∀ (d : Nat), d ≤ 16 → ∀ (T : Tr) (i : Nat) (r : List Rx), T.Ok d → t.drop i = T.flat ++ r → ∀ W, Keep w0 W →
    Calls Tryz.prog 78 #[.int .i64 i, .pointer (some ⟨b1, 0, none⟩), .pointer (some ⟨b2, 0, none⟩)] W fun e w' => e = .returned (.int .i64 (countT T)) ∧ Below W.heap.size W w' := by
  intro d
  induction d using Nat.strongRecOn with
  | _ d ih =>
  intro hd T i r hT hdr W kp
  have hbT := tree_behind (hT.up hd) hdr
  obtain ⟨x, ks⟩ := T
  have hone := hT.one
  have hkid : ∀ k, k ∈ ks → k.Ok (d - 1) := fun k hk => hT.kid hk
  simp only [Tr.flat, List.cons_append] at hdr
  obtain ⟨hx, hdr2⟩ := drop_head hdr
  have hin : i < nt := by have := lt_of_get hx; rwa [HT.out] at this
  have HX := Lib.hid hx
  have HHE := HE.out
  obtain ⟨b, off, kd, B, cs, m, l, many, least, most, hA, H5, hs, HM, hm, ⟨hk0, hk1⟩, _, _, _, HX'⟩ := HHE.at'.g5 HT hin
  subst hA
  obtain rfl := Option.some.inj (HX'.out.symm.trans HX.out)
  have ⟨y0, y1, y2, y3, y4, y5⟩ := H5.next kp
  have q1 := (kp.cell _ 0 HHE.l1).trans HHE.c1
  have q2 := (kp.cell _ 2 HHE.lm).trans HHE.m2
  by_cases hk : kd ≤ 1
  · have HC := Lib.hid (show countT (.mk ⟨kd, l, many, least, most⟩ ks) = 1 by rw [countT, if_pos hk])
    clear ih hT hbT hone hkid hdr hdr2 hx HHE H5 hs
    go_enter Tryz.func78, Tryz.ntmps78
    go_wp2
    go_ret
    exact ⟨ret_int (by rw [HC.out]; rfl), (by repeat (first | exact Below.refl _ _ | exact (Below.refl _ _).alloc (Nat.le_refl _) _ | apply below_drewN))⟩
  have hd0 : 0 < d := by
    cases d with
    | zero => obtain ⟨_, hm0, _⟩ := hT; rcases hone with h | h | h | h <;> simp only at h hm0 <;> omega
    | succ d => omega
  have hlen := hT.len
  simp only at hlen
  have hk16 : ∀ k, k ∈ ks → k.Ok 16 := fun k hk => (hkid k hk).up (by omega)
  have HLE : Hid ((endsL t).length = nt) := Lib.hid (by simp [endsL, HT.out])
  obtain ⟨eb, eo, u, z, hEA, hel, hec, ⟨hu, _, _⟩, hz⟩ := HHE.ae.gt HLE hin
  subst hu
  have hzz : z = ((i + 1 + sizes ks : Nat) : Int) := by
    have := hz.out
    simp [endsL, HT.out, hin] at this
    rw [← this, hbT, bR_some, Tr.size_mk]; omega
  subst hzz
  have q3 := (kp.cell _ 3 HHE.lm).trans HHE.m3
  have HEA := Lib.hid hEA
  have HATK := Lib.hid (fun j (hj : j < ks.length) => (show again (behind t 16) j (i + 1) = some (i + 1 + sizes (ks.take j)) ∧ t.drop (i + 1 + sizes (ks.take j)) = flats (ks.drop j) ++ r from kids_at hdr2 hk16 j (by omega)))
  have HIH := Lib.hid (fun (j : Nat) (k : Tr) (hj : ks[j]? = some k) (W' : World) (kp' : Keep w0 W') => by
    have hjl := lt_of_get hj
    have h5 := (HATK.out j hjl).2
    rw [drop_cons hj] at h5
    simp only [flats, List.append_assoc] at h5
    exact ih (d - 1) (by omega) (by omega) k _ _ (hkid k (mem_of_get hj)) h5 W' kp')
  have HEND := Lib.hid (fun (j : Nat) (k : Tr) (hj : ks[j]? = some k) => (show (endsL t)[i + 1 + sizes (ks.take j)]? = some ((i + 1 + sizes (ks.take (j + 1)) : Nat) : Int) ∧ i + 1 + sizes (ks.take j) < nt from by
    have hjl := lt_of_get hj
    have h5 := (HATK.out j hjl).2
    rw [drop_cons hj] at h5
    simp only [flats, List.append_assoc] at h5
    have h6 := tree_behind ((hkid k (mem_of_get hj)).up (show d - 1 ≤ 16 by omega)) h5
    have h7 := behind_lt h6
    rw [HT.out] at h7
    have h8 : sizes (ks.take (j + 1)) = sizes (ks.take j) + k.size := by
      rw [take_snoc hj]
      show (flats (ks.take j ++ [k])).length = _
      rw [flats_app, List.length_append]; simp [flats, sizes, Tr.size]
    refine ⟨?_, by omega⟩
    have h9 : i + 1 + sizes (ks.take j) < nt := by omega
    simp only [endsL, HT.out, List.getElem?_map, List.getElem?_range h9, Option.map_some, h6, bR_some, h8]
    congr 2; omega))
  have hks64 : sizes ks ≤ 64 := by
    have := sizes_le hdr2 ks.length (by have := HT.out; omega)
    rw [List.take_of_length_le (Nat.le_refl _)] at this
    have := HT.out; omega
  have HH := Lib.hid HHE
  have HZI := Lib.hid (fun z2 (hz2 : (endsL t)[i]? = some z2) => (show z2 = ((i + 1 + sizes ks : Nat) : Int) from Option.some.inj (hz2.symm.trans hz.out)))
  have hW1 : Below W.heap.size W (W.alloc (.cells #[.int .u8 kd, .slice B m cs, .int .i64 many, .int .i64 least, .int .i64 most] 52)) := (Below.refl _ _).alloc (Nat.le_refl _) _
  have BX0 := Lib.hid (Blk.new W 52 #[.int .u8 kd, .slice B m cs, .int .i64 many, .int .i64 least, .int .i64 most])
  have HW1 := Lib.hid hW1
  have HKP := Lib.hid kp
  have HONE := Lib.hid hone
  have HCB := Lib.hid (fun j => (show countL (ks.take j) ≤ 64 * 256 from by
    have h1 : ∀ l : List Tr, (∀ k, k ∈ l → k.Ok 16) → countL l ≤ l.length * 256 := fun l => by
      induction l with
      | nil => intro _; simp [countL]
      | cons k l ihl =>
        intro h
        have h2 := countT_eq k 16 (h k (by simp))
        have h3 := ihl (fun k hk => h k (by simp [hk]))
        simp only [countL, List.length_cons, Nat.add_mul]; omega
    have h2 := h1 (ks.take j) (fun k hk => hk16 k (List.mem_of_mem_take hk))
    have h3 := length_sizes ks
    have h4 : (ks.take j).length ≤ 64 := by rw [List.length_take]; omega
    omega))
  clear ih hT hbT hkid hdr hdr2 hx HHE H5 hs hEA hz hec kp hW1 hone hk16
  have hkd : decide (kd ≤ 1) = false := decide_eq_false (by omega)
  go_enter Tryz.func78, Tryz.ntmps78
  go_wp2
  go_loopw [6, 7] (fun nv kv wr => ∃ j : Nat, j ≤ ks.length ∧ kv = .int .i64 ((i + 1 + sizes (ks.take j) : Nat) : Int) ∧ nv = .int .i64 ((countL (ks.take j) : Nat) : Int) ∧ Below W.heap.size W wr ∧ Blk wr W.heap.size 52 #[.int .u8 kd, .slice B m cs, .int .i64 many, .int .i64 least, .int .i64 most]) (fun _ kv _ => (i + 1 + sizes ks) - (intOf kv).toNat)
  case atStart => exact ⟨0, by omega, by simp [sizes, flats], by simp [countL], HW1.out, BX0.out⟩
  case round =>
    clear y0 y1 y2 y3 y4 y5 q1 q2 q3
    obtain ⟨j, hj, rfl, rfl, hbel, hbx⟩ := hrel
    have HB := Lib.hid hbel; have HBX := Lib.hid hbx
    have KP := Lib.hid (HKP.out.trans (Keep.of hbel))
    clear hbel hbx
    obtain ⟨eb2, eo2, u2, z2, hEA2, hel2, hec2, ⟨hu2, _, _⟩, hz2⟩ := HH.out.ae.gt HLE hin
    subst hu2
    have hzz2 : z2 = ((i + 1 + sizes ks : Nat) : Int) := HZI.out z2 hz2.out
    subst hzz2
    subst hEA2
    have p1 := (KP.out.cell _ 0 HH.out.l1).trans HH.out.c1
    have p2 := (KP.out.cell _ 0 HH.out.l2).trans HH.out.c2
    have p3 := (KP.out.cell _ 3 HH.out.lm).trans HH.out.m3
    have p4 := (KP.out.cell _ (eo2 + i) hel2).trans hec2
    obtain ⟨ze, hze⟩ : ∃ ze, i + 1 + sizes ks = ze := ⟨_, rfl⟩
    rw [hze] at p4
    obtain ⟨x0, x1, x2, x3, x4⟩ := Blk.five HBX.out
    have hcb := HCB.out j
    by_cases hlt : j < ks.length
    · have hkk : ks[j]? = some (ks[j]) := List.getElem?_eq_getElem hlt
      have hps := sizes_take_lt hlt
      generalize ks[j] = k0 at hkk
      obtain ⟨hen1, hen2⟩ := HEND.out j k0 hkk
      have hst : sizes (ks.take j) < sizes (ks.take (j + 1)) := by
        rw [take_snoc hkk]
        show _ < (flats (ks.take j ++ [k0])).length
        rw [flats_app, List.length_append]
        have := k0.size_pos
        simp only [flats, List.append_nil, sizes]
        simp only [Tr.size] at this
        omega
      have hst2 := sizes_take_le (ks := ks) (j + 1)
      have HKK := Lib.hid hkk
      have HEN1 := Lib.hid hen1
      have hcs := HCB.out (j + 1)
      have HCS := Lib.hid (show countL (ks.take (j + 1)) = countL (ks.take j) + countT k0 by rw [take_snoc hkk, countL_snoc])
      rw [HCS.out] at hcs
      have HC := Lib.hid (fun (W' : World) (kp' : Keep w0 W') => HIH.out j k0 hkk W' kp')
      generalize hp : i + 1 + sizes (ks.take j) = p at *
      have HP := Lib.hid hp
      have hpz : p < ze := by omega
      have HZE := Lib.hid hze
      clear hkk hen1 hp hze
      go_wp2_with fail
      refine (HC.out wr KP.out).mono ?_
      rintro e w5 ⟨rfl, hb5⟩
      have KP5 := Lib.hid (KP.out.trans (Keep.of hb5))
      have BX5 := Lib.hid (HBX.out.below hb5 HBX.out.lt)
      have HB5 := Lib.hid (HB.out.trans (hb5.mono HB.out.size))
      clear p1 p2 p3 p4 hb5 x0 x1 x2 x3 x4
      have p1 := (KP5.out.cell _ 0 HH.out.l1).trans HH.out.c1
      have p3 := (KP5.out.cell _ 3 HH.out.lm).trans HH.out.m3
      obtain ⟨u3, z3, _, hec3, ⟨hu3, _, _⟩, hz3⟩ := HH.out.ae.gt2 HLE hen2
      subst hu3
      obtain rfl := Option.some.inj (hz3.out.symm.trans HEN1.out)
      have p5 := (KP5.out.cell _ (eo2 + p) hel2).trans hec3
      clear hec3 hec2
      go_wp2
      go_roundw
      case rel => exact ⟨j + 1, by omega, rfl, by rw [HCS.out]; go_num, HB5.out, BX5.out⟩
      case measure => have := HZE.out; have h2 := HP.out; simp [intOf]; omega
    · have hjl : j = ks.length := by omega
      have htk : ks.take j = ks := List.take_of_length_le (by omega)
      rw [htk]
      rw [htk] at hcb
      have hdz : ¬ ((i + 1 + sizes ks : Nat) : Int) < (ze : Int) := by omega
      rw [hze]
      have HTK := Lib.hid htk
      clear htk hec2
      have HC1 := Lib.hid (fun (h : kd = 3) => (show countT (.mk ⟨kd, l, many, least, most⟩ ks) = min (countL ks + 1) 256 by rw [countT, if_neg (by simp only; omega), if_pos h]))
      have HC2 := Lib.hid (fun (h : kd = 2) => (show countT (.mk ⟨kd, l, many, least, most⟩ ks) = min (countL ks) 256 by rw [countT, if_neg (by simp only; omega), if_neg (by simp only; omega), if_neg (by simp only; omega)]))
      by_cases hk2 : kd = 2
      · have HC := Lib.hid (HC2.out hk2)
        subst hk2
        go_wp2
        all_goals
          go_ret
          exact ⟨ret_int (by rw [HC.out]; omega), HB.out⟩
      by_cases hk3 : kd = 3
      · have HC := Lib.hid (HC1.out hk3)
        subst hk3
        go_wp2
        all_goals
          go_ret
          exact ⟨ret_int (by rw [HC.out]; omega), HB.out⟩
      have h4 : kd = 4 ∧ many = 1 ∧ 0 ≤ least ∧ least ≤ 16 ∧ (most = -1 ∨ (least ≤ most ∧ most ≤ 16)) := by
        rcases HONE.out with h | h | h | h <;> simp only at h <;> first | omega | exact ⟨h.1, h.2.2.1, h.2.2.2.1, h.2.2.2.2.1, h.2.2.2.2.2⟩
      obtain ⟨rfl, rfl, hl0, hl1, hms⟩ := h4
      have hk1' : ks.length = 1 := by omega
      have hc256 : countL ks ≤ 256 := by
        match ks, hk1' with
        | [K], _ =>
          simp only [countL, Nat.add_zero]
          obtain ⟨y, ls⟩ := K
          rw [countT]; split <;> omega
      by_cases hm : most < 0
      · obtain ⟨P, hP⟩ : ∃ P, countL ks * (least.toNat + 1) = P := ⟨_, rfl⟩
        have hPb : P ≤ 256 * 17 := by rw [← hP]; exact Nat.mul_le_mul hc256 (by omega)
        have hmul : (countL ks : Int) * (least + 1) = (P : Int) := by
          rw [← hP, Int.natCast_mul, Int.natCast_add, Int.toNat_of_nonneg hl0]; rfl
        have HC := Lib.hid (show countT (.mk ⟨4, l, 1, least, most⟩ ks) = min (P + 1) 256 by rw [countT, if_neg (by simp), if_neg (by simp), if_pos rfl, if_pos hm, hP])
        clear hP
        go_wp2
        all_goals
          go_ret
          exact ⟨ret_int (by rw [HC.out]; omega), HB.out⟩
      · obtain ⟨P, hP⟩ : ∃ P, countL ks * most.toNat = P := ⟨_, rfl⟩
        have hPb : P ≤ 256 * 17 := by rw [← hP]; exact Nat.mul_le_mul hc256 (by omega)
        have hmul : (countL ks : Int) * most = (P : Int) := by
          rw [← hP, Int.natCast_mul, Int.toNat_of_nonneg (by omega)]
        have HC := Lib.hid (show countT (.mk ⟨4, l, 1, least, most⟩ ks) = min (P + 1) 256 by rw [countT, if_neg (by simp), if_neg (by simp), if_pos rfl, if_neg hm, hP])
        clear hP
        go_wp2
        all_goals
          go_ret
          exact ⟨ret_int (by rw [HC.out]; omega), HB.out⟩

end Go.Proofs.YtilhicefhhgecaaGreatDoor

namespace Go.Proofs.YtilhicefhhgecaaGreatDoor
open Go.RowKit Pv

set_option maxHeartbeats 1000000 in
set_option maxRecDepth 100000 in
theorem maker_many (w : World) (pm : Nat) (tA EA : Option Addr) (nt ct ec : Nat) (t : List Rx) (T : Tr) (hT : T.Ok 16) (hfl : t = T.flat) (HT : Hid (t.length = nt)) (hnt : nt ≤ 64) (hpm : pm < w.heap.size)
    (m2 : w.cell? ⟨pm, 2, none⟩ = some (.slice tA nt ct)) (m3 : w.cell? ⟨pm, 3, none⟩ = some (.slice EA nt ec)) (ht : AtRx w tA t) (hae : At w EA RI (endsL t)) :
    Calls Tryz.prog 41 #[.pointer (some ⟨pm, 0, none⟩)] w fun e w' => e = .returned (.int .i64 ((1 + countT T : Nat) : Int)) ∧ Below w.heap.size w w' := by
  have hc256 : countT T ≤ 256 := by obtain ⟨y, ls⟩ := T; rw [countT]; split <;> omega
  have hb : Below w.heap.size w ((w.alloc (.cells #[.pointer (some ⟨pm, 0, none⟩)] 77)).alloc (.cells #[.func (.func 78) #[] #[.pointer (some ⟨w.heap.size, 0, none⟩), .pointer (some ⟨w.heap.size + 1, 0, none⟩)]] 127)) := ((Below.refl _ _).alloc (Nat.le_refl _) _).alloc (by simp) _
  have BK := blk2 w #[.pointer (some ⟨pm, 0, none⟩)] #[.func (.func 78) #[] #[.pointer (some ⟨w.heap.size, 0, none⟩), .pointer (some ⟨w.heap.size + 1, 0, none⟩)]] 77 127
  have k := Keep.of hb
  have CE : CEnv _ pm w.heap.size (w.heap.size + 1) tA EA nt ct ec t := ⟨BK.1.lt, BK.2.lt, Nat.lt_of_lt_of_le hpm hb.size, BK.1.cell 0, BK.2.cell 0, (k.cell _ _ hpm).trans m2, (k.cell _ _ hpm).trans m3, AtRx.keep ht k, hae.keep k⟩
  have HC := Lib.hid (maker_count _ pm w.heap.size (w.heap.size + 1) tA EA nt ct ec t (Lib.hid CE) HT hnt 16 (Nat.le_refl _) T 0 [] hT (by simp [hfl]) _ (Keep.refl _))
  have HB := Lib.hid hb
  generalize countT T = q at *
  clear hb BK k CE ht hae
  go_enter Tryz.func41, Tryz.ntmps41
  go_wp2_with fail
  refine HC.out.mono ?_
  rintro e w1 ⟨rfl, hb1⟩
  go_wp2
  go_ret
  exact ⟨ret_int (by omega), HB.out.trans (hb1.mono HB.out.size)⟩

end Go.Proofs.YtilhicefhhgecaaGreatDoor

namespace Pv
open Go Go.RowKit

/-- Through nodes, one behind the other (cat) or side by side: the automaton, the state, the ends. -/
def walkG (cat : Bool) : List Tr → Au → Nat → Au × Nat × List Nat
  | [], a, s => (a, s, [])
  | k :: ks, a, s => ((walkG cat ks (leadT k a s).1 (if cat then (leadT k a s).2 else s)).1, (walkG cat ks (leadT k a s).1 (if cat then (leadT k a s).2 else s)).2.1, (leadT k a s).2 :: (walkG cat ks (leadT k a s).1 (if cat then (leadT k a s).2 else s)).2.2)
theorem walkG_snoc (cat : Bool) (k : Tr) : ∀ (ks : List Tr) (a : Au) (s : Nat), walkG cat (ks ++ [k]) a s =
    ((leadT k (walkG cat ks a s).1 (walkG cat ks a s).2.1).1, (if cat then (leadT k (walkG cat ks a s).1 (walkG cat ks a s).2.1).2 else (walkG cat ks a s).2.1), (walkG cat ks a s).2.2 ++ [(leadT k (walkG cat ks a s).1 (walkG cat ks a s).2.1).2])
  | [], a, s => by simp [walkG]
  | j :: ks, a, s => by simp only [List.cons_append, walkG]; rw [walkG_snoc cat k ks]
theorem walkG_cat : ∀ (ks : List Tr) (a : Au) (s : Nat), (walkG true ks a s).1 = (leadCat ks a s).1 ∧ (walkG true ks a s).2.1 = (leadCat ks a s).2
  | [], a, s => by simp [walkG, leadCat]
  | k :: ks, a, s => by simpa [walkG, leadCat] using walkG_cat ks (leadT k a s).1 (leadT k a s).2
theorem walkG_alt : ∀ (ks : List Tr) (a : Au) (s : Nat), walkG false ks a s = ((leadAlt ks a s).1, s, (leadAlt ks a s).2)
  | [], a, s => by simp [walkG, leadAlt]
  | k :: ks, a, s => by simp [walkG, leadAlt, walkG_alt ks]
/-- What holds of it. -/
structure WG (a : Au) (q m : Nat) (r : Au × Nat × List Nat) : Prop where
  len : r.1.length = a.length + q
  lt : r.2.1 < r.1.length
  all : ∀ e, e ∈ r.2.2 → e < r.1.length
  el : EL a r.1
  ne : r.2.2.length = m
theorem walkG_ok (cat : Bool) {d : Nat} : ∀ {ks : List Tr} {a : Au} {s : Nat}, (∀ k, k ∈ ks → k.Ok d) → sizes ks ≤ 64 → s < a.length → a.length + statesL ks ≤ 256 → WG a (statesL ks) ks.length (walkG cat ks a s)
  | [], a, s, _, _, hs, _ => ⟨by simp [walkG, statesL], hs, by simp [walkG], EL.refl _, rfl⟩
  | k :: ks, a, s, hk, hz, hs, hc => by
    rw [sizes_cons] at hz
    rw [statesL] at hc ⊢
    obtain ⟨h1, h2⟩ := leadT_leads k a s hs
    have he := leadT_el (hk k (by simp)) (by omega) hs (by omega : a.length + statesT k ≤ 256)
    have hl := he.l
    have ih := walkG_ok cat (ks := ks) (a := (leadT k a s).1) (s := if cat then (leadT k a s).2 else s) (fun k hk' => hk k (by simp [hk'])) (by omega) (by cases cat <;> simp <;> omega) (by omega)
    have e1 := ih.len
    refine ⟨by rw [walkG]; simp only; omega, by rw [walkG]; exact ih.lt, fun e hm => ?_, by rw [walkG]; exact he.trans ih.el, by rw [walkG]; simp only [List.length_cons]; rw [ih.ne]⟩
    rw [walkG] at hm ⊢
    simp only [List.mem_cons] at hm ⊢
    rcases hm with rfl | hm
    · omega
    · exact ih.all e hm
theorem iter_ok {K : Tr} {d n : Nat} {a : Au} {s : Nat} (hK : K.Ok d) (hz : K.size ≤ 64) (hs : s < a.length) (hc : a.length + statesT K * n ≤ 256) : (iter (leadT K) n a s).1.length = a.length + statesT K * n ∧ (iter (leadT K) n a s).2 < (iter (leadT K) n a s).1.length ∧ EL a (iter (leadT K) n a s).1 :=
  ⟨((leadT_leads K).iter n a s hs).1, ((leadT_leads K).iter n a s hs).2, iter_el hK hz hs hc⟩
theorem EL.few {a b : Au} {n : Nat} (h : EL a b) (hn : n = a.length) (he : edgesN a ≤ 65 * n) : edgesN b ≤ 65 * b.length := by have := h.e; omega
end Pv
namespace Go.Proofs.YtilhicefhhgecaaGreatDoor
open Go.RowKit Pv

/-- The maker under way, with what it reads. -/
structure MkE (w0 w : World) (base pm e0 : Nat) (acc : Int) (tA EA : Option Addr) (nt ct ec : Nat) (t : List Rx) (A : Option Addr) (n c : Nat) (a : Au) : Prop where
  ma : MkAt w base pm A n c acc (.slice tA nt ct) (.slice EA nt ec) a
  kp : Keep w0 w
  oe : w.ownsRow e0 TInt 1 (.slice EA nt ec) nt ((endsL t).map (Value.int .i64))
  ge : base ≤ w.heap.size
section
variable {w0 w w' : World} {base pm e0 : Nat} {acc : Int} {tA EA : Option Addr} {nt ct ec : Nat} {t : List Rx} {A : Option Addr} {n c : Nat} {a : Au}
theorem MkE.next (h : MkE w0 w base pm e0 acc tA EA nt ct ec t A n c a) (hb : Below w.heap.size w w') : MkE w0 w' base pm e0 acc tA EA nt ct ec t A n c a := ⟨h.ma.next hb, h.kp.trans (Keep.of hb), ownsRow_below h.oe hb, Nat.le_trans h.ge hb.size⟩
theorem MkE.step {A' : Option Addr} {n' c' : Nat} {a' : Au} (h : MkE w0 w base pm e0 acc tA EA nt ct ec t A n c a) (hb : w0.heap.size ≤ base) (mk : MkAt w' base pm A' n' c' acc (.slice tA nt ct) (.slice EA nt ec) a') (ch : Chg TB base w w') : MkE w0 w' base pm e0 acc tA EA nt ct ec t A' n' c' a' :=
  ⟨mk, ch.keep h.kp hb h.ge, ownsRow_chg h.oe ch TB_int, Nat.le_trans h.ge ch.size⟩
theorem MkE.len (h : MkE w0 w base pm e0 acc tA EA nt ct ec t A n c a) : n = a.length := h.ma.au.len
theorem MkE.cells (h : MkE w0 w base pm e0 acc tA EA nt ct ec t A n c a) : pm < w.heap.size ∧ w.cell? ⟨pm, 2, none⟩ = some (.slice tA nt ct) ∧ w.cell? ⟨pm, 3, none⟩ = some (.slice EA nt ec) := ⟨h.ma.b.lt, h.ma.b.cell 2, h.ma.b.cell 3⟩
end
/-- What the program's leading leaves. -/
def MkLead (w0 w : World) (base pm e0 : Nat) (acc : Int) (tA EA : Option Addr) (nt ct ec : Nat) (t : List Rx) (r : Au × Nat) (e : Ending) (w' : World) : Prop :=
  ∃ A' c', e = .returned (.int .i64 (r.2 : Nat)) ∧ MkE w0 w' base pm e0 acc tA EA nt ct ec t A' r.1.length c' r.1 ∧ Chg TB base w w'
/-- It does so from any state, where there are not too many. -/
def PLead (w0 : World) (base pm e0 : Nat) (acc : Int) (tA EA : Option Addr) (nt ct ec : Nat) (t : List Rx) (T : Tr) (i : Nat) : Prop :=
  ∀ (W : World) (A : Option Addr) (n c : Nat) (a : Au) (s : Nat), MkE w0 W base pm e0 acc tA EA nt ct ec t A n c a → s < n → n + statesT T ≤ 256 → edgesN a ≤ 65 * n →
    Calls Tryz.prog 42 #[.pointer (some ⟨pm, 0, none⟩), .int .i64 i, .int .i64 s] W (MkLead w0 W base pm e0 acc tA EA nt ct ec t (leadT T a s))
/-- The ends' cells. -/
theorem own_int {w : World} {e0 k n c : Nat} {A : Option Addr} {l : List Int} {z : Int} (h : w.ownsRow e0 TInt 1 (.slice A n c) n (l.map (Value.int .i64))) (hk : l[k]? = some z) : ∃ g, A = some ⟨g, 0, none⟩ ∧ g < w.heap.size ∧ w.cell? ⟨g, k, none⟩ = some (.int .i64 z) :=
  own_get h (by rw [List.getElem?_map, hk]; rfl)
/-- one of the call's own -/
theorem own_one (w : World) (base : Nat) (u : Value) (hb : base ≤ w.heap.size) : (w.alloc (.cells #[u] TInt)).ownsRow base TInt 1 (.slice (some ⟨w.heap.size, 0, none⟩) 1 1) 1 [u] :=
  ⟨rfl, .inr ⟨w.heap.size, 1, #[u], rfl, hb, by show (w.heap.push _)[w.heap.size]? = _; simp, Nat.le_refl _, by simp only [maxLen]; omega, by simp, by simp⟩⟩

end Go.Proofs.YtilhicefhhgecaaGreatDoor

namespace Go.Proofs.YtilhicefhhgecaaGreatDoor
open Go.RowKit Pv

abbrev TRx : TypeId := 52
theorem TB_rx : ∀ e, e ∈ TB → e ≠ TRx := by decide
/-- a set just made is the call's own -/
theorem SetQ.made {w : World} {base b0 : Nat} {v : Value} {l : List Rng} (h : OwnSet w b0 v l) (hb : base ≤ b0) (hl : l.length ≤ 140737488355328) : SetQ w base v l := by
  obtain ⟨A, c, us, rfl, ow, rel⟩ := id h
  obtain ⟨A', c', e, hat, hc⟩ := OwnK.sl h hl
  injection e with e1 _ e3
  subst e1; subst e3
  refine ⟨⟨A, c, rfl, hat, hc, fun hp b o e => ?_⟩, fun b o n c' e hn => ?_⟩
  · rcases ow.2 with ⟨hv, h0⟩ | ⟨g, cap, cur, hv, hg, hh, r⟩
    · injection hv with e1; rw [e1] at e; cases e
    · injection hv with e1
      rw [e1] at e
      injection e with e; injection e with e
      subst e
      exact .inr ⟨cur, hh⟩
  · injection e with e1 e2 e3
    rcases ow.2 with ⟨hv, h0⟩ | ⟨g, cap, cur, hv, hg, hh, r⟩
    · injection hv with e4; rw [e4] at e1; cases e1
    · injection hv with e4
      rw [e4] at e1
      injection e1 with e1; injection e1 with e1
      omega

set_option maxHeartbeats 1000000 in
set_option maxRecDepth 100000 in
theorem maker_lead_empty (w0 W : World) (base pm e0 : Nat) (acc : Int) (tA EA : Option Addr) (nt ct ec : Nat) (t : List Rx) (A : Option Addr) (n c : Nat) (a : Au) (s i : Nat) (l : List Rng) (many least most : Int) (ks : List Tr)
    (ht : AtRx w0 tA t) (hbs : w0.heap.size ≤ base) (HT : Hid (t.length = nt)) (HX : Hid (t[i]? = some ⟨0, l, many, least, most⟩)) (h : MkE w0 W base pm e0 acc tA EA nt ct ec t A n c a) (hs : s < n) (hn : n ≤ 255) (he : edgesN a ≤ 65 * n) :
    Calls Tryz.prog 42 #[.pointer (some ⟨pm, 0, none⟩), .int .i64 i, .int .i64 s] W (MkLead w0 W base pm e0 acc tA EA nt ct ec t (leadT (.mk ⟨0, l, many, least, most⟩ ks) a s)) := by
  have hin : i < nt := by have := lt_of_get HX.out; rwa [HT.out] at this
  obtain ⟨b, off, kd, B, cs, m, l', many', least', most', rfl, H5, hset, HM, hmc, hkd, hma, hle, hmo, HX'⟩ := ht.g5 HT hin
  obtain ⟨rfl, rfl, rfl, rfl, rfl⟩ := Rx.mk.inj (Option.some.inj (HX'.out.symm.trans HX.out))
  obtain ⟨y0, y1, y2, y3, y4, y5⟩ := H5.next h.kp
  obtain ⟨hpm, q2, q3⟩ := h.cells
  have hW1 : Below W.heap.size W (W.alloc (.cells #[.int .u8 0, .slice B m cs, .int .i64 many', .int .i64 least', .int .i64 most'] TRx)) := (Below.refl _ _).alloc (Nat.le_refl _) _
  have hW : Below W.heap.size W ((W.alloc (.cells #[.int .u8 0, .slice B m cs, .int .i64 many', .int .i64 least', .int .i64 most'] TRx)).alloc (.cells #[.int .i64 s] TInt)) := hW1.alloc (by simp) _
  have OO := own_one (W.alloc (.cells #[.int .u8 0, .slice B m cs, .int .i64 many', .int .i64 least', .int .i64 most'] TRx)) W.heap.size (.int .i64 s) (by simp)
  rw [show (W.alloc (.cells #[.int .u8 0, .slice B m cs, .int .i64 many', .int .i64 least', .int .i64 most'] TRx)).heap.size = W.heap.size + 1 by simp] at OO
  have HJ := Lib.hid (maker_join A n c base pm acc _ _ a (some ⟨W.heap.size + 1, 0, none⟩) 1 1 W.heap.size [s] _ (h.next hW).ma (Nat.le_trans h.ge hW.size) (by omega) (by omega) OO (by simpa using hs) (by simp))
  have HW := Lib.hid hW; have HH := Lib.hid h
  have HNL := Lib.hid h.len
  clear h hW hW1 H5 ht hset HX' OO
  go_enter Tryz.func42, Tryz.ntmps42
  go_wp2_with fail
  refine HJ.out.mono ?_
  rintro e w1 ⟨A1, c1, rfl, mk1, ch1⟩
  have CH := Lib.hid ((Chg.of_below HW.out).trans ch1)
  have ST := Lib.hid (HH.out.step hbs mk1 CH.out)
  have HR : leadT (.mk ⟨0, l', many', least', most'⟩ ks) a s = (auJoin a [s], a.length) := by rw [leadT, if_pos rfl]; rfl
  have HRR := Lib.hid HR
  clear mk1 ch1 HR
  go_wp2
  go_ret
  rw [HRR.out]
  exact ⟨A1, c1, by rw [← HNL.out]; rfl, by simp only [auJoin_length, ← HNL.out]; exact ST.out, CH.out⟩

set_option maxHeartbeats 1000000 in
set_option maxRecDepth 100000 in
theorem maker_lead_set (w0 W : World) (base pm e0 : Nat) (acc : Int) (tA EA : Option Addr) (nt ct ec : Nat) (t : List Rx) (A : Option Addr) (n c : Nat) (a : Au) (s i : Nat) (l : List Rng) (many least most : Int) (ks : List Tr)
    (ht : AtRx w0 tA t) (hbs : w0.heap.size ≤ base) (HT : Hid (t.length = nt)) (HX : Hid (t[i]? = some ⟨1, l, many, least, most⟩)) (hl : l.length ≤ 256) (h : MkE w0 W base pm e0 acc tA EA nt ct ec t A n c a) (hs : s < n) (hn : n ≤ 255) (he : edgesN a ≤ 65 * n) :
    Calls Tryz.prog 42 #[.pointer (some ⟨pm, 0, none⟩), .int .i64 i, .int .i64 s] W (MkLead w0 W base pm e0 acc tA EA nt ct ec t (leadT (.mk ⟨1, l, many, least, most⟩ ks) a s)) := by
  have hin : i < nt := by have := lt_of_get HX.out; rwa [HT.out] at this
  obtain ⟨b, off, kd, B, cs, m, l', many', least', most', rfl, H5, hset, HM, hmc, hkd, hma, hle, hmo, HX'⟩ := ht.g5 HT hin
  obtain ⟨rfl, rfl, rfl, rfl, rfl⟩ := Rx.mk.inj (Option.some.inj (HX'.out.symm.trans HX.out))
  obtain ⟨y0, y1, y2, y3, y4, y5⟩ := H5.next h.kp
  obtain ⟨hpm, q2, q3⟩ := h.cells
  have hml : m ≤ 256 := by rw [← HM.out]; exact hl
  have hW1 : Below W.heap.size W (W.alloc (.cells #[.int .u8 1, .slice B m cs, .int .i64 many', .int .i64 least', .int .i64 most'] TRx)) := (Below.refl _ _).alloc (Nat.le_refl _) _
  have hW : Below W.heap.size W (W.alloc (.cells #[.int .u8 1, .slice B m cs, .int .i64 many', .int .i64 least', .int .i64 most'] TRx)).drew := hW1.drew
  have BX := Lib.hid (Blk.new W TRx #[.int .u8 1, .slice B m cs, .int .i64 many', .int .i64 least', .int .i64 most'])
  have K1 : Hid ((W.alloc (.cells #[.int .u8 1, .slice B m cs, .int .i64 many', .int .i64 least', .int .i64 most'] TRx)).drew.cell? ⟨W.heap.size, 1, none⟩ = some (.slice B m cs) ∧ (W.alloc (.cells #[.int .u8 1, .slice B m cs, .int .i64 many', .int .i64 least', .int .i64 most'] TRx)).drew.cell? ⟨W.heap.size, 0, none⟩ = some (.int .u8 1)) := Lib.hid ⟨BX.out.cell 1, BX.out.cell 0⟩
  have HST := Lib.hid (maker_state A n c base pm acc _ _ a _ (h.next hW).ma (Nat.le_trans h.ge hW.size) (by omega))
  have HW := Lib.hid hW; have HH := Lib.hid h
  have HNL := Lib.hid h.len
  have HSET := Lib.hid hset
  have HE := Lib.hid he
  clear h hW hW1 H5 ht hset HX' he
  go_enter Tryz.func42, Tryz.ntmps42
  go_wp2_with fail
  refine wp_region_T 9 (fun W1 => W1.cell? ⟨W.heap.size, 1, none⟩ = some (.slice B m cs) ∧ W1.cell? ⟨W.heap.size, 0, none⟩ = some (.int .u8 1)) (by kernel_rfl) ?_
  refine wpAnyT_takeW (i := 0) (v := ?_) rfl (by decide) (by kernel_rfl) (by kernel_rfl) (by kernel_rfl) (fun _ _ _ h => h) (.inl ⟨rfl, ?_⟩) (fun _ => K1.out) ?_
  rotate_left
  · intro W__ _
    go_simp
    (try with_reducible rfl)
  simp only [Act.put, List.setIfInBounds_toArray]
  refine wpAnyT_takeW (i := 1) (v := ?_) rfl (by decide) (by kernel_rfl) (by kernel_rfl) (by kernel_rfl) (fun _ _ _ h => h) (.inl ⟨rfl, ?_⟩) (fun _ => K1.out) ?_
  rotate_left
  · intro W__ _
    go_simp
    (try with_reducible rfl)
  simp only [Act.put]
  refine wpAnyT_takeW (i := 2) (v := ?_) rfl (by decide) (by kernel_rfl) (by kernel_rfl) (by kernel_rfl) (fun _ _ _ h => h) (.inl ⟨rfl, ?_⟩) (fun _ => K1.out) ?_
  rotate_left
  · intro W__ _
    go_simp
    (try with_reducible rfl)
  simp only [Act.put]
  refine wpAnyT_take (i := 4) (v := ?_) rfl (by kernel_rfl) (by kernel_rfl) (by kernel_rfl) (by kernel_rfl) (by kernel_rfl) (fun _ _ _ h => h) (.inl ⟨rfl, ?_⟩) K1.out ?_
  rotate_left
  · intro W__ hW__
    obtain ⟨h1, h2⟩ := hW__
    go_simp
    (try with_reducible rfl)
  simp only [Act.put]
  refine wpAnyT_take (i := 5) (v := ?_) rfl (by kernel_rfl) (by kernel_rfl) (by kernel_rfl) (by kernel_rfl) (by kernel_rfl) (fun _ _ _ h => h) (.inl ⟨rfl, ?_⟩) K1.out ?_
  rotate_left
  · intro W__ hW__
    obtain ⟨h1, h2⟩ := hW__
    go_simp
    (try with_reducible rfl)
  simp only [Act.put]
  refine wpAnyT_one (i := 3) rfl (by kernel_rfl) rfl fun K__ hK__ => ?_
  unfold Oper.wp
  go_simp
  refine HST.out.mono ?_
  rintro e w1 ⟨A1, c1, rfl, mk1, ch1⟩
  have B1 := ch1.blk (show Blk (W.alloc (.cells #[.int .u8 1, .slice B m cs, .int .i64 many', .int .i64 least', .int .i64 most'] TRx)).drew W.heap.size TRx _ from BX.out) TB_rx
  refine hK__ _ _ ⟨B1.cell 1, B1.cell 0⟩ ?_
  have CH1 := Lib.hid ((Chg.of_below HW.out).trans ch1)
  have ST1 := Lib.hid (HH.out.step hbs mk1 CH1.out)
  have HCL := Lib.hid (slices_Clone_rng B cs m l' w1 (AtK.keep HSET.out ST1.out.kp) HM (by omega))
  have BX1 := Lib.hid B1
  clear hK__ mk1 ch1 B1
  try simp only [Act.put, List.setIfInBounds_toArray, List.set_cons_zero, List.set_cons_succ]
  refine wpAnyT_one (i := 6) rfl (by kernel_rfl) rfl fun K__ hK__ => ?_
  unfold Oper.wp
  go_simp
  refine HCL.out.mono ?_
  rintro e w2 ⟨B2, cs2, rfl, own2, hb2⟩
  have BX2 := Lib.hid (BX1.out.below hb2 BX1.out.lt)
  refine hK__ _ _ ⟨BX2.out.cell 1, BX2.out.cell 0⟩ ?_
  have SQ := Lib.hid (SetQ.made own2 ST1.out.ge (by rw [HM.out]; omega))
  have ST2 := Lib.hid (ST1.out.next hb2)
  have CH2 := Lib.hid (CH1.out.then hb2)
  have HED := Lib.hid (maker_edge A1 (n + 1) c1 base pm s acc _ _ (a ++ [[]]) ⟨n, false, l'⟩ B2 m cs2 w2 ST2.out.ma ST2.out.ge (by omega) (by simp only; omega) (by rw [edgesN_state]; have := HE.out; omega) SQ.out)
  have K2 : Hid (w2.cell? ⟨W.heap.size, 1, none⟩ = some (.slice B m cs) ∧ w2.cell? ⟨W.heap.size, 0, none⟩ = some (.int .u8 1)) := Lib.hid ⟨BX2.out.cell 1, BX2.out.cell 0⟩
  clear hK__ own2 hb2
  try simp only [Act.put, List.setIfInBounds_toArray, List.set_cons_zero, List.set_cons_succ]
  refine wpAnyT_takeW (i := 7) (v := ?_) rfl (by decide) (by kernel_rfl) (by kernel_rfl) (by kernel_rfl) (fun _ _ _ h => h) (.inl ⟨rfl, ?_⟩) (fun _ => K2.out) ?_
  rotate_left
  · intro W__ _
    go_simp
    (try with_reducible rfl)
  simp only [Act.put, List.setIfInBounds_toArray]
  refine wpAnyT_one (i := 8) rfl (by kernel_rfl) rfl fun K__ hK__ => ?_
  unfold Oper.wp
  go_simp
  refine HED.out.mono ?_
  rintro e w3 ⟨rfl, mk3, ch3⟩
  have B3 := ch3.blk BX2.out TB_rx
  refine hK__ _ _ ⟨B3.cell 1, B3.cell 0⟩ ?_
  have CH3 := Lib.hid (CH2.out.trans ch3)
  have ST3 := Lib.hid (ST2.out.step hbs mk3 ch3)
  clear hK__ mk3 ch3 B3
  try simp only []
  refine wpAnyT_end (i := 9) rfl (by kernel_rfl) rfl (by kernel_rfl) fun K__ hK__ => ?_
  unfold Oper.wp
  go_simp
  refine hK__ _ _ ?_
  clear hK__
  refine wpAnyT_done (by kernel_rfl) ?_ _
  have HRR := Lib.hid (show leadT (.mk ⟨1, l', many', least', most'⟩ ks) a s = (auEdge (a ++ [[]]) s ⟨a.length, false, l'⟩, a.length) by rw [leadT, if_neg (by simp), if_pos rfl])
  go_wp2
  go_ret
  rw [HRR.out, ← HNL.out]
  exact ⟨A1, c1, rfl, by simp only [auEdge_length, List.length_append, List.length_cons, List.length_nil, Nat.zero_add, ← HNL.out]; exact ST3.out, CH3.out⟩

end Go.Proofs.YtilhicefhhgecaaGreatDoor

namespace Go.Proofs.YtilhicefhhgecaaGreatDoor
open Go.RowKit Pv

theorem SetIn.grow {w w' : World} {base e0 m : Nat} {v rv : Value} {l : List Rng} {us : List Value} (h : SetIn w base v l) (hv : w.ownsRow e0 TInt 1 rv m us) (hb : base ≤ e0) (g : w.grownBy w' rv.ownBlock) : SetIn w' base v l := by
  obtain ⟨S, sc, e, hs, hl, hh⟩ := h
  have key : ∀ b o, S = some ⟨b, o, none⟩ → 0 < l.length → b < w.heap.size → w'.heap[b]? = w.heap[b]? := fun b o e hp hlt => by
    refine g.block b hlt fun e' => ?_
    rcases hh hp b o e with h3 | ⟨cs, h3⟩
    · have := (hv.lt b e'.symm).1; omega
    · exact own_blk_ne (t := TRng) (cs := cs) hv h3 (by decide) e'
  refine ⟨S, sc, e, AtK.chg hs g.size key, hl, fun hp b o e => ?_⟩
  rcases hh hp b o e with h3 | ⟨cs, h3⟩
  · exact .inl h3
  · obtain ⟨b', o', e', hlt, _⟩ := hs.2 hp
    rw [e] at e'
    injection e' with e'
    injection e' with e1 _
    subst e1
    exact .inr ⟨cs, (key b o e hp hlt).trans h3⟩
theorem AuQ.grow {W W' : World} {base n c e0 m : Nat} {A : Option Addr} {a : Au} {v : Value} {us : List Value} (h : AuQ W base A n c a) (hv : W.ownsRow e0 TInt 1 v m us) (hb : base ≤ e0) (g : W.grownBy W' v.ownBlock) : AuQ W' base A n c a := by
  obtain ⟨rows, h1, h2⟩ := h
  refine ⟨rows, h1.kept g (own_ne h1 hv (by decide)), h2.len, h2.n, fun i es he => ?_, h2.ne⟩
  obtain ⟨r, hr, A', c', us', rfl, ow, hk⟩ := h2.row i es he
  exact ⟨_, hr, A', c', us', rfl, ow.kept g (own_ne ow hv (by decide)), hk.mono fun f x _ hx => ⟨hx.1, hx.2, hx.3.1.grow hv hb g, hx.3.2⟩⟩
theorem MkE.grow {w0 w w' : World} {base pm e0 : Nat} {acc : Int} {tA EA : Option Addr} {nt ct ec : Nat} {t : List Rx} {A : Option Addr} {n c : Nat} {a : Au} {b1 m : Nat} {v : Value} {us : List Value} (h : MkE w0 w base pm e0 acc tA EA nt ct ec t A n c a) (hv : w.ownsRow b1 TInt 1 v m us) (hb : base ≤ b1) (hbs : w0.heap.size ≤ base)
    (hne : (Value.slice EA nt ec).ownBlock = none ∨ (Value.slice EA nt ec).ownBlock ≠ v.ownBlock) (g : w.grownBy w' v.ownBlock) : MkE w0 w' base pm e0 acc tA EA nt ct ec t A n c a :=
  ⟨⟨h.ma.b.grown g (own_blk_ne hv h.ma.b (by decide)), h.ma.au.grow hv hb g, h.ma.ge⟩, h.kp.trans' g.size (fun x o hx => World.cell?_of_block (a := ⟨x, o, none⟩) (g.block x (by have := h.ge; omega) fun e => by have := (hv.lt x e.symm).1; omega)), h.oe.kept g hne, Nat.le_trans h.ge g.size⟩

/-- The variables of leading, under way: the maker, the node, the ends. -/
structure PL (w0 W wr : World) (base pm e0 : Nat) (acc : Int) (tA EA : Option Addr) (nt ct ec : Nat) (t : List Rx) (A : Option Addr) (n c : Nat) (a : Au) (x : Array Value) (LA : Option Addr) (m lc : Nat) (l : List Nat) : Prop where
  me : MkE w0 wr base pm e0 acc tA EA nt ct ec t A n c a
  ch : Chg TB base W wr
  bx : Blk wr W.heap.size TRx x
  ow : wr.ownsRow (W.heap.size + 1) TInt 1 (.slice LA m lc) m (l.map fun (z : Nat) => Value.int .i64 (z : Int))
section
variable {w0 W wr w' : World} {base pm e0 : Nat} {acc : Int} {tA EA : Option Addr} {nt ct ec : Nat} {t : List Rx} {A : Option Addr} {n c : Nat} {a : Au} {x : Array Value} {LA : Option Addr} {m lc : Nat} {l : List Nat}
theorem PL.below (h : PL w0 W wr base pm e0 acc tA EA nt ct ec t A n c a x LA m lc l) (hb : Below wr.heap.size wr w') : PL w0 W w' base pm e0 acc tA EA nt ct ec t A n c a x LA m lc l := ⟨h.me.next hb, h.ch.then hb, h.bx.below hb h.bx.lt, ownsRow_below h.ow hb⟩
/-- behind a callee -/
theorem PL.call {A' : Option Addr} {n' c' : Nat} {a' : Au} (h : PL w0 W wr base pm e0 acc tA EA nt ct ec t A n c a x LA m lc l) (mk : MkE w0 w' base pm e0 acc tA EA nt ct ec t A' n' c' a') (hc : Chg TB base wr w') : PL w0 W w' base pm e0 acc tA EA nt ct ec t A' n' c' a' x LA m lc l := ⟨mk, h.ch.trans hc, hc.blk h.bx TB_rx, ownsRow_chg h.ow hc TB_int⟩
/-- one end more -/
theorem PL.push {LA' : Option Addr} {lc' z : Nat} (h : PL w0 W wr base pm e0 acc tA EA nt ct ec t A n c a x LA m lc l) (hb : base ≤ W.heap.size) (hbs : w0.heap.size ≤ base) (far : ∀ g, (Value.slice EA nt ec).ownBlock = some g → g < W.heap.size) (g : wr.grownBy w' (Value.slice LA m lc).ownBlock)
    (own : w'.ownsRow (W.heap.size + 1) TInt 1 (.slice LA' (m + 1) lc') (m + 1) ((l.map fun (z : Nat) => Value.int .i64 (z : Int)) ++ [.int .i64 (z : Int)])) : PL w0 W w' base pm e0 acc tA EA nt ct ec t A n c a x LA' (m + 1) lc' (l ++ [z]) :=
  ⟨h.me.grow h.ow (Nat.le_trans hb (Nat.le_succ _)) hbs (by
      cases hq : (Value.slice EA nt ec).ownBlock with
      | none => exact .inl rfl
      | some q => exact .inr fun e => by have h1 := far q hq; have h2 := (h.ow.lt q e.symm).1; omega) g,
    h.ch.grow g (fun k hk => Nat.le_trans (Nat.le_succ _) (h.ow.lt k hk).1), h.bx.grown g (own_blk_ne h.ow h.bx (by decide)), by simpa using own⟩
theorem PL.start (h : MkE w0 W base pm e0 acc tA EA nt ct ec t A n c a) (x : Array Value) : PL w0 W (W.alloc (.cells x TRx)) base pm e0 acc tA EA nt ct ec t A n c a x none 0 0 [] :=
  have hb : Below W.heap.size W (W.alloc (.cells x TRx)) := (Below.refl _ _).alloc (Nat.le_refl _) _
  ⟨h.next hb, Chg.of_below hb, Blk.new W TRx x, World.ownsRow_nil _ _ _ _⟩
end

set_option maxHeartbeats 2000000 in
set_option maxRecDepth 100000 in
theorem maker_lead_walk (w0 W : World) (base pm e0 : Nat) (acc : Int) (tA EA : Option Addr) (nt ct ec : Nat) (t : List Rx) (A : Option Addr) (n c : Nat) (a : Au) (s i : Nat) (cat : Bool) (l : List Rng) (many least most : Int) (ks : List Tr)
    (ht : AtRx w0 tA t) (hbs : w0.heap.size ≤ base) (HT : Hid (t.length = nt)) (hnt : nt ≤ 64) (HX : Hid (t[i]? = some ⟨if cat then 2 else 3, l, many, least, most⟩)) (h : MkE w0 W base pm e0 acc tA EA nt ct ec t A n c a) (_hs : s < n)
    (HN : Hid (n + statesL ks + (if cat then 0 else 1) ≤ 256))
    (HZ : Hid ((endsL t)[i]? = some ((i + 1 + sizes ks : Nat) : Int)))
    (HEND : Hid (∀ (j : Nat) (k : Tr), ks[j]? = some k → (endsL t)[i + 1 + sizes (ks.take j)]? = some ((i + 1 + sizes (ks.take (j + 1)) : Nat) : Int) ∧ i + 1 + sizes (ks.take j) < nt))
    (HG : Hid (∀ j, WG a (statesL (ks.take j)) (ks.take j).length (walkG cat (ks.take j) a s)))
    (HIH : Hid (∀ j k, ks[j]? = some k → PLead w0 base pm e0 acc tA EA nt ct ec t k (i + 1 + sizes (ks.take j)))) (_hzs : i + 1 + sizes ks ≤ 64) (hk64 : ks.length ≤ 64) (he : edgesN a ≤ 65 * n) :
    Calls Tryz.prog 42 #[.pointer (some ⟨pm, 0, none⟩), .int .i64 i, .int .i64 s] W (MkLead w0 W base pm e0 acc tA EA nt ct ec t (leadT (.mk ⟨if cat then 2 else 3, l, many, least, most⟩ ks) a s)) := by
  obtain ⟨i0, hi0, hz0, hs0, hb0⟩ := info_parts info_int
  have hin : i < nt := by have := lt_of_get HX.out; rwa [HT.out] at this
  have hn1 : n + statesL ks ≤ 256 := by have := HN.out; omega
  obtain ⟨b, off, kd, B, cs, m, l', many', least', most', rfl, H5, hset, HM, hmc, hkd, hma, hle, hmo, HX'⟩ := ht.g5 HT hin
  obtain ⟨hkk, rfl, rfl, rfl, rfl⟩ := Rx.mk.inj (Option.some.inj (HX'.out.symm.trans HX.out))
  obtain ⟨y0, y1, y2, y3, y4, y5⟩ := H5.next h.kp
  obtain ⟨hpm, q2, q3⟩ := h.cells
  have F0 := Lib.hid (PL.start h #[.int .u8 kd, .slice B m cs, .int .i64 many', .int .i64 least', .int .i64 most'])
  have FAR := Lib.hid (fun g hg => (h.oe.lt g hg).2)
  have HNL := Lib.hid h.len
  have HGE := Lib.hid h.ge
  have HKK := Lib.hid hkk
  have t0 : (kd == 0) = false := by rw [hkk]; cases cat <;> rfl
  have t1 : (kd == 1) = false := by rw [hkk]; cases cat <;> rfl
  have t4 : (kd == 4) = false := by rw [hkk]; cases cat <;> rfl
  obtain ⟨R, hR⟩ : ∃ R, leadT (.mk ⟨if cat then 2 else 3, l', many', least', most'⟩ ks) a s = R := ⟨_, rfl⟩
  rw [hR]
  have HRES := Lib.hid (show R = if cat then ((walkG cat ks a s).1, (walkG cat ks a s).2.1) else (auJoin (walkG cat ks a s).1 (walkG cat ks a s).2.2, (walkG cat ks a s).1.length) from by
    rw [← hR]
    cases cat with
    | true => rw [leadT, if_neg (by simp), if_neg (by simp), if_pos (by simp)]; simp only [if_true]; obtain ⟨h1, h2⟩ := walkG_cat ks a s; exact Prod.ext h1.symm h2.symm
    | false => rw [leadT, if_neg (by simp), if_neg (by simp), if_neg (by simp), if_pos (by simp)]; rw [walkG_alt]; rfl)
  have HST := Lib.hid (statesL_take ks)
  have HE := Lib.hid he
  have HZE : Hid (∀ z, (endsL t)[i]? = some z → z = ((i + 1 + sizes ks : Nat) : Int)) := Lib.hid (fun z h => Option.some.inj (h.symm.trans HZ.out))
  clear h H5 ht hset HX' hkk he hR
  go_enter Tryz.func42, Tryz.ntmps42
  go_wp2
  go_loopw [2, 8, 9] (fun sv lv kv wr => ∃ (j : Nat) (A' : Option Addr) (c' : Nat) (LA : Option Addr) (lc : Nat), j ≤ ks.length ∧ kv = .int .i64 ((i + 1 + sizes (ks.take j) : Nat) : Int) ∧ sv = .int .i64 (walkG cat (ks.take j) a s).2.1 ∧ lv = .slice LA j lc ∧ PL w0 W wr base pm e0 acc (some ⟨b, off, none⟩) EA nt ct ec t A' (walkG cat (ks.take j) a s).1.length c' (walkG cat (ks.take j) a s).1 #[.int .u8 kd, .slice B m cs, .int .i64 many', .int .i64 least', .int .i64 most'] LA j lc (walkG cat (ks.take j) a s).2.2) (fun _ _ kv _ => (i + 1 + sizes ks) - (intOf kv).toNat)
  case atStart => exact ⟨0, A, c, none, 0, by omega, by simp [sizes, flats], by simp [walkG], rfl, by simp only [List.take_zero, walkG]; rw [← HNL.out]; exact F0.out⟩
  case round =>
    clear y0 y1 y2 y3 y4 y5 q2 q3
    obtain ⟨j, A', c', LA, lc, hj, rfl, rfl, rfl, hpl⟩ := hrel
    have PP := Lib.hid hpl
    clear hpl
    obtain ⟨hpm', p2, p3⟩ := PP.out.me.cells
    obtain ⟨x0, x1, x2, x3, x4⟩ := Blk.five PP.out.bx
    obtain ⟨eg, eE, egl, egc⟩ := own_int PP.out.me.oe HZ.out
    subst eE
    obtain ⟨ze, hze⟩ : ∃ ze, i + 1 + sizes ks = ze := ⟨_, rfl⟩
    rw [hze] at egc
    have GJ := Lib.hid (HG.out j)
    obtain ⟨rj, hrj⟩ : ∃ rj, walkG cat (ks.take j) a s = rj := ⟨_, rfl⟩
    rw [hrj] at PP GJ
    rw [hrj]
    by_cases hlt : j < ks.length
    · have hkk : ks[j]? = some (ks[j]) := List.getElem?_eq_getElem hlt
      have hps := sizes_take_lt hlt
      generalize ks[j] = k0 at hkk
      obtain ⟨hen1, hen2⟩ := HEND.out j k0 hkk
      have hst : sizes (ks.take j) < sizes (ks.take (j + 1)) := by
        rw [take_snoc hkk]
        show _ < (flats (ks.take j ++ [k0])).length
        rw [flats_app, List.length_append]
        have := k0.size_pos
        simp only [flats, List.append_nil, sizes]
        simp only [Tr.size] at this
        omega
      have hst2 := sizes_take_le (ks := ks) (j + 1)
      have hsl : statesL (ks.take j) + statesT k0 ≤ statesL ks := by
        have h1 := HST.out (j + 1)
        rw [take_snoc hkk] at h1
        have h2 : ∀ l : List Tr, statesL (l ++ [k0]) = statesL l + statesT k0 := fun l => by
          induction l with
          | nil => simp [statesL]
          | cons y l ih => simp only [List.cons_append, statesL]; rw [ih]; omega
        rw [h2] at h1
        exact h1
      have HC := Lib.hid (HIH.out j k0 hkk wr A' rj.1.length c' rj.1 rj.2.1 PP.out.me GJ.out.lt (by have := GJ.out.len; have := HNL.out; omega) (GJ.out.el.few HNL.out HE.out))
      have HSN := Lib.hid (show walkG cat (ks.take (j + 1)) a s = ((leadT k0 rj.1 rj.2.1).1, (if cat then (leadT k0 rj.1 rj.2.1).2 else rj.2.1), rj.2.2 ++ [(leadT k0 rj.1 rj.2.1).2]) by rw [take_snoc hkk, walkG_snoc, hrj])
      obtain ⟨eg2, eE2, _, egc2⟩ := own_int PP.out.me.oe hen1
      have HEN1 := Lib.hid hen1
      have HKT := Lib.hid hrj
      generalize hp : i + 1 + sizes (ks.take j) = p at *
      have HP := Lib.hid hp
      have hpz : p < ze := by omega
      have HZE2 := Lib.hid hze
      clear hkk hen1 hp hze hrj eE2 egc2
      have T2 := Lib.hid (show ((kd == 2) = true ∧ cat = true) ∨ ((kd == 2) = false ∧ cat = false) by rw [HKK.out]; cases cat <;> simp)
      have hjl : j ≤ 64 := by omega
      go_wp2_with fail
      refine HC.out.mono ?_
      rintro e w1 ⟨A1, c1, rfl, mk1, ch1⟩
      have P1 := Lib.hid (PP.out.call mk1 ch1)
      obtain ⟨rk, hrk⟩ : ∃ rk, leadT k0 rj.1 rj.2.1 = rk := ⟨_, rfl⟩
      rw [hrk] at P1 HSN
      rw [hrk]
      have hal : Below w1.heap.size w1 (w1.alloc (.cells #[.int .i64 rk.2] TInt)) := (Below.refl _ _).alloc (Nat.le_refl _) _
      have PA := Lib.hid (P1.out.below hal)
      have SRC := Lib.hid (Pv.Src.one (w := w1) (x := .int .i64 rk.2) (t := TInt) rfl)
      have Q1 : Hid (j + 1 ≤ maxLen) := Lib.hid (by simp only [maxLen]; omega)
      have Q2 : Hid ((j + 1) * 8 ≤ 140737488355328) := Lib.hid (by omega)
      have Q3 : Hid (W.heap.size + 1 ≤ (w1.alloc (.cells #[.int .i64 rk.2] TInt)).heap.size) := Lib.hid (by have := P1.out.bx.lt; simp; omega)
      clear mk1 ch1 hal hrk x0 x1 x2 x3 x4 p2 p3 egc
      rcases T2.out with ⟨t2, hc⟩ | ⟨t2, hc⟩
      all_goals
        have HC2 := Lib.hid hc
        clear hc
        go_wp2_with (at_builtin
                     go_must (refine wpList_append_src _ rfl (.tmp 66) (.tmp 68) 22 rfl (W.heap.size + 1) TInt i0 (.int .i64 0) 1 8 Tryz.underlying22 hi0 hz0 hs0 hb0 rfl (by decide) LA lc j _ rfl PA.out.ow _ 1 1 _ rfl SRC.out Q1.out Q2.out Q3.out ?_)
                     intro A8 lc8 w8 own8 gr8 _
                     have P8 := Lib.hid (PA.out.push HGE.out hbs FAR.out gr8 own8)
                     obtain ⟨_, p2, p3⟩ := P8.out.me.cells
                     obtain ⟨x0, x1, x2, x3, x4⟩ := Blk.five P8.out.bx
                     obtain ⟨eg2, eE2, _, egc2⟩ := own_int P8.out.me.oe HEN1.out
                     simp only [Option.some.injEq, Addr.mk.injEq, and_true] at eE2
                     subst eE2
                     clear gr8 own8)
        go_roundw
        case rel => exact ⟨j + 1, A1, c1, A8, lc8, by omega, rfl, by rw [HSN.out]; simp [HC2.out], by go_num, by rw [HSN.out]; exact P8.out⟩
        case measure => have := HZE2.out; have h2 := HP.out; simp [intOf]; omega
    · have hjl : j = ks.length := by omega
      subst hjl
      have htk : ks.take ks.length = ks := List.take_of_length_le (by omega)
      rw [htk] at hrj
      rw [htk]
      rw [htk] at GJ
      have hdz : ¬ ((i + 1 + sizes ks : Nat) : Int) < (ze : Int) := by omega
      have T2 := Lib.hid (show ((kd == 2) = true ∧ cat = true) ∨ ((kd == 2) = false ∧ cat = false) by rw [HKK.out]; cases cat <;> simp)
      rw [hrj] at HRES
      rw [hze]
      have HLEN := Lib.hid GJ.out.len
      rw [← HNL.out] at HLEN
      have hlen : rj.1.length ≤ 256 := by have := HLEN.out; omega
      have hel := GJ.out.el.few HNL.out HE.out
      clear htk hrj
      rcases T2.out with ⟨t2, hc⟩ | ⟨t2, hc⟩
      · rw [hc] at HRES
        clear hc
        go_wp2
        go_ret
        rw [HRES.out]
        exact ⟨A', c', rfl, PP.out.me, PP.out.ch⟩
      · have HN2 := HN.out
        rw [hc] at HRES HN2
        have HJ := Lib.hid (maker_join A' rj.1.length c' base pm acc _ _ rj.1 LA ks.length lc (W.heap.size + 1) rj.2.2 wr PP.out.me.ma PP.out.me.ge (by simp at HN2; omega) (by omega) PP.out.ow GJ.out.all (by have := GJ.out.ne; omega))
        clear hc HN2
        go_wp2_with fail
        refine HJ.out.mono ?_
        rintro e w2 ⟨A2, c2, rfl, mk2, ch2⟩
        have P2 := Lib.hid (PP.out.call (PP.out.me.step hbs mk2 ch2) ch2)
        clear mk2 ch2
        go_wp2
        go_ret
        rw [HRES.out]
        exact ⟨A2, c2, rfl, by simp only [Bool.false_eq_true, if_false, auJoin_length]; exact P2.out.me, P2.out.ch⟩

end Go.Proofs.YtilhicefhhgecaaGreatDoor

namespace Go.Proofs.YtilhicefhhgecaaGreatDoor
open Go.RowKit Pv

set_option maxHeartbeats 4000000 in
set_option maxRecDepth 100000 in
theorem maker_repeat (w0 W : World) (base pm e0 : Nat) (acc : Int) (tA EA : Option Addr) (nt ct ec : Nat) (t : List Rx) (A : Option Addr) (n c : Nat) (a : Au) (s i k : Nat) (most : Int) (l : List Rng) (B : Option Addr) (mm cs : Nat) (K : Tr)
    (hbs : w0.heap.size ≤ base) (h : MkE w0 W base pm e0 acc tA EA nt ct ec t A n c a) (hs : s < n) (hk : k ≤ 16) (hm : most = -1 ∨ ((k : Int) ≤ most ∧ most ≤ 16))
    (hn : n + (statesT K * timesOf ⟨4, l, 1, k, most⟩ + 1) ≤ 256) (hi : i + 1 ≤ 64) (HI : Hid (∀ q a' s', s' < a'.length → a'.length + statesT K * q ≤ 256 → (iter (leadT K) q a' s').1.length = a'.length + statesT K * q ∧ (iter (leadT K) q a' s').2 < (iter (leadT K) q a' s').1.length ∧ EL a' (iter (leadT K) q a' s').1))
    (HIH : Hid (PLead w0 base pm e0 acc tA EA nt ct ec t K (i + 1))) (he : edgesN a ≤ 65 * n) :
    Calls Tryz.prog 82 #[.pointer (some ⟨pm, 0, none⟩), .int .i64 i, .int .i64 s, .agg #[.int .u8 4, .slice B mm cs, .int .i64 1, .int .i64 k, .int .i64 most]] W (MkLead w0 W base pm e0 acc tA EA nt ct ec t (leadT (.mk ⟨4, l, 1, k, most⟩ [K]) a s)) := by
  obtain ⟨i0, hi0, hz0, hs0, hb0⟩ := info_parts info_int
  have F0 := Lib.hid (PL.start h #[.int .u8 4, .slice B mm cs, .int .i64 1, .int .i64 k, .int .i64 most])
  have FAR := Lib.hid (fun g hg => (h.oe.lt g hg).2)
  have HNL := Lib.hid h.len
  have HGE := Lib.hid h.ge
  have hleft : n + statesT K * k ≤ 256 := by
    have h1 : statesT K * k ≤ statesT K * timesOf ⟨4, l, 1, k, most⟩ := Nat.mul_le_mul_left _ (by unfold timesOf; simp only [Int.toNat_natCast]; split <;> omega)
    omega
  have HLEFT := Lib.hid (fun q (hq : q ≤ k) => (show n + statesT K * q ≤ 256 by have := Nat.mul_le_mul_left (statesT K) hq; omega))
  have HE := Lib.hid he
  have hF : leadHd [K] = leadT K := by funext a s; rw [leadHd]
  have HRS := Lib.hid (fun (h : most < 0) => (show leadT (.mk ⟨4, l, 1, k, most⟩ [K]) a s = starOf (leadT K) (iter (leadT K) k a s) by rw [leadT, if_neg (by simp), if_neg (by simp), if_neg (by simp), if_neg (by simp), if_pos h, hF]; simp))
  have HRJ := Lib.hid (fun (h : ¬ most < 0) => (show leadT (.mk ⟨4, l, 1, k, most⟩ [K]) a s = joinOf (iters (leadT K) (most - k).toNat (iter (leadT K) k a s).1 (iter (leadT K) k a s).2) by rw [leadT, if_neg (by simp), if_neg (by simp), if_neg (by simp), if_neg (by simp), if_neg h, hF]; simp))
  obtain ⟨x0, x1, x2, x3, x4⟩ := Blk.five F0.out.bx
  clear h he hF
  go_enter Tryz.func82, Tryz.ntmps82
  go_wp2
  go_loopw [2, 12] (fun sv kv wr => ∃ (q : Nat) (A' : Option Addr) (c' : Nat), q ≤ k ∧ kv = .int .i64 q ∧ sv = .int .i64 (iter (leadT K) q a s).2 ∧ PL w0 W wr base pm e0 acc tA EA nt ct ec t A' (iter (leadT K) q a s).1.length c' (iter (leadT K) q a s).1 #[.int .u8 4, .slice B mm cs, .int .i64 1, .int .i64 k, .int .i64 most] none 0 0 []) (fun _ kv _ => k - (intOf kv).toNat)
  case atStart => exact ⟨0, A, c, by omega, rfl, rfl, by simp only [iter]; rw [← HNL.out]; exact F0.out⟩
  case round =>
    clear x0 x1 x2 x3 x4
    obtain ⟨q, A', c', hq, rfl, rfl, hpl⟩ := hrel
    have PP := Lib.hid hpl
    clear hpl
    obtain ⟨x0, x1, x2, x3, x4⟩ := Blk.five PP.out.bx
    obtain ⟨g1, g2, g3⟩ := HI.out q a s (by rw [← HNL.out]; exact hs) (by rw [← HNL.out]; exact HLEFT.out q hq)
    by_cases hlt : q < k
    · have hq1 := HLEFT.out (q + 1) (by omega)
      rw [Nat.mul_add] at hq1
      have HC := Lib.hid (HIH.out wr A' _ c' _ (iter (leadT K) q a s).2 PP.out.me g2 (by rw [g1, ← HNL.out]; omega) (g3.few HNL.out HE.out))
      have HS := Lib.hid (iter_snoc (leadT K) q a s)
      clear g1 g2 g3
      go_wp2_with fail
      refine HC.out.mono ?_
      rintro e w1 ⟨A1, c1, rfl, mk1, ch1⟩
      have P1 := Lib.hid (PP.out.call mk1 ch1)
      clear mk1 ch1
      go_wp2
      go_roundw
      case rel => exact ⟨q + 1, A1, c1, by omega, by go_num, by rw [HS.out], by rw [HS.out]; exact P1.out⟩
      case measure => simp [intOf]; omega
    have hqk : q = k := by omega
    subst hqk
    obtain ⟨r1, hr1⟩ : ∃ r1, iter (leadT K) q a s = r1 := ⟨_, rfl⟩
    rw [hr1] at PP HRS HRJ g1 g2 g3
    rw [hr1]
    have G1 := Lib.hid g1; have G3 := Lib.hid (g3.few HNL.out HE.out)
    have hb1 : base ≤ wr.heap.size := PP.out.me.ge
    have hsz : W.heap.size + 1 ≤ wr.heap.size := PP.out.bx.lt
    rw [← HNL.out] at g1
    have hl1 : r1.1.length ≤ 256 := by omega
    have GL := Lib.hid g1
    clear hr1 HLEFT g3 g1
    by_cases hms : most < 0
    · have hn2 : r1.1.length + 1 + statesT K ≤ 256 := by
        have : timesOf ⟨4, l, 1, q, most⟩ = q + 1 := by unfold timesOf; simp [hms]
        rw [this, Nat.mul_add] at hn; have := GL.out; omega
      have hWa : Below wr.heap.size wr (wr.alloc (.cells #[.int .i64 r1.2] TInt)) := (Below.refl _ _).alloc (Nat.le_refl _) _
      have PA := Lib.hid (PP.out.below hWa)
      have HJ := Lib.hid (maker_join A' r1.1.length c' base pm acc _ _ r1.1 (some ⟨wr.heap.size, 0, none⟩) 1 1 base [r1.2] _ PA.out.me.ma PA.out.me.ge (by omega) (by have := G3.out; omega) (own_one wr base (.int .i64 r1.2) hb1) (by simpa using g2) (by simp))
      have HRS2 := Lib.hid (HRS.out hms)
      clear hWa HRJ HRS
      go_wp2_with fail
      refine HJ.out.mono ?_
      rintro e w2 ⟨A2, c2, rfl, mk2, ch2⟩
      have P2 := Lib.hid (PA.out.call (PA.out.me.step hbs mk2 ch2) ch2)
      have HED := Lib.hid (show edgesN (auJoin r1.1 [r1.2]) ≤ 65 * (r1.1.length + 1) by
        unfold auJoin
        rw [frees_edges _ _ _ (by intro e he; simp at he ⊢; omega), edgesN_state]
        have := G3.out; simp; omega)
      have HC := Lib.hid (HIH.out w2 A2 _ c2 _ r1.1.length P2.out.me (by omega) (by omega) HED.out)
      have HLT := Lib.hid (leadT_leads K (auJoin r1.1 [r1.2]) r1.1.length (by rw [auJoin_length]; omega))
      clear mk2 ch2 x0 x1 x2 x3 x4
      go_wp2_with fail
      refine HC.out.mono ?_
      rintro e w3 ⟨A3, c3, rfl, mk3, ch3⟩
      have P3 := Lib.hid (P2.out.call mk3 ch3)
      have HEL := Lib.hid (HI.out 1 (auJoin r1.1 [r1.2]) r1.1.length (by rw [auJoin_length]; omega) (by rw [auJoin_length]; omega)).2.2
      rw [show (iter (leadT K) 1 (auJoin r1.1 [r1.2]) r1.1.length).1 = (leadT K (auJoin r1.1 [r1.2]) r1.1.length).1 from rfl] at HEL
      have HR := Lib.hid HRS2.out
      rw [starOf] at HR
      obtain ⟨r3, hr3⟩ : ∃ r3, leadT K (auJoin r1.1 [r1.2]) r1.1.length = r3 := ⟨_, rfl⟩
      rw [hr3] at HR P3 HEL HLT
      rw [hr3]
      have h3l : r3.1.length ≤ 256 := by have := HLT.out.1; rw [auJoin_length] at this; omega
      have h3s : r3.2 < r3.1.length := HLT.out.2
      have h3e : edgesN r3.1 ≤ 1000000 := by have h1 := HEL.out.e; have h2 := HED.out; have h4 : (auJoin r1.1 [r1.2]).length = r1.1.length + 1 := auJoin_length _ _; omega
      have HE3 := Lib.hid (maker_edge A3 r3.1.length c3 base pm r3.2 acc _ _ r3.1 ⟨(r1.1.length : Nat), true, []⟩ none 0 0 w3 P3.out.me.ma P3.out.me.ge h3s (by simp only; omega) h3e (SetQ.nil _ _))
      clear mk3 ch3 hr3
      go_wp2_with fail
      refine HE3.out.mono ?_
      rintro e w4 ⟨rfl, mk4, ch4⟩
      have P4 := Lib.hid (P3.out.call (P3.out.me.step hbs mk4 ch4) ch4)
      clear mk4 ch4
      go_wp2
      go_ret
      rw [HR.out]
      exact ⟨A3, c3, rfl, by simp only [auEdge_length]; exact P4.out.me, P4.out.ch⟩
    · obtain ⟨p, hp⟩ := Int.eq_ofNat_of_zero_le (show 0 ≤ most - (q : Int) by omega)
      have hp16 : p ≤ 16 := by omega
      have hmo : 0 ≤ most ∧ most ≤ 16 := by omega
      have HP := Lib.hid hp
      have hsum : r1.1.length + statesT K * p + 1 ≤ 256 := by
        have : timesOf ⟨4, l, 1, q, most⟩ = q + p := by unfold timesOf; simp [hms, hp]
        rw [this, Nat.mul_add] at hn; have := GL.out; omega
      have HLEFT := Lib.hid (fun j (hj : j ≤ p) => (show r1.1.length + statesT K * j + 1 ≤ 256 by have := Nat.mul_le_mul_left (statesT K) hj; omega))
      have HRJ2 := Lib.hid (HRJ.out (by omega))
      rw [hp] at HRJ2
      have HIS := Lib.hid ((leadT_leads K).iters p r1.1 r1.2 g2)
      have HG1 := Lib.hid (fun j (hj : j ≤ p) => HI.out j r1.1 r1.2 g2 (by have := HLEFT.out j hj; omega))
      have hWa : Below wr.heap.size wr (wr.alloc (.cells #[.int .i64 r1.2] TInt)) := (Below.refl _ _).alloc (Nat.le_refl _) _
      have PA := Lib.hid (PP.out.below hWa)
      have P0 : Hid (PL w0 W (wr.alloc (.cells #[.int .i64 r1.2] TInt)) base pm e0 acc tA EA nt ct ec t A' r1.1.length c' r1.1 #[.int .u8 4, .slice B mm cs, .int .i64 1, .int .i64 q, .int .i64 most] (some ⟨wr.heap.size, 0, none⟩) 1 1 [r1.2]) := Lib.hid ⟨PA.out.me, PA.out.ch, PA.out.bx, own_one wr (W.heap.size + 1) (.int .i64 r1.2) hsz⟩
      obtain ⟨x0', x1', x2', x3', x4'⟩ := Blk.five P0.out.bx
      clear hWa HRS HRJ hn hp hsum hm
      go_wp2
      go_loopw [2, 9, 43] (fun sv lv jv wr => ∃ (j : Nat) (A' : Option Addr) (c' : Nat) (LA : Option Addr) (lc : Nat), j ≤ p ∧ jv = .int .i64 j ∧ sv = .int .i64 (iter (leadT K) j r1.1 r1.2).2 ∧ lv = .slice LA (j + 1) lc ∧ PL w0 W wr base pm e0 acc tA EA nt ct ec t A' (iter (leadT K) j r1.1 r1.2).1.length c' (iter (leadT K) j r1.1 r1.2).1 #[.int .u8 4, .slice B mm cs, .int .i64 1, .int .i64 q, .int .i64 most] LA (j + 1) lc (iters (leadT K) j r1.1 r1.2).2) (fun _ _ jv _ => p - (intOf jv).toNat)
      case atStart => exact ⟨0, A', c', some ⟨wr.heap.size, 0, none⟩, 1, by omega, rfl, rfl, rfl, P0.out⟩
      case round =>
        clear x0' x1' x2' x3' x4' x0 x1 x2 x3 x4
        obtain ⟨j, A5, c5, LA, lc, hj, rfl, rfl, rfl, hpl⟩ := hrel
        have P5 := Lib.hid hpl
        clear hpl
        have GJ := Lib.hid (HG1.out j hj)
        obtain ⟨rj, hrj⟩ : ∃ rj, iter (leadT K) j r1.1 r1.2 = rj := ⟨_, rfl⟩
        obtain ⟨lj, hlj⟩ : ∃ lj, (iters (leadT K) j r1.1 r1.2).2 = lj := ⟨_, rfl⟩
        have hel : edgesN rj.1 ≤ 65 * rj.1.length := by have h1 := GJ.out.2.2; rw [hrj] at h1; exact h1.few rfl G3.out
        by_cases hlt : j < p
        · have hd : (j : Int) < most - (q : Int) := by have := HP.out; omega
          have HS1 := Lib.hid (iter_snoc (leadT K) j r1.1 r1.2)
          have HS2 := Lib.hid (congrArg Prod.snd (iters_snoc (leadT K) j r1.1 r1.2))
          simp only at HS2
          rw [hrj] at P5 GJ HS1 HS2
          rw [hlj] at P5 HS2
          rw [hrj]
          have hq1 := HLEFT.out (j + 1) (by omega)
          rw [Nat.mul_add] at hq1
          have HC := Lib.hid (HIH.out wr A5 rj.1.length c5 rj.1 rj.2 P5.out.me GJ.out.2.1 (by have := GJ.out.1; omega) hel)
          clear hrj hlj hq1
          go_wp2_with fail
          refine HC.out.mono ?_
          rintro e w1 ⟨A1, c1, rfl, mk1, ch1⟩
          have P1 := Lib.hid (P5.out.call mk1 ch1)
          obtain ⟨rk, hrk⟩ : ∃ rk, leadT K rj.1 rj.2 = rk := ⟨_, rfl⟩
          rw [hrk] at P1 HS1 HS2
          rw [hrk]
          have hal : Below w1.heap.size w1 (w1.alloc (.cells #[.int .i64 rk.2] TInt)) := (Below.refl _ _).alloc (Nat.le_refl _) _
          have PB := Lib.hid (P1.out.below hal)
          have SRC := Lib.hid (Pv.Src.one (w := w1) (x := .int .i64 rk.2) (t := TInt) rfl)
          have Q1 : Hid (j + 1 + 1 ≤ maxLen) := Lib.hid (by simp only [maxLen]; omega)
          have Q2 : Hid ((j + 1 + 1) * 8 ≤ 140737488355328) := Lib.hid (by omega)
          have Q3 : Hid (W.heap.size + 1 ≤ (w1.alloc (.cells #[.int .i64 rk.2] TInt)).heap.size) := Lib.hid (by have := P1.out.bx.lt; simp; omega)
          clear mk1 ch1 hal hrk
          go_wp2_with (at_builtin
                       go_must (refine wpList_append_src _ rfl (.tmp 50) (.tmp 52) 22 rfl (W.heap.size + 1) TInt i0 (.int .i64 0) 1 8 Tryz.underlying22 hi0 hz0 hs0 hb0 rfl (by decide) LA lc (j + 1) _ rfl PB.out.ow _ 1 1 _ rfl SRC.out Q1.out Q2.out Q3.out ?_)
                       intro A8 lc8 w8 own8 gr8 _
                       have P8 := Lib.hid (PB.out.push HGE.out hbs FAR.out gr8 own8)
                       clear gr8 own8)
          go_roundw
          case rel => exact ⟨j + 1, A1, c1, A8, lc8, by omega, by go_num, by rw [HS1.out], rfl, by rw [HS1.out, HS2.out]; exact P8.out⟩
          case measure => simp [intOf]; omega
        · have hjp : j = p := by omega
          subst hjp
          have hd : ¬ (j : Int) < most - (q : Int) := by have := HP.out; omega
          have HFS := Lib.hid (iters_fst (leadT K) j r1.1 r1.2)
          rw [hrj] at P5 GJ HFS
          rw [hlj] at P5
          rw [Int.toNat_natCast, joinOf, hlj] at HRJ2
          rw [HFS.out] at HRJ2
          rw [hlj, HFS.out] at HIS
          rw [hrj]
          have hjlen : rj.1.length ≤ 255 := by have h1 := GJ.out.1; have h2 := HLEFT.out j (Nat.le_refl _); omega
          have HLJ := Lib.hid (show lj.length = j + 1 by rw [← hlj, iters_len])
          have HJ := Lib.hid (maker_join A5 rj.1.length c5 base pm acc _ _ rj.1 LA (j + 1) lc (W.heap.size + 1) lj wr P5.out.me.ma P5.out.me.ge (by omega) (by omega) P5.out.ow HIS.out.2 (by have := HLJ.out; omega))
          clear hrj hlj
          go_wp2_with fail
          refine HJ.out.mono ?_
          rintro e w2 ⟨A2, c2, rfl, mk2, ch2⟩
          have P2 := Lib.hid (P5.out.call (P5.out.me.step hbs mk2 ch2) ch2)
          clear mk2 ch2
          go_wp2
          go_ret
          rw [HRJ2.out]
          exact ⟨A2, c2, rfl, by simp only [auJoin_length]; exact P2.out.me, P2.out.ch⟩

end Go.Proofs.YtilhicefhhgecaaGreatDoor

namespace Go.Proofs.YtilhicefhhgecaaGreatDoor
open Go.RowKit Pv

set_option maxHeartbeats 1000000 in
set_option maxRecDepth 100000 in
theorem maker_lead_rep (w0 W : World) (base pm e0 : Nat) (acc : Int) (tA EA : Option Addr) (nt ct ec : Nat) (t : List Rx) (A : Option Addr) (n c : Nat) (a : Au) (s i k : Nat) (l : List Rng) (most : Int) (K : Tr)
    (ht : AtRx w0 tA t) (hbs : w0.heap.size ≤ base) (HT : Hid (t.length = nt)) (HX : Hid (t[i]? = some ⟨4, l, 1, k, most⟩)) (h : MkE w0 W base pm e0 acc tA EA nt ct ec t A n c a) (hs : s < n) (hk : k ≤ 16) (hm : most = -1 ∨ ((k : Int) ≤ most ∧ most ≤ 16))
    (HN : Hid (n + (statesT K * timesOf ⟨4, l, 1, k, most⟩ + 1) ≤ 256)) (hi : i + 1 ≤ 64) (HI : Hid (∀ q a' s', s' < a'.length → a'.length + statesT K * q ≤ 256 → (iter (leadT K) q a' s').1.length = a'.length + statesT K * q ∧ (iter (leadT K) q a' s').2 < (iter (leadT K) q a' s').1.length ∧ EL a' (iter (leadT K) q a' s').1))
    (HIH : Hid (PLead w0 base pm e0 acc tA EA nt ct ec t K (i + 1))) (he : edgesN a ≤ 65 * n) :
    Calls Tryz.prog 42 #[.pointer (some ⟨pm, 0, none⟩), .int .i64 i, .int .i64 s] W (MkLead w0 W base pm e0 acc tA EA nt ct ec t (leadT (.mk ⟨4, l, 1, k, most⟩ [K]) a s)) := by
  have hin : i < nt := by have := lt_of_get HX.out; rwa [HT.out] at this
  obtain ⟨b, off, kd, B, cs, m, l', many', least', most', rfl, H5, hset, HM, hmc, hkd, hma, hle, hmo, HX'⟩ := ht.g5 HT hin
  obtain ⟨rfl, rfl, rfl, rfl, rfl⟩ := Rx.mk.inj (Option.some.inj (HX'.out.symm.trans HX.out))
  obtain ⟨y0, y1, y2, y3, y4, y5⟩ := H5.next h.kp
  obtain ⟨hpm, q2, q3⟩ := h.cells
  have hW1 : Below W.heap.size W (W.alloc (.cells #[.int .u8 4, .slice B m cs, .int .i64 1, .int .i64 k, .int .i64 most'] TRx)) := (Below.refl _ _).alloc (Nat.le_refl _) _
  have HJ := Lib.hid (maker_repeat w0 _ base pm e0 acc _ EA nt ct ec t A n c a s i k most' l' B m cs K hbs (h.next hW1) hs hk hm HN.out hi HI HIH he)
  have HW := Lib.hid hW1
  generalize leadT (.mk ⟨4, l', 1, k, most'⟩ [K]) a s = R at *
  clear h hW1 H5 ht hset HX' hm
  go_enter Tryz.func42, Tryz.ntmps42
  go_wp2_with fail
  refine HJ.out.mono ?_
  rintro e w1 ⟨A1, c1, rfl, mk1, ch1⟩
  have M1 := Lib.hid mk1
  have CH := Lib.hid ((Chg.of_below HW.out).trans ch1)
  clear mk1 ch1
  go_wp2
  go_ret
  exact ⟨A1, c1, rfl, M1.out, CH.out⟩

theorem maker_lead_all (w0 : World) (base pm e0 : Nat) (acc : Int) (tA EA : Option Addr) (nt ct ec : Nat) (t : List Rx) (hbs : w0.heap.size ≤ base) (ht : AtRx w0 tA t) (HT : Hid (t.length = nt)) (hnt : nt ≤ 64) :
    ∀ (d : Nat), d ≤ 16 → ∀ (T : Tr) (i : Nat) (r : List Rx), T.Ok d → T.size ≤ 64 → t.drop i = T.flat ++ r → PLead w0 base pm e0 acc tA EA nt ct ec t T i := by
  intro d
  induction d using Nat.strongRecOn with
  | _ d ih =>
  intro hd T i r hT hz hdr W A n c a s hmk hs hn he
  have hbT := tree_behind (hT.up hd) hdr
  obtain ⟨x, ks⟩ := T
  have hone := hT.one
  have hlen := hT.len
  have hkid : ∀ k, k ∈ ks → k.Ok (d - 1) := fun k hk => hT.kid hk
  simp only [Tr.flat, List.cons_append] at hdr
  obtain ⟨hx, hdr2⟩ := drop_head hdr
  have hil := lt_of_get hx
  have hin : i < nt := by rwa [HT.out] at hil
  rw [Tr.size_mk] at hz
  have hk64 : ks.length ≤ 63 := by have := length_sizes ks; omega
  have hk16 : ∀ k, k ∈ ks → k.Ok 16 := fun k hk => (hkid k hk).up (by omega)
  have hat := fun j hj => kids_at hdr2 hk16 j hj
  have hle := fun j => sizes_le hdr2 j (by omega)
  have hZ : (endsL t)[i]? = some ((i + 1 + sizes ks : Nat) : Int) := by
    simp only [endsL, HT.out, List.getElem?_map, List.getElem?_range hin, Option.map_some, hbT, bR_some, Tr.size_mk]
    congr 2; omega
  have hend : ∀ (j : Nat) (k : Tr), ks[j]? = some k → (endsL t)[i + 1 + sizes (ks.take j)]? = some ((i + 1 + sizes (ks.take (j + 1)) : Nat) : Int) ∧ i + 1 + sizes (ks.take j) < nt := fun j k hj => by
    have hjl := lt_of_get hj
    have h5 := (hat j (by omega)).2
    rw [drop_cons hj] at h5
    simp only [flats, List.append_assoc] at h5
    have h6 := tree_behind ((hkid k (mem_of_get hj)).up (show d - 1 ≤ 16 by omega)) h5
    have h7 := behind_lt h6
    rw [HT.out] at h7
    have h8 : sizes (ks.take (j + 1)) = sizes (ks.take j) + k.size := by
      rw [take_snoc hj]
      show (flats (ks.take j ++ [k])).length = _
      rw [flats_app, List.length_append]; simp [flats, sizes, Tr.size]
    refine ⟨?_, by omega⟩
    have h9 : i + 1 + sizes (ks.take j) < nt := by omega
    simp only [endsL, HT.out, List.getElem?_map, List.getElem?_range h9, Option.map_some, h6, bR_some, h8]
    congr 2; omega
  have hd1 : 1 < x.kind → 0 < d := fun hk => by
    cases d with
    | zero => obtain ⟨_, hm, _⟩ := hT; rcases hone with h | h | h | h <;> omega
    | succ d => omega
  have HIH : 1 < x.kind → ∀ j k, ks[j]? = some k → PLead w0 base pm e0 acc tA EA nt ct ec t k (i + 1 + sizes (ks.take j)) := fun hk j k hj => by
    have hjl := lt_of_get hj
    have h5 := (hat j (by omega)).2
    rw [drop_cons hj] at h5
    simp only [flats, List.append_assoc] at h5
    exact ih (d - 1) (by have := hd1 hk; omega) (by omega) k _ _ (hkid k (mem_of_get hj)) (by have := sizes_mem (mem_of_get hj); omega) h5
  have hsz : ∀ j, sizes (ks.take j) ≤ 64 := fun j => by have := sizes_take_le (ks := ks) j; omega
  have htk : ∀ j k, k ∈ ks.take j → k.Ok 16 := fun j k hk => hk16 k (List.mem_of_mem_take hk)
  have hnl := hmk.len
  obtain ⟨kind, set, many, least, most⟩ := x
  simp only at hone hlen hd1 HIH
  by_cases h0 : kind = 0
  · subst h0
    have h1 : statesT (.mk ⟨0, set, many, least, most⟩ ks) = 1 := by rw [statesT, if_pos rfl]
    exact maker_lead_empty w0 W base pm e0 acc tA EA nt ct ec t A n c a s i set many least most ks ht hbs HT (Lib.hid hx) hmk hs (by omega) he
  by_cases h1 : kind = 1
  · subst h1
    have h1 : statesT (.mk ⟨1, set, many, least, most⟩ ks) = 1 := by rw [statesT, if_neg (by simp), if_pos rfl]
    have hset : set.length ≤ 256 := by rcases hone with h | h | h | h <;> first | exact h.2.1.few | (simp only at h; omega)
    exact maker_lead_set w0 W base pm e0 acc tA EA nt ct ec t A n c a s i set many least most ks ht hbs HT (Lib.hid hx) hset hmk hs (by omega) he
  have hk2 : 1 < kind := by rcases hone with h | h | h | h <;> simp only at h <;> omega
  have hWG : ∀ cat j, n + statesL ks ≤ 256 → WG a (statesL (ks.take j)) (ks.take j).length (walkG cat (ks.take j) a s) := fun cat j hc => walkG_ok cat (htk j) (hsz j) (by omega) (by have := statesL_take ks j; omega)
  by_cases h2k : kind = 2
  · subst h2k
    have h1 : statesT (.mk ⟨2, set, many, least, most⟩ ks) = statesL ks := by rw [statesT, if_neg (by simp), if_neg (by simp), if_pos rfl]
    exact maker_lead_walk w0 W base pm e0 acc tA EA nt ct ec t A n c a s i true set many least most ks ht hbs HT hnt (Lib.hid hx) hmk hs (Lib.hid (by simp; omega)) (Lib.hid hZ) (Lib.hid hend) (Lib.hid fun j => hWG true j (by omega)) (Lib.hid (HIH hk2)) (by have := hle ks.length; rw [List.take_of_length_le (Nat.le_refl _)] at this; have := HT.out; omega) (by omega) he
  by_cases h3k : kind = 3
  · subst h3k
    have h1 : statesT (.mk ⟨3, set, many, least, most⟩ ks) = statesL ks + 1 := by rw [statesT, if_neg (by simp), if_neg (by simp), if_neg (by simp), if_pos rfl]
    exact maker_lead_walk w0 W base pm e0 acc tA EA nt ct ec t A n c a s i false set many least most ks ht hbs HT hnt (Lib.hid hx) hmk hs (Lib.hid (by simp; omega)) (Lib.hid hZ) (Lib.hid hend) (Lib.hid fun j => hWG false j (by omega)) (Lib.hid (HIH hk2)) (by have := hle ks.length; rw [List.take_of_length_le (Nat.le_refl _)] at this; have := HT.out; omega) (by omega) he
  have hr : kind = 4 ∧ set = [] ∧ many = 1 ∧ 0 ≤ least ∧ least ≤ 16 ∧ (most = -1 ∨ (least ≤ most ∧ most ≤ 16)) := by rcases hone with h | h | h | h <;> simp only at h <;> first | omega | exact h
  obtain ⟨rfl, rfl, rfl, hl0, hl1, hm⟩ := hr
  obtain ⟨lz, rfl⟩ := Int.eq_ofNat_of_zero_le hl0
  match ks, hlen with
  | [K], _ =>
    have hK := hk16 K (by simp)
    have hKz : K.size ≤ 64 := by have := hsz 1; simpa [sizes, flats, Tr.size] using this
    have h1 : statesT (.mk ⟨4, [], 1, lz, most⟩ [K]) = statesT K * timesOf ⟨4, [], 1, lz, most⟩ + 1 := by rw [statesT, if_neg (by simp), if_neg (by simp), if_neg (by simp), if_neg (by simp), statesH]
    refine maker_lead_rep w0 W base pm e0 acc tA EA nt ct ec t A n c a s i lz [] most K ht hbs HT (Lib.hid hx) hmk hs (by omega) hm (Lib.hid (by omega)) (by omega) (Lib.hid fun q a' s' h1 h2 => iter_ok hK hKz h1 h2) (Lib.hid ?_) he
    have := HIH hk2 0 K rfl
    simpa [sizes, flats] using this

end Go.Proofs.YtilhicefhhgecaaGreatDoor

namespace Go.Proofs.YtilhicefhhgecaaGreatDoor
open Go.RowKit Pv

/-- What the program's Build leaves. -/
def PBuild (t : List Rx) (w : World) (e : Ending) (w' : World) : Prop :=
  Below w.heap.size w w' ∧ ((¬ Pat t ∧ e = .returned (.tuple #[.agg #[.slice none 0 0, .int .i64 0], .int .i64 8])) ∨ (Pat t ∧ ∃ T : Tr, T.Ok 16 ∧ t = T.flat ∧
    ((¬ Few T ∧ e = .returned (.tuple #[.agg #[.slice none 0 0, .int .i64 0], .int .i64 90])) ∨ (Few T ∧ ∃ A' n' c', e = .returned (.tuple #[.agg #[.slice A' n' c', .int .i64 (leadT T [[]] 0).2], .int .i64 0]) ∧ AuQ w' w.heap.size A' n' c' (leadT T [[]] 0).1))))
theorem AuQ.nil (w : World) (base : Nat) : AuQ w base none 0 0 [] := ⟨[], World.ownsRow_nil _ _ _ _, rfl, rfl, fun i es h => by simp at h, fun i j r r' _ h => by simp at h⟩
theorem TB_auto : ∀ e, e ∈ TB → e ≠ TAuto := by decide
theorem ends_rel {t : List Rx} (h : t.length ≤ 64) : Rel RI ((endsL t).map (Value.int .i64)) (endsL t) := ⟨by simp, fun i u x hu hx => by
  rw [List.getElem?_map, hx] at hu
  obtain rfl := Option.some.inj hu
  have hi : i < t.length := by have := lt_of_get hx; simpa [endsL] using this
  simp only [endsL, List.getElem?_map, List.getElem?_range hi, Option.map_some, Option.some.injEq] at hx
  subst hx
  refine ⟨rfl, ?_⟩
  cases hb : behind t 16 i with
  | none => rw [bR_none]; omega
  | some e => rw [bR_some]; have := behind_lt hb; omega⟩
/-- The maker, its ends under way. -/
structure PE (w wr : World) (pm : Nat) (tA : Option Addr) (nt ct : Nat) (EA : Option Addr) (k ec : Nat) (l : List Int) : Prop where
  be : Below w.heap.size w wr
  r : Blk wr w.heap.size TAuto #[.slice none 0 0, .int .i64 0]
  b : Blk wr pm TMk #[.slice none 0 0, .int .i64 0, .slice tA nt ct, .slice EA k ec]
  oe : wr.ownsRow (pm + 1) TInt 1 (.slice EA k ec) k (l.map (Value.int .i64))
section
variable {w wr w' : World} {pm nt ct k ec : Nat} {tA EA : Option Addr} {l : List Int}
theorem PE.next (h : PE w wr pm tA nt ct EA k ec l) (hb : Below wr.heap.size wr w') : PE w w' pm tA nt ct EA k ec l := ⟨h.be.trans (hb.mono h.be.size), h.r.below hb h.r.lt, h.b.below hb h.b.lt, ownsRow_below h.oe hb⟩
theorem PE.push {EA' : Option Addr} {ec' : Nat} {z : Int} (h : PE w wr pm tA nt ct EA k ec l) (hp : w.heap.size ≤ pm) (g : wr.grownBy w' (Value.slice EA k ec).ownBlock) (own : w'.ownsRow (pm + 1) TInt 1 (.slice EA' (k + 1) ec') (k + 1) (l.map (Value.int .i64) ++ [.int .i64 z])) :
    PE w (w'.setCell ⟨pm, 3, none⟩ (.slice EA' (k + 1) ec')) pm tA nt ct EA' (k + 1) ec' (l ++ [z]) := by
  have hb := h.b.grown g (own_blk_ne h.oe h.b (by decide))
  refine ⟨(h.be.grown g h.be.size (fun q hq => by have := (h.oe.lt q hq).1; omega)).setCell hp _, ?_, hb.set 3 _, ownsRow_setFar (by simpa using own) hb (by decide) 3 _⟩
  have hr := h.r.grown g (own_blk_ne h.oe h.r (by decide))
  exact hr.far (fun e => hr.ne hb (by decide) e) _
end

set_option maxHeartbeats 4000000 in
set_option maxRecDepth 100000 in
theorem auto_Build (tA : Option Addr) (nt ct : Nat) (t : List Rx) (w : World) (ht : AtRx w tA t) (HT : Hid (t.length = nt)) :
    Calls Tryz.prog 13 #[.slice tA nt ct] w (PBuild t w) := by
  obtain ⟨i0, hi0, hz0, hs0, hb0⟩ := info_parts info_int
  have hWB : Below w.heap.size w (w.alloc (.cells #[.slice none 0 0, .int .i64 0] TAuto)) := (Below.refl _ _).alloc (Nat.le_refl _) _
  have HC := Lib.hid (pattern_Check tA ct nt t _ (AtRx.keep ht (Keep.of hWB)) HT)
  have HW := Lib.hid hWB
  have HR0 := Lib.hid (Blk.new w TAuto #[.slice none 0 0, .int .i64 0])
  by_cases hp : Pat t
  case neg =>
    have HN := Lib.hid hp
    rw [patE_no hp] at HC
    clear hp ht hWB
    go_enter Tryz.func13, Tryz.ntmps13
    go_wp2_with fail
    refine HC.out.mono ?_
    rintro e w1 ⟨rfl, hb1⟩
    have R1 := Lib.hid (HR0.out.below hb1 (by simp))
    have hN := R1.out.lt
    have B1 := Lib.hid (HW.out.trans (hb1.mono HW.out.size))
    obtain ⟨v0, v1, v2, v3⟩ := Blk.two R1.out
    obtain ⟨z0, z1, _, _⟩ := Blk.two ((R1.out.set 0 (.slice none 0 0)).set 1 (.int .i64 0))
    clear hb1
    go_wp2
    refine bodyPost_ret (v := .tuple #[.agg #[.slice none 0 0, .int .i64 0], .int .i64 8]) (by simp [results, Tryz.results13, go_sem, z0, z1]) rfl ⟨(B1.out.setCell (Nat.le_refl _) _).setCell (Nat.le_refl _) _, .inl ⟨HN.out, rfl⟩⟩
  have hnt : nt ≤ 64 := by have := hp.2.1; rwa [HT.out] at this
  obtain ⟨T, hT, hfl⟩ := hp.tree
  rw [patE_yes hp] at HC
  have HTT := Lib.hid hT; have HFL := Lib.hid hfl; have HPT := Lib.hid hp
  have HPE := Lib.hid (fun (W : World) (kp : Keep w W) (i : Nat) (hi : i < nt) => pattern_End_yes tA ct nt i t W (AtRx.keep ht kp) HT (Lib.hid hp) hi)
  have HAT := Lib.hid ht
  have HGET := Lib.hid (fun i (hi : i < nt) => (show (endsL t)[i]? = some (bR (behind t 16 i)) by simp [endsL, HT.out, hi]))
  have HLE : Hid ((endsL t).length = nt) := Lib.hid (by simp [endsL, HT.out])
  clear hp ht hWB hT hfl
  go_enter Tryz.func13, Tryz.ntmps13
  go_wp2_with fail
  refine HC.out.mono ?_
  rintro e w1 ⟨rfl, hb1⟩
  have R1 := Lib.hid (HR0.out.below hb1 (by simp))
  have B1 := Lib.hid (HW.out.trans (hb1.mono HW.out.size))
  have hM : Below w1.heap.size w1 (w1.alloc (.cells #[.slice none 0 0, .int .i64 0, .slice tA nt ct, .slice none 0 0] TMk)) := (Below.refl _ _).alloc (Nat.le_refl _) _
  have P0 : Hid (PE w (w1.alloc (.cells #[.slice none 0 0, .int .i64 0, .slice tA nt ct, .slice none 0 0] TMk)) w1.heap.size tA nt ct none 0 0 []) := Lib.hid ⟨B1.out.trans (hM.mono B1.out.size), R1.out.below hM R1.out.lt, Blk.new _ _ _, World.ownsRow_nil _ _ _ _⟩
  have hp1 : w.heap.size ≤ w1.heap.size := B1.out.size
  clear hb1 hM
  go_wp2
  go_loopw [20] (fun iv wr => ∃ (k : Nat) (EA : Option Addr) (ec : Nat), iv = .int .i64 k ∧ k ≤ nt ∧ PE w wr w1.heap.size tA nt ct EA k ec ((endsL t).take k)) (fun iv _ => nt - (intOf iv).toNat)
  case atStart => exact ⟨0, none, 0, rfl, by omega, by simpa using P0.out⟩
  case round =>
    obtain ⟨k, EA, ec, rfl, hk, hpe⟩ := hrel
    have PP := Lib.hid hpe
    clear hpe
    by_cases hlt : k < nt
    · have HE1 := Lib.hid (HPE.out wr (Keep.of PP.out.be) k hlt)
      have HTK := Lib.hid (take_snoc (HGET.out k hlt))
      go_wp2_with fail
      refine HE1.out.mono ?_
      rintro e w2 ⟨rfl, hb2⟩
      have P2 := PP.out.next hb2
      have hal : Below w2.heap.size w2 (w2.alloc (.cells #[.int .i64 (bR (behind t 16 k))] TInt)) := (Below.refl _ _).alloc (Nat.le_refl _) _
      have PB := Lib.hid (P2.next hal)
      generalize bR (behind t 16 k) = z at *
      have SRC := Lib.hid (Pv.Src.one (w := w2) (x := .int .i64 z) (t := TInt) rfl)
      have Q1 : Hid (k + 1 ≤ maxLen) := Lib.hid (by simp only [maxLen]; omega)
      have Q2 : Hid ((k + 1) * 8 ≤ 140737488355328) := Lib.hid (by omega)
      have Q3 : Hid (w1.heap.size + 1 ≤ (w2.alloc (.cells #[.int .i64 z] TInt)).heap.size) := Lib.hid (by have := P2.b.lt; simp; omega)
      have m3 := PB.out.b.cell 3
      have m30 := P2.b.cell 3
      clear hb2 hal P2 PP
      go_wp2_with (at_builtin
                   go_must (refine wpList_append_src _ rfl (.tmp 33) (.tmp 35) 22 rfl (w1.heap.size + 1) TInt i0 (.int .i64 0) 1 8 Tryz.underlying22 hi0 hz0 hs0 hb0 rfl (by decide) EA ec k _ rfl PB.out.oe _ 1 1 _ rfl SRC.out Q1.out Q2.out Q3.out ?_)
                   intro A8 c8 w8 own8 gr8 _
                   have P8 := Lib.hid (PB.out.push hp1 gr8 own8)
                   have b8 := PB.out.b.grown gr8 (own_blk_ne PB.out.oe PB.out.b (by decide))
                   have f8 := b8.frozen 3
                   have c8' := b8.cell 3
                   clear gr8 own8 b8 m3 m30)
      go_roundw
      case rel => exact ⟨k + 1, A8, c8, by go_num, by omega, by rw [HTK.out]; exact P8.out⟩
      case measure => simp [intOf]; omega
    have hkn : k = nt := by omega
    subst hkn
    rw [List.take_of_length_le (by rw [HLE.out]; exact Nat.le_refl _)] at PP
    have HMN := Lib.hid (maker_many wr w1.heap.size tA EA k ct ec t T HTT.out HFL.out HT hnt PP.out.b.lt (PP.out.b.cell 2) (PP.out.b.cell 3) (AtRx.keep HAT.out (Keep.of PP.out.be)) (At.of_own PP.out.oe (ends_rel (by rw [HT.out]; exact hnt)) (by rw [HLE.out]; omega)).2.2)
    have hct := countT_eq T 16 HTT.out
    have hc256 : countT T ≤ 256 := by omega
    have HCT := Lib.hid hct
    clear hct
    by_cases hf : Few T
    · have hle : ¬ (256 : Int) < ((1 + countT T : Nat) : Int) := by have := HCT.out; unfold Few at hf; omega
      have HF := Lib.hid hf
      clear hf
      go_wp2_with fail
      refine HMN.out.mono ?_
      rintro e w3 ⟨rfl, hb3⟩
      have P3 := Lib.hid (PP.out.next hb3)
      have MK3 : Hid (MkAt w3 w.heap.size w1.heap.size none 0 0 0 (.slice tA k ct) (.slice EA k ec) []) := Lib.hid ⟨P3.out.b, AuQ.nil _ _, hp1⟩
      have HST := Lib.hid (maker_state none 0 0 w.heap.size w1.heap.size 0 _ _ [] w3 MK3.out P3.out.be.size (by omega))
      clear hb3
      go_wp2_with fail
      refine HST.out.mono ?_
      rintro e w4 ⟨A4, c4, rfl, mk4, ch4⟩
      have R4 := Lib.hid (ch4.blk P3.out.r TB_auto)
      have E4 : Hid (MkE w w4 w.heap.size w1.heap.size (w1.heap.size + 1) 0 tA EA k ct ec t A4 1 c4 [[]]) := Lib.hid ⟨mk4, ch4.keep (Keep.of P3.out.be) (Nat.le_refl _) P3.out.be.size, ownsRow_chg P3.out.oe ch4 TB_int, Nat.le_trans P3.out.be.size ch4.size⟩
      have HL := Lib.hid (maker_lead_all w w.heap.size w1.heap.size (w1.heap.size + 1) 0 tA EA k ct ec t (Nat.le_refl _) HAT.out HT hnt 16 (Nat.le_refl _) T 0 [] HTT.out (by show T.flat.length ≤ 64; rw [← HFL.out, HT.out]; exact hnt) (by simp [HFL.out]) w4 A4 1 c4 [[]] 0 E4.out (by omega) HF.out (by simp [edgesN]))
      have CH4 := Lib.hid ch4
      obtain ⟨r, hr⟩ : ∃ r, leadT T [[]] 0 = r := ⟨_, rfl⟩
      rw [hr] at HL
      have HR := Lib.hid hr
      clear mk4 ch4 hr
      go_wp2_with fail
      refine HL.out.mono ?_
      rintro e w5 ⟨A5, c5, rfl, mk5, ch5⟩
      have B5 := Lib.hid mk5.ma.b
      have R5 := Lib.hid (ch5.blk R4.out TB_auto)
      have AU5 := mk5.ma.au
      have B5s := B5.out.set 1 (.int .i64 r.2)
      have AU6 := AU5.setFar (i := 1) (u := .int .i64 r.2) B5.out TA_mk (by decide) hp1
      have R6 := R5.out.far (p := ⟨w1.heap.size, 1, none⟩) (fun e => R5.out.ne B5.out (by decide) e) (.int .i64 r.2)
      have BE := (P3.out.be.trans ((CH4.out.trans ch5).below P3.out.be.size)).setCell (p := ⟨w1.heap.size, 1, none⟩) hp1 (.int .i64 r.2)
      have AU7 := (AU6.setFar (i := 0) (u := .slice A5 r.1.length c5) R6 TA_auto (by decide) (Nat.le_refl _)).setFar (i := 1) (u := .int .i64 r.2) (R6.set 0 _) TA_auto (by decide) (Nat.le_refl _)
      have FIN := Lib.hid (And.intro AU7 ((BE.setCell (p := ⟨w.heap.size, 0, none⟩) (Nat.le_refl _) (.slice A5 r.1.length c5)).setCell (p := ⟨w.heap.size, 1, none⟩) (Nat.le_refl _) (.int .i64 r.2)))
      have B5S := Lib.hid B5s; have R6S := Lib.hid R6
      have p1 := B5.out.cell 1
      have p1f := B5.out.frozen 1
      have s0 := B5s.cell 0
      have s1 := B5s.cell 1
      obtain ⟨r0, r1, r2, r3⟩ := Blk.two R6
      obtain ⟨z0, z1, _, _⟩ := Blk.two ((R6.set 0 (.slice A5 r.1.length c5)).set 1 (.int .i64 r.2))
      clear mk5 ch5 AU5 B5s AU6 R6 BE AU7
      go_wp2
      refine bodyPost_ret (v := .tuple #[.agg #[.slice A5 r.1.length c5, .int .i64 r.2], .int .i64 0]) (by simp [results, Tryz.results13, go_sem, z0, z1]) rfl ⟨FIN.out.2, .inr ⟨HPT.out, T, HTT.out, HFL.out, .inr ⟨HF.out, A5, r.1.length, c5, by rw [HR.out], by rw [HR.out]; exact FIN.out.1⟩⟩⟩
    · have hle : (256 : Int) < ((1 + countT T : Nat) : Int) := by have := HCT.out; unfold Few at hf; omega
      have HF := Lib.hid hf
      clear hf
      go_wp2_with fail
      refine HMN.out.mono ?_
      rintro e w3 ⟨rfl, hb3⟩
      have P3 := Lib.hid (PP.out.next hb3)
      obtain ⟨v0, v1, v2, v3⟩ := Blk.two P3.out.r
      obtain ⟨z0, z1, _, _⟩ := Blk.two ((P3.out.r.set 0 (.slice none 0 0)).set 1 (.int .i64 0))
      clear hb3
      go_wp2
      refine bodyPost_ret (v := .tuple #[.agg #[.slice none 0 0, .int .i64 0], .int .i64 90]) (by simp [results, Tryz.results13, go_sem, z0, z1]) rfl ⟨(P3.out.be.setCell (Nat.le_refl _) _).setCell (Nat.le_refl _) _, .inr ⟨HPT.out, T, HTT.out, HFL.out, .inl ⟨HF.out, rfl⟩⟩⟩

end Go.Proofs.YtilhicefhhgecaaGreatDoor

namespace Go.Proofs.YtilhicefhhgecaaGreatDoor
open Go.RowKit Pv

/-- What comes of a pattern: its automaton, or the error. -/
def BR (t : List Rx) (r : Au × Int × Int) : Prop :=
  (¬ Pat t ∧ r = ([], 0, 8)) ∨ (Pat t ∧ ∃ T : Tr, T.Ok 16 ∧ t = T.flat ∧ ((¬ Few T ∧ r = ([], 0, 90)) ∨ (Few T ∧ r = ((leadT T [[]] 0).1, (((leadT T [[]] 0).2 : Nat) : Int), 0))))
theorem BR.one {t : List Rx} {r r' : Au × Int × Int} (h : BR t r) (h' : BR t r') : r = r' := by
  rcases h with ⟨h1, rfl⟩ | ⟨h1, T, hT, hfl, h⟩
  · rcases h' with ⟨_, rfl⟩ | ⟨h2, _⟩
    · rfl
    · exact absurd h2 h1
  · rcases h' with ⟨h2, _⟩ | ⟨_, T', hT', hfl', h'⟩
    · exact absurd h1 h2
    · obtain rfl := flat_inj hT hT' (hfl.symm.trans hfl')
      rcases h with ⟨hf, rfl⟩ | ⟨hf, rfl⟩ <;> rcases h' with ⟨hf', rfl⟩ | ⟨hf', rfl⟩ <;> first | rfl | exact absurd hf hf' | exact absurd hf' hf
theorem BR.few {t : List Rx} {r : Au × Int × Int} (h : BR t r) : r.1.length ≤ 256 ∧ edgesN r.1 ≤ 20000 := by
  rcases h with ⟨h1, rfl⟩ | ⟨h1, T, hT, hfl, ⟨hf, rfl⟩ | ⟨hf, rfl⟩⟩
  · simp [edgesN]
  · simp [edgesN]
  · have hz : T.size ≤ 64 := by show T.flat.length ≤ 64; rw [← hfl]; exact h1.2.1
    have h2 := (leadT_leads T [[]] 0 (by simp)).1
    have h3 := (leadT_el hT hz (a := [[]]) (s := 0) (by simp) (by simpa [Few] using hf)).e
    unfold Few at hf
    simp only [List.length_cons, List.length_nil, Nat.zero_add] at h2 h3
    have h4 : edgesN [[]] = 0 := by simp [edgesN]
    exact ⟨by simp only; omega, by simp only; omega⟩
theorem PBuild.one {t : List Rx} {w w' : World} {e : Ending} (h : PBuild t w e w') : Below w.heap.size w w' ∧ ∃ r : Au × Int × Int, BR t r ∧ ∃ A' n' c', e = .returned (.tuple #[.agg #[.slice A' n' c', .int .i64 r.2.1], .int .i64 r.2.2]) ∧ AuQ w' w.heap.size A' n' c' r.1 := by
  obtain ⟨hb, h⟩ := h
  refine ⟨hb, ?_⟩
  rcases h with ⟨h1, rfl⟩ | ⟨h1, T, hT, hfl, ⟨hf, rfl⟩ | ⟨hf, A', n', c', rfl, au⟩⟩
  · exact ⟨([], 0, 8), .inl ⟨h1, rfl⟩, none, 0, 0, rfl, AuQ.nil _ _⟩
  · exact ⟨([], 0, 90), .inr ⟨h1, T, hT, hfl, .inl ⟨hf, rfl⟩⟩, none, 0, 0, rfl, AuQ.nil _ _⟩
  · exact ⟨((leadT T [[]] 0).1, (((leadT T [[]] 0).2 : Nat) : Int), 0), .inr ⟨h1, T, hT, hfl, .inr ⟨hf, rfl⟩⟩, A', n', c', rfl, au⟩
end Go.Proofs.YtilhicefhhgecaaGreatDoor
