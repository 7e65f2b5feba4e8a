/- Walks: the program's text of a node of nodes: the closures in and tell (genyl.py prints this). PUT1 -/
import Derived.Test.YtilhicefhhgecaaGreatDoorYkp
import Derived.Test.YtilhicefhhgecaaGreatDoorYhp
namespace Go.Proofs.YtilhicefhhgecaaGreatDoor
open Go.RowKit Pv

set_option maxHeartbeats 4000000 in
theorem text_in (k o : Int) (hk : k = 0 ∨ k = 1 ∨ k = 2 ∨ k = 3 ∨ k = 4) (ho : o = 2 ∨ o = 3 ∨ o = 4) (w : World) :
    Calls Tryz.prog 69 #[.int .u8 k, .int .u8 o] w fun e w' => e = .returned (.bool (inK o k)) ∧ w' = w := by
  rcases ho with rfl | rfl | rfl <;> rcases hk with rfl | rfl | rfl | rfl | rfl
  all_goals
    go_enter Tryz.func69, Tryz.ntmps69
    go_wp2
    go_ret
    exact ⟨rfl, rfl⟩

/-- What the closure tell stands on. -/
structure TellE (w0 : World) (tA : Option Addr) (nt ct : Nat) (t : List Rx) (pt pe pl pi eb : Nat) : Prop where
  at_ : AtRx w0 tA t
  tabs : TabsP w0.heap.size w0
  ct : w0.cell? ⟨pt, 0, none⟩ = some (.slice tA nt ct)
  ce : w0.cell? ⟨pe, 0, none⟩ = some (.slice (some ⟨eb, 0, none⟩) nt nt)
  cl : w0.cell? ⟨pl, 0, none⟩ = some (.func (.func 70) #[] #[.pointer (some ⟨pt, 0, none⟩), .pointer (some ⟨pe, 0, none⟩), .pointer (some ⟨pl, 0, none⟩), .pointer (some ⟨pi, 0, none⟩)])
  ci : w0.cell? ⟨pi, 0, none⟩ = some (.func (.func 69) #[] #[])
  ends : At w0 (some ⟨eb, 0, none⟩) RI (endsL t)
def TellC (w0 : World) (pt pe pl pi : Nat) (T : Tr) (i : Nat) : Prop :=
  ∀ W, Below w0.heap.size w0 W → Calls Tryz.prog 70 #[.int .i64 i, .pointer (some ⟨pt, 0, none⟩), .pointer (some ⟨pe, 0, none⟩), .pointer (some ⟨pl, 0, none⟩), .pointer (some ⟨pi, 0, none⟩)] W fun e w' => e = .returned (.string (mkS T.txt)) ∧ Below W.heap.size W w'
theorem Below.same {w0 W : World} {b o : Nat} {v : Value} (h : Below w0.heap.size w0 W) (hc : w0.cell? ⟨b, o, none⟩ = some v) : W.cell? ⟨b, o, none⟩ = some v := (h.cell (World.block_lt_of_cell? _ _ hc)).trans hc
/-- The cells of what tell stands on, in a later world. -/
theorem TellE.cells {w0 W : World} {tA : Option Addr} {nt ct : Nat} {t : List Rx} {pt pe pl pi eb : Nat} (h : TellE w0 tA nt ct t pt pe pl pi eb) (hb : Below w0.heap.size w0 W) :
    W.cell? ⟨pt, 0, none⟩ = some (.slice tA nt ct) ∧ W.cell? ⟨pe, 0, none⟩ = some (.slice (some ⟨eb, 0, none⟩) nt nt) ∧ W.cell? ⟨pl, 0, none⟩ = some (.func (.func 70) #[] #[.pointer (some ⟨pt, 0, none⟩), .pointer (some ⟨pe, 0, none⟩), .pointer (some ⟨pl, 0, none⟩), .pointer (some ⟨pi, 0, none⟩)]) ∧ W.cell? ⟨pi, 0, none⟩ = some (.func (.func 69) #[] #[]) :=
  ⟨Below.same hb h.ct, Below.same hb h.ce, Below.same hb h.cl, Below.same hb h.ci⟩
theorem TellE.end_ {w0 W : World} {tA : Option Addr} {nt ct : Nat} {t : List Rx} {pt pe pl pi eb : Nat} (h : TellE w0 tA nt ct t pt pe pl pi eb) (hb : Below w0.heap.size w0 W) {p e : Nat} (hp : behind t 16 p = some e) (hl : p < t.length) :
    W.cell? ⟨eb, p, none⟩ = some (.int .i64 e) := by
  have h1 : (endsL t)[p]? = some (e : Int) := by simp [endsL, hl, hp, bR]
  obtain ⟨b, off, he, hb1, hc⟩ := h.ends.2 (by simp [endsL]; omega)
  simp only [Option.some.injEq, Addr.mk.injEq, and_true] at he
  obtain ⟨rfl, rfl⟩ := he
  obtain ⟨u, hu, hr⟩ := hc p _ h1
  obtain ⟨rfl, _⟩ := hr
  rw [Nat.zero_add] at hu
  exact Below.same hb hu
theorem own_strs {w : World} {b n c : Nat} {A : Option Addr} {l : List (List UInt8)} (h : w.ownsRow b 9 1 (.slice A n c) n (l.map fun x => .string (mkS x))) (hn : n = l.length) (h0 : 0 < n) (hL : l.length ≤ 140737488355328) :
    ∃ g, A = some ⟨g, 0, none⟩ ∧ g < w.heap.size ∧ n ≤ c ∧ ∀ (j : Nat) x, (l.map mkS)[j]? = some x → w.cell? ⟨g, 0 + j, none⟩ = some (.string x) := by
  have hc : n ≤ c := (At.of_own (R := fun u (x : List UInt8) => u = .string (mkS x)) (xs := l) (h := by exact h) ⟨by simp, fun i u x hu hx => by rw [List.getElem?_map, hx] at hu; simpa using hu.symm⟩ hL).2.1
  obtain ⟨g, hA, hg, _⟩ := own_get1 (k := 0) (u := .string (mkS l[0])) h (by rw [List.getElem?_map, List.getElem?_eq_getElem (by omega)]; rfl)
  refine ⟨g, hA, hg, hc, fun j x hx => ?_⟩
  obtain ⟨g', hA', _, hcell⟩ := own_get1 (k := j) (u := .string x) h (by
    rw [List.getElem?_map] at hx ⊢
    cases hj : l[j]? with
    | none => rw [hj] at hx; cases hx
    | some y => rw [hj] at hx; simp at hx; subst hx; rfl)
  rw [hA] at hA'
  simp only [Option.some.injEq, Addr.mk.injEq, and_true] at hA'
  rw [hA', Nat.zero_add]
  exact hcell
theorem info_str : (Tryz.prog.info? 9).map (fun i => (i.zero, i.size, i.bytes)) = some (some (.string ⟨#[]⟩), 1, 16) := by kernel_rfl
theorem txt_join (l : List (List UInt8)) : (l.map mkS).map (·.data.toList) = l := by
  rw [List.map_map]
  exact (List.map_congr_left fun x _ => rfl).trans (List.map_id l)

set_option maxHeartbeats 4000000 in
set_option maxRecDepth 100000 in
theorem tell_cat (w0 : World) (tA : Option Addr) (nt ct i q d pt pe pl pi eb : Nat) (t : List Rx) (least most : Int) (ks : List Tr) (hE : TellE w0 tA nt ct t pt pe pl pi eb) (HT : Hid (t.length = nt)) (hnt : nt ≤ 64) (HX : Hid (t[i]? = some ⟨2, [], q, least, most⟩)) (HQ : Hid (ks.length = q)) (hq : q ≤ 64) (hq0 : 0 < q)
    (HBH : Hid (behind t 16 i = some (i + 1 + sizes ks))) (HIN : Hid (i + 1 + sizes ks ≤ nt)) (HOK : Hid (∀ K, K ∈ ks → Tr.Ok d K)) (HZ : Hid (sizes ks ≤ 64)) (HR : Hid (∀ j K, ks[j]? = some K → i + 1 + sizes (ks.take (j + 1)) ≤ i + 1 + sizes ks ∧ t[i + 1 + sizes (ks.take j)]? = some K.root ∧ behind t 16 (i + 1 + sizes (ks.take j)) = some (i + 1 + sizes (ks.take (j + 1))) ∧ i + 1 + sizes (ks.take j) < i + 1 + sizes (ks.take (j + 1)) ∧ TellC w0 pt pe pl pi K (i + 1 + sizes (ks.take j))))
     : TellC w0 pt pe pl pi (.mk ⟨2, [], q, least, most⟩ ks) i := by
  intro w hbw
  obtain ⟨i0, hi0, hz0, hs0, hb0⟩ := info_parts info_str
  have HTX0 := Lib.hid (congrArg mkS (txt_in (x := ⟨2, [], q, least, most⟩) (ks := ks) (by show (1 : Int) < 2; decide)))
  have HTX := Lib.hid (HTX0.out.trans (congrArg mkS (show _ = Lib.join (txts 2 ks) (sepK 2) by rw [if_neg (show ¬ ((2 : Int) = 4) by decide), List.append_nil])))
  clear HTX0
  have hin : i < nt := by have := lt_of_get HX.out; rwa [HT.out] at this
  obtain ⟨b, off, kd, B, m, cs, l, many, least', most', rfl, H5, hs, HM, hm, hkd, hma, hle, hmo, HX'⟩ := (hE.at_.keep (Keep.of hbw)).g5 HT hin
  obtain ⟨e1, e2, e3, e4, e5⟩ := Rx.mk.inj (Option.some.inj (HX'.out.symm.trans HX.out))
  subst e1; subst e3; subst e4; subst e5
  obtain ⟨y0, y1, y2, y3, y4, y5⟩ := H5
  have HB0 := Lib.hid ((Below.refl _ w).alloc (Nat.le_refl _) (.cells #[.int .u8 2, .slice B cs m, .int .i64 q, .int .i64 least', .int .i64 most'] 52))
  have HW0 := Lib.hid (hbw.trans (HB0.out.mono hbw.size))
  obtain ⟨c1, c2, c3, c4⟩ := hE.cells hbw
  have HE := Lib.hid hE
  have HBW := Lib.hid hbw
  have hei : i < nt := hin
  have HEI := Lib.hid (fun W (hW : Below w0.heap.size w0 W) => hE.end_ hW HBH.out (by rw [HT.out]; exact hin))
  obtain ⟨E, hEE⟩ : ∃ E, i + 1 + sizes ks = E := ⟨_, rfl⟩
  have HEE := Lib.hid hEE
  have hEn : E ≤ nt := by rw [← hEE]; exact HIN.out
  have hE1 : i + 1 < E := by have h1 := length_sizes ks; have h2 := HQ.out; omega
  rw [hEE] at HEI
  clear hbw hs hE HX' hEE
  skip
  go_enter Tryz.func70, Tryz.ntmps70
  go_wp2
  go_loopw [9, 8] (fun kv lv wr => ∃ (k p : Nat) (A : Option Addr) (c : Nat), kv = .int .i64 p ∧ p ≤ E ∧ k ≤ q ∧ (k = q ∨ p < E) ∧ lv = .slice A k c ∧ Hid (p = i + 1 + sizes (ks.take k)) ∧ Hid (wr.ownsRow (w.heap.size + 1) 9 1 (.slice A k c) k ((txts 2 (ks.take k)).map fun x => .string (mkS x))) ∧ Hid (Below (w.heap.size + 1) (w.alloc (.cells #[.int .u8 2, .slice B cs m, .int .i64 q, .int .i64 least', .int .i64 most'] 52)) wr)) (fun kv _ _ => E - (intOf kv).toNat)
  case atStart => exact ⟨0, i + 1, none, 0, by go_num, by omega, by omega, .inr hE1, rfl, Lib.hid (by simp [sizes, flats]), Lib.hid (World.ownsRow_nil _ _ _ _), Lib.hid (Below.refl _ _)⟩
  case round =>
    obtain ⟨k, p, A, c, rfl, hpE, hk, hkp, rfl, HPP, HO, HB⟩ := hrel
    have HBA := Lib.hid (HW0.out.trans (HB.out.mono (by have := HBW.out.size; omega)))
    have HBX := Lib.hid ((Below.refl _ w).alloc (Nat.le_refl _) (.cells #[.int .u8 2, .slice B cs m, .int .i64 q, .int .i64 least', .int .i64 most'] 52) |>.trans (HB.out.mono (by omega)))
    have hwr : w.heap.size + 1 ≤ wr.heap.size := by have := HB.out.size; simpa using this
    have HWR := Lib.hid hwr
    obtain ⟨d1, d2, d3, d4⟩ := HE.out.cells HBA.out
    have d5 := HEI.out wr HBA.out
    have X0 : Hid (∀ W, Below (w.heap.size + 1) (w.alloc (.cells #[.int .u8 2, .slice B cs m, .int .i64 q, .int .i64 least', .int .i64 most'] 52)) W → W.cell? ⟨w.heap.size, 0, none⟩ = some (.int .u8 2)) := Lib.hid fun W hW => (hW.cell (p := ⟨w.heap.size, 0, none⟩) (by simp)).trans (World.cell?_alloc_new ..)
    have x0 := X0.out wr HB.out
    clear y0 y1 y2 y3 y4 y5 c1 c2 c3 c4
    by_cases hlt : k < q
    · have hpE2 : p < E := by omega
      obtain ⟨K, hKg⟩ : ∃ K, ks[k]? = some K := ⟨_, List.getElem?_eq_getElem (by rw [HQ.out]; exact hlt)⟩
      have HKG := Lib.hid hKg
      obtain ⟨hr0, hr1, hr2, hr3, hr4⟩ := HR.out k K hKg
      obtain ⟨p2, hp2⟩ : ∃ p2, i + 1 + sizes (ks.take (k + 1)) = p2 := ⟨_, rfl⟩
      rw [hp2] at hr0 hr2 hr3
      rw [HEE.out] at hr0
      rw [← HPP.out] at hr1 hr2 hr3 hr4
      have hpn : p < nt := by omega
      have hn2 : k + 1 = q ∨ p2 < E := by
        by_cases h : k + 1 = q
        · exact .inl h
        · obtain ⟨h0, _, _, h3, _⟩ := HR.out (k + 1) _ (List.getElem?_eq_getElem (show k + 1 < ks.length by rw [HQ.out]; omega))
          rw [HEE.out] at h0
          rw [hp2] at h3
          exact .inr (by omega)
      have hKok := HOK.out K (mem_of_get hKg)
      have hKz : K.size ≤ 64 := by have := sizes_mem (mem_of_get hKg); have := HZ.out; omega
      have hsub := txt_size hKok hKz
      have hkk := (Tr.root_one hKok).kinds
      have HTC := Lib.hid (hr4 wr HBA.out)
      have HEP := Lib.hid (fun W (hW : Below w0.heap.size w0 W) => HE.out.end_ hW hr2 (by rw [HT.out]; exact hpn))
      have HNP : Hid (∀ W, Below w0.heap.size w0 W → W.cell? ⟨b, off + p * 5, none⟩ = some (.int .u8 K.root.kind)) := Lib.hid fun W hW => by
        obtain ⟨kk, B', m', cs', l', many', least'', most'', H5k, _, _, _, hkd', _, _, _, HXk⟩ := (HE.out.at_.keep (Keep.of hW)).g52 HT hpn
        have hkr : K.root.kind = kk := by have := Option.some.inj (hr1.symm.trans HXk.out); rw [this]
        rw [hkr]
        exact H5k.c0
      have HTS := Lib.hid (txts_snoc (o := 2) hKg)
      have HP2 := Lib.hid hp2
      generalize K.root.kind = kk at *
      obtain ⟨bb, hbb⟩ : ∃ bb, inK 2 kk = bb := ⟨_, rfl⟩
      have HINC := Lib.hid (fun W => text_in kk 2 hkk (by decide) W)
      rw [hbb] at HINC HTS
      have Q1 : Hid (k + 1 ≤ maxLen) := Lib.hid (by simp only [maxLen]; omega)
      have Q2 : Hid ((k + 1) * 16 ≤ 140737488355328) := Lib.hid (by omega)
      have i1 : (0 : Int) ≤ (i : Int) := by omega
      have i2 : (i : Int) < (nt : Int) := by omega
      have i3 : (0 : Int) ≤ (p : Int) := by omega
      have i4 : (p : Int) < (nt : Int) := by omega
      clear hp2 hr1 hr2 hr4 hKg hKok hKz hbb hkk
      cases bb
      case' true => have HBR := Lib.hid (br_yes K.txt)
      case' false => have HBR : Hid (mkS (brS false K.txt) = mkS K.txt) := Lib.hid rfl
      all_goals
        generalize brS _ K.txt = bt at *
        generalize mkS K.txt = sub at *
        go_wp2_with (go_at_call 70; refine HTC.out.mono ?_; rintro e w1 ⟨rfl, hb1⟩; have B1 := Lib.hid (HB.out.trans (hb1.mono HWR.out)); have O1 := Lib.hid (ownsRow_below HO.out hb1); have A1 := Lib.hid (HBA.out.trans (hb1.mono HBA.out.size)); clear hb1; obtain ⟨e1, e2, e3, e4⟩ := HE.out.cells A1.out; have e5 := HNP.out _ A1.out; have e6 := X0.out _ B1.out)
        go_quiet ((go_at_call 69; with_reducible exact Calls.quiet_of_same (HINC.out _)))
        have OW := Lib.hid (fun (m : Nat) (s : ByteArray) => (ownsRow_drewN O1.out m).alloc (.cells #[.string s] 9))
        have BW := Lib.hid (fun (m : Nat) (s : ByteArray) => (below_drewN B1.out m).alloc (by have := (below_drewN B1.out m).size; simpa using this) (.cells #[.string s] 9))
        have SRC := Lib.hid (fun (m : Nat) (s : ByteArray) => Pv.Src.one (w := w1.drewN m) (x := .string s) (t := 9) rfl)
        have Q3 := Lib.hid (fun (m : Nat) (s : ByteArray) => show w.heap.size + 1 ≤ ((w1.drewN m).alloc (.cells #[.string s] 9)).heap.size by have := (BW.out m s).size; simpa using this)
        go_wp2_with (first
          | (at_builtin
             go_must (refine wpList_append_src _ rfl (.tmp 48) (.tmp 50) 120 rfl (w.heap.size + 1) 9 i0 (.string ⟨#[]⟩) 1 16 Tryz.underlying120 hi0 hz0 hs0 hb0 rfl (by decide) A c k _ rfl (OW.out _ _) _ 1 1 _ rfl (SRC.out _ _) Q1.out Q2.out (Q3.out _ _) ?_)
             intro A4 c4 w4 own4 gr4 _
             have hb4 := (BW.out _ _).grown gr4 (Q3.out _ _) (own_ge HO.out)
             have B4 := Lib.hid hb4; have O4 := Lib.hid own4
             have A4x := Lib.hid (HW0.out.trans (hb4.mono (by have := HBW.out.size; omega)))
             obtain ⟨f1, f2, f3, f4⟩ := HE.out.cells A4x.out
             have f5 := HEP.out _ A4x.out
             clear gr4 own4 hb4))
        go_roundw
        case rel => exact ⟨k + 1, p2, A4, c4, rfl, hr0, by omega, hn2, rfl, Lib.hid HP2.out.symm, Lib.hid (by rw [HTS.out, List.map_append]; have := O4.out; first | exact this | (rw [← HBR.out] at this; exact this)), B4⟩
        case measure => simp [intOf]; omega
    · obtain rfl : k = q := by omega
      have hpe : p = E := by rw [HPP.out, ← HEE.out, List.take_of_length_le (by rw [HQ.out]; omega)]
      subst hpe
      have hO := HO.out
      rw [List.take_of_length_le (by rw [HQ.out]; omega)] at hO
      have htl : (txts 2 ks).length = k := by rw [txts_map, List.length_map, HQ.out]
      obtain ⟨g, rfl, hg, hc, hcells⟩ := own_strs hO htl.symm hq0 (by rw [htl]; omega)
      have hjl : (Lib.join (txts 2 ks) (sepK 2)).length ≤ 281600 := by have h1 := preT_len (o := 2) (k := ks.length) HOK.out HZ.out; rwa [preT_all rfl, mkS_size] at h1
      have HJ := Tryz.strings_Join g 0 c ((txts 2 ks).map mkS) ⟨#[]⟩ wr hcells hg (by rw [List.length_map, htl]; omega) (by rw [List.length_map, htl]; omega) (by rw [txt_join]; exact Nat.le_trans hjl (by omega))
      rw [txt_join, List.length_map, htl] at HJ
      have HJ := Lib.hid HJ
      clear hO htl hcells hjl
      go_wp2_with (go_at_call 72; refine HJ.out.mono ?_; rintro e w1 ⟨rfl, hb1⟩; have HB2 := Lib.hid hb1; clear hb1)
      go_ret
      refine ⟨?_, HBX.out.trans (HB2.out.mono HBX.out.size)⟩
      show Ending.returned (.string (mkS (Lib.join (txts 2 ks) (sepK 2)))) = _
      rw [HTX.out]

set_option maxHeartbeats 4000000 in
set_option maxRecDepth 100000 in
theorem tell_alt (w0 : World) (tA : Option Addr) (nt ct i q d pt pe pl pi eb : Nat) (t : List Rx) (least most : Int) (ks : List Tr) (hE : TellE w0 tA nt ct t pt pe pl pi eb) (HT : Hid (t.length = nt)) (hnt : nt ≤ 64) (HX : Hid (t[i]? = some ⟨3, [], q, least, most⟩)) (HQ : Hid (ks.length = q)) (hq : q ≤ 64) (hq0 : 0 < q)
    (HBH : Hid (behind t 16 i = some (i + 1 + sizes ks))) (HIN : Hid (i + 1 + sizes ks ≤ nt)) (HOK : Hid (∀ K, K ∈ ks → Tr.Ok d K)) (HZ : Hid (sizes ks ≤ 64)) (HR : Hid (∀ j K, ks[j]? = some K → i + 1 + sizes (ks.take (j + 1)) ≤ i + 1 + sizes ks ∧ t[i + 1 + sizes (ks.take j)]? = some K.root ∧ behind t 16 (i + 1 + sizes (ks.take j)) = some (i + 1 + sizes (ks.take (j + 1))) ∧ i + 1 + sizes (ks.take j) < i + 1 + sizes (ks.take (j + 1)) ∧ TellC w0 pt pe pl pi K (i + 1 + sizes (ks.take j))))
     : TellC w0 pt pe pl pi (.mk ⟨3, [], q, least, most⟩ ks) i := by
  intro w hbw
  obtain ⟨i0, hi0, hz0, hs0, hb0⟩ := info_parts info_str
  have HTX0 := Lib.hid (congrArg mkS (txt_in (x := ⟨3, [], q, least, most⟩) (ks := ks) (by show (1 : Int) < 3; decide)))
  have HTX := Lib.hid (HTX0.out.trans (congrArg mkS (show _ = Lib.join (txts 3 ks) (sepK 3) by rw [if_neg (show ¬ ((3 : Int) = 4) by decide), List.append_nil])))
  clear HTX0
  have hin : i < nt := by have := lt_of_get HX.out; rwa [HT.out] at this
  obtain ⟨b, off, kd, B, m, cs, l, many, least', most', rfl, H5, hs, HM, hm, hkd, hma, hle, hmo, HX'⟩ := (hE.at_.keep (Keep.of hbw)).g5 HT hin
  obtain ⟨e1, e2, e3, e4, e5⟩ := Rx.mk.inj (Option.some.inj (HX'.out.symm.trans HX.out))
  subst e1; subst e3; subst e4; subst e5
  obtain ⟨y0, y1, y2, y3, y4, y5⟩ := H5
  have HB0 := Lib.hid ((Below.refl _ w).alloc (Nat.le_refl _) (.cells #[.int .u8 3, .slice B cs m, .int .i64 q, .int .i64 least', .int .i64 most'] 52))
  have HW0 := Lib.hid (hbw.trans (HB0.out.mono hbw.size))
  obtain ⟨c1, c2, c3, c4⟩ := hE.cells hbw
  have HE := Lib.hid hE
  have HBW := Lib.hid hbw
  have hei : i < nt := hin
  have HEI := Lib.hid (fun W (hW : Below w0.heap.size w0 W) => hE.end_ hW HBH.out (by rw [HT.out]; exact hin))
  obtain ⟨E, hEE⟩ : ∃ E, i + 1 + sizes ks = E := ⟨_, rfl⟩
  have HEE := Lib.hid hEE
  have hEn : E ≤ nt := by rw [← hEE]; exact HIN.out
  have hE1 : i + 1 < E := by have h1 := length_sizes ks; have h2 := HQ.out; omega
  rw [hEE] at HEI
  clear hbw hs hE HX' hEE
  skip
  go_enter Tryz.func70, Tryz.ntmps70
  go_wp2
  go_loopw [9, 8] (fun kv lv wr => ∃ (k p : Nat) (A : Option Addr) (c : Nat), kv = .int .i64 p ∧ p ≤ E ∧ k ≤ q ∧ (k = q ∨ p < E) ∧ lv = .slice A k c ∧ Hid (p = i + 1 + sizes (ks.take k)) ∧ Hid (wr.ownsRow (w.heap.size + 1) 9 1 (.slice A k c) k ((txts 3 (ks.take k)).map fun x => .string (mkS x))) ∧ Hid (Below (w.heap.size + 1) (w.alloc (.cells #[.int .u8 3, .slice B cs m, .int .i64 q, .int .i64 least', .int .i64 most'] 52)) wr)) (fun kv _ _ => E - (intOf kv).toNat)
  case atStart => exact ⟨0, i + 1, none, 0, by go_num, by omega, by omega, .inr hE1, rfl, Lib.hid (by simp [sizes, flats]), Lib.hid (World.ownsRow_nil _ _ _ _), Lib.hid (Below.refl _ _)⟩
  case round =>
    obtain ⟨k, p, A, c, rfl, hpE, hk, hkp, rfl, HPP, HO, HB⟩ := hrel
    have HBA := Lib.hid (HW0.out.trans (HB.out.mono (by have := HBW.out.size; omega)))
    have HBX := Lib.hid ((Below.refl _ w).alloc (Nat.le_refl _) (.cells #[.int .u8 3, .slice B cs m, .int .i64 q, .int .i64 least', .int .i64 most'] 52) |>.trans (HB.out.mono (by omega)))
    have hwr : w.heap.size + 1 ≤ wr.heap.size := by have := HB.out.size; simpa using this
    have HWR := Lib.hid hwr
    obtain ⟨d1, d2, d3, d4⟩ := HE.out.cells HBA.out
    have d5 := HEI.out wr HBA.out
    have X0 : Hid (∀ W, Below (w.heap.size + 1) (w.alloc (.cells #[.int .u8 3, .slice B cs m, .int .i64 q, .int .i64 least', .int .i64 most'] 52)) W → W.cell? ⟨w.heap.size, 0, none⟩ = some (.int .u8 3)) := Lib.hid fun W hW => (hW.cell (p := ⟨w.heap.size, 0, none⟩) (by simp)).trans (World.cell?_alloc_new ..)
    have x0 := X0.out wr HB.out
    clear y0 y1 y2 y3 y4 y5 c1 c2 c3 c4
    by_cases hlt : k < q
    · have hpE2 : p < E := by omega
      obtain ⟨K, hKg⟩ : ∃ K, ks[k]? = some K := ⟨_, List.getElem?_eq_getElem (by rw [HQ.out]; exact hlt)⟩
      have HKG := Lib.hid hKg
      obtain ⟨hr0, hr1, hr2, hr3, hr4⟩ := HR.out k K hKg
      obtain ⟨p2, hp2⟩ : ∃ p2, i + 1 + sizes (ks.take (k + 1)) = p2 := ⟨_, rfl⟩
      rw [hp2] at hr0 hr2 hr3
      rw [HEE.out] at hr0
      rw [← HPP.out] at hr1 hr2 hr3 hr4
      have hpn : p < nt := by omega
      have hn2 : k + 1 = q ∨ p2 < E := by
        by_cases h : k + 1 = q
        · exact .inl h
        · obtain ⟨h0, _, _, h3, _⟩ := HR.out (k + 1) _ (List.getElem?_eq_getElem (show k + 1 < ks.length by rw [HQ.out]; omega))
          rw [HEE.out] at h0
          rw [hp2] at h3
          exact .inr (by omega)
      have hKok := HOK.out K (mem_of_get hKg)
      have hKz : K.size ≤ 64 := by have := sizes_mem (mem_of_get hKg); have := HZ.out; omega
      have hsub := txt_size hKok hKz
      have hkk := (Tr.root_one hKok).kinds
      have HTC := Lib.hid (hr4 wr HBA.out)
      have HEP := Lib.hid (fun W (hW : Below w0.heap.size w0 W) => HE.out.end_ hW hr2 (by rw [HT.out]; exact hpn))
      have HNP : Hid (∀ W, Below w0.heap.size w0 W → W.cell? ⟨b, off + p * 5, none⟩ = some (.int .u8 K.root.kind)) := Lib.hid fun W hW => by
        obtain ⟨kk, B', m', cs', l', many', least'', most'', H5k, _, _, _, hkd', _, _, _, HXk⟩ := (HE.out.at_.keep (Keep.of hW)).g52 HT hpn
        have hkr : K.root.kind = kk := by have := Option.some.inj (hr1.symm.trans HXk.out); rw [this]
        rw [hkr]
        exact H5k.c0
      have HTS := Lib.hid (txts_snoc (o := 3) hKg)
      have HP2 := Lib.hid hp2
      generalize K.root.kind = kk at *
      obtain ⟨bb, hbb⟩ : ∃ bb, inK 3 kk = bb := ⟨_, rfl⟩
      have HINC := Lib.hid (fun W => text_in kk 3 hkk (by decide) W)
      rw [hbb] at HINC HTS
      have Q1 : Hid (k + 1 ≤ maxLen) := Lib.hid (by simp only [maxLen]; omega)
      have Q2 : Hid ((k + 1) * 16 ≤ 140737488355328) := Lib.hid (by omega)
      have i1 : (0 : Int) ≤ (i : Int) := by omega
      have i2 : (i : Int) < (nt : Int) := by omega
      have i3 : (0 : Int) ≤ (p : Int) := by omega
      have i4 : (p : Int) < (nt : Int) := by omega
      clear hp2 hr1 hr2 hr4 hKg hKok hKz hbb hkk
      cases bb
      case' true => have HBR := Lib.hid (br_yes K.txt)
      case' false => have HBR : Hid (mkS (brS false K.txt) = mkS K.txt) := Lib.hid rfl
      all_goals
        generalize brS _ K.txt = bt at *
        generalize mkS K.txt = sub at *
        go_wp2_with (go_at_call 70; refine HTC.out.mono ?_; rintro e w1 ⟨rfl, hb1⟩; have B1 := Lib.hid (HB.out.trans (hb1.mono HWR.out)); have O1 := Lib.hid (ownsRow_below HO.out hb1); have A1 := Lib.hid (HBA.out.trans (hb1.mono HBA.out.size)); clear hb1; obtain ⟨e1, e2, e3, e4⟩ := HE.out.cells A1.out; have e5 := HNP.out _ A1.out; have e6 := X0.out _ B1.out)
        go_quiet ((go_at_call 69; with_reducible exact Calls.quiet_of_same (HINC.out _)))
        have OW := Lib.hid (fun (m : Nat) (s : ByteArray) => (ownsRow_drewN O1.out m).alloc (.cells #[.string s] 9))
        have BW := Lib.hid (fun (m : Nat) (s : ByteArray) => (below_drewN B1.out m).alloc (by have := (below_drewN B1.out m).size; simpa using this) (.cells #[.string s] 9))
        have SRC := Lib.hid (fun (m : Nat) (s : ByteArray) => Pv.Src.one (w := w1.drewN m) (x := .string s) (t := 9) rfl)
        have Q3 := Lib.hid (fun (m : Nat) (s : ByteArray) => show w.heap.size + 1 ≤ ((w1.drewN m).alloc (.cells #[.string s] 9)).heap.size by have := (BW.out m s).size; simpa using this)
        go_wp2_with (first
          | (at_builtin
             go_must (refine wpList_append_src _ rfl (.tmp 48) (.tmp 50) 120 rfl (w.heap.size + 1) 9 i0 (.string ⟨#[]⟩) 1 16 Tryz.underlying120 hi0 hz0 hs0 hb0 rfl (by decide) A c k _ rfl (OW.out _ _) _ 1 1 _ rfl (SRC.out _ _) Q1.out Q2.out (Q3.out _ _) ?_)
             intro A4 c4 w4 own4 gr4 _
             have hb4 := (BW.out _ _).grown gr4 (Q3.out _ _) (own_ge HO.out)
             have B4 := Lib.hid hb4; have O4 := Lib.hid own4
             have A4x := Lib.hid (HW0.out.trans (hb4.mono (by have := HBW.out.size; omega)))
             obtain ⟨f1, f2, f3, f4⟩ := HE.out.cells A4x.out
             have f5 := HEP.out _ A4x.out
             clear gr4 own4 hb4))
        go_roundw
        case rel => exact ⟨k + 1, p2, A4, c4, rfl, hr0, by omega, hn2, rfl, Lib.hid HP2.out.symm, Lib.hid (by rw [HTS.out, List.map_append]; have := O4.out; first | exact this | (rw [← HBR.out] at this; exact this)), B4⟩
        case measure => simp [intOf]; omega
    · obtain rfl : k = q := by omega
      have hpe : p = E := by rw [HPP.out, ← HEE.out, List.take_of_length_le (by rw [HQ.out]; omega)]
      subst hpe
      have hO := HO.out
      rw [List.take_of_length_le (by rw [HQ.out]; omega)] at hO
      have htl : (txts 3 ks).length = k := by rw [txts_map, List.length_map, HQ.out]
      obtain ⟨g, rfl, hg, hc, hcells⟩ := own_strs hO htl.symm hq0 (by rw [htl]; omega)
      have hjl : (Lib.join (txts 3 ks) (sepK 3)).length ≤ 281600 := by have h1 := preT_len (o := 3) (k := ks.length) HOK.out HZ.out; rwa [preT_all rfl, mkS_size] at h1
      have HJ := Tryz.strings_Join g 0 c ((txts 3 ks).map mkS) ⟨#[124]⟩ wr hcells hg (by rw [List.length_map, htl]; omega) (by rw [List.length_map, htl]; omega) (by rw [txt_join]; exact Nat.le_trans hjl (by omega))
      rw [txt_join, List.length_map, htl] at HJ
      have HJ := Lib.hid HJ
      clear hO htl hcells hjl
      go_wp2_with (go_at_call 72; refine HJ.out.mono ?_; rintro e w1 ⟨rfl, hb1⟩; have HB2 := Lib.hid hb1; clear hb1)
      go_ret
      refine ⟨?_, HBX.out.trans (HB2.out.mono HBX.out.size)⟩
      show Ending.returned (.string (mkS (Lib.join (txts 3 ks) (sepK 3)))) = _
      rw [HTX.out]

set_option maxHeartbeats 4000000 in
set_option maxRecDepth 100000 in
theorem tell_rep (w0 : World) (tA : Option Addr) (nt ct i q d pt pe pl pi eb : Nat) (t : List Rx) (least most : Int) (ks : List Tr) (hE : TellE w0 tA nt ct t pt pe pl pi eb) (HT : Hid (t.length = nt)) (hnt : nt ≤ 64) (HX : Hid (t[i]? = some ⟨4, [], q, least, most⟩)) (HQ : Hid (ks.length = q)) (hq : q ≤ 64) (hq0 : 0 < q)
    (HBH : Hid (behind t 16 i = some (i + 1 + sizes ks))) (HIN : Hid (i + 1 + sizes ks ≤ nt)) (HOK : Hid (∀ K, K ∈ ks → Tr.Ok d K)) (HZ : Hid (sizes ks ≤ 64)) (HR : Hid (∀ j K, ks[j]? = some K → i + 1 + sizes (ks.take (j + 1)) ≤ i + 1 + sizes ks ∧ t[i + 1 + sizes (ks.take j)]? = some K.root ∧ behind t 16 (i + 1 + sizes (ks.take j)) = some (i + 1 + sizes (ks.take (j + 1))) ∧ i + 1 + sizes (ks.take j) < i + 1 + sizes (ks.take (j + 1)) ∧ TellC w0 pt pe pl pi K (i + 1 + sizes (ks.take j))))
    (hq1 : q = 1) (hl : 0 ≤ least ∧ least ≤ 16 ∧ (most = -1 ∨ (least ≤ most ∧ most ≤ 16))) : TellC w0 pt pe pl pi (.mk ⟨4, [], q, least, most⟩ ks) i := by
  intro w hbw
  obtain ⟨i0, hi0, hz0, hs0, hb0⟩ := info_parts info_str
  have HTX0 := Lib.hid (congrArg mkS (txt_in (x := ⟨4, [], q, least, most⟩) (ks := ks) (by show (1 : Int) < 4; decide)))
  have HTX := Lib.hid (HTX0.out.trans (congrArg mkS (show _ = Lib.join (txts 4 ks) (sepK 4) ++ oftL least most by rw [if_pos rfl])))
  clear HTX0
  have hin : i < nt := by have := lt_of_get HX.out; rwa [HT.out] at this
  obtain ⟨b, off, kd, B, m, cs, l, many, least', most', rfl, H5, hs, HM, hm, hkd, hma, hle, hmo, HX'⟩ := (hE.at_.keep (Keep.of hbw)).g5 HT hin
  obtain ⟨e1, e2, e3, e4, e5⟩ := Rx.mk.inj (Option.some.inj (HX'.out.symm.trans HX.out))
  subst e1; subst e3; subst e4; subst e5
  obtain ⟨y0, y1, y2, y3, y4, y5⟩ := H5
  have HB0 := Lib.hid ((Below.refl _ w).alloc (Nat.le_refl _) (.cells #[.int .u8 4, .slice B cs m, .int .i64 q, .int .i64 least', .int .i64 most'] 52))
  have HW0 := Lib.hid (hbw.trans (HB0.out.mono hbw.size))
  obtain ⟨c1, c2, c3, c4⟩ := hE.cells hbw
  have HE := Lib.hid hE
  have HBW := Lib.hid hbw
  have hei : i < nt := hin
  have HEI := Lib.hid (fun W (hW : Below w0.heap.size w0 W) => hE.end_ hW HBH.out (by rw [HT.out]; exact hin))
  obtain ⟨E, hEE⟩ : ∃ E, i + 1 + sizes ks = E := ⟨_, rfl⟩
  have HEE := Lib.hid hEE
  have hEn : E ≤ nt := by rw [← hEE]; exact HIN.out
  have hE1 : i + 1 < E := by have h1 := length_sizes ks; have h2 := HQ.out; omega
  rw [hEE] at HEI
  clear hbw hs hE HX' hEE
  have HQ1 := Lib.hid hq1; have HLL := Lib.hid hl; clear hq1 hl
  go_enter Tryz.func70, Tryz.ntmps70
  go_wp2
  go_loopw [9, 8] (fun kv lv wr => ∃ (k p : Nat) (A : Option Addr) (c : Nat), kv = .int .i64 p ∧ p ≤ E ∧ k ≤ q ∧ (k = q ∨ p < E) ∧ lv = .slice A k c ∧ Hid (p = i + 1 + sizes (ks.take k)) ∧ Hid (wr.ownsRow (w.heap.size + 1) 9 1 (.slice A k c) k ((txts 4 (ks.take k)).map fun x => .string (mkS x))) ∧ Hid (Below (w.heap.size + 1) (w.alloc (.cells #[.int .u8 4, .slice B cs m, .int .i64 q, .int .i64 least', .int .i64 most'] 52)) wr)) (fun kv _ _ => E - (intOf kv).toNat)
  case atStart => exact ⟨0, i + 1, none, 0, by go_num, by omega, by omega, .inr hE1, rfl, Lib.hid (by simp [sizes, flats]), Lib.hid (World.ownsRow_nil _ _ _ _), Lib.hid (Below.refl _ _)⟩
  case round =>
    obtain ⟨k, p, A, c, rfl, hpE, hk, hkp, rfl, HPP, HO, HB⟩ := hrel
    have HBA := Lib.hid (HW0.out.trans (HB.out.mono (by have := HBW.out.size; omega)))
    have HBX := Lib.hid ((Below.refl _ w).alloc (Nat.le_refl _) (.cells #[.int .u8 4, .slice B cs m, .int .i64 q, .int .i64 least', .int .i64 most'] 52) |>.trans (HB.out.mono (by omega)))
    have hwr : w.heap.size + 1 ≤ wr.heap.size := by have := HB.out.size; simpa using this
    have HWR := Lib.hid hwr
    obtain ⟨d1, d2, d3, d4⟩ := HE.out.cells HBA.out
    have d5 := HEI.out wr HBA.out
    have X0 : Hid (∀ W, Below (w.heap.size + 1) (w.alloc (.cells #[.int .u8 4, .slice B cs m, .int .i64 q, .int .i64 least', .int .i64 most'] 52)) W → W.cell? ⟨w.heap.size, 0, none⟩ = some (.int .u8 4)) := Lib.hid fun W hW => (hW.cell (p := ⟨w.heap.size, 0, none⟩) (by simp)).trans (World.cell?_alloc_new ..)
    have x0 := X0.out wr HB.out
    clear y0 y1 y2 y3 y4 y5 c1 c2 c3 c4
    by_cases hlt : k < q
    · have hpE2 : p < E := by omega
      obtain ⟨K, hKg⟩ : ∃ K, ks[k]? = some K := ⟨_, List.getElem?_eq_getElem (by rw [HQ.out]; exact hlt)⟩
      have HKG := Lib.hid hKg
      obtain ⟨hr0, hr1, hr2, hr3, hr4⟩ := HR.out k K hKg
      obtain ⟨p2, hp2⟩ : ∃ p2, i + 1 + sizes (ks.take (k + 1)) = p2 := ⟨_, rfl⟩
      rw [hp2] at hr0 hr2 hr3
      rw [HEE.out] at hr0
      rw [← HPP.out] at hr1 hr2 hr3 hr4
      have hpn : p < nt := by omega
      have hn2 : k + 1 = q ∨ p2 < E := by
        by_cases h : k + 1 = q
        · exact .inl h
        · obtain ⟨h0, _, _, h3, _⟩ := HR.out (k + 1) _ (List.getElem?_eq_getElem (show k + 1 < ks.length by rw [HQ.out]; omega))
          rw [HEE.out] at h0
          rw [hp2] at h3
          exact .inr (by omega)
      have hKok := HOK.out K (mem_of_get hKg)
      have hKz : K.size ≤ 64 := by have := sizes_mem (mem_of_get hKg); have := HZ.out; omega
      have hsub := txt_size hKok hKz
      have hkk := (Tr.root_one hKok).kinds
      have HTC := Lib.hid (hr4 wr HBA.out)
      have HEP := Lib.hid (fun W (hW : Below w0.heap.size w0 W) => HE.out.end_ hW hr2 (by rw [HT.out]; exact hpn))
      have HNP : Hid (∀ W, Below w0.heap.size w0 W → W.cell? ⟨b, off + p * 5, none⟩ = some (.int .u8 K.root.kind)) := Lib.hid fun W hW => by
        obtain ⟨kk, B', m', cs', l', many', least'', most'', H5k, _, _, _, hkd', _, _, _, HXk⟩ := (HE.out.at_.keep (Keep.of hW)).g52 HT hpn
        have hkr : K.root.kind = kk := by have := Option.some.inj (hr1.symm.trans HXk.out); rw [this]
        rw [hkr]
        exact H5k.c0
      have HTS := Lib.hid (txts_snoc (o := 4) hKg)
      have HP2 := Lib.hid hp2
      generalize K.root.kind = kk at *
      obtain ⟨bb, hbb⟩ : ∃ bb, inK 4 kk = bb := ⟨_, rfl⟩
      have HINC := Lib.hid (fun W => text_in kk 4 hkk (by decide) W)
      rw [hbb] at HINC HTS
      have Q1 : Hid (k + 1 ≤ maxLen) := Lib.hid (by simp only [maxLen]; omega)
      have Q2 : Hid ((k + 1) * 16 ≤ 140737488355328) := Lib.hid (by omega)
      have i1 : (0 : Int) ≤ (i : Int) := by omega
      have i2 : (i : Int) < (nt : Int) := by omega
      have i3 : (0 : Int) ≤ (p : Int) := by omega
      have i4 : (p : Int) < (nt : Int) := by omega
      clear hp2 hr1 hr2 hr4 hKg hKok hKz hbb hkk
      cases bb
      case' true => have HBR := Lib.hid (br_yes K.txt)
      case' false => have HBR : Hid (mkS (brS false K.txt) = mkS K.txt) := Lib.hid rfl
      all_goals
        generalize brS _ K.txt = bt at *
        generalize mkS K.txt = sub at *
        go_wp2_with (go_at_call 70; refine HTC.out.mono ?_; rintro e w1 ⟨rfl, hb1⟩; have B1 := Lib.hid (HB.out.trans (hb1.mono HWR.out)); have O1 := Lib.hid (ownsRow_below HO.out hb1); have A1 := Lib.hid (HBA.out.trans (hb1.mono HBA.out.size)); clear hb1; obtain ⟨e1, e2, e3, e4⟩ := HE.out.cells A1.out; have e5 := HNP.out _ A1.out; have e6 := X0.out _ B1.out)
        go_quiet ((go_at_call 69; with_reducible exact Calls.quiet_of_same (HINC.out _)))
        have OW := Lib.hid (fun (m : Nat) (s : ByteArray) => (ownsRow_drewN O1.out m).alloc (.cells #[.string s] 9))
        have BW := Lib.hid (fun (m : Nat) (s : ByteArray) => (below_drewN B1.out m).alloc (by have := (below_drewN B1.out m).size; simpa using this) (.cells #[.string s] 9))
        have SRC := Lib.hid (fun (m : Nat) (s : ByteArray) => Pv.Src.one (w := w1.drewN m) (x := .string s) (t := 9) rfl)
        have Q3 := Lib.hid (fun (m : Nat) (s : ByteArray) => show w.heap.size + 1 ≤ ((w1.drewN m).alloc (.cells #[.string s] 9)).heap.size by have := (BW.out m s).size; simpa using this)
        go_wp2_with (first
          | (at_builtin
             go_must (refine wpList_append_src _ rfl (.tmp 48) (.tmp 50) 120 rfl (w.heap.size + 1) 9 i0 (.string ⟨#[]⟩) 1 16 Tryz.underlying120 hi0 hz0 hs0 hb0 rfl (by decide) A c k _ rfl (OW.out _ _) _ 1 1 _ rfl (SRC.out _ _) Q1.out Q2.out (Q3.out _ _) ?_)
             intro A4 c4 w4 own4 gr4 _
             have hb4 := (BW.out _ _).grown gr4 (Q3.out _ _) (own_ge HO.out)
             have B4 := Lib.hid hb4; have O4 := Lib.hid own4
             have A4x := Lib.hid (HW0.out.trans (hb4.mono (by have := HBW.out.size; omega)))
             obtain ⟨f1, f2, f3, f4⟩ := HE.out.cells A4x.out
             have f5 := HEP.out _ A4x.out
             clear gr4 own4 hb4))
        go_roundw
        case rel => exact ⟨k + 1, p2, A4, c4, rfl, hr0, by omega, hn2, rfl, Lib.hid HP2.out.symm, Lib.hid (by rw [HTS.out, List.map_append]; have := O4.out; first | exact this | (rw [← HBR.out] at this; exact this)), B4⟩
        case measure => simp [intOf]; omega
    · obtain rfl : k = q := by omega
      have hpe : p = E := by rw [HPP.out, ← HEE.out, List.take_of_length_le (by rw [HQ.out]; omega)]
      subst hpe
      have hO := HO.out
      rw [List.take_of_length_le (by rw [HQ.out]; omega)] at hO
      have htl : (txts 4 ks).length = k := by rw [txts_map, List.length_map, HQ.out]
      obtain ⟨g, rfl, hg, hc, hcells⟩ := own_strs hO htl.symm hq0 (by rw [htl]; omega)
      have hjl : (Lib.join (txts 4 ks) (sepK 4)).length ≤ 281600 := by have h1 := preT_len (o := 4) (k := ks.length) HOK.out HZ.out; rwa [preT_all rfl, mkS_size] at h1
      have h01 : k = 1 := HQ1.out
      have hl := HLL.out
      subst h01
      obtain ⟨x1, hx1⟩ : ∃ x, txts 4 ks = [x] := List.length_eq_one_iff.1 htl
      rw [hx1] at hcells hjl HTX
      have hcell : wr.cell? ⟨g, 0, none⟩ = some (.string (mkS x1)) := hcells 0 (mkS x1) rfl
      have HJ1 := Lib.hid (show Lib.join [x1] (sepK 4) = x1 from Lib.join_one _ _)
      rw [HJ1.out] at HTX hjl
      have hz1 : (mkS x1).size ≤ 281600 := by rw [mkS_size]; exact hjl
      have HO := Lib.hid (fun W (hW : Below wr.heap.size wr W) => pattern_often B cs m 1 least' most' W hl.1 hl.2.1 (by omega) (by omega) ((HE.out.tabs.next (HBA.out.trans (hW.mono HBA.out.size))).up (by have h1 := HBA.out.size; have h2 := hW.size; omega)))
      have hoz : (mkS (oftL least' most')).size ≤ 7 := by rw [mkS_size]; exact oftL_len _ _
      have HL := Lib.hid (mkS_app x1 (oftL least' most'))
      have X1 := (HB.out.cell (p := ⟨w.heap.size, 1, none⟩) (by simp)).trans (World.cell?_alloc_new ..)
      have X2 := (HB.out.cell (p := ⟨w.heap.size, 2, none⟩) (by simp)).trans (World.cell?_alloc_new ..)
      have X3 := (HB.out.cell (p := ⟨w.heap.size, 3, none⟩) (by simp)).trans (World.cell?_alloc_new ..)
      have X4 := (HB.out.cell (p := ⟨w.heap.size, 4, none⟩) (by simp)).trans (World.cell?_alloc_new ..)
      simp at X1 X2 X3 X4
      have hbw2 : w.heap.size < wr.heap.size := by omega
      clear hO htl hcells hjl hl hx1
      generalize mkS (oftL least' most') = so at *
      generalize mkS x1 = sx at *
      go_wp2
      refine wp_region_grown (by kernel_rfl) (by kernel_rfl) ?_
      have hgc__ := @Grown.cell
      repeat (go_big_quiet_step ((go_at_call 73; with_reducible refine callG (HO.out _ (Grown.be _)))))
      refine wpQuiet_nil ?_
      clear hgc__
      intro _ hw__
      obtain ⟨⟨w1, hb1⟩, hw__⟩ := hw__
      simp only at hw__
      subst hw__
      have HB2 := Lib.hid hb1
      clear hb1
      go_wp2
      go_ret
      refine ⟨?_, HBX.out.trans (HB2.out.mono HBX.out.size)⟩
      show Ending.returned (.string _) = _
      rw [HTX.out, HL.out]
end Go.Proofs.YtilhicefhhgecaaGreatDoor

namespace Go.Proofs.YtilhicefhhgecaaGreatDoor
open Go.RowKit Pv

set_option maxHeartbeats 1000000 in
set_option maxRecDepth 100000 in
theorem tell_leaf (w0 : World) (tA : Option Addr) (nt ct i pt pe pl pi eb : Nat) (t : List Rx) (x : Rx) (ks : List Tr) (hE : TellE w0 tA nt ct t pt pe pl pi eb) (HT : Hid (t.length = nt)) (hnt : nt ≤ 64) (hx : x.One) (hk : x.kind = 0 ∨ x.kind = 1) (HX : Hid (t[i]? = some x)) (HBH : Hid (behind t 16 i = some (i + 1))) : TellC w0 pt pe pl pi (.mk x ks) i := by
  intro w hbw
  have hin : i < nt := by have := lt_of_get HX.out; rwa [HT.out] at this
  obtain ⟨b, off, kd, B, m, cs, l, many, least', most', rfl, H5, hs, HM, hm, hkd, hma, hle, hmo, HX'⟩ := (hE.at_.keep (Keep.of hbw)).g5 HT hin
  obtain rfl := Option.some.inj (HX'.out.symm.trans HX.out)
  obtain ⟨y0, y1, y2, y3, y4, y5⟩ := H5
  simp only at hk
  obtain ⟨c1, c2, c3, c4⟩ := hE.cells hbw
  have c5 := hE.end_ hbw HBH.out (by rw [HT.out]; exact hin)
  rcases hk with rfl | rfl
  · have HTX := Lib.hid (congrArg mkS (txt_empty (x := ⟨0, l, many, least', most'⟩) (ks := ks) rfl))
    have HJ := Lib.hid (fun W => Tryz.strings_Join_none none 0 ⟨#[]⟩ W)
    rw [show ((i + 1 : Nat) : Int) = (i : Int) + 1 by omega] at c5
    have l2 := World.block_lt_of_cell? _ _ c2; have l5 := World.block_lt_of_cell? _ _ c5
    simp only at l2 l5
    have i1 : (0 : Int) ≤ (i : Int) := by omega
    have i2 : (i : Int) < (nt : Int) := by omega
    clear hx hs HX' HX hE hbw
    go_enter Tryz.func70, Tryz.ntmps70
    go_wp2
    go_loopw [9, 8] (fun kv lv wr => kv = .int .i64 (i + 1) ∧ lv = .slice none 0 0 ∧ wr = w.alloc (.cells #[.int .u8 0, .slice B cs m, .int .i64 many, .int .i64 least', .int .i64 most'] 52)) (fun _ _ _ => 0)
    case atStart => exact ⟨rfl, rfl, rfl⟩
    case round =>
      obtain ⟨rfl, rfl, rfl⟩ := hrel
      have z1 : decide ((i : Int) + 1 < (i : Int) + 1) = false := by simp
      go_wp2_with (go_at_call 72; refine (HJ.out _).mono ?_; rintro e w1 ⟨rfl, rfl⟩)
      go_ret
      exact ⟨by rw [HTX.out]; rfl, (by repeat (first | exact Below.refl _ _ | exact (Below.refl _ _).alloc (Nat.le_refl _) _ | apply below_drewN))⟩
  · have HTX := Lib.hid (congrArg mkS (txt_set (x := ⟨1, l, many, least', most'⟩) (ks := ks) rfl))
    have HOK : SetOk l := by rcases hx with h | h | h | h <;> first | exact h.2.1 | (simp only at h; omega)
    have HS := Lib.hid (fun W (k : Below w.heap.size w W) => pattern_set B m cs l W (hs.keep (Keep.of k)) HM HOK ((hE.tabs.next (hbw.trans (k.mono hbw.size))).up (by have h1 := hbw.size; have h2 := k.size; omega)))
    clear hx hs HX' HX HOK hE hbw
    go_enter Tryz.func70, Tryz.ntmps70
    go_wp2_with (go_at_call 71; refine (HS.out _ ((Below.refl _ w).alloc (Nat.le_refl _) _)).mono ?_; rintro e w1 ⟨rfl, hb1⟩; have HB1 := Lib.hid (((Below.refl _ w).alloc (Nat.le_refl _) _).trans (hb1.mono (by simp))); clear hb1)
    go_ret
    exact ⟨by show Ending.returned (.string (mkS (setL l))) = _; rw [HTX.out], HB1.out⟩

theorem sizes_succ {ks : List Tr} {j : Nat} {K : Tr} (h : ks[j]? = some K) : sizes (ks.take (j + 1)) = sizes (ks.take j) + K.size := by
  show (flats (ks.take (j + 1))).length = (flats (ks.take j)).length + K.flat.length
  rw [take_snoc h, flats_app, List.length_append]
  simp only [flats, List.append_nil]

theorem tell_all (w0 : World) (tA : Option Addr) (nt ct pt pe pl pi eb : Nat) (t : List Rx) (hE : TellE w0 tA nt ct t pt pe pl pi eb) (HT : Hid (t.length = nt)) (hnt : nt ≤ 64) : ∀ (d : Nat), d ≤ 16 → ∀ (T : Tr) (i : Nat) (r : List Rx), T.Ok d → t.drop i = T.flat ++ r → TellC w0 pt pe pl pi T i := by
  intro d
  induction d with
  | zero =>
    intro _ T i r h hd
    have hb := tree_behind (h.up (Nat.zero_le 16)) hd
    obtain ⟨x, ks⟩ := T
    obtain ⟨h1, h2, rfl⟩ := h
    refine tell_leaf w0 tA nt ct i pt pe pl pi eb t x [] hE HT hnt h1 ?_ (Lib.hid (drop_head hd).1) (Lib.hid hb)
    rcases h1 with h | h | h | h <;> omega
  | succ d ih =>
    intro hd16 T i r h hd
    have hb := tree_behind (h.up hd16) hd
    obtain ⟨x, ks⟩ := T
    have hx := h.1
    have hlen := h.2.1
    by_cases hk : x.kind = 0 ∨ x.kind = 1
    · have hm := Rx.many0 hx (by omega)
      have : ks = [] := List.eq_nil_of_length_eq_zero (by omega)
      subst this
      exact tell_leaf w0 tA nt ct i pt pe pl pi eb t x [] hE HT hnt hx hk (Lib.hid (drop_head hd).1) (Lib.hid hb)
    · obtain ⟨hg, hd2, hat, hz, hq, hr⟩ := kids_all hd h.2.2 (by omega) HT.out hnt
      have HR : ∀ j K, ks[j]? = some K → i + 1 + sizes (ks.take (j + 1)) ≤ i + 1 + sizes ks ∧ t[i + 1 + sizes (ks.take j)]? = some K.root ∧ behind t 16 (i + 1 + sizes (ks.take j)) = some (i + 1 + sizes (ks.take (j + 1))) ∧ i + 1 + sizes (ks.take j) < i + 1 + sizes (ks.take (j + 1)) ∧ TellC w0 pt pe pl pi K (i + 1 + sizes (ks.take j)) := fun j K hK => by
        obtain ⟨r', hr'⟩ := hr j K hK
        have hkk := h.2.2 K (mem_of_get hK)
        have h1 := tree_behind (hkk.up (show d ≤ 16 by omega)) hr'
        have h2 := sizes_succ hK
        have h3 := K.size_pos
        have h4 := sizes_take_le (ks := ks) (j + 1)
        exact ⟨by omega, root_at hr', by rw [h1, h2, Nat.add_assoc], by omega, ih (by omega) K _ r' hkk hr'⟩
      rw [Tr.size_mk] at hb
      have HB : Hid (behind t 16 i = some (i + 1 + sizes ks)) := Lib.hid (by rw [hb]; congr 1; omega)
      have HIN : Hid (i + 1 + sizes ks ≤ nt) := Lib.hid (by have h1 := (hat ks.length (Nat.le_refl _)).2; rwa [List.take_length] at h1)
      obtain ⟨kd, l, many, least, most⟩ := x
      simp only at hlen hk
      rcases hx with ⟨h1, _⟩ | ⟨h1, _⟩ | ⟨h1, h2, h3, h4, h5⟩ | ⟨h1, h2, h3, h4, h5, h6⟩
      · exact absurd (.inl h1) hk
      · exact absurd (.inr h1) hk
      · simp only at h1 h2 h5
        subst h2
        obtain rfl := hlen
        have h0 : 0 < ks.length := by omega
        rcases h1 with rfl | rfl
        · exact tell_cat w0 tA nt ct i ks.length d pt pe pl pi eb t least most ks hE HT hnt (Lib.hid hg) (Lib.hid rfl) hq h0 HB HIN (Lib.hid h.2.2) (Lib.hid hz) (Lib.hid HR)
        · exact tell_alt w0 tA nt ct i ks.length d pt pe pl pi eb t least most ks hE HT hnt (Lib.hid hg) (Lib.hid rfl) hq h0 HB HIN (Lib.hid h.2.2) (Lib.hid hz) (Lib.hid HR)
      · simp only at h1 h2 h3 h4 h5 h6
        subst h2; subst h1
        have h0 : ks.length = 1 := by omega
        obtain rfl := hlen
        exact tell_rep w0 tA nt ct i ks.length d pt pe pl pi eb t least most ks hE HT hnt (Lib.hid hg) (Lib.hid rfl) hq (by omega) HB HIN (Lib.hid h.2.2) (Lib.hid hz) (Lib.hid HR) h0 ⟨h4, h5, h6⟩

set_option maxHeartbeats 1000000 in
set_option maxRecDepth 100000 in
theorem pattern_Text (A : Option Addr) (c n : Nat) (t : List Rx) (w : World) (h : AtRx w A t) (HL : Hid (t.length = n)) (hT : TabsP w.heap.size w) :
    Calls Tryz.prog 31 #[.slice A n c] w fun e w' => e = .returned (.tuple #[.string (mkS (textL t)), .int .i64 (patE t)]) ∧ Below w.heap.size w w' := by
  have hl : n ≤ 140737488355328 := by have := h.1; rwa [HL.out] at this
  have hnil := fun (W : World) (a : Option Addr) (n c : Nat) => Lib.run_eql_slice_nil (P := Tryz.prog) W 22 3 a n c 0 0 Tryz.underlying22
  have HB0 := Lib.hid ((Below.refl _ w).alloc (Nat.le_refl _) (.cells #[.slice A n c] 29))
  by_cases hp : Pat t
  · have HE := Lib.hid (patE_yes hp)
    have HTX := Lib.hid (textL_yes hp)
    have hq := hp.2.1
    rw [HL.out] at hq
    obtain ⟨hk, hf⟩ := patT_is hp
    have HC := Lib.hid (pattern_behind_yes A c n t _ (h.keep (Keep.of HB0.out)) HL (Lib.hid hp))
    have HO := Lib.hid (fun (w0 : World) (pt pe pl pi eb : Nat) (hE : TellE w0 A n c t pt pe pl pi eb) => tell_all w0 A n c pt pe pl pi eb t hE HL hq 16 (Nat.le_refl _) (patT t) 0 [] hk (by rw [← hf]; simp))
    have HT := Lib.hid hT
    have HA := Lib.hid h
    clear h hp hk hf hT
    go_enter Tryz.func31, Tryz.ntmps31
    go_wp2_with (go_at_call 62; refine HC.out.mono ?_; rintro e w1 ⟨eb, rfl, hat, hb1⟩; have HAT := Lib.hid hat; have HB1 := Lib.hid (HB0.out.trans (hb1.mono HB0.out.size)); have HBX := Lib.hid hb1; clear hat hb1)
    have e1 : (w1.alloc (.cells #[.slice (some ⟨eb, 0, none⟩) n n] 22)).heap.size = w1.heap.size + 1 := by simp
    have e2 : ((w1.alloc (.cells #[.slice (some ⟨eb, 0, none⟩) n n] 22)).alloc (.cells #[.func (.func 69) #[] #[]] 117)).heap.size = w1.heap.size + 1 + 1 := by simp
    have HTE : Hid (TellE (((w1.alloc (.cells #[.slice (some ⟨eb, 0, none⟩) n n] 22)).alloc (.cells #[.func (.func 69) #[] #[]] 117)).alloc (.cells #[.func (.func 70) #[] #[.pointer (some ⟨w.heap.size, 0, none⟩), .pointer (some ⟨w1.heap.size, 0, none⟩), .pointer (some ⟨w1.heap.size + 1 + 1, 0, none⟩), .pointer (some ⟨w1.heap.size + 1, 0, none⟩)]] 118)) A n c t w.heap.size w1.heap.size (w1.heap.size + 1 + 1) (w1.heap.size + 1) eb) := Lib.hid (by
      have b1 := ((Blk.new w1 22 #[.slice (some ⟨eb, 0, none⟩) n n]).alloc (.cells #[.func (.func 69) #[] #[]] 117)).alloc (.cells #[.func (.func 70) #[] #[.pointer (some ⟨w.heap.size, 0, none⟩), .pointer (some ⟨w1.heap.size, 0, none⟩), .pointer (some ⟨w1.heap.size + 1 + 1, 0, none⟩), .pointer (some ⟨w1.heap.size + 1, 0, none⟩)]] 118)
      have b2 := (Blk.new (w1.alloc (.cells #[.slice (some ⟨eb, 0, none⟩) n n] 22)) 117 #[.func (.func 69) #[] #[]]).alloc (.cells #[.func (.func 70) #[] #[.pointer (some ⟨w.heap.size, 0, none⟩), .pointer (some ⟨w1.heap.size, 0, none⟩), .pointer (some ⟨w1.heap.size + 1 + 1, 0, none⟩), .pointer (some ⟨w1.heap.size + 1, 0, none⟩)]] 118)
      have b3 := Blk.new ((w1.alloc (.cells #[.slice (some ⟨eb, 0, none⟩) n n] 22)).alloc (.cells #[.func (.func 69) #[] #[]] 117)) 118 #[.func (.func 70) #[] #[.pointer (some ⟨w.heap.size, 0, none⟩), .pointer (some ⟨w1.heap.size, 0, none⟩), .pointer (some ⟨w1.heap.size + 1 + 1, 0, none⟩), .pointer (some ⟨w1.heap.size + 1, 0, none⟩)]]
      rw [e1] at b2
      rw [e2] at b3
      have K3 : Below w1.heap.size w1 _ := (((Below.refl w1.heap.size w1).alloc (Nat.le_refl _) (.cells #[.slice (some ⟨eb, 0, none⟩) n n] 22)).alloc (by simp) (.cells #[.func (.func 69) #[] #[]] 117)).alloc (by simp; omega) (.cells #[.func (.func 70) #[] #[.pointer (some ⟨w.heap.size, 0, none⟩), .pointer (some ⟨w1.heap.size, 0, none⟩), .pointer (some ⟨w1.heap.size + 1 + 1, 0, none⟩), .pointer (some ⟨w1.heap.size + 1, 0, none⟩)]] 118)
      have K4 := HB1.out.trans (K3.mono HB1.out.size)
      refine ⟨HA.out.keep (Keep.of K4), (HT.out.next K4).up K4.size, ?_, b1.cell 0, b3.cell 0, b2.cell 0, HAT.out.keep (Keep.of K3)⟩
      refine ((K3.cell (p := ⟨w.heap.size, 0, none⟩) (by have := HBX.out.size; simp at this ⊢; omega))).trans ((HBX.out.cell (p := ⟨w.heap.size, 0, none⟩) (by simp)).trans (World.cell?_alloc_new ..)))
    have HK4 : Hid (Below w.heap.size w (((w1.alloc (.cells #[.slice (some ⟨eb, 0, none⟩) n n] 22)).alloc (.cells #[.func (.func 69) #[] #[]] 117)).alloc (.cells #[.func (.func 70) #[] #[.pointer (some ⟨w.heap.size, 0, none⟩), .pointer (some ⟨w1.heap.size, 0, none⟩), .pointer (some ⟨w1.heap.size + 1 + 1, 0, none⟩), .pointer (some ⟨w1.heap.size + 1, 0, none⟩)]] 118))) := Lib.hid (HB1.out.trans (((((Below.refl w1.heap.size w1).alloc (Nat.le_refl _) (.cells #[.slice (some ⟨eb, 0, none⟩) n n] 22)).alloc (by simp) (.cells #[.func (.func 69) #[] #[]] 117)).alloc (by simp; omega) _).mono HB1.out.size))
    have HCALL := Lib.hid (HO.out _ _ _ _ _ _ HTE.out _ (Below.refl _ _))
    clear e1 e2 HTE
    refine HCALL.out.mono ?_
    rintro e w2 ⟨rfl, hb2⟩
    have HB2 := Lib.hid (HK4.out.trans (hb2.mono HK4.out.size))
    clear hb2
    go_wp2
    go_ret2
    exact ⟨by show Ending.returned (.tuple #[.string (mkS (patT t).txt), .int .i64 0]) = _; rw [HE.out, HTX.out], HB2.out⟩
  · have HE := Lib.hid (patE_no hp)
    have HTX := Lib.hid (textL_no hp)
    have HC := Lib.hid (pattern_behind_no A c n t _ (h.keep (Keep.of HB0.out)) HL (Lib.hid hp))
    clear h hp hT
    go_enter Tryz.func31, Tryz.ntmps31
    go_wp2_with (go_at_call 62; refine HC.out.mono ?_; rintro e w1 ⟨rfl, hb1⟩; have HB1 := Lib.hid (HB0.out.trans (hb1.mono HB0.out.size)); clear hb1)
    go_ret2
    exact ⟨by rw [HE.out, HTX.out]; rfl, HB1.out.alloc HB1.out.size _⟩
end Go.Proofs.YtilhicefhhgecaaGreatDoor
