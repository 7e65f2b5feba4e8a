/- Walks: the document's text of a node of nodes (genyj.py prints this). PUT1 -/
import Derived.Test.YtjnjbcigbnjmkaaDoorYi
import Derived.Test.YtjnjbcigbnjmkaaDoorRu
namespace Pv
open Go Go.RowKit
theorem join_snoc (l : List (List UInt8)) (x sep : List UInt8) (h : l ≠ []) : Lib.join (l ++ [x]) sep = Lib.join l sep ++ (sep ++ x) := by
  cases l with
  | nil => exact absurd rfl h
  | cons y l =>
    rw [List.cons_append, Lib.join_cons, Lib.join_cons]
    simp [Lib.joinTail]
/-- The text of a node's first nodes. -/
def preT (o : Int) (ks : List Tr) (k : Nat) : ByteArray := mkS (Lib.join (txts o (ks.take k)) (sepK o))
theorem preT_zero (o : Int) (ks : List Tr) : preT o ks 0 = ⟨#[]⟩ := rfl
theorem txts_snoc {o : Int} {ks : List Tr} {k : Nat} {K : Tr} (h : ks[k]? = some K) : txts o (ks.take (k + 1)) = txts o (ks.take k) ++ [brS (inK o K.root.kind) K.txt] := by
  rw [txts_map, txts_map, take_snoc h, List.map_append]; rfl
theorem preT_step {o : Int} {ks : List Tr} {k : Nat} {K : Tr} (h : ks[k]? = some K) (h0 : o ≠ 3 ∨ k = 0) : preT o ks k ++ mkS (brS (inK o K.root.kind) K.txt) = preT o ks (k + 1) := by
  unfold preT
  rw [txts_snoc h]
  by_cases h1 : txts o (ks.take k) = []
  · rw [h1, List.nil_append, Lib.join_one, Lib.join_nil]; exact (mkS_app _ _).symm.trans rfl
  · have h2 : o ≠ 3 := by
      rcases h0 with h0 | h0
      · exact h0
      · subst h0; exact absurd rfl h1
    rw [join_snoc _ _ _ h1, ← mkS_app]
    simp [sepK, h2]
theorem preT_bar {ks : List Tr} {k : Nat} {K : Tr} (h : ks[k]? = some K) (h0 : 0 < k) : preT 3 ks k ++ ⟨#[124]⟩ ++ mkS (brS (inK 3 K.root.kind) K.txt) = preT 3 ks (k + 1) := by
  unfold preT
  rw [txts_snoc h]
  have h1 : txts 3 (ks.take k) ≠ [] := by
    rw [txts_map]
    intro h2
    have h3 : (ks.take k).length = 0 := by have := congrArg List.length h2; simpa using this
    rw [List.length_take] at h3
    have := lt_of_get h
    omega
  rw [join_snoc _ _ _ h1, show (⟨#[124]⟩ : ByteArray) = mkS [124] from rfl, ← mkS_app, ← mkS_app]
  simp [sepK]
theorem br_yes (l : List UInt8) : mkS (brS true l) = (⟨#[40]⟩ : ByteArray) ++ mkS l ++ ⟨#[41]⟩ := by
  rw [show (⟨#[40]⟩ : ByteArray) = mkS [40] from rfl, show (⟨#[41]⟩ : ByteArray) = mkS [41] from rfl, ← mkS_app, ← mkS_app]
  rfl
theorem preT_all {o : Int} {ks : List Tr} {k : Nat} (h : k = ks.length) : preT o ks k = mkS (Lib.join (txts o ks) (sepK o)) := by
  unfold preT; rw [List.take_of_length_le (by omega)]
theorem preT_len {o : Int} {ks : List Tr} {d k : Nat} (h : ∀ K, K ∈ ks → Tr.Ok d K) (hz : sizes ks ≤ 64) : (preT o ks k).size ≤ 281600 := by
  unfold preT
  rw [mkS_size]
  have h1 := join_len (sepK o) (sepK_len _) (txts o (ks.take k))
  have h2 := txts_len o (ks.take k) d (fun K hK => h K (List.mem_of_mem_take hK))
  have h3 := sizes_take_le (ks := ks) k
  omega
theorem txt_size {T : Tr} {d : Nat} (h : T.Ok d) (hz : T.size ≤ 64) : (mkS T.txt).size ≤ 281600 := by
  rw [mkS_size]; have := T.txt_len d h; omega
theorem root_at {t : List Rx} {T : Tr} {i : Nat} {r : List Rx} (h : t.drop i = T.flat ++ r) : t[i]? = some T.root := by
  obtain ⟨x, ks⟩ := T
  exact (drop_head h).1
theorem Rx.One.kinds {x : Rx} (h : x.One) : x.kind = 0 ∨ x.kind = 1 ∨ x.kind = 2 ∨ x.kind = 3 ∨ x.kind = 4 := by
  rcases h with h | h | h | h <;> omega
theorem Tr.root_one {T : Tr} {d : Nat} (h : T.Ok d) : T.root.One := by obtain ⟨x, ks⟩ := T; exact h.one
end Pv
namespace Go.Proofs.YtjnjbcigbnjmkaaDoor
open Go.RowKit Pv

/-- What the document's Of does at a tree. -/
def OfC (w0 : World) (tA : Option Addr) (nt ct : Nat) (T : Tr) (i : Nat) : Prop :=
  ∀ W, Keep w0 W → Calls Tryd.prog 22 #[.slice tA nt ct, .int .i64 i] W fun e w' => e = .returned (.string (mkS T.txt)) ∧ Below W.heap.size W w'

set_option maxHeartbeats 4000000 in
set_option maxRecDepth 100000 in
theorem of_cat (w0 : World) (tA : Option Addr) (nt ct i q d : Nat) (t : List Rx) (least most : Int) (ks : List Tr) (ht : AtRx w0 tA t) (HT : Hid (t.length = nt)) (hnt : nt ≤ 64) (HX : Hid (t[i]? = some ⟨2, [], q, least, most⟩)) (HQ : Hid (ks.length = q)) (hq : q ≤ 64)
    (HAT : Hid (∀ j, j ≤ q → again (behind t 16) j (i + 1) = some (i + 1 + sizes (ks.take j)) ∧ i + 1 + sizes (ks.take j) ≤ nt)) (HOK : Hid (∀ K, K ∈ ks → Tr.Ok d K)) (HZ : Hid (sizes ks ≤ 64)) (HR : Hid (∀ j K, ks[j]? = some K → t[i + 1 + sizes (ks.take j)]? = some K.root ∧ OfC w0 tA nt ct K (i + 1 + sizes (ks.take j))))
     : OfC w0 tA nt ct (.mk ⟨2, [], q, least, most⟩ ks) i := by
  intro w kp
  have HTX0 := Lib.hid (congrArg mkS (txt_in (x := ⟨2, [], q, least, most⟩) (ks := ks) (by show (1 : Int) < 2; decide)))
  have HTX := Lib.hid (HTX0.out.trans (congrArg mkS (show _ = Lib.join (txts 2 ks) (sepK 2) by rw [if_neg (show ¬ ((2 : Int) = 4) by decide), List.append_nil])))
  clear HTX0
  have hin : i < nt := by have := lt_of_get HX.out; rwa [HT.out] at this
  obtain ⟨b, off, kd, B, m, cs, l, many, least', most', rfl, H5, hs, HM, hm, hkd, hma, hle, hmo, HX'⟩ := (ht.keep kp).g5 HT hin
  obtain ⟨e1, e2, e3, e4, e5⟩ := Rx.mk.inj (Option.some.inj (HX'.out.symm.trans HX.out))
  subst e1; subst e3; subst e4; subst e5
  have H5' := Lib.hid H5
  obtain ⟨y0, y1, y2, y3, y4, y5⟩ := H5
  have HB0 := Lib.hid ((Below.refl _ w).alloc (Nat.le_refl _) (.cells #[.int .u8 2, .slice B cs m, .int .i64 q, .int .i64 least', .int .i64 most'] 40))
  have HU := Lib.hid (ref07_Under _ ct nt i t _ _ (ht.keep (kp.trans (Keep.of HB0.out))) HT hnt HX (Lib.hid fun j hj => by simp only [Int.toNat_natCast] at hj; exact ⟨_, (HAT.out j hj).2, (HAT.out j hj).1⟩) ⟨by simp only; omega, by simp only; omega⟩)
  simp only [Int.toNat_natCast] at HU
  have KP := Lib.hid kp
  have HTT := Lib.hid ht
  clear kp hs ht HX'
  go_enter Tryd.func22, Tryd.ntmps22
  go_wp2_with (go_at_call 36; refine HU.out.mono ?_; rintro e w1 ⟨LB, lc, rfl, how, hb1⟩; have HOW := Lib.hid how; have HB1 := Lib.hid (HB0.out.trans (hb1.mono HB0.out.size)); have HBX := Lib.hid hb1; clear how hb1)
  have HC0 : Hid (w1.cell? ⟨w.heap.size, 0, none⟩ = some (.int .u8 2)) := Lib.hid ((HBX.out.cell (p := ⟨w.heap.size, 0, none⟩) (by simp)).trans (World.cell?_alloc_new ..))
  have hbw : w.heap.size < w1.heap.size := by have := HBX.out.size; simp at this; omega
  have HBW := Lib.hid hbw
  clear y0 y1 y2 y3 y4 y5 HU HBX hbw
  go_loopw [6, 8] (fun sv iv wr => ∃ (k : Nat) (s : ByteArray), iv = .int .i64 k ∧ k ≤ q ∧ sv = .string s ∧ s.size ≤ 281600 ∧ Hid (s = preT 2 ks k) ∧ Hid (Keep w1 wr) ∧ Hid (Below w.heap.size w wr)) (fun _ iv _ => q - (intOf iv).toNat)
  case atStart => exact ⟨0, _, rfl, by omega, rfl, by decide, Lib.hid rfl, Lib.hid (Keep.refl _), HB1⟩
  case round =>
    obtain ⟨k, s, rfl, hk, rfl, hs0, HP, HK, HB⟩ := hrel
    by_cases hlt : k < q
    · obtain ⟨K, hKg⟩ : ∃ K, ks[k]? = some K := ⟨_, List.getElem?_eq_getElem (by rw [HQ.out]; exact hlt)⟩
      have HKG := Lib.hid hKg
      obtain ⟨hr1, hr2⟩ := HR.out k K hKg
      have hpn := (HAT.out k (by omega)).2
      obtain ⟨g, rfl, hgl, hgc⟩ := own_get1 (k := k) (u := .int .i64 ((i + 1 + sizes (ks.take k) : Nat) : Int)) HOW.out (by rw [List.getElem?_map, starts_get1 hlt, (HAT.out k (by omega)).1]; rfl)
      have hKok := HOK.out K (mem_of_get hKg)
      have hKz : K.size ≤ 64 := by have := sizes_mem (mem_of_get hKg); have := HZ.out; omega
      have hsub := txt_size hKok hKz
      have hkk := (Tr.root_one hKok).kinds
      have HST := Lib.hid (preT_len (o := 2) (k := k + 1) HOK.out HZ.out)
      obtain ⟨p, hp⟩ : ∃ p, i + 1 + sizes (ks.take k) = p := ⟨_, rfl⟩
      rw [hp] at hr1 hr2 hpn hgc
      have hpl : p < nt := by have := lt_of_get hr1; rwa [HT.out] at this
      obtain ⟨kk, B', m', cs', l', many', least'', most'', H5k, _, _, _, hkd', _, _, _, HXk⟩ := (HTT.out.keep (KP.out.trans ((Keep.of HB1.out).trans HK.out))).g52 HT hpl
      have hkr : K.root.kind = kk := by have := Option.some.inj (hr1.symm.trans HXk.out); rw [this]
      have hz0 := H5k.lt
      have z0 := H5k.c0
      have z1 := (HK.out.cell _ _ hgl).trans hgc
      have z2 := (HK.out.cell _ _ HBW.out).trans HC0.out
      have HOF := Lib.hid (hr2 wr (KP.out.trans ((Keep.of HB1.out).trans HK.out)))
      have HSTEP := Lib.hid (fun h => preT_step (o := 2) HKG.out h)
      
      rw [hkr] at HSTEP hkk
      have i1 : (0 : Int) ≤ (k : Int) := by omega
      have i2 : (k : Int) < (q : Int) := by omega
      have i3 : (0 : Int) ≤ (p : Int) := by omega
      have i4 : (p : Int) < (nt : Int) := by omega
      clear hp hr1 hr2 hKg hKok hKz hgc H5k HXk hkr
      skip
      skip
      skip
      skip
      all_goals
        skip
        rcases hkk with rfl | rfl | rfl | rfl | rfl
        all_goals
          first
          | rw [show inK 2 _ = true from rfl, br_yes] at HSTEP
          | rw [show inK 2 _ = false from rfl, show brS false K.txt = K.txt from rfl] at HSTEP
          generalize mkS K.txt = sub at *
          go_wp2_with (go_at_call 22; refine HOF.out.mono ?_; rintro e w2 ⟨rfl, hb2⟩; have HB2 := Lib.hid hb2; clear hb2)
          go_roundw
          case rel =>
            have h2 := HST.out
            have h1 := HSTEP.out (by first | exact .inr rfl | exact .inl (by decide))
            exact ⟨k + 1, _, by go_num, by omega, rfl, by rw [HP.out, h1]; exact h2, Lib.hid (by rw [HP.out, h1]), Lib.hid (HK.out.trans (Keep.of HB2.out)), Lib.hid (HB.out.trans (HB2.out.mono HB.out.size))⟩
          case measure => simp [intOf]; omega
    · obtain rfl : k = q := by omega
      have HE := Lib.hid (preT_all (o := 2) HQ.out.symm)
      have z2 := (HK.out.cell _ _ HBW.out).trans HC0.out
      go_wp2
      go_ret
      refine ⟨?_, HB.out⟩
      show Ending.returned (.string _) = _
      rw [HTX.out, HP.out, HE.out]

set_option maxHeartbeats 4000000 in
set_option maxRecDepth 100000 in
theorem of_alt (w0 : World) (tA : Option Addr) (nt ct i q d : Nat) (t : List Rx) (least most : Int) (ks : List Tr) (ht : AtRx w0 tA t) (HT : Hid (t.length = nt)) (hnt : nt ≤ 64) (HX : Hid (t[i]? = some ⟨3, [], q, least, most⟩)) (HQ : Hid (ks.length = q)) (hq : q ≤ 64)
    (HAT : Hid (∀ j, j ≤ q → again (behind t 16) j (i + 1) = some (i + 1 + sizes (ks.take j)) ∧ i + 1 + sizes (ks.take j) ≤ nt)) (HOK : Hid (∀ K, K ∈ ks → Tr.Ok d K)) (HZ : Hid (sizes ks ≤ 64)) (HR : Hid (∀ j K, ks[j]? = some K → t[i + 1 + sizes (ks.take j)]? = some K.root ∧ OfC w0 tA nt ct K (i + 1 + sizes (ks.take j))))
     : OfC w0 tA nt ct (.mk ⟨3, [], q, least, most⟩ ks) i := by
  intro w kp
  have HTX0 := Lib.hid (congrArg mkS (txt_in (x := ⟨3, [], q, least, most⟩) (ks := ks) (by show (1 : Int) < 3; decide)))
  have HTX := Lib.hid (HTX0.out.trans (congrArg mkS (show _ = Lib.join (txts 3 ks) (sepK 3) by rw [if_neg (show ¬ ((3 : Int) = 4) by decide), List.append_nil])))
  clear HTX0
  have hin : i < nt := by have := lt_of_get HX.out; rwa [HT.out] at this
  obtain ⟨b, off, kd, B, m, cs, l, many, least', most', rfl, H5, hs, HM, hm, hkd, hma, hle, hmo, HX'⟩ := (ht.keep kp).g5 HT hin
  obtain ⟨e1, e2, e3, e4, e5⟩ := Rx.mk.inj (Option.some.inj (HX'.out.symm.trans HX.out))
  subst e1; subst e3; subst e4; subst e5
  have H5' := Lib.hid H5
  obtain ⟨y0, y1, y2, y3, y4, y5⟩ := H5
  have HB0 := Lib.hid ((Below.refl _ w).alloc (Nat.le_refl _) (.cells #[.int .u8 3, .slice B cs m, .int .i64 q, .int .i64 least', .int .i64 most'] 40))
  have HU := Lib.hid (ref07_Under _ ct nt i t _ _ (ht.keep (kp.trans (Keep.of HB0.out))) HT hnt HX (Lib.hid fun j hj => by simp only [Int.toNat_natCast] at hj; exact ⟨_, (HAT.out j hj).2, (HAT.out j hj).1⟩) ⟨by simp only; omega, by simp only; omega⟩)
  simp only [Int.toNat_natCast] at HU
  have KP := Lib.hid kp
  have HTT := Lib.hid ht
  clear kp hs ht HX'
  go_enter Tryd.func22, Tryd.ntmps22
  go_wp2_with (go_at_call 36; refine HU.out.mono ?_; rintro e w1 ⟨LB, lc, rfl, how, hb1⟩; have HOW := Lib.hid how; have HB1 := Lib.hid (HB0.out.trans (hb1.mono HB0.out.size)); have HBX := Lib.hid hb1; clear how hb1)
  have HC0 : Hid (w1.cell? ⟨w.heap.size, 0, none⟩ = some (.int .u8 3)) := Lib.hid ((HBX.out.cell (p := ⟨w.heap.size, 0, none⟩) (by simp)).trans (World.cell?_alloc_new ..))
  have hbw : w.heap.size < w1.heap.size := by have := HBX.out.size; simp at this; omega
  have HBW := Lib.hid hbw
  clear y0 y1 y2 y3 y4 y5 HU HBX hbw
  go_loopw [6, 8] (fun sv iv wr => ∃ (k : Nat) (s : ByteArray), iv = .int .i64 k ∧ k ≤ q ∧ sv = .string s ∧ s.size ≤ 281600 ∧ Hid (s = preT 3 ks k) ∧ Hid (Keep w1 wr) ∧ Hid (Below w.heap.size w wr)) (fun _ iv _ => q - (intOf iv).toNat)
  case atStart => exact ⟨0, _, rfl, by omega, rfl, by decide, Lib.hid rfl, Lib.hid (Keep.refl _), HB1⟩
  case round =>
    obtain ⟨k, s, rfl, hk, rfl, hs0, HP, HK, HB⟩ := hrel
    by_cases hlt : k < q
    · obtain ⟨K, hKg⟩ : ∃ K, ks[k]? = some K := ⟨_, List.getElem?_eq_getElem (by rw [HQ.out]; exact hlt)⟩
      have HKG := Lib.hid hKg
      obtain ⟨hr1, hr2⟩ := HR.out k K hKg
      have hpn := (HAT.out k (by omega)).2
      obtain ⟨g, rfl, hgl, hgc⟩ := own_get1 (k := k) (u := .int .i64 ((i + 1 + sizes (ks.take k) : Nat) : Int)) HOW.out (by rw [List.getElem?_map, starts_get1 hlt, (HAT.out k (by omega)).1]; rfl)
      have hKok := HOK.out K (mem_of_get hKg)
      have hKz : K.size ≤ 64 := by have := sizes_mem (mem_of_get hKg); have := HZ.out; omega
      have hsub := txt_size hKok hKz
      have hkk := (Tr.root_one hKok).kinds
      have HST := Lib.hid (preT_len (o := 3) (k := k + 1) HOK.out HZ.out)
      obtain ⟨p, hp⟩ : ∃ p, i + 1 + sizes (ks.take k) = p := ⟨_, rfl⟩
      rw [hp] at hr1 hr2 hpn hgc
      have hpl : p < nt := by have := lt_of_get hr1; rwa [HT.out] at this
      obtain ⟨kk, B', m', cs', l', many', least'', most'', H5k, _, _, _, hkd', _, _, _, HXk⟩ := (HTT.out.keep (KP.out.trans ((Keep.of HB1.out).trans HK.out))).g52 HT hpl
      have hkr : K.root.kind = kk := by have := Option.some.inj (hr1.symm.trans HXk.out); rw [this]
      have hz0 := H5k.lt
      have z0 := H5k.c0
      have z1 := (HK.out.cell _ _ hgl).trans hgc
      have z2 := (HK.out.cell _ _ HBW.out).trans HC0.out
      have HOF := Lib.hid (hr2 wr (KP.out.trans ((Keep.of HB1.out).trans HK.out)))
      have HSTEP := Lib.hid (fun h => preT_step (o := 3) HKG.out h)
      have HBAR := Lib.hid (fun h => preT_bar HKG.out h)
      rw [hkr] at HSTEP hkk HBAR
      have i1 : (0 : Int) ≤ (k : Int) := by omega
      have i2 : (k : Int) < (q : Int) := by omega
      have i3 : (0 : Int) ≤ (p : Int) := by omega
      have i4 : (p : Int) < (nt : Int) := by omega
      clear hp hr1 hr2 hKg hKok hKz hgc H5k HXk hkr
      by_cases hk0 : k = 0
      case' pos => have i5 : (k : Int) ≤ 0 := by omega
      skip
      case' neg => have i5 : (0 : Int) < (k : Int) := by omega
      all_goals
        clear hk0
        rcases hkk with rfl | rfl | rfl | rfl | rfl
        all_goals
          first
          | rw [show inK 3 _ = true from rfl, br_yes] at HSTEP HBAR
          | rw [show inK 3 _ = false from rfl, show brS false K.txt = K.txt from rfl] at HSTEP HBAR
          generalize mkS K.txt = sub at *
          go_wp2_with (go_at_call 22; refine HOF.out.mono ?_; rintro e w2 ⟨rfl, hb2⟩; have HB2 := Lib.hid hb2; clear hb2)
          go_roundw
          case rel =>
            have h2 := HST.out
            have h1 := (by first | exact HSTEP.out (.inr (by omega)) | exact HBAR.out (by omega))
            exact ⟨k + 1, _, by go_num, by omega, rfl, by rw [HP.out, h1]; exact h2, Lib.hid (by rw [HP.out, h1]), Lib.hid (HK.out.trans (Keep.of HB2.out)), Lib.hid (HB.out.trans (HB2.out.mono HB.out.size))⟩
          case measure => simp [intOf]; omega
    · obtain rfl : k = q := by omega
      have HE := Lib.hid (preT_all (o := 3) HQ.out.symm)
      have z2 := (HK.out.cell _ _ HBW.out).trans HC0.out
      go_wp2
      go_ret
      refine ⟨?_, HB.out⟩
      show Ending.returned (.string _) = _
      rw [HTX.out, HP.out, HE.out]

set_option maxHeartbeats 4000000 in
set_option maxRecDepth 100000 in
theorem of_rep (w0 : World) (tA : Option Addr) (nt ct i q d : Nat) (t : List Rx) (least most : Int) (ks : List Tr) (ht : AtRx w0 tA t) (HT : Hid (t.length = nt)) (hnt : nt ≤ 64) (HX : Hid (t[i]? = some ⟨4, [], q, least, most⟩)) (HQ : Hid (ks.length = q)) (hq : q ≤ 64)
    (HAT : Hid (∀ j, j ≤ q → again (behind t 16) j (i + 1) = some (i + 1 + sizes (ks.take j)) ∧ i + 1 + sizes (ks.take j) ≤ nt)) (HOK : Hid (∀ K, K ∈ ks → Tr.Ok d K)) (HZ : Hid (sizes ks ≤ 64)) (HR : Hid (∀ j K, ks[j]? = some K → t[i + 1 + sizes (ks.take j)]? = some K.root ∧ OfC w0 tA nt ct K (i + 1 + sizes (ks.take j))))
    (hl : 0 ≤ least ∧ least ≤ 16 ∧ (most = -1 ∨ (least ≤ most ∧ most ≤ 16))) : OfC w0 tA nt ct (.mk ⟨4, [], q, least, most⟩ ks) i := by
  intro w kp
  have HTX0 := Lib.hid (congrArg mkS (txt_in (x := ⟨4, [], q, least, most⟩) (ks := ks) (by show (1 : Int) < 4; decide)))
  have HTX := Lib.hid (HTX0.out.trans (congrArg mkS (show _ = Lib.join (txts 4 ks) (sepK 4) ++ oftL least most by rw [if_pos rfl])))
  clear HTX0
  have hin : i < nt := by have := lt_of_get HX.out; rwa [HT.out] at this
  obtain ⟨b, off, kd, B, m, cs, l, many, least', most', rfl, H5, hs, HM, hm, hkd, hma, hle, hmo, HX'⟩ := (ht.keep kp).g5 HT hin
  obtain ⟨e1, e2, e3, e4, e5⟩ := Rx.mk.inj (Option.some.inj (HX'.out.symm.trans HX.out))
  subst e1; subst e3; subst e4; subst e5
  have H5' := Lib.hid H5
  obtain ⟨y0, y1, y2, y3, y4, y5⟩ := H5
  have HB0 := Lib.hid ((Below.refl _ w).alloc (Nat.le_refl _) (.cells #[.int .u8 4, .slice B cs m, .int .i64 q, .int .i64 least', .int .i64 most'] 40))
  have HU := Lib.hid (ref07_Under _ ct nt i t _ _ (ht.keep (kp.trans (Keep.of HB0.out))) HT hnt HX (Lib.hid fun j hj => by simp only [Int.toNat_natCast] at hj; exact ⟨_, (HAT.out j hj).2, (HAT.out j hj).1⟩) ⟨by simp only; omega, by simp only; omega⟩)
  simp only [Int.toNat_natCast] at HU
  have KP := Lib.hid kp
  have HTT := Lib.hid ht
  clear kp hs ht HX'
  go_enter Tryd.func22, Tryd.ntmps22
  go_wp2_with (go_at_call 36; refine HU.out.mono ?_; rintro e w1 ⟨LB, lc, rfl, how, hb1⟩; have HOW := Lib.hid how; have HB1 := Lib.hid (HB0.out.trans (hb1.mono HB0.out.size)); have HBX := Lib.hid hb1; clear how hb1)
  have HC0 : Hid (w1.cell? ⟨w.heap.size, 0, none⟩ = some (.int .u8 4)) := Lib.hid ((HBX.out.cell (p := ⟨w.heap.size, 0, none⟩) (by simp)).trans (World.cell?_alloc_new ..))
  have HC1 : Hid (w1.cell? ⟨w.heap.size, 1, none⟩ = some (.slice B cs m)) := Lib.hid ((HBX.out.cell (p := ⟨w.heap.size, 1, none⟩) (by simp)).trans (World.cell?_alloc_new ..))
  have HC2 : Hid (w1.cell? ⟨w.heap.size, 2, none⟩ = some (.int .i64 q)) := Lib.hid ((HBX.out.cell (p := ⟨w.heap.size, 2, none⟩) (by simp)).trans (World.cell?_alloc_new ..))
  have HC3 : Hid (w1.cell? ⟨w.heap.size, 3, none⟩ = some (.int .i64 least')) := Lib.hid ((HBX.out.cell (p := ⟨w.heap.size, 3, none⟩) (by simp)).trans (World.cell?_alloc_new ..))
  have HC4 : Hid (w1.cell? ⟨w.heap.size, 4, none⟩ = some (.int .i64 most')) := Lib.hid ((HBX.out.cell (p := ⟨w.heap.size, 4, none⟩) (by simp)).trans (World.cell?_alloc_new ..))
  have hbw : w.heap.size < w1.heap.size := by have := HBX.out.size; simp at this; omega
  have HBW := Lib.hid hbw
  clear y0 y1 y2 y3 y4 y5 HU HBX hbw
  go_loopw [6, 8] (fun sv iv wr => ∃ (k : Nat) (s : ByteArray), iv = .int .i64 k ∧ k ≤ q ∧ sv = .string s ∧ s.size ≤ 281600 ∧ Hid (s = preT 4 ks k) ∧ Hid (Keep w1 wr) ∧ Hid (Below w.heap.size w wr)) (fun _ iv _ => q - (intOf iv).toNat)
  case atStart => exact ⟨0, _, rfl, by omega, rfl, by decide, Lib.hid rfl, Lib.hid (Keep.refl _), HB1⟩
  case round =>
    obtain ⟨k, s, rfl, hk, rfl, hs0, HP, HK, HB⟩ := hrel
    by_cases hlt : k < q
    · obtain ⟨K, hKg⟩ : ∃ K, ks[k]? = some K := ⟨_, List.getElem?_eq_getElem (by rw [HQ.out]; exact hlt)⟩
      have HKG := Lib.hid hKg
      obtain ⟨hr1, hr2⟩ := HR.out k K hKg
      have hpn := (HAT.out k (by omega)).2
      obtain ⟨g, rfl, hgl, hgc⟩ := own_get1 (k := k) (u := .int .i64 ((i + 1 + sizes (ks.take k) : Nat) : Int)) HOW.out (by rw [List.getElem?_map, starts_get1 hlt, (HAT.out k (by omega)).1]; rfl)
      have hKok := HOK.out K (mem_of_get hKg)
      have hKz : K.size ≤ 64 := by have := sizes_mem (mem_of_get hKg); have := HZ.out; omega
      have hsub := txt_size hKok hKz
      have hkk := (Tr.root_one hKok).kinds
      have HST := Lib.hid (preT_len (o := 4) (k := k + 1) HOK.out HZ.out)
      obtain ⟨p, hp⟩ : ∃ p, i + 1 + sizes (ks.take k) = p := ⟨_, rfl⟩
      rw [hp] at hr1 hr2 hpn hgc
      have hpl : p < nt := by have := lt_of_get hr1; rwa [HT.out] at this
      obtain ⟨kk, B', m', cs', l', many', least'', most'', H5k, _, _, _, hkd', _, _, _, HXk⟩ := (HTT.out.keep (KP.out.trans ((Keep.of HB1.out).trans HK.out))).g52 HT hpl
      have hkr : K.root.kind = kk := by have := Option.some.inj (hr1.symm.trans HXk.out); rw [this]
      have hz0 := H5k.lt
      have z0 := H5k.c0
      have z1 := (HK.out.cell _ _ hgl).trans hgc
      have z2 := (HK.out.cell _ _ HBW.out).trans HC0.out
      have HOF := Lib.hid (hr2 wr (KP.out.trans ((Keep.of HB1.out).trans HK.out)))
      have HSTEP := Lib.hid (fun h => preT_step (o := 4) HKG.out h)
      
      rw [hkr] at HSTEP hkk
      have i1 : (0 : Int) ≤ (k : Int) := by omega
      have i2 : (k : Int) < (q : Int) := by omega
      have i3 : (0 : Int) ≤ (p : Int) := by omega
      have i4 : (p : Int) < (nt : Int) := by omega
      clear hp hr1 hr2 hKg hKok hKz hgc H5k HXk hkr
      skip
      skip
      skip
      skip
      all_goals
        skip
        rcases hkk with rfl | rfl | rfl | rfl | rfl
        all_goals
          first
          | rw [show inK 4 _ = true from rfl, br_yes] at HSTEP
          | rw [show inK 4 _ = false from rfl, show brS false K.txt = K.txt from rfl] at HSTEP
          generalize mkS K.txt = sub at *
          go_wp2_with (go_at_call 22; refine HOF.out.mono ?_; rintro e w2 ⟨rfl, hb2⟩; have HB2 := Lib.hid hb2; clear hb2)
          go_roundw
          case rel =>
            have h2 := HST.out
            have h1 := HSTEP.out (by first | exact .inr rfl | exact .inl (by decide))
            exact ⟨k + 1, _, by go_num, by omega, rfl, by rw [HP.out, h1]; exact h2, Lib.hid (by rw [HP.out, h1]), Lib.hid (HK.out.trans (Keep.of HB2.out)), Lib.hid (HB.out.trans (HB2.out.mono HB.out.size))⟩
          case measure => simp [intOf]; omega
    · obtain rfl : k = q := by omega
      have HE := Lib.hid (preT_all (o := 4) HQ.out.symm)
      have z2 := (HK.out.cell _ _ HBW.out).trans HC0.out
      have z1 := (HK.out.cell _ _ HBW.out).trans HC1.out
      have z3 := (HK.out.cell _ _ HBW.out).trans HC2.out
      have z4 := (HK.out.cell _ _ HBW.out).trans HC3.out
      have z5 := (HK.out.cell _ _ HBW.out).trans HC4.out
      have HO := Lib.hid (ref07_often B cs m k least' most' wr hl.1 hl.2.1 (by omega) (by omega))
      have hoz : (mkS (oftL least' most')).size ≤ 7 := by rw [mkS_size]; exact oftL_len _ _
      have HL := Lib.hid (mkS_app (Lib.join (txts 4 ks) (sepK 4)) (oftL least' most'))
      clear hl
      generalize mkS (oftL least' most') = so at *
      go_wp2_with (go_at_call 37; refine HO.out.mono ?_; rintro e w2 ⟨rfl, hb2⟩; have HB2 := Lib.hid hb2; clear hb2)
      go_ret
      refine ⟨?_, HB.out.trans (HB2.out.mono HB.out.size)⟩
      show Ending.returned (.string _) = _
      rw [HTX.out, HP.out, HE.out, HL.out]
end Go.Proofs.YtjnjbcigbnjmkaaDoor
