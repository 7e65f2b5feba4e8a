/- Walks: a list's, an object's text (the program's). PUT1 -/
import Derived.Test.YtjbfkceficokbaaDoorLb
namespace Pv
open Go Go.RowKit
theorem kidsF_in {g : Nat → List UInt8 × Nat} {v : List Cl} {many : Int} {obj : Bool} {n i a : Nat} {acc : List UInt8} (h : (i : Int) < many) (h' : a < v.length) (hn : v.length - a ≤ n) (hg : a < (g a).2) :
    ∃ n', v.length - (g a).2 ≤ n' ∧ kidsF g v many obj n i a acc = kidsF g v many obj n' (i + 1) (g a).2 (acc ++ (sepL i ++ (preL v obj a ++ (g a).1))) := by
  obtain ⟨m, rfl⟩ : ∃ m, n = m + 1 := ⟨n - 1, by omega⟩
  exact ⟨m, by omega, by rw [kidsF, if_pos ⟨h, h'⟩]⟩
theorem kidsF_out {g : Nat → List UInt8 × Nat} {v : List Cl} {many : Int} {obj : Bool} {n i a : Nat} {acc : List UInt8} (h : ¬ ((i : Int) < many ∧ a < v.length)) : kidsF g v many obj n i a acc = (acc, a) := by
  cases n with
  | zero => rfl
  | succ n => rw [kidsF, if_neg h]
theorem sepL_0 : sepL 0 = [] := rfl
theorem sepL_s {i : Nat} (h : 0 < i) : sepL i = [44] := by unfold sepL; rw [if_neg (by omega)]
end Pv
namespace Go.Proofs.YtjbfkceficokbaaDoor
open Go.RowKit Pv

set_option maxHeartbeats 4000000 in
set_option maxRecDepth 100000 in
theorem value_list (w0 : World) (B b : Nat) (vA : Option Addr) (n c : Nat) (v : List Cl) (d : Nat) (hv : AtCl w0 vA v) (HL : Hid (v.length = n)) (hok : ClsOk v) (a : Nat) (x : Cl) (HX : Hid (v[a]? = some x)) (hk : x.kind = 6) (HIH : Hid (ValW w0 B b vA n c v d)) (W : World) (l : List UInt8) (han : a < n) (hd : n - a ≤ d + 1) (hE : WE w0 W B b l) (hl : l.length + 20000 * (n - a) ≤ 1000000000) :
    Calls Tryd.prog 13 #[.pointer (some ⟨b, 0, none⟩), .slice vA n c, .int .i64 a] W (WPost w0 W B b (l ++ (valC (valF v d) v a x).1) (.int .i64 (valC (valF v d) v a x).2)) := by
  have hn100 : n ≤ 100 := by have := hok.len; rwa [HL.out] at this
  obtain ⟨vb, off, k, m, t, z, q, rfl, hvb, ⟨x0, x1, x2, x3, x4⟩, hkk, hz, hq, HX'⟩ := AtCl.gt hv HL han
  obtain rfl := Option.some.inj (HX.out.symm.trans HX'.out)
  simp only at hk
  subst hk
  have y0 := (hE.kp.cell _ _ hvb).trans x0
  have y1 := (hE.kp.cell _ _ hvb).trans x1
  have y2 := (hE.kp.cell _ _ hvb).trans x2
  have y3 := (hE.kp.cell _ _ hvb).trans x3
  have y4 := (hE.kp.cell _ _ hvb).trans x4
  have hlt := Nat.lt_of_lt_of_le hvb hE.kp.size
  have hW : Below W.heap.size W (W.alloc (.cells #[.int .u8 6, .string m, .string t, .int .i64 z, .int .i64 q] TCell)) := (Below.refl _ _).alloc (Nat.le_refl _) _
  have E1 := Lib.hid (hE.next hW)
  have K1 := Lib.hid (WrK.of (T := TW) (e := T8) (B := B) (b := b) hW)
  have BX := Lib.hid (Blk.new W TCell #[.int .u8 6, .string m, .string t, .int .i64 z, .int .i64 q])
  have hbx : W.heap.size ≠ b := by have := hE.wr.lt; omega
  clear x0 x1 x2 x3 x4 hW hE
  obtain ⟨R, hR⟩ : ∃ R, kidsF (valF v d) v q false v.length 0 (a + 1) [] = R := ⟨_, rfl⟩
  have HV := Lib.hid (show valC (valF v d) v a ⟨6, m, t, z, q⟩ = (91 :: (R.1 ++ [93]), R.2) by rw [← hR]; unfold valC; simp)
  rw [HV.out]
  have HR := Lib.hid hR
  have HV2 := Lib.hid hv
  have HVB := Lib.hid (show ∀ a', a + 1 ≤ a' → a' < n → ValB v a' (valF v d a') from fun a' h1 h2 => valF_b hok d a' (by rw [HL.out]; exact h2) (by rw [HL.out]; omega))
  have HT : Hid (True ∧ True) := Lib.hid ⟨trivial, trivial⟩
  have HOK := Lib.hid hok
  have hll : l.length ≤ 1000000000 := by omega
  have HOP := Lib.hid (fun (W' : World) (h : WE w0 W' B b l) => show Calls Tryd.prog 9 #[.pointer (some ⟨b, 0, none⟩), .string (({ data := #[91, 93] } : ByteArray).extract 0 1)] W' (WPost w0 W' B b (l ++ [91]) (.tuple #[.int .i64 1, .nilIface])) from we_string h (({ data := #[91, 93] } : ByteArray).extract 0 1) [91] (by decide) (by show l.length + 1 ≤ _; omega))
  clear HV hR hv hok hkk hz
  go_enter Tryd.func13, Tryd.ntmps13
  go_wp2_with fail
  refine wp_region_T 5 (fun _ => True ∧ True) (by kernel_rfl) ?_
  refine wpAnyT_takeW (i := 0) (v := ?_) rfl (by decide) (by kernel_rfl) (by kernel_rfl) (by kernel_rfl) (fun _ _ _ h => h) (.inl ⟨rfl, ?_⟩) (fun _ => HT.out) ?_
  rotate_left
  · intro W__ _
    go_simp
    (try with_reducible rfl)
  try simp only [Act.put]
  refine wpAnyT_takeW (i := 3) (v := ?_) rfl (by decide) (by kernel_rfl) (by kernel_rfl) (by kernel_rfl) (fun _ _ _ h => h) (.inl ⟨rfl, ?_⟩) (fun _ => HT.out) ?_
  rotate_left
  · intro W__ _
    go_simp
    (try with_reducible rfl)
  try simp only [Act.put]
  refine wpAnyT_takeW (i := 1) (v := ?_) rfl (by decide) (by kernel_rfl) (by kernel_rfl) (by kernel_rfl) (fun _ _ _ h => h) (.inl ⟨rfl, ?_⟩) (fun _ => HT.out) ?_
  rotate_left
  · intro W__ _
    go_simp
    (try with_reducible rfl)
  try simp only [Act.put]
  refine wpAnyT_takeW (i := 4) (v := ?_) rfl (by decide) (by kernel_rfl) (by kernel_rfl) (by kernel_rfl) (fun _ _ _ h => h) (.inl ⟨rfl, ?_⟩) (fun _ => HT.out) ?_
  rotate_left
  · intro W__ _
    go_simp
    (try with_reducible rfl)
  try simp only [Act.put]
  refine wpAnyT_takeW (i := 2) (v := ?_) rfl (by decide) (by kernel_rfl) (by kernel_rfl) (by kernel_rfl) (fun _ _ _ h => h) (.inl ⟨rfl, ?_⟩) (fun _ => HT.out) ?_
  rotate_left
  · intro W__ _
    go_simp
    (try with_reducible rfl)
  try simp only [Act.put]
  refine wpAnyT_end (i := 5) rfl (by kernel_rfl) rfl (by kernel_rfl) fun K__ hK__ => ?_
  unfold Oper.wp
  go_simp
  refine (HOP.out _ (E1.out.next (Below.refl _ _).drew)).mono ?_
  rintro e w1 ⟨rfl, E2, K2⟩
  refine hK__ _ _ ?_
  have EE := Lib.hid E2; have KK := Lib.hid ((K1.out.trans (WrK.of (Below.refl _ _).drew)).trans K2)
  have BX2 := Lib.hid (K2.blk (show Blk (W.alloc (.cells #[.int .u8 6, .string m, .string t, .int .i64 z, .int .i64 q] TCell)).drew W.heap.size TCell _ from BX.out) (by decide) hbx)
  clear hK__ E2 K2 y0 y1 y2 y3 y4 hlt
  try simp only [Act.put]
  refine wpAnyT_done (by kernel_rfl) ?_ _
  go_wp2
  go_loopw [2, 10] (fun av iv wr => ∃ (i a' f : Nat) (acc : List UInt8), iv = .int .i64 i ∧ av = .int .i64 a' ∧ i + a + 1 ≤ a' ∧ a' ≤ n ∧ n - a' ≤ f ∧ kidsF (valF v d) v q false f i a' acc = R ∧ acc.length ≤ 20000 * (a' - (a + 1)) ∧ WE w0 wr B b (l ++ [91] ++ acc) ∧ WrK TW T8 B b W wr ∧ Blk wr W.heap.size TCell #[.int .u8 6, .string m, .string t, .int .i64 z, .int .i64 q]) (fun av _ _ => n - (intOf av).toNat)
  case atStart => exact ⟨0, a + 1, v.length, [], rfl, by go_num, by omega, by omega, by rw [HL.out]; omega, HR.out, by simp, by simpa using EE.out, KK.out, BX2.out⟩
  case round =>
    obtain ⟨i, a', f, acc, rfl, rfl, hia, han', hf, hkR, hacc, hE, hK, hB⟩ := hrel
    have E3 := Lib.hid hE; have K3 := Lib.hid hK; have B3 := Lib.hid hB; have HKR := Lib.hid hkR
    have b0 := B3.out.cell 0; have b4 := B3.out.cell 4
    have hblt := B3.out.lt
    simp at b0 b4
    clear hE hK hB hkR
    have hl1 : (l ++ [91] ++ acc).length ≤ 1000000000 := by simp only [List.length_append, List.length_cons, List.length_nil]; omega
    by_cases hin : (i : Int) < q ∧ a' < n
    · obtain ⟨hi, ha'⟩ := hin
      have HVB' := HVB.out a' (by omega) ha'
      obtain ⟨vb1, vb2, vb3⟩ := HVB'
      rw [HL.out] at vb2
      obtain ⟨f', hf', hst⟩ := kidsF_in (g := valF v d) (v := v) (many := q) (obj := false) (n := f) (i := i) (a := a') (acc := acc) hi (by rw [HL.out]; exact ha') (by rw [HL.out]; exact hf) vb1
      rw [HL.out] at hf'
      have HST := Lib.hid (hst.symm.trans HKR.out)
      have hsl := sepL_len i
      have hpl := preL_len HOK.out false a'
      have HREC := Lib.hid (fun (W' : World) (h : WE w0 W' B b (l ++ [91] ++ (acc ++ (sepL i ++ preL v false a')))) => HIH.out a' W' _ ha' (by omega) h (by simp only [List.length_append, List.length_cons, List.length_nil]; omega))
      clear hst
      obtain ⟨nx, hnx⟩ : ∃ nx, (valF v d a').2 = nx := ⟨_, rfl⟩
      rw [hnx] at HST vb1 vb2 vb3 hf' HREC
      obtain ⟨out', hout⟩ : ∃ o, (valF v d a').1 = o := ⟨_, rfl⟩
      rw [hout] at HST vb3 HREC
      clear hnx hout
      rcases Nat.eq_zero_or_pos i with hi0 | hi0
      · subst hi0
        rw [sepL_0, List.nil_append] at HREC HST
        have E4 := Lib.hid E3.out; have K4 := Lib.hid K3.out; have B4 := Lib.hid B3.out
        have E6 := Lib.hid (show WE w0 wr B b (l ++ [91] ++ (acc ++ (preL v false a'))) from by simpa [List.append_assoc, preL] using E4.out)
        have K6 := Lib.hid K4.out; have B6 := Lib.hid B4.out
        go_wp2_with fail
        refine (HREC.out _ E6.out).mono ?_
        rintro e w5 ⟨rfl, E', K'⟩
        have E7 := Lib.hid E'; have K7 := Lib.hid (K6.out.trans K'); have B7 := Lib.hid (K'.blk B6.out (by decide) hbx)
        clear E' K' b0 b4
        have b0 := B7.out.cell 0; have b4 := B7.out.cell 4
        have hblt7 := B7.out.lt
        simp at b0 b4
        go_wp2
        go_roundw
        case rel =>
          refine ⟨1, nx, f', _, by go_num, rfl, by omega, by omega, hf', HST.out, ?_, by simpa [List.append_assoc] using E7.out, K7.out, B7.out⟩
          simp only [List.length_append] at hpl ⊢; omega
        case measure => simp [intOf]; omega
      · have HS1 := Lib.hid (sepL_s hi0)
        have HBY := Lib.hid (we_byte E3.out 44 (by omega))
        rw [HS1.out] at HREC HST
        go_wp2_with fail
        refine HBY.out.mono ?_
        rintro e w2 ⟨rfl, E', K'⟩
        have E4 := Lib.hid E'; have K4 := Lib.hid (K3.out.trans K'); have B4 := Lib.hid (K'.blk B3.out (by decide) hbx)
        clear E' K' b0 b4
        have b0 := B4.out.cell 0; have b4 := B4.out.cell 4
        have hblt2 := B4.out.lt
        simp at b0 b4
        have E6 := Lib.hid (show WE w0 w2 B b (l ++ [91] ++ (acc ++ ([44] ++ preL v false a'))) from by simpa [List.append_assoc, preL] using E4.out)
        have K6 := Lib.hid K4.out; have B6 := Lib.hid B4.out
        go_wp2_with fail
        refine (HREC.out _ E6.out).mono ?_
        rintro e w5 ⟨rfl, E', K'⟩
        have E7 := Lib.hid E'; have K7 := Lib.hid (K6.out.trans K'); have B7 := Lib.hid (K'.blk B6.out (by decide) hbx)
        clear E' K' b0 b4
        have b0 := B7.out.cell 0; have b4 := B7.out.cell 4
        have hblt7 := B7.out.lt
        simp at b0 b4
        go_wp2
        go_roundw
        case rel =>
          refine ⟨i + 1, nx, f', _, by go_num, rfl, by omega, by omega, hf', HST.out, ?_, by simpa [List.append_assoc] using E7.out, K7.out, B7.out⟩
          simp only [List.length_append, List.length_cons, List.length_nil] at hpl ⊢; omega
        case measure => simp [intOf]; omega
    · have HRA := Lib.hid (show R = (acc, a') from HKR.out.symm.trans (kidsF_out (by rw [HL.out]; exact hin)))
      have HCL := Lib.hid (fun (W' : World) (h : WE w0 W' B b (l ++ [91] ++ acc)) => we_string h (({ data := #[91, 93] } : ByteArray).extract 1 2) [93] (by decide) (by show _ + 1 ≤ _; omega))
      have hcase : ((i : Int) < q ∧ ¬ a' < n) ∨ ¬ (i : Int) < q := by omega
      clear hin
      rcases hcase with ⟨hi, ha'⟩ | hi
      all_goals
        go_wp2_with fail
        refine wp_region_T 5 (fun _ => True ∧ True) (by kernel_rfl) ?_
        refine wpAnyT_takeW (i := 0) (v := ?_) rfl (by decide) (by kernel_rfl) (by kernel_rfl) (by kernel_rfl) (fun _ _ _ h => h) (.inl ⟨rfl, ?_⟩) (fun _ => HT.out) ?_
        rotate_left
        · intro W__ _
          go_simp
          (try with_reducible rfl)
        try simp only [Act.put]
        refine wpAnyT_takeW (i := 3) (v := ?_) rfl (by decide) (by kernel_rfl) (by kernel_rfl) (by kernel_rfl) (fun _ _ _ h => h) (.inl ⟨rfl, ?_⟩) (fun _ => HT.out) ?_
        rotate_left
        · intro W__ _
          go_simp
          (try with_reducible rfl)
        try simp only [Act.put]
        refine wpAnyT_takeW (i := 1) (v := ?_) rfl (by decide) (by kernel_rfl) (by kernel_rfl) (by kernel_rfl) (fun _ _ _ h => h) (.inl ⟨rfl, ?_⟩) (fun _ => HT.out) ?_
        rotate_left
        · intro W__ _
          go_simp
          (try with_reducible rfl)
        try simp only [Act.put]
        refine wpAnyT_takeW (i := 4) (v := ?_) rfl (by decide) (by kernel_rfl) (by kernel_rfl) (by kernel_rfl) (fun _ _ _ h => h) (.inl ⟨rfl, ?_⟩) (fun _ => HT.out) ?_
        rotate_left
        · intro W__ _
          go_simp
          (try with_reducible rfl)
        try simp only [Act.put]
        refine wpAnyT_takeW (i := 2) (v := ?_) rfl (by decide) (by kernel_rfl) (by kernel_rfl) (by kernel_rfl) (fun _ _ _ h => h) (.inl ⟨rfl, ?_⟩) (fun _ => HT.out) ?_
        rotate_left
        · intro W__ _
          go_simp
          (try with_reducible rfl)
        try simp only [Act.put]
        refine wpAnyT_end (i := 5) rfl (by kernel_rfl) rfl (by kernel_rfl) fun K__ hK__ => ?_
        unfold Oper.wp
        go_simp
        refine (HCL.out _ (E3.out.next (Below.refl _ _).drew)).mono ?_
        rintro e w2 ⟨rfl, E', K'⟩
        refine hK__ _ _ ?_
        have E4 := Lib.hid E'; have K4 := Lib.hid ((K3.out.trans (WrK.of (Below.refl _ _).drew)).trans K')
        clear hK__ E' K' b0 b4
        try simp only [Act.put]
        refine wpAnyT_done (by kernel_rfl) ?_ _
        go_wp2
        go_ret
        exact ⟨ret_int (by rw [HRA.out]), by rw [HRA.out]; simpa [List.append_assoc] using E4.out, K4.out⟩

set_option maxHeartbeats 4000000 in
set_option maxRecDepth 100000 in
theorem value_obj (w0 : World) (B b : Nat) (vA : Option Addr) (n c : Nat) (v : List Cl) (d : Nat) (hv : AtCl w0 vA v) (HL : Hid (v.length = n)) (hok : ClsOk v) (a : Nat) (x : Cl) (HX : Hid (v[a]? = some x)) (hk : x.kind = 7) (HIH : Hid (ValW w0 B b vA n c v d)) (W : World) (l : List UInt8) (han : a < n) (hd : n - a ≤ d + 1) (hE : WE w0 W B b l) (hl : l.length + 20000 * (n - a) ≤ 1000000000) :
    Calls Tryd.prog 13 #[.pointer (some ⟨b, 0, none⟩), .slice vA n c, .int .i64 a] W (WPost w0 W B b (l ++ (valC (valF v d) v a x).1) (.int .i64 (valC (valF v d) v a x).2)) := by
  have hn100 : n ≤ 100 := by have := hok.len; rwa [HL.out] at this
  obtain ⟨vb, off, k, m, t, z, q, rfl, hvb, ⟨x0, x1, x2, x3, x4⟩, hkk, hz, hq, HX'⟩ := AtCl.gt hv HL han
  obtain rfl := Option.some.inj (HX.out.symm.trans HX'.out)
  simp only at hk
  subst hk
  have y0 := (hE.kp.cell _ _ hvb).trans x0
  have y1 := (hE.kp.cell _ _ hvb).trans x1
  have y2 := (hE.kp.cell _ _ hvb).trans x2
  have y3 := (hE.kp.cell _ _ hvb).trans x3
  have y4 := (hE.kp.cell _ _ hvb).trans x4
  have hlt := Nat.lt_of_lt_of_le hvb hE.kp.size
  have hW : Below W.heap.size W (W.alloc (.cells #[.int .u8 7, .string m, .string t, .int .i64 z, .int .i64 q] TCell)) := (Below.refl _ _).alloc (Nat.le_refl _) _
  have E1 := Lib.hid (hE.next hW)
  have K1 := Lib.hid (WrK.of (T := TW) (e := T8) (B := B) (b := b) hW)
  have BX := Lib.hid (Blk.new W TCell #[.int .u8 7, .string m, .string t, .int .i64 z, .int .i64 q])
  have hbx : W.heap.size ≠ b := by have := hE.wr.lt; omega
  clear x0 x1 x2 x3 x4 hW hE
  obtain ⟨R, hR⟩ : ∃ R, kidsF (valF v d) v q true v.length 0 (a + 1) [] = R := ⟨_, rfl⟩
  have HV := Lib.hid (show valC (valF v d) v a ⟨7, m, t, z, q⟩ = (123 :: (R.1 ++ [125]), R.2) by rw [← hR]; unfold valC; simp)
  rw [HV.out]
  have HR := Lib.hid hR
  have HV2 := Lib.hid hv
  have HVB := Lib.hid (show ∀ a', a + 1 ≤ a' → a' < n → ValB v a' (valF v d a') from fun a' h1 h2 => valF_b hok d a' (by rw [HL.out]; exact h2) (by rw [HL.out]; omega))
  have HT : Hid (True ∧ True) := Lib.hid ⟨trivial, trivial⟩
  have HOK := Lib.hid hok
  have hll : l.length ≤ 1000000000 := by omega
  have HOP := Lib.hid (fun (W' : World) (h : WE w0 W' B b l) => show Calls Tryd.prog 9 #[.pointer (some ⟨b, 0, none⟩), .string (({ data := #[123, 125] } : ByteArray).extract 0 1)] W' (WPost w0 W' B b (l ++ [123]) (.tuple #[.int .i64 1, .nilIface])) from we_string h (({ data := #[123, 125] } : ByteArray).extract 0 1) [123] (by decide) (by show l.length + 1 ≤ _; omega))
  clear HV hR hv hok hkk hz
  go_enter Tryd.func13, Tryd.ntmps13
  go_wp2_with fail
  refine wp_region_T 5 (fun _ => True ∧ True) (by kernel_rfl) ?_
  refine wpAnyT_takeW (i := 0) (v := ?_) rfl (by decide) (by kernel_rfl) (by kernel_rfl) (by kernel_rfl) (fun _ _ _ h => h) (.inl ⟨rfl, ?_⟩) (fun _ => HT.out) ?_
  rotate_left
  · intro W__ _
    go_simp
    (try with_reducible rfl)
  try simp only [Act.put]
  refine wpAnyT_takeW (i := 3) (v := ?_) rfl (by decide) (by kernel_rfl) (by kernel_rfl) (by kernel_rfl) (fun _ _ _ h => h) (.inl ⟨rfl, ?_⟩) (fun _ => HT.out) ?_
  rotate_left
  · intro W__ _
    go_simp
    (try with_reducible rfl)
  try simp only [Act.put]
  refine wpAnyT_takeW (i := 1) (v := ?_) rfl (by decide) (by kernel_rfl) (by kernel_rfl) (by kernel_rfl) (fun _ _ _ h => h) (.inl ⟨rfl, ?_⟩) (fun _ => HT.out) ?_
  rotate_left
  · intro W__ _
    go_simp
    (try with_reducible rfl)
  try simp only [Act.put]
  refine wpAnyT_takeW (i := 4) (v := ?_) rfl (by decide) (by kernel_rfl) (by kernel_rfl) (by kernel_rfl) (fun _ _ _ h => h) (.inl ⟨rfl, ?_⟩) (fun _ => HT.out) ?_
  rotate_left
  · intro W__ _
    go_simp
    (try with_reducible rfl)
  try simp only [Act.put]
  refine wpAnyT_takeW (i := 2) (v := ?_) rfl (by decide) (by kernel_rfl) (by kernel_rfl) (by kernel_rfl) (fun _ _ _ h => h) (.inl ⟨rfl, ?_⟩) (fun _ => HT.out) ?_
  rotate_left
  · intro W__ _
    go_simp
    (try with_reducible rfl)
  try simp only [Act.put]
  refine wpAnyT_end (i := 5) rfl (by kernel_rfl) rfl (by kernel_rfl) fun K__ hK__ => ?_
  unfold Oper.wp
  go_simp
  refine (HOP.out _ (E1.out.next (Below.refl _ _).drew)).mono ?_
  rintro e w1 ⟨rfl, E2, K2⟩
  refine hK__ _ _ ?_
  have EE := Lib.hid E2; have KK := Lib.hid ((K1.out.trans (WrK.of (Below.refl _ _).drew)).trans K2)
  have BX2 := Lib.hid (K2.blk (show Blk (W.alloc (.cells #[.int .u8 7, .string m, .string t, .int .i64 z, .int .i64 q] TCell)).drew W.heap.size TCell _ from BX.out) (by decide) hbx)
  clear hK__ E2 K2 y0 y1 y2 y3 y4 hlt
  try simp only [Act.put]
  refine wpAnyT_done (by kernel_rfl) ?_ _
  go_wp2
  go_loopw [2, 10] (fun av iv wr => ∃ (i a' f : Nat) (acc : List UInt8), iv = .int .i64 i ∧ av = .int .i64 a' ∧ i + a + 1 ≤ a' ∧ a' ≤ n ∧ n - a' ≤ f ∧ kidsF (valF v d) v q true f i a' acc = R ∧ acc.length ≤ 20000 * (a' - (a + 1)) ∧ WE w0 wr B b (l ++ [123] ++ acc) ∧ WrK TW T8 B b W wr ∧ Blk wr W.heap.size TCell #[.int .u8 7, .string m, .string t, .int .i64 z, .int .i64 q]) (fun av _ _ => n - (intOf av).toNat)
  case atStart => exact ⟨0, a + 1, v.length, [], rfl, by go_num, by omega, by omega, by rw [HL.out]; omega, HR.out, by simp, by simpa using EE.out, KK.out, BX2.out⟩
  case round =>
    obtain ⟨i, a', f, acc, rfl, rfl, hia, han', hf, hkR, hacc, hE, hK, hB⟩ := hrel
    have E3 := Lib.hid hE; have K3 := Lib.hid hK; have B3 := Lib.hid hB; have HKR := Lib.hid hkR
    have b0 := B3.out.cell 0; have b4 := B3.out.cell 4
    have hblt := B3.out.lt
    simp at b0 b4
    clear hE hK hB hkR
    have hl1 : (l ++ [123] ++ acc).length ≤ 1000000000 := by simp only [List.length_append, List.length_cons, List.length_nil]; omega
    by_cases hin : (i : Int) < q ∧ a' < n
    · obtain ⟨hi, ha'⟩ := hin
      have HVB' := HVB.out a' (by omega) ha'
      obtain ⟨vb1, vb2, vb3⟩ := HVB'
      rw [HL.out] at vb2
      obtain ⟨f', hf', hst⟩ := kidsF_in (g := valF v d) (v := v) (many := q) (obj := true) (n := f) (i := i) (a := a') (acc := acc) hi (by rw [HL.out]; exact ha') (by rw [HL.out]; exact hf) vb1
      rw [HL.out] at hf'
      have HST := Lib.hid (hst.symm.trans HKR.out)
      have hsl := sepL_len i
      have hpl := preL_len HOK.out true a'
      have HREC := Lib.hid (fun (W' : World) (h : WE w0 W' B b (l ++ [123] ++ (acc ++ (sepL i ++ preL v true a')))) => HIH.out a' W' _ ha' (by omega) h (by simp only [List.length_append, List.length_cons, List.length_nil]; omega))
      clear hst
      obtain ⟨nx, hnx⟩ : ∃ nx, (valF v d a').2 = nx := ⟨_, rfl⟩
      rw [hnx] at HST vb1 vb2 vb3 hf' HREC
      obtain ⟨out', hout⟩ : ∃ o, (valF v d a').1 = o := ⟨_, rfl⟩
      rw [hout] at HST vb3 HREC
      clear hnx hout
      obtain ⟨vb', off', k', m', t', z', q', e', hvb', ⟨_, u1, _, _, _⟩, _, _, _, HX2⟩ := AtCl.gt HV2.out HL ha'
      simp only [Option.some.injEq, Addr.mk.injEq, and_true] at e'
      obtain ⟨rfl, rfl⟩ := e'
      have hm' : m'.size ≤ 300 := HOK.out.name a' _ HX2.out
      have HPL := Lib.hid (show preL v true a' = jq (bsl m') ++ [58] by unfold preL; rw [if_pos rfl, HX2.out]; rfl)
      have hJ := jq_len (bsl m')
      rw [bsl_len] at hJ
      have HQ := Lib.hid (fun (W' : World) (h : TabsB B W') => serve_quote m' W' B (by omega) h)
      have HWR := Lib.hid (fun (W' : World) (l' : List UInt8) (hl' : l'.length ≤ 1000000001) (h : WE w0 W' B b l') => we_string h (mkS (jq (bsl m')) ++ ({ data := #[58] } : ByteArray)) (jq (bsl m') ++ [58]) (by rw [bsl_app, bsl_mkS]) (by have h1 : (mkS (jq (bsl m')) ++ ({ data := #[58] } : ByteArray)).size = (jq (bsl m')).length + 1 := (by have h := bsl_len (mkS (jq (bsl m')) ++ ({ data := #[58] } : ByteArray)); rw [bsl_app, bsl_mkS, List.length_append] at h; exact h.symm); rw [h1]; omega))
      have hjs : (mkS (jq (bsl m'))).size ≤ 2000 := by rw [mkS_size]; omega
      rw [← HPL.out] at HWR
      generalize mkS (jq (bsl m')) = jm at *
      have hq58 : (9223372036854775807 < jm.size + 1) = False := eq_false (by omega)
      clear hJ u1
      have u1 := fun (W' : World) (h : Keep w0 W') => (AtK.keep HV2.out h)
      have HU := Lib.hid (fun (W' : World) (h : Keep w0 W') => show W'.cell? ⟨vb, off + a' * 5 + 1, none⟩ = some (.string m') from by
        obtain ⟨vb2, off2, k2, m2, t2, z2, q2, e2, _, ⟨_, u2, _, _, _⟩, _, _, _, HX3⟩ := AtCl.gt (AtK.keep HV2.out h) HL ha'
        simp only [Option.some.injEq, Addr.mk.injEq, and_true] at e2
        obtain ⟨rfl, rfl⟩ := e2
        have := Option.some.inj (HX3.out.symm.trans HX2.out)
        injection this with _ e3
        rw [← e3]; exact u2)
      have i1 : (0 : Int) ≤ (a' : Int) := by omega
      have i2 : (a' : Int) < (n : Int) := by omega
      clear u1
      rcases Nat.eq_zero_or_pos i with hi0 | hi0
      · subst hi0
        rw [sepL_0, List.nil_append] at HREC HST
        have E4 := Lib.hid E3.out; have K4 := Lib.hid K3.out; have B4 := Lib.hid B3.out
        have HS5 : Hid (wr.drew.cell? ⟨vb, off + a' * 5 + 1, none⟩ = some (.string m') ∧ True) := Lib.hid ⟨HU.out _ (E4.out.kp.trans (Keep.drew _)), trivial⟩
        have hvl := Nat.lt_of_lt_of_le hvb E4.out.kp.size
        go_wp2_with fail
        refine wp_region_T 8 (fun W' => W'.cell? ⟨vb, off + a' * 5 + 1, none⟩ = some (.string m') ∧ True) (by kernel_rfl) ?_
        refine wpAnyT_takeW (i := 0) (v := ?_) rfl (by decide) (by kernel_rfl) (by kernel_rfl) (by kernel_rfl) (fun _ _ _ h => h) (.inl ⟨rfl, ?_⟩) (fun _ => HS5.out) ?_
        rotate_left
        · intro W__ _
          go_simp
          (try with_reducible rfl)
        try simp only [Act.put]
        refine wpAnyT_takeW (i := 3) (v := ?_) rfl (by decide) (by kernel_rfl) (by kernel_rfl) (by kernel_rfl) (fun _ _ _ h => h) (.inl ⟨rfl, ?_⟩) (fun _ => HS5.out) ?_
        rotate_left
        · intro W__ _
          go_simp
          (try with_reducible rfl)
        try simp only [Act.put]
        refine wpAnyT_takeW (i := 4) (v := ?_) rfl (by decide) (by kernel_rfl) (by kernel_rfl) (by kernel_rfl) (fun _ _ _ h => h) (.inl ⟨rfl, ?_⟩) (fun _ => HS5.out) ?_
        rotate_left
        · intro W__ _
          go_simp
          (try with_reducible rfl)
        try simp only [Act.put]
        refine wpAnyT_takeW (i := 1) (v := ?_) rfl (by decide) (by kernel_rfl) (by kernel_rfl) (by kernel_rfl) (fun _ _ _ h => h) (.inl ⟨rfl, ?_⟩) (fun _ => HS5.out) ?_
        rotate_left
        · intro W__ _
          go_simp
          (try with_reducible rfl)
        try simp only [Act.put]
        refine wpAnyT_takeW (i := 5) (v := ?_) rfl (by decide) (by kernel_rfl) (by kernel_rfl) (by kernel_rfl) (fun _ _ _ h => h) (.inl ⟨rfl, ?_⟩) (fun _ => HS5.out) ?_
        rotate_left
        · intro W__ _
          go_simp
          (try with_reducible rfl)
        try simp only [Act.put]
        refine wpAnyT_takeW (i := 2) (v := ?_) rfl (by decide) (by kernel_rfl) (by kernel_rfl) (by kernel_rfl) (fun _ _ _ h => h) (.inl ⟨rfl, ?_⟩) (fun _ => HS5.out) ?_
        rotate_left
        · intro W__ _
          go_simp
          (try with_reducible rfl)
        try simp only [Act.put]
        refine wpAnyT_takeW (i := 6) (v := ?_) rfl (by decide) (by kernel_rfl) (by kernel_rfl) (by kernel_rfl) (fun _ _ _ h => h) (.inl ⟨rfl, ?_⟩) (fun _ => HS5.out) ?_
        rotate_left
        · intro W__ _
          go_simp
          (try with_reducible rfl)
        try simp only [Act.put]
        refine wpAnyT_take (i := 7) (v := ?_) rfl (by kernel_rfl) (by kernel_rfl) (by kernel_rfl) (by kernel_rfl) (by kernel_rfl) (fun _ _ _ h => h) (.inl ⟨rfl, ?_⟩) HS5.out ?_
        rotate_left
        · intro W__ hW__
          obtain ⟨g1, g2⟩ := hW__
          go_simp
          (try with_reducible rfl)
        try simp only [Act.put]
        refine wpAnyT_end (i := 8) rfl (by kernel_rfl) rfl (by kernel_rfl) fun K__ hK__ => ?_
        unfold Oper.wp
        go_simp
        refine (HQ.out _ (E4.out.next (Below.refl _ _).drew).tb).mono ?_
        rintro e w3 ⟨rfl, hb3⟩
        refine hK__ _ _ ?_
        have E5 := Lib.hid ((E4.out.next (Below.refl _ _).drew).next hb3)
        have K5 := Lib.hid ((K4.out.trans (WrK.of (Below.refl _ _).drew)).trans (WrK.of hb3))
        have B5 := Lib.hid ((show Blk wr.drew W.heap.size TCell _ from B4.out).below hb3 (show W.heap.size < wr.drew.heap.size from B4.out.lt))
        clear hK__ hb3
        try simp only [Act.put]
        refine wpAnyT_end (i := 9) rfl (by kernel_rfl) rfl (by kernel_rfl) fun K__ hK__ => ?_
        unfold Oper.wp
        go_simp
        refine hK__ _ _ ?_
        clear hK__
        refine wpAnyT_end (i := 10) rfl (by kernel_rfl) rfl (by kernel_rfl) fun K__ hK__ => ?_
        unfold Oper.wp
        go_simp
        refine (HWR.out _ (l ++ [123] ++ acc) (by simp only [List.length_append, List.length_cons, List.length_nil] at hl1 ⊢; omega) E5.out).mono ?_
        rintro e w4 ⟨rfl, E', K'⟩
        refine hK__ _ _ ?_
        have E6 := Lib.hid (show WE w0 w4 B b (l ++ [123] ++ (acc ++ (preL v true a'))) from by simpa [List.append_assoc] using E')
        have K6 := Lib.hid (K5.out.trans K'); have B6 := Lib.hid (K'.blk B5.out (by decide) hbx)
        clear hK__ E' K' b0 b4
        try simp only [Act.put]
        refine wpAnyT_done (by kernel_rfl) ?_ _
        have b0 := B6.out.cell 0; have b4 := B6.out.cell 4
        have hblt6 := B6.out.lt
        simp at b0 b4
        go_wp2_with fail
        refine (HREC.out _ E6.out).mono ?_
        rintro e w5 ⟨rfl, E', K'⟩
        have E7 := Lib.hid E'; have K7 := Lib.hid (K6.out.trans K'); have B7 := Lib.hid (K'.blk B6.out (by decide) hbx)
        clear E' K' b0 b4
        have b0 := B7.out.cell 0; have b4 := B7.out.cell 4
        have hblt7 := B7.out.lt
        simp at b0 b4
        go_wp2
        go_roundw
        case rel =>
          refine ⟨1, nx, f', _, by go_num, rfl, by omega, by omega, hf', HST.out, ?_, by simpa [List.append_assoc] using E7.out, K7.out, B7.out⟩
          simp only [List.length_append] at hpl ⊢; omega
        case measure => simp [intOf]; omega
      · have HS1 := Lib.hid (sepL_s hi0)
        have HBY := Lib.hid (we_byte E3.out 44 (by omega))
        rw [HS1.out] at HREC HST
        go_wp2_with fail
        refine HBY.out.mono ?_
        rintro e w2 ⟨rfl, E', K'⟩
        have E4 := Lib.hid E'; have K4 := Lib.hid (K3.out.trans K'); have B4 := Lib.hid (K'.blk B3.out (by decide) hbx)
        clear E' K' b0 b4
        have b0 := B4.out.cell 0; have b4 := B4.out.cell 4
        have hblt2 := B4.out.lt
        simp at b0 b4
        have HS5 : Hid (w2.drew.cell? ⟨vb, off + a' * 5 + 1, none⟩ = some (.string m') ∧ True) := Lib.hid ⟨HU.out _ (E4.out.kp.trans (Keep.drew _)), trivial⟩
        have hvl := Nat.lt_of_lt_of_le hvb E4.out.kp.size
        go_wp2_with fail
        refine wp_region_T 8 (fun W' => W'.cell? ⟨vb, off + a' * 5 + 1, none⟩ = some (.string m') ∧ True) (by kernel_rfl) ?_
        refine wpAnyT_takeW (i := 0) (v := ?_) rfl (by decide) (by kernel_rfl) (by kernel_rfl) (by kernel_rfl) (fun _ _ _ h => h) (.inl ⟨rfl, ?_⟩) (fun _ => HS5.out) ?_
        rotate_left
        · intro W__ _
          go_simp
          (try with_reducible rfl)
        try simp only [Act.put]
        refine wpAnyT_takeW (i := 3) (v := ?_) rfl (by decide) (by kernel_rfl) (by kernel_rfl) (by kernel_rfl) (fun _ _ _ h => h) (.inl ⟨rfl, ?_⟩) (fun _ => HS5.out) ?_
        rotate_left
        · intro W__ _
          go_simp
          (try with_reducible rfl)
        try simp only [Act.put]
        refine wpAnyT_takeW (i := 4) (v := ?_) rfl (by decide) (by kernel_rfl) (by kernel_rfl) (by kernel_rfl) (fun _ _ _ h => h) (.inl ⟨rfl, ?_⟩) (fun _ => HS5.out) ?_
        rotate_left
        · intro W__ _
          go_simp
          (try with_reducible rfl)
        try simp only [Act.put]
        refine wpAnyT_takeW (i := 1) (v := ?_) rfl (by decide) (by kernel_rfl) (by kernel_rfl) (by kernel_rfl) (fun _ _ _ h => h) (.inl ⟨rfl, ?_⟩) (fun _ => HS5.out) ?_
        rotate_left
        · intro W__ _
          go_simp
          (try with_reducible rfl)
        try simp only [Act.put]
        refine wpAnyT_takeW (i := 5) (v := ?_) rfl (by decide) (by kernel_rfl) (by kernel_rfl) (by kernel_rfl) (fun _ _ _ h => h) (.inl ⟨rfl, ?_⟩) (fun _ => HS5.out) ?_
        rotate_left
        · intro W__ _
          go_simp
          (try with_reducible rfl)
        try simp only [Act.put]
        refine wpAnyT_takeW (i := 2) (v := ?_) rfl (by decide) (by kernel_rfl) (by kernel_rfl) (by kernel_rfl) (fun _ _ _ h => h) (.inl ⟨rfl, ?_⟩) (fun _ => HS5.out) ?_
        rotate_left
        · intro W__ _
          go_simp
          (try with_reducible rfl)
        try simp only [Act.put]
        refine wpAnyT_takeW (i := 6) (v := ?_) rfl (by decide) (by kernel_rfl) (by kernel_rfl) (by kernel_rfl) (fun _ _ _ h => h) (.inl ⟨rfl, ?_⟩) (fun _ => HS5.out) ?_
        rotate_left
        · intro W__ _
          go_simp
          (try with_reducible rfl)
        try simp only [Act.put]
        refine wpAnyT_take (i := 7) (v := ?_) rfl (by kernel_rfl) (by kernel_rfl) (by kernel_rfl) (by kernel_rfl) (by kernel_rfl) (fun _ _ _ h => h) (.inl ⟨rfl, ?_⟩) HS5.out ?_
        rotate_left
        · intro W__ hW__
          obtain ⟨g1, g2⟩ := hW__
          go_simp
          (try with_reducible rfl)
        try simp only [Act.put]
        refine wpAnyT_end (i := 8) rfl (by kernel_rfl) rfl (by kernel_rfl) fun K__ hK__ => ?_
        unfold Oper.wp
        go_simp
        refine (HQ.out _ (E4.out.next (Below.refl _ _).drew).tb).mono ?_
        rintro e w3 ⟨rfl, hb3⟩
        refine hK__ _ _ ?_
        have E5 := Lib.hid ((E4.out.next (Below.refl _ _).drew).next hb3)
        have K5 := Lib.hid ((K4.out.trans (WrK.of (Below.refl _ _).drew)).trans (WrK.of hb3))
        have B5 := Lib.hid ((show Blk w2.drew W.heap.size TCell _ from B4.out).below hb3 (show W.heap.size < w2.drew.heap.size from B4.out.lt))
        clear hK__ hb3
        try simp only [Act.put]
        refine wpAnyT_end (i := 9) rfl (by kernel_rfl) rfl (by kernel_rfl) fun K__ hK__ => ?_
        unfold Oper.wp
        go_simp
        refine hK__ _ _ ?_
        clear hK__
        refine wpAnyT_end (i := 10) rfl (by kernel_rfl) rfl (by kernel_rfl) fun K__ hK__ => ?_
        unfold Oper.wp
        go_simp
        refine (HWR.out _ (l ++ [123] ++ acc ++ [44]) (by simp only [List.length_append, List.length_cons, List.length_nil] at hl1 ⊢; omega) E5.out).mono ?_
        rintro e w4 ⟨rfl, E', K'⟩
        refine hK__ _ _ ?_
        have E6 := Lib.hid (show WE w0 w4 B b (l ++ [123] ++ (acc ++ ([44] ++ preL v true a'))) from by simpa [List.append_assoc] using E')
        have K6 := Lib.hid (K5.out.trans K'); have B6 := Lib.hid (K'.blk B5.out (by decide) hbx)
        clear hK__ E' K' b0 b4
        try simp only [Act.put]
        refine wpAnyT_done (by kernel_rfl) ?_ _
        have b0 := B6.out.cell 0; have b4 := B6.out.cell 4
        have hblt6 := B6.out.lt
        simp at b0 b4
        go_wp2_with fail
        refine (HREC.out _ E6.out).mono ?_
        rintro e w5 ⟨rfl, E', K'⟩
        have E7 := Lib.hid E'; have K7 := Lib.hid (K6.out.trans K'); have B7 := Lib.hid (K'.blk B6.out (by decide) hbx)
        clear E' K' b0 b4
        have b0 := B7.out.cell 0; have b4 := B7.out.cell 4
        have hblt7 := B7.out.lt
        simp at b0 b4
        go_wp2
        go_roundw
        case rel =>
          refine ⟨i + 1, nx, f', _, by go_num, rfl, by omega, by omega, hf', HST.out, ?_, by simpa [List.append_assoc] using E7.out, K7.out, B7.out⟩
          simp only [List.length_append, List.length_cons, List.length_nil] at hpl ⊢; omega
        case measure => simp [intOf]; omega
    · have HRA := Lib.hid (show R = (acc, a') from HKR.out.symm.trans (kidsF_out (by rw [HL.out]; exact hin)))
      have HCL := Lib.hid (fun (W' : World) (h : WE w0 W' B b (l ++ [123] ++ acc)) => we_string h (({ data := #[123, 125] } : ByteArray).extract 1 2) [125] (by decide) (by show _ + 1 ≤ _; omega))
      have hcase : ((i : Int) < q ∧ ¬ a' < n) ∨ ¬ (i : Int) < q := by omega
      clear hin
      rcases hcase with ⟨hi, ha'⟩ | hi
      all_goals
        go_wp2_with fail
        refine wp_region_T 5 (fun _ => True ∧ True) (by kernel_rfl) ?_
        refine wpAnyT_takeW (i := 0) (v := ?_) rfl (by decide) (by kernel_rfl) (by kernel_rfl) (by kernel_rfl) (fun _ _ _ h => h) (.inl ⟨rfl, ?_⟩) (fun _ => HT.out) ?_
        rotate_left
        · intro W__ _
          go_simp
          (try with_reducible rfl)
        try simp only [Act.put]
        refine wpAnyT_takeW (i := 3) (v := ?_) rfl (by decide) (by kernel_rfl) (by kernel_rfl) (by kernel_rfl) (fun _ _ _ h => h) (.inl ⟨rfl, ?_⟩) (fun _ => HT.out) ?_
        rotate_left
        · intro W__ _
          go_simp
          (try with_reducible rfl)
        try simp only [Act.put]
        refine wpAnyT_takeW (i := 1) (v := ?_) rfl (by decide) (by kernel_rfl) (by kernel_rfl) (by kernel_rfl) (fun _ _ _ h => h) (.inl ⟨rfl, ?_⟩) (fun _ => HT.out) ?_
        rotate_left
        · intro W__ _
          go_simp
          (try with_reducible rfl)
        try simp only [Act.put]
        refine wpAnyT_takeW (i := 4) (v := ?_) rfl (by decide) (by kernel_rfl) (by kernel_rfl) (by kernel_rfl) (fun _ _ _ h => h) (.inl ⟨rfl, ?_⟩) (fun _ => HT.out) ?_
        rotate_left
        · intro W__ _
          go_simp
          (try with_reducible rfl)
        try simp only [Act.put]
        refine wpAnyT_takeW (i := 2) (v := ?_) rfl (by decide) (by kernel_rfl) (by kernel_rfl) (by kernel_rfl) (fun _ _ _ h => h) (.inl ⟨rfl, ?_⟩) (fun _ => HT.out) ?_
        rotate_left
        · intro W__ _
          go_simp
          (try with_reducible rfl)
        try simp only [Act.put]
        refine wpAnyT_end (i := 5) rfl (by kernel_rfl) rfl (by kernel_rfl) fun K__ hK__ => ?_
        unfold Oper.wp
        go_simp
        refine (HCL.out _ (E3.out.next (Below.refl _ _).drew)).mono ?_
        rintro e w2 ⟨rfl, E', K'⟩
        refine hK__ _ _ ?_
        have E4 := Lib.hid E'; have K4 := Lib.hid ((K3.out.trans (WrK.of (Below.refl _ _).drew)).trans K')
        clear hK__ E' K' b0 b4
        try simp only [Act.put]
        refine wpAnyT_done (by kernel_rfl) ?_ _
        go_wp2
        go_ret
        exact ⟨ret_int (by rw [HRA.out]), by rw [HRA.out]; simpa [List.append_assoc] using E4.out, K4.out⟩
end Go.Proofs.YtjbfkceficokbaaDoor
