/- Walks: a value's text: any (the program's); the document's. -/
import Derived.Test.YtjbfkceficokbaaDoorLc
namespace Pv
open Go Go.RowKit
theorem ret_sn {a b : ByteArray} {c d : Int} (h : a = b) (h' : c = d) : Ending.returned (.tuple #[.string a, .int .i64 c]) = Ending.returned (.tuple #[.string b, .int .i64 d]) := by rw [h, h']
theorem size_of_bsl {r : ByteArray} {l : List UInt8} (h : bsl r = l) : r.size = l.length := by rw [← h, bsl_len]
end Pv
namespace Go.Proofs.YtjbfkceficokbaaDoor
open Go.RowKit Pv

theorem value_all (w0 : World) (B b : Nat) (vA : Option Addr) (n c : Nat) (v : List Cl) (hv : AtCl w0 vA v) (HL : Hid (v.length = n)) (hok : ClsOk v) : ∀ d, ValW w0 B b vA n c v d
  | 0 => fun a W l ha hd _ _ => by omega
  | d + 1 => fun a W l ha hd hE hl => by
    obtain ⟨x, hx⟩ : ∃ x, v[a]? = some x := ⟨v[a]'(by rw [HL.out]; exact ha), List.getElem?_eq_getElem (by rw [HL.out]; exact ha)⟩
    rw [valF_step hx]
    by_cases h6 : x.kind = 6
    · exact value_list w0 B b vA n c v d hv HL hok a x (Lib.hid hx) h6 (Lib.hid (value_all w0 B b vA n c v hv HL hok d)) W l ha hd hE hl
    by_cases h7 : x.kind = 7
    · exact value_obj w0 B b vA n c v d hv HL hok a x (Lib.hid hx) h7 (Lib.hid (value_all w0 B b vA n c v hv HL hok d)) W l ha hd hE hl
    exact value_leaf w0 B b vA n c v _ hv HL hok a x (Lib.hid hx) (by omega) W l ha hE hl

/-- What the document's value does. -/
def ValD (w0 : World) (vA : Option Addr) (n c : Nat) (v : List Cl) (d : Nat) : Prop :=
  ∀ (a : Nat) (W : World), a < n → n - a ≤ d → Keep w0 W →
    Calls Tryd.prog 16 #[.slice vA n c, .int .i64 a] W fun e w' => e = .returned (.tuple #[.string (mkS (valF v d a).1), .int .i64 (valF v d a).2]) ∧ Below W.heap.size W w'

set_option maxHeartbeats 2000000 in
set_option maxRecDepth 100000 in
theorem refvalue_leaf (w0 : World) (vA : Option Addr) (n c : Nat) (v : List Cl) (g : Nat → List UInt8 × Nat) (hv : AtCl w0 vA v) (HL : Hid (v.length = n)) (hok : ClsOk v) (a : Nat) (x : Cl) (HX : Hid (v[a]? = some x)) (hk : x.kind < 6 ∨ 7 < x.kind) (W : World) (han : a < n) (kp : Keep w0 W) :
    Calls Tryd.prog 16 #[.slice vA n c, .int .i64 a] W fun e w' => e = .returned (.tuple #[.string (mkS (valC g v a x).1), .int .i64 (valC g v a x).2]) ∧ Below W.heap.size W w' := by
  have hn100 : n ≤ 100 := by have := hok.len; rwa [HL.out] at this
  obtain ⟨vb, off, k, m, t, z, q, rfl, hvb, ⟨x0, x1, x2, x3, x4⟩, hkk, hz, hq, HX'⟩ := AtCl.gt hv HL han
  obtain rfl := Option.some.inj (HX.out.symm.trans HX'.out)
  have ht : t.size ≤ 3000 := hok.text a _ HX.out
  simp only at hk
  have y0 := (kp.cell _ _ hvb).trans x0
  have y1 := (kp.cell _ _ hvb).trans x1
  have y2 := (kp.cell _ _ hvb).trans x2
  have y3 := (kp.cell _ _ hvb).trans x3
  have y4 := (kp.cell _ _ hvb).trans x4
  have hlt := Nat.lt_of_lt_of_le hvb kp.size
  have hW : Below W.heap.size W (W.alloc (.cells #[.int .u8 k, .string m, .string t, .int .i64 z, .int .i64 q] TCell)) := (Below.refl _ _).alloc (Nat.le_refl _) _
  have B1 := Lib.hid hW
  clear x0 x1 x2 x3 x4 hW kp
  by_cases h1 : k = 1
  · subst h1
    by_cases hz0 : z = 0
    · subst hz0
      have HR := Lib.hid (show valC g v a ⟨1, m, t, 0, q⟩ = ([102, 97, 108, 115, 101], a + 1) by unfold valC; simp)
      rw [HR.out]
      clear HR hkk hq hk hz
      go_enter Tryd.func16, Tryd.ntmps16
      go_wp2
      go_ret2
      exact ⟨ret_sn rfl (by go_num), B1.out⟩
    · have HR := Lib.hid (show valC g v a ⟨1, m, t, z, q⟩ = ([116, 114, 117, 101], a + 1) by unfold valC; simp [hz0])
      rw [HR.out]
      have q0 : (z != 0) = true := by simpa using hz0
      clear HR hkk hq hk hz hz0
      go_enter Tryd.func16, Tryd.ntmps16
      go_wp2
      go_ret2
      exact ⟨ret_sn rfl (by go_num), B1.out⟩
  by_cases h2 : k = 2
  · subst h2
    have HR := Lib.hid (show valC g v a ⟨2, m, t, z, q⟩ = (Lib.itoa z, a + 1) by unfold valC; simp)
    rw [HR.out]
    have HWR := Lib.hid (fun (W' : World) => ref02_Write z.natAbs z W' (Nat.le_refl _) hz.1 hz.2)
    generalize mkS (Lib.itoa z) = r at *
    clear HR hkk hq hk h1
    go_enter Tryd.func16, Tryd.ntmps16
    go_wp2_with fail
    refine (HWR.out _).mono ?_
    rintro e w1 ⟨rfl, rfl⟩
    go_wp2
    go_ret2
    exact ⟨ret_sn rfl (by go_num), B1.out⟩
  by_cases h3 : k = 3 ∨ k = 4
  · have HR := Lib.hid (show valC g v a ⟨k, m, t, z, q⟩ = (jq (bsl t), a + 1) by unfold valC; simp only; rw [if_neg h1, if_neg h2, if_pos h3])
    rw [HR.out]
    have HWR := Lib.hid (fun (W' : World) => ref31_quoted t W' (by omega))
    generalize mkS (jq (bsl t)) = r at *
    clear HR hkk hq hk h1 h2
    rcases h3 with rfl | rfl
    all_goals
      go_enter Tryd.func16, Tryd.ntmps16
      go_wp2_with fail
      refine (HWR.out _).mono ?_
      rintro e w1 ⟨rfl, hb1⟩
      have B2 := Lib.hid (B1.out.trans (hb1.mono B1.out.size))
      clear hb1
      go_wp2
      go_ret2
      exact ⟨ret_sn rfl (by go_num), B2.out⟩
  · have h6 : k ≠ 6 := by omega
    have h7 : k ≠ 7 := by omega
    have HR := Lib.hid (show valC g v a ⟨k, m, t, z, q⟩ = ([110, 117, 108, 108], a + 1) by unfold valC; simp only; rw [if_neg h1, if_neg h2, if_neg h3, if_neg h6, if_neg h7])
    rw [HR.out]
    have q1 : (k == 1) = false := by simpa using h1
    have q2 : (k == 2) = false := by simpa using h2
    have q3 : (k == 3) = false := by simp; omega
    have q4 : (k == 4) = false := by simp; omega
    have q6 : (k == 6) = false := by simpa using h6
    have q7 : (k == 7) = false := by simpa using h7
    clear HR hkk hq hk hz h1 h2 h3 h6 h7
    go_enter Tryd.func16, Tryd.ntmps16
    go_wp2
    go_ret2
    exact ⟨ret_sn rfl (by go_num), B1.out⟩

set_option maxHeartbeats 4000000 in
set_option maxRecDepth 100000 in
theorem refvalue_list (w0 : World) (vA : Option Addr) (n c : Nat) (v : List Cl) (d : Nat) (hv : AtCl w0 vA v) (HL : Hid (v.length = n)) (hok : ClsOk v) (a : Nat) (x : Cl) (HX : Hid (v[a]? = some x)) (hk : x.kind = 6) (HIH : Hid (ValD w0 vA n c v d)) (W : World) (han : a < n) (hd : n - a ≤ d + 1) (kp : Keep w0 W) :
    Calls Tryd.prog 16 #[.slice vA n c, .int .i64 a] W fun e w' => e = .returned (.tuple #[.string (mkS (valC (valF v d) v a x).1), .int .i64 (valC (valF v d) v a x).2]) ∧ Below W.heap.size W w' := by
  have hn100 : n ≤ 100 := by have := hok.len; rwa [HL.out] at this
  obtain ⟨vb, off, k, m, t, z, q, rfl, hvb, ⟨x0, x1, x2, x3, x4⟩, hkk, hz, hq, HX'⟩ := AtCl.gt hv HL han
  obtain rfl := Option.some.inj (HX.out.symm.trans HX'.out)
  simp only at hk
  subst hk
  have y0 := (kp.cell _ _ hvb).trans x0
  have y1 := (kp.cell _ _ hvb).trans x1
  have y2 := (kp.cell _ _ hvb).trans x2
  have y3 := (kp.cell _ _ hvb).trans x3
  have y4 := (kp.cell _ _ hvb).trans x4
  have hlt := Nat.lt_of_lt_of_le hvb kp.size
  have hW : Below W.heap.size W (W.alloc (.cells #[.int .u8 6, .string m, .string t, .int .i64 z, .int .i64 q] TCell)) := (Below.refl _ _).alloc (Nat.le_refl _) _
  have B1 := Lib.hid hW
  have BX := Lib.hid (Blk.new W TCell #[.int .u8 6, .string m, .string t, .int .i64 z, .int .i64 q])
  have KP := Lib.hid kp
  clear x0 x1 x2 x3 x4 hW kp
  obtain ⟨R, hR⟩ : ∃ R, kidsF (valF v d) v q false v.length 0 (a + 1) [] = R := ⟨_, rfl⟩
  have HV := Lib.hid (show valC (valF v d) v a ⟨6, m, t, z, q⟩ = (91 :: (R.1 ++ [93]), R.2) by rw [← hR]; unfold valC; simp)
  rw [HV.out]
  have HR := Lib.hid hR
  have HV2 := Lib.hid hv
  have HVB := Lib.hid (show ∀ a', a + 1 ≤ a' → a' < n → ValB v a' (valF v d a') from fun a' h1 h2 => valF_b hok d a' (by rw [HL.out]; exact h2) (by rw [HL.out]; omega))
  have HOK := Lib.hid hok
  clear HV hR hv hok hkk hz
  go_enter Tryd.func16, Tryd.ntmps16
  go_wp2_with fail
  go_loopw [1, 7, 8] (fun av sv iv wr => ∃ (i a' f : Nat) (acc : List UInt8) (r : ByteArray), iv = .int .i64 i ∧ av = .int .i64 a' ∧ sv = .string r ∧ bsl r = acc ∧ i + a + 1 ≤ a' ∧ a' ≤ n ∧ n - a' ≤ f ∧ kidsF (valF v d) v q false f i a' acc = R ∧ acc.length ≤ 20000 * (a' - (a + 1)) ∧ Below W.heap.size W wr ∧ Blk wr W.heap.size TCell #[.int .u8 6, .string m, .string t, .int .i64 z, .int .i64 q]) (fun av _ _ _ => n - (intOf av).toNat)
  case atStart => exact ⟨0, a + 1, v.length, [], { data := #[] }, rfl, by go_num, rfl, rfl, by omega, by omega, by rw [HL.out]; omega, HR.out, by simp, B1.out, BX.out⟩
  case round =>
    clear y0 y1 y2 y3 y4 hlt
    obtain ⟨i, a', f, acc, r, rfl, rfl, rfl, hrs, hia, han', hf, hkR, hacc, hB, hX⟩ := hrel
    have B2 := Lib.hid hB; have X2 := Lib.hid hX; have HKR := Lib.hid hkR; have HRS := Lib.hid hrs
    have hrsz := size_of_bsl hrs
    have hr1 : r.size ≤ 2000000 := by omega
    have b0 := X2.out.cell 0; have b4 := X2.out.cell 4
    have hblt := X2.out.lt
    simp at b0 b4
    clear hB hX hkR hrs hrsz
    by_cases hin : (i : Int) < q ∧ a' < n
    · obtain ⟨hi, ha'⟩ := hin
      have HVB' := HVB.out a' (by omega) ha'
      obtain ⟨vb1, vb2, vb3⟩ := HVB'
      rw [HL.out] at vb2
      obtain ⟨f', hf', hst⟩ := kidsF_in (g := valF v d) (v := v) (many := q) (obj := false) (n := f) (i := i) (a := a') (acc := acc) hi (by rw [HL.out]; exact ha') (by rw [HL.out]; exact hf) vb1
      rw [HL.out] at hf'
      have HST := Lib.hid (hst.symm.trans HKR.out)
      have hsl := sepL_len i
      have hpl := preL_len HOK.out false a'
      have HREC := Lib.hid (fun (W' : World) (h : Keep w0 W') => HIH.out a' W' ha' (by omega) h)
      clear hst
      obtain ⟨nx, hnx⟩ : ∃ nx, (valF v d a').2 = nx := ⟨_, rfl⟩
      rw [hnx] at HST vb1 vb2 vb3 hf' HREC
      obtain ⟨out', hout⟩ : ∃ o, (valF v d a').1 = o := ⟨_, rfl⟩
      rw [hout] at HST vb3 HREC
      have HOS := Lib.hid (bsl_mkS out')
      have hos := mkS_size out'
      have hos2 : (mkS out').size ≤ 2000000 := by omega
      generalize mkS out' = ox at *
      clear hnx hout hos
      rcases Nat.eq_zero_or_pos i with hi0 | hi0
      case' inl =>
        subst hi0
        have HSP := Lib.hid (show sepL 0 = [] from rfl)
      case' inr =>
        have HSP := Lib.hid (sepL_s hi0)
      all_goals
        have B3 := Lib.hid B2.out; have X3 := Lib.hid X2.out
        go_wp2_with fail
        refine (HREC.out _ (KP.out.trans (Keep.of (B3.out.mono (by first | exact Nat.le_refl _ | omega))))).mono ?_
        rintro e w5 ⟨rfl, hb5⟩
        have B5 := Lib.hid (B3.out.trans (hb5.mono B3.out.size)); have X5 := Lib.hid (X3.out.below hb5 X3.out.lt)
        clear hb5 b0 b4
        have b0 := X5.out.cell 0; have b4 := X5.out.cell 4
        have hblt5 := X5.out.lt
        simp at b0 b4
        go_wp2
        go_roundw
        case rel =>
          refine ⟨_, nx, f', _, _, by go_num, rfl, rfl, ?_, by omega, by omega, hf', HST.out, ?_, B5.out, X5.out⟩
          · simp only [bsl_app, HRS.out, HOS.out, HSP.out, preL, List.append_assoc, List.nil_append] <;> rfl
          · simp only [List.length_append] at hpl ⊢; omega
        case measure => simp [intOf]; omega
    · have HRA := Lib.hid (show R = (acc, a') from HKR.out.symm.trans (kidsF_out (by rw [HL.out]; exact hin)))
      have hcase : ((i : Int) < q ∧ ¬ a' < n) ∨ ¬ (i : Int) < q := by omega
      clear hin
      rcases hcase with ⟨hi, ha'⟩ | hi
      all_goals
        go_wp2
        go_ret2
        exact ⟨ret_sn (bsl_inj (by rw [HRA.out, bsl_mkS]; simp only [bsl_app, HRS.out]; rfl)) (by rw [HRA.out]), B2.out⟩

set_option maxHeartbeats 4000000 in
set_option maxRecDepth 100000 in
theorem refvalue_obj (w0 : World) (vA : Option Addr) (n c : Nat) (v : List Cl) (d : Nat) (hv : AtCl w0 vA v) (HL : Hid (v.length = n)) (hok : ClsOk v) (a : Nat) (x : Cl) (HX : Hid (v[a]? = some x)) (hk : x.kind = 7) (HIH : Hid (ValD w0 vA n c v d)) (W : World) (han : a < n) (hd : n - a ≤ d + 1) (kp : Keep w0 W) :
    Calls Tryd.prog 16 #[.slice vA n c, .int .i64 a] W fun e w' => e = .returned (.tuple #[.string (mkS (valC (valF v d) v a x).1), .int .i64 (valC (valF v d) v a x).2]) ∧ Below W.heap.size W w' := by
  have hn100 : n ≤ 100 := by have := hok.len; rwa [HL.out] at this
  obtain ⟨vb, off, k, m, t, z, q, rfl, hvb, ⟨x0, x1, x2, x3, x4⟩, hkk, hz, hq, HX'⟩ := AtCl.gt hv HL han
  obtain rfl := Option.some.inj (HX.out.symm.trans HX'.out)
  simp only at hk
  subst hk
  have y0 := (kp.cell _ _ hvb).trans x0
  have y1 := (kp.cell _ _ hvb).trans x1
  have y2 := (kp.cell _ _ hvb).trans x2
  have y3 := (kp.cell _ _ hvb).trans x3
  have y4 := (kp.cell _ _ hvb).trans x4
  have hlt := Nat.lt_of_lt_of_le hvb kp.size
  have hW : Below W.heap.size W (W.alloc (.cells #[.int .u8 7, .string m, .string t, .int .i64 z, .int .i64 q] TCell)) := (Below.refl _ _).alloc (Nat.le_refl _) _
  have B1 := Lib.hid hW
  have BX := Lib.hid (Blk.new W TCell #[.int .u8 7, .string m, .string t, .int .i64 z, .int .i64 q])
  have KP := Lib.hid kp
  clear x0 x1 x2 x3 x4 hW kp
  obtain ⟨R, hR⟩ : ∃ R, kidsF (valF v d) v q true v.length 0 (a + 1) [] = R := ⟨_, rfl⟩
  have HV := Lib.hid (show valC (valF v d) v a ⟨7, m, t, z, q⟩ = (123 :: (R.1 ++ [125]), R.2) by rw [← hR]; unfold valC; simp)
  rw [HV.out]
  have HR := Lib.hid hR
  have HV2 := Lib.hid hv
  have HVB := Lib.hid (show ∀ a', a + 1 ≤ a' → a' < n → ValB v a' (valF v d a') from fun a' h1 h2 => valF_b hok d a' (by rw [HL.out]; exact h2) (by rw [HL.out]; omega))
  have HOK := Lib.hid hok
  clear HV hR hv hok hkk hz
  go_enter Tryd.func16, Tryd.ntmps16
  go_wp2_with fail
  go_loopw [1, 7, 8] (fun av sv iv wr => ∃ (i a' f : Nat) (acc : List UInt8) (r : ByteArray), iv = .int .i64 i ∧ av = .int .i64 a' ∧ sv = .string r ∧ bsl r = acc ∧ i + a + 1 ≤ a' ∧ a' ≤ n ∧ n - a' ≤ f ∧ kidsF (valF v d) v q true f i a' acc = R ∧ acc.length ≤ 20000 * (a' - (a + 1)) ∧ Below W.heap.size W wr ∧ Blk wr W.heap.size TCell #[.int .u8 7, .string m, .string t, .int .i64 z, .int .i64 q]) (fun av _ _ _ => n - (intOf av).toNat)
  case atStart => exact ⟨0, a + 1, v.length, [], { data := #[] }, rfl, by go_num, rfl, rfl, by omega, by omega, by rw [HL.out]; omega, HR.out, by simp, B1.out, BX.out⟩
  case round =>
    clear y0 y1 y2 y3 y4 hlt
    obtain ⟨i, a', f, acc, r, rfl, rfl, rfl, hrs, hia, han', hf, hkR, hacc, hB, hX⟩ := hrel
    have B2 := Lib.hid hB; have X2 := Lib.hid hX; have HKR := Lib.hid hkR; have HRS := Lib.hid hrs
    have hrsz := size_of_bsl hrs
    have hr1 : r.size ≤ 2000000 := by omega
    have b0 := X2.out.cell 0; have b4 := X2.out.cell 4
    have hblt := X2.out.lt
    simp at b0 b4
    clear hB hX hkR hrs hrsz
    by_cases hin : (i : Int) < q ∧ a' < n
    · obtain ⟨hi, ha'⟩ := hin
      have HVB' := HVB.out a' (by omega) ha'
      obtain ⟨vb1, vb2, vb3⟩ := HVB'
      rw [HL.out] at vb2
      obtain ⟨f', hf', hst⟩ := kidsF_in (g := valF v d) (v := v) (many := q) (obj := true) (n := f) (i := i) (a := a') (acc := acc) hi (by rw [HL.out]; exact ha') (by rw [HL.out]; exact hf) vb1
      rw [HL.out] at hf'
      have HST := Lib.hid (hst.symm.trans HKR.out)
      have hsl := sepL_len i
      have hpl := preL_len HOK.out true a'
      have HREC := Lib.hid (fun (W' : World) (h : Keep w0 W') => HIH.out a' W' ha' (by omega) h)
      clear hst
      obtain ⟨nx, hnx⟩ : ∃ nx, (valF v d a').2 = nx := ⟨_, rfl⟩
      rw [hnx] at HST vb1 vb2 vb3 hf' HREC
      obtain ⟨out', hout⟩ : ∃ o, (valF v d a').1 = o := ⟨_, rfl⟩
      rw [hout] at HST vb3 HREC
      have HOS := Lib.hid (bsl_mkS out')
      have hos := mkS_size out'
      have hos2 : (mkS out').size ≤ 2000000 := by omega
      generalize mkS out' = ox at *
      clear hnx hout hos
      obtain ⟨vb', off', k', m', t', z', q', e', hvb', ⟨_, u1, _, _, _⟩, _, _, _, HX2⟩ := AtCl.gt HV2.out HL ha'
      simp only [Option.some.injEq, Addr.mk.injEq, and_true] at e'
      obtain ⟨rfl, rfl⟩ := e'
      have hm' : m'.size ≤ 300 := HOK.out.name a' _ HX2.out
      have HPL := Lib.hid (show preL v true a' = jq (bsl m') ++ [58] by unfold preL; rw [if_pos rfl, HX2.out]; rfl)
      have hJ := jq_len (bsl m')
      rw [bsl_len] at hJ
      have HQ := Lib.hid (fun (W' : World) => ref31_quoted m' W' (by omega))
      have HJM := Lib.hid (bsl_mkS (jq (bsl m')))
      have hjs : (mkS (jq (bsl m'))).size ≤ 2000 := by rw [mkS_size]; omega
      rw [← HJM.out] at HPL
      generalize mkS (jq (bsl m')) = jm at *
      have u2 := (B2.out.cell (p := ⟨vb, off + a' * 5 + 1, none⟩) (Nat.lt_of_lt_of_le hvb' KP.out.size)).trans ((KP.out.cell _ _ hvb').trans u1)
      have hvl : vb < wr.heap.size := Nat.lt_of_lt_of_le (Nat.lt_of_lt_of_le hvb' KP.out.size) B2.out.size
      have i1 : (0 : Int) ≤ (a' : Int) := by omega
      have i2 : (a' : Int) < (n : Int) := by omega
      clear u1 hJ
      rcases Nat.eq_zero_or_pos i with hi0 | hi0
      case' inl =>
        subst hi0
        have HSP := Lib.hid (show sepL 0 = [] from rfl)
      case' inr =>
        have HSP := Lib.hid (sepL_s hi0)
      all_goals
        go_wp2_with fail
        refine (HQ.out _).mono ?_
        rintro e w3 ⟨rfl, hb3⟩
        have B3 := Lib.hid (B2.out.trans (hb3.mono B2.out.size)); have X3 := Lib.hid (X2.out.below hb3 X2.out.lt)
        clear hb3 b0 b4 u2
        have b0 := X3.out.cell 0; have b4 := X3.out.cell 4
        have hblt3 := X3.out.lt
        simp at b0 b4
        go_wp2_with fail
        refine (HREC.out _ (KP.out.trans (Keep.of (B3.out.mono (by first | exact Nat.le_refl _ | omega))))).mono ?_
        rintro e w5 ⟨rfl, hb5⟩
        have B5 := Lib.hid (B3.out.trans (hb5.mono B3.out.size)); have X5 := Lib.hid (X3.out.below hb5 X3.out.lt)
        clear hb5 b0 b4
        have b0 := X5.out.cell 0; have b4 := X5.out.cell 4
        have hblt5 := X5.out.lt
        simp at b0 b4
        go_wp2
        go_roundw
        case rel =>
          refine ⟨_, nx, f', _, _, by go_num, rfl, rfl, ?_, by omega, by omega, hf', HST.out, ?_, B5.out, X5.out⟩
          · simp only [bsl_app, HRS.out, HOS.out, HSP.out, HPL.out, List.append_assoc, List.nil_append] <;> rfl
          · simp only [List.length_append] at hpl ⊢; omega
        case measure => simp [intOf]; omega
    · have HRA := Lib.hid (show R = (acc, a') from HKR.out.symm.trans (kidsF_out (by rw [HL.out]; exact hin)))
      have hcase : ((i : Int) < q ∧ ¬ a' < n) ∨ ¬ (i : Int) < q := by omega
      clear hin
      rcases hcase with ⟨hi, ha'⟩ | hi
      all_goals
        go_wp2
        go_ret2
        exact ⟨ret_sn (bsl_inj (by rw [HRA.out, bsl_mkS]; simp only [bsl_app, HRS.out]; rfl)) (by rw [HRA.out]), B2.out⟩

theorem refvalue_all (w0 : World) (vA : Option Addr) (n c : Nat) (v : List Cl) (hv : AtCl w0 vA v) (HL : Hid (v.length = n)) (hok : ClsOk v) : ∀ d, ValD w0 vA n c v d
  | 0 => fun a W ha hd _ => by omega
  | d + 1 => fun a W ha hd hE => by
    obtain ⟨x, hx⟩ : ∃ x, v[a]? = some x := ⟨v[a]'(by rw [HL.out]; exact ha), List.getElem?_eq_getElem (by rw [HL.out]; exact ha)⟩
    rw [valF_step hx]
    by_cases h6 : x.kind = 6
    · exact refvalue_list w0 vA n c v d hv HL hok a x (Lib.hid hx) h6 (Lib.hid (refvalue_all w0 vA n c v hv HL hok d)) W ha hd hE
    by_cases h7 : x.kind = 7
    · exact refvalue_obj w0 vA n c v d hv HL hok a x (Lib.hid hx) h7 (Lib.hid (refvalue_all w0 vA n c v hv HL hok d)) W ha hd hE
    exact refvalue_leaf w0 vA n c v _ hv HL hok a x (Lib.hid hx) (by omega) W ha hE
end Go.Proofs.YtjbfkceficokbaaDoor
