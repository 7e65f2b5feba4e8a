/- Walks: a number, as the program writes it. PUT1 -/
import Derived.Test.YtilhicefhhgecaaGreatDoorYcp
import Derived.Lib.RuneBytes
namespace Pv
open Go Go.RowKit
theorem validRune_is {n : Nat} : Lib.validRune (n : Int) = isP n := by
  unfold Lib.validRune isP
  rw [Bool.eq_iff_iff, decide_eq_true_iff, decide_eq_true_iff]
  omega
theorem runeZ_is {n : Nat} (h : isP n = true) : Lib.encodeRuneZ (n : Int) = (bytesP n).map fun x : Nat => (x : Int) := by
  have h1 := of_decide_eq_true h
  by_cases a : n < 128
  · rw [Lib.encodeRuneZ_one (by omega) (by omega), bytesP_1 a]; rfl
  by_cases b : n < 2048
  · rw [Lib.encodeRuneZ_two (by omega) (by omega), bytesP_2 (by omega) b]; simp
  by_cases c : n < 65536
  · rw [Lib.encodeRuneZ_three (by omega), bytesP_3 (by omega) c]; simp
  · rw [Lib.encodeRuneZ_four (by omega) (by omega), bytesP_4 (by omega)]; simp
theorem runeCells_is {n : Nat} (h : isP n = true) : Lib.runeCells (n : Int) = Lib.byteCells (bytes8 n) := by
  have hn : n ≤ 1114111 := (of_decide_eq_true h).1
  unfold Lib.runeCells Lib.byteCells bytes8
  rw [runeZ_is h, List.map_map, List.map_map]
  refine List.map_congr_left fun x hx => ?_
  have := bytesP_lt hn hx
  simp; omega
theorem own_bytes {w : World} {B : Nat} {e : TypeId} {v : Value} {l : List UInt8} {k : Nat} (hk : k = l.length) (h : w.ownsRow B e 1 v k (Lib.byteCells l)) (hl : 0 < l.length) :
    ∃ g cap, v = .slice (some ⟨g, 0, none⟩) l.length cap ∧ ∀ j x, l[j]? = some x → w.cell? ⟨g, j, none⟩ = some (.int .u8 (x.toNat : Int)) := by
  subst hk
  have h1 := h
  rcases h1.2 with ⟨_, hz⟩ | ⟨g, cap, cur, hv, r⟩
  · omega
  · refine ⟨g, cap, hv, fun j x hx => ?_⟩
    have h2 := h.cells (g := g) (by rw [hv]; rfl) j (.int .u8 x.toNat) (by simp [Lib.byteCells, hx])
    have e : (⟨g, 0, none⟩ : Addr).add j = ⟨g, j, none⟩ := by unfold Addr.add; by_cases hj : j = 0 <;> simp [hj]
    rwa [e] at h2
theorem bytes8_pos (n : Nat) : 0 < (bytes8 n).length := by
  unfold bytes8
  rw [List.length_map, bytesP_len]
  split <;> (try split) <;> (try split) <;> omega
end Pv
namespace Go.Proofs.YtilhicefhhgecaaGreatDoor
open Go.RowKit Pv

/-- Where text.Put stands: ahead of the number, behind it. -/
def PutR (l : List UInt8) (w0 : World) (iv bv : Value) (wr : World) : Prop :=
  (iv = .int .i64 0 ∧ bv = .slice none 0 0 ∧ wr = w0) ∨ (iv = .int .i64 1 ∧ Below w0.heap.size w0 wr ∧ wr.ownsRow w0.heap.size T8 1 bv l.length (Lib.byteCells l))
set_option maxHeartbeats 1000000 in
set_option maxRecDepth 100000 in
theorem text_Put (n g : Nat) (w : World) (hn : (n : Int) ≤ 1114111) (hg : w.cell? ⟨g, 0, none⟩ = some (.int .i64 n)) :
    Calls Tryz.prog 154 #[.slice (some ⟨g, 0, none⟩) 1 1] w fun e w' => e = .returned (.tuple #[.string (if isP n = true then mkS (bytes8 n) else ⟨#[]⟩), .int .i64 (if isP n = true then 0 else 10)]) ∧ Below w.heap.size w w' := by
  have HV := Lib.hid (fun W : World => Tryz.utf8_ValidRune (n : Int) W)
  rw [validRune_is] at HV
  have HA := Lib.hid (fun (W : World) => Tryz.utf8_AppendRune_plain W.heap.size (.slice none 0 0) 0 [] (n : Int) (by omega) (by omega) W (World.ownsRow_nil _ _ _ _) (by omega) (Nat.le_refl _))
  obtain ⟨x, hx⟩ : ∃ x : Int, x = n := ⟨_, rfl⟩
  have h0 : 0 ≤ x := by omega
  rw [← hx] at hn hg HV HA
  cases hp : isP n
  case true =>
    have HC := Lib.hid (runeCells_is hp)
    rw [← hx] at HC
    rw [hp] at HV
    simp only [if_true]
    have HPS := Lib.hid (bytes8_pos n)
    have HL4 := Lib.hid (bytes8_len n)
    generalize bytes8 n = l at *
    clear hx hp
    go_enter Tryz.func154, Tryz.ntmps154
    go_wp2
    go_loopw [12, 4] (fun iv bv wr => PutR l w iv bv wr) (fun iv _ _ => 1 - (intOf iv).toNat)
    case atStart => exact .inl ⟨rfl, rfl, rfl⟩
    case round =>
      rcases hrel with ⟨rfl, rfl, rfl⟩ | ⟨rfl, hb, ho⟩
      · go_wp2_with (first | (go_at_call 192; refine (HV.out _).mono ?_; rintro e w1 ⟨rfl, rfl⟩) | (go_at_call 193; refine (HA.out _).mono ?_; rintro e w1 ⟨v', rfl, ho, o, hgr⟩))
        go_roundw
        case rel =>
          refine .inr ⟨rfl, Below.grown ((Below.refl _ _).alloc (Nat.le_refl _) o) hgr (by simp) (by simp [Value.ownBlock]), ?_⟩
          rw [HC.out] at ho
          simpa [Lib.byteCells] using ho
        case measure => simp [intOf]
      · obtain ⟨gb, cp, rfl, hc⟩ := own_bytes rfl ho HPS.out
        have hcv := conv_bytes gb cp l wr hc
        go_wp2
        go_ret2
        exact ⟨rfl, hb⟩
  case false =>
    rw [hp] at HV
    clear hx hp
    go_enter Tryz.func154, Tryz.ntmps154
    go_wp2
    go_loopw [12] (fun iv wr => iv = .int .i64 0 ∧ wr = w) (fun iv _ => 1 - (intOf iv).toNat)
    case atStart => exact ⟨rfl, rfl⟩
    case round =>
      obtain ⟨rfl, rfl⟩ := hrel
      go_wp2_with (first | (go_at_call 192; refine (HV.out _).mono ?_; rintro e w1 ⟨rfl, rfl⟩))
      go_ret2
      exact ⟨rfl, Below.refl _ _⟩

/-- .. at 16 777 216 and more. -/
theorem hex_tail (n : Nat) (h : n < 16777216) : (mkS (hexN 7 (16777216 + n))).extract 1 7 = mkS (hexN 6 n) := by
  have e1 : (16777216 + n) / 16 ^ 6 % 16 = 1 := by
    rw [show (16 : Nat) ^ 6 = 16777216 from by decide]; omega
  have e2 : hexN 7 (16777216 + n) = hexD 1 :: hexN 6 n := by
    show hexD ((16777216 + n) / 16 ^ 6 % 16) :: hexN 6 (16777216 + n) = _
    rw [e1]
    have := hexN_more 1 6 n (Nat.le_refl _)
    rw [Nat.mul_one] at this
    rw [this]
  rw [e2]
  apply bsl_inj
  have h6 := hexN_len 6 n
  simp [bsl, mkS, ByteArray.data_extract]
  exact List.take_of_length_le (by omega)
theorem indexByte_any (c : UInt8) : ∀ l : List UInt8, -1 ≤ Lib.indexByte l c ∧ (0 ≤ Lib.indexByte l c ↔ l.any (· == c) = true)
  | [] => by simp [Lib.indexByte]
  | b :: l => by
    obtain ⟨h1, h2⟩ := indexByte_any c l
    unfold Lib.indexByte
    by_cases hb : b == c
    · simp [hb]
    · by_cases hi : Lib.indexByte l c = -1
      · have h3 : l.any (· == c) = false := by
          cases h : l.any (· == c) with
          | false => rfl
          | true => have := h2.2 h; omega
        simp [hb, hi, h3]
      · have h3 : l.any (· == c) = true := h2.1 (by omega)
        simp [hb, hi, h3]
        omega
theorem index_mark (n : Nat) (hn : n < 128) : decide (0 ≤ Lib.indexByte marksL (n : Int).toNat.toUInt8) = isMark n := by
  rw [Bool.eq_iff_iff, decide_eq_true_iff, (indexByte_any _ _).2]
  unfold isMark
  rw [List.any_eq_true, List.any_eq_true]
  have e : ∀ b : UInt8, (b == (n : Int).toNat.toUInt8) = (b.toNat == n) := fun b => by
    rw [Bool.eq_iff_iff, beq_iff_eq, beq_iff_eq, ← UInt8.toNat_inj]
    simp
    omega
  constructor
  · rintro ⟨b, hb, h⟩; exact ⟨b, hb, by rw [← e]; exact h⟩
  · rintro ⟨b, hb, h⟩; exact ⟨b, hb, by rw [e]; exact h⟩
theorem encode_low {n : Nat} (h : n < 128) : Utf8.encode (n : Int) = mkS [UInt8.ofNat n] := by
  unfold Utf8.encode
  have h1 : Utf8.valid (n : Int) = true := by simp [Utf8.valid]; omega
  simp [h1, h]
  rfl
/-- Where pattern.written stands. -/
inductive WCase (n : Nat) (x : Int) : Prop where
  | mark (h : isMark n = true) (i0 : 32 ≤ x) (i1 : x < 127)
  | low (h : isMark n = false) (p : isP n = true) (i : x < 32)
  | del (h : isMark n = false) (p : isP n = true) (i : x = 127)
  | asc (h : isMark n = false) (p : isP n = true) (i0 : 32 ≤ x) (i1 : x < 127)
  | chr (h : isMark n = false) (p : isP n = true) (i0 : 128 ≤ x)
  | bad (h : isMark n = false) (p : isP n = false) (i0 : 128 ≤ x)
theorem wcase {n : Nat} {x : Int} (hx : x = n) : WCase n x := by
  cases hm : isMark n with
  | true => have := isMark_lt hm; exact .mark hm (by omega) (by omega)
  | false =>
    cases hp : isP n with
    | false =>
      refine .bad hm hp ?_
      have := of_decide_eq_false hp
      omega
    | true =>
      by_cases h1 : x < 32
      · exact .low hm hp h1
      by_cases h2 : x = 127
      · exact .del hm hp h2
      by_cases h3 : x < 128
      · exact .asc hm hp (by omega) (by omega)
      · exact .chr hm hp (by omega)

set_option maxHeartbeats 1000000 in
set_option maxRecDepth 100000 in
theorem pattern_written (n : Nat) (w : World) (hn : (n : Int) ≤ 1114111) (hT : w.cell? ⟨7, 15, none⟩ = some (.int .u8 4)) : Calls Tryz.prog 108 #[.int .i64 n] w fun e w' => e = .returned (.string (mkS (numL n))) ∧ Below w.heap.size w w' := by
  have HIX := Lib.hid (fun (h : n < 128) (b : Bool) (hb : isMark n = b) (W : World) => (Tryz.strings_IndexByte markB (n : Int) W).mono (R' := fun e w' => ∃ z, e = .returned (.int .i64 z) ∧ decide (0 ≤ z) = b ∧ W = w') fun e w' ⟨h1, h2⟩ => ⟨_, h1, (index_mark n h).trans hb, h2.symm⟩)
  have HP := Lib.hid (fun (W : World) (g : Nat) (h : W.cell? ⟨g, 0, none⟩ = some (.int .i64 n)) => text_Put n g W hn h)
  have HF := Lib.hid (fun (W : World) (h : W.cell? ⟨7, 15, none⟩ = some (.int .u8 4)) => show Calls Tryz.prog 155 #[.int .i64 (16777216 + (n : Int)), .int .i64 16] W fun e w' => ∃ r : ByteArray, e = .returned (.string r) ∧ r.size = 7 ∧ Hid (r.extract 1 7 = mkS (hexN 6 n)) ∧ Below W.heap.size W w' from
    (format_16 (16777216 + n) W h (by omega) (by omega)).mono fun e w' ⟨h1, h2⟩ => ⟨_, h1, by rw [mkS_size, hexN_len], Lib.hid (hex_tail n (by omega)), h2⟩)
  have HB := Lib.hid (fun (W : World) (h : Below w.heap.size w W) => (h.cell (World.block_lt_of_cell? _ _ hT)).trans hT)
  have hE := fun h : n < 128 => encode_low h
  obtain ⟨x, hx⟩ : ∃ x : Int, x = n := ⟨_, rfl⟩
  have h0 : 0 ≤ x := by omega
  have hc := wcase hx
  have HX := Lib.hid hx
  rw [← hx] at hn HIX HP HF hE ⊢
  unfold markB at HIX
  clear hx hT
  have HBA := Lib.hid (fun o : Obj => HB.out _ ((Below.refl _ _).alloc (Nat.le_refl _) o))
  cases hc
  case mark h i0 i1 =>
    have hE' := hE (by have := HX.out; omega)
    have HI := Lib.hid (HIX.out (by have := HX.out; omega) true h)
    have HN := Lib.hid (numL_mark h)
    have HL := Lib.hid (show (mkS [UInt8.ofNat n]).size = 1 from rfl)
    have HS : Hid ((⟨#[92]⟩ : ByteArray) ++ mkS [UInt8.ofNat n] = mkS (numL n)) := Lib.hid (by rw [HN.out]; rfl)
    generalize mkS [UInt8.ofNat n] = r at *
    have hl1 : r.size ≤ 1 := by rw [HL.out]; omega
    clear h hE HIX HP HF
    go_enter Tryz.func108, Tryz.ntmps108
    go_wp2_with (go_at_call 153; refine (HI.out _).mono ?_; rintro e w1 ⟨z, rfl, hz, rfl⟩; have hz' := of_decide_eq_true hz; clear hz)
    go_ret
    exact ⟨by show Ending.returned (.string _) = _; rw [HS.out], Below.refl _ _⟩
  case asc h p i0 i1 =>
    have HI := Lib.hid (HIX.out (by have := HX.out; omega) false h)
    have HN := Lib.hid (numL_char h ⟨by have := HX.out; omega, p⟩)
    rw [p] at HP
    simp only [if_true] at HP
    have q : (x != 127) = true := by rw [bne_iff_ne]; omega
    generalize bytes8 n = l at *
    clear h p hE HIX
    go_enter Tryz.func108, Tryz.ntmps108
    go_wp2_with (first | (go_at_call 153; refine (HI.out _).mono ?_; rintro e w1 ⟨z, rfl, hz, rfl⟩; have hz' := of_decide_eq_false hz; clear hz) | (go_at_call 154; refine (HP.out _ _ (World.cell?_alloc_new ..)).mono ?_; rintro e w2 ⟨rfl, hb2⟩; have HB2 := Lib.hid (((Below.refl _ w).alloc (Nat.le_refl _) _).trans (hb2.mono (by simp))); clear hb2))
    go_ret
    exact ⟨by show Ending.returned (.string _) = _; rw [HN.out], HB2.out⟩
  case chr h p i0 =>
    have HN := Lib.hid (numL_char h ⟨by have := HX.out; omega, p⟩)
    rw [p] at HP
    simp only [if_true] at HP
    have q : (x != 127) = true := by rw [bne_iff_ne]; omega
    generalize bytes8 n = l at *
    clear h p hE HIX
    go_enter Tryz.func108, Tryz.ntmps108
    go_wp2_with (go_at_call 154; refine (HP.out _ _ (World.cell?_alloc_new ..)).mono ?_; rintro e w2 ⟨rfl, hb2⟩; have HB2 := Lib.hid (((Below.refl _ w).alloc (Nat.le_refl _) _).trans (hb2.mono (by simp))); clear hb2)
    go_ret
    exact ⟨by show Ending.returned (.string _) = _; rw [HN.out], HB2.out⟩
  case low h p i =>
    have HN := Lib.hid (numL_hex h (fun hh => by have := HX.out; omega))
    rw [p] at HP
    simp only [if_true] at HP
    have HI := Lib.hid (HIX.out (by have := HX.out; omega) false h)
    have HS := Lib.hid (fun r : ByteArray => fun (hr : Hid (r.extract 1 7 = mkS (hexN 6 n))) => show (⟨#[92, 117]⟩ : ByteArray) ++ r.extract 1 7 = mkS (numL n) by rw [hr.out, HN.out, show (92 :: 117 :: hexN 6 n) = [92, 117] ++ hexN 6 n from rfl, mkS_app]; rfl)
    generalize bytes8 n = l at *
    clear h p hE HIX
    go_enter Tryz.func108, Tryz.ntmps108
    go_wp2_with (first | (go_at_call 153; refine (HI.out _).mono ?_; rintro e w1 ⟨z, rfl, hz, rfl⟩; have hz' := of_decide_eq_false hz; clear hz) | (go_at_call 154; refine (HP.out _ _ (World.cell?_alloc_new ..)).mono ?_; rintro e w2 ⟨rfl, hb2⟩; have HB2 := Lib.hid (((Below.refl _ w).alloc (Nat.le_refl _) _).trans (hb2.mono (by simp))); clear hb2) | (go_at_call 155; refine (HF.out _ (HB.out _ HB2.out)).mono ?_; rintro e w3 ⟨r, rfl, hr7, HR, hb3⟩; have hr8 : r.size ≤ 7 := by omega))
    go_ret
    exact ⟨by show Ending.returned (.string _) = _; rw [HS.out _ HR], HB2.out.trans (hb3.mono HB2.out.size)⟩
  case del h p i =>
    have HN := Lib.hid (numL_hex h (fun hh => by have := HX.out; omega))
    rw [p] at HP
    simp only [if_true] at HP
    have HI := Lib.hid (HIX.out (by have := HX.out; omega) false h)
    have HS := Lib.hid (fun r : ByteArray => fun (hr : Hid (r.extract 1 7 = mkS (hexN 6 n))) => show (⟨#[92, 117]⟩ : ByteArray) ++ r.extract 1 7 = mkS (numL n) by rw [hr.out, HN.out, show (92 :: 117 :: hexN 6 n) = [92, 117] ++ hexN 6 n from rfl, mkS_app]; rfl)
    generalize bytes8 n = l at *
    clear h p hE HIX
    subst i
    go_enter Tryz.func108, Tryz.ntmps108
    go_wp2_with (first | (go_at_call 153; refine (HI.out _).mono ?_; rintro e w1 ⟨z, rfl, hz, rfl⟩; have hz' := of_decide_eq_false hz; clear hz) | (go_at_call 154; refine (HP.out _ _ (World.cell?_alloc_new ..)).mono ?_; rintro e w2 ⟨rfl, hb2⟩; have HB2 := Lib.hid (((Below.refl _ w).alloc (Nat.le_refl _) _).trans (hb2.mono (by simp))); clear hb2) | (go_at_call 155; refine (HF.out _ (HB.out _ HB2.out)).mono ?_; rintro e w3 ⟨r, rfl, hr7, HR, hb3⟩; have hr8 : r.size ≤ 7 := by omega))
    go_ret
    exact ⟨by show Ending.returned (.string _) = _; rw [HS.out _ HR], HB2.out.trans (hb3.mono HB2.out.size)⟩
  case bad h p i0 =>
    have HN := Lib.hid (numL_hex h (fun hh => by rw [p] at hh; cases hh.2))
    rw [p] at HP
    simp only [Bool.false_eq_true, if_false] at HP
    have HS := Lib.hid (fun r : ByteArray => fun (hr : Hid (r.extract 1 7 = mkS (hexN 6 n))) => show (⟨#[92, 117]⟩ : ByteArray) ++ r.extract 1 7 = mkS (numL n) by rw [hr.out, HN.out, show (92 :: 117 :: hexN 6 n) = [92, 117] ++ hexN 6 n from rfl, mkS_app]; rfl)
    generalize bytes8 n = l at *
    clear h p hE HIX
    go_enter Tryz.func108, Tryz.ntmps108
    go_wp2_with (first | (go_at_call 154; refine (HP.out _ _ (World.cell?_alloc_new ..)).mono ?_; rintro e w2 ⟨rfl, hb2⟩; have HB2 := Lib.hid (((Below.refl _ w).alloc (Nat.le_refl _) _).trans (hb2.mono (by simp))); clear hb2) | (go_at_call 155; refine (HF.out _ (HB.out _ HB2.out)).mono ?_; rintro e w3 ⟨r, rfl, hr7, HR, hb3⟩; have hr8 : r.size ≤ 7 := by omega))
    go_ret
    exact ⟨by show Ending.returned (.string _) = _; rw [HS.out _ HR], HB2.out.trans (hb3.mono HB2.out.size)⟩
end Go.Proofs.YtilhicefhhgecaaGreatDoor
