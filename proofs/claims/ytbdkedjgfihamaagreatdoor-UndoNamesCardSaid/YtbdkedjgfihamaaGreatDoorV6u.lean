/- Walks: text.Check; a name's test; the tests of kinds. PUT1 -/
import Derived.Test.YtbdkedjgfihamaaGreatDoorV5u
import Derived.Lib.OthersKept
import Derived.WalkKit
namespace Pv
open Go Go.RowKit
theorem aln_idx : ∀ n, n < 256 → alnB.contains (UInt8.ofNat n) = true → 0 ≤ Lib.indexByte alnB (UInt8.ofNat n) := by decide +kernel
theorem aln_low : ∀ n, n < 256 → alnB.contains (UInt8.ofNat n) = true → n < 128 := by decide +kernel
def digU : List UInt8 := [48, 49, 50, 51, 52, 53, 54, 55, 56, 57]
theorem dig_idx : ∀ n, n < 256 → (decide (0 ≤ Lib.indexByte digU (UInt8.ofNat n)) = digB (UInt8.ofNat n)) := by decide +kernel
theorem aln_is : ∀ n, n < 256 → (alnB.contains (UInt8.ofNat n) = (letB (UInt8.ofNat n) || digB (UInt8.ofNat n))) := by decide +kernel
theorem let_dig : ∀ n, n < 256 → letB (UInt8.ofNat n) = true → digB (UInt8.ofNat n) = false := by decide +kernel
theorem u8_self (b : UInt8) : UInt8.ofNat b.toNat = b := by simp
theorem aln_isB (b : UInt8) : alnB.contains b = (letB b || digB b) := by have := aln_is b.toNat b.toNat_lt; rwa [u8_self] at this
end Pv
namespace Go.Proofs.YtbdkedjgfihamaaGreatDoor
open Go.RowKit Pv
/-- The library's tables stand. -/
def TabS (B : Nat) (w : World) : Prop := ∀ w', Below B w w' → Lib.Utf8Tabs (Tryz.lays196_ren.g 3) (Tryz.lays196_ren.g 4) w'
theorem TabS.next {B : Nat} {w w' : World} (h : TabS B w) (hb : Below B w w') : TabS B w' := fun w2 h2 => h w2 (hb.trans h2)
set_option maxHeartbeats 400000 in
set_option maxRecDepth 100000 in
theorem text_CheckS (s : ByteArray) (w : World) (B : Nat) (hs : s.size ≤ 140737488355328) (hT : TabS B w) :
    Calls Tryz.prog 131 #[.string s] w fun e w' => e = .returned (.int .i64 (chkL (bsl s))) ∧ Below w.heap.size w w' := by
  have HV := Lib.hid (show Calls Tryz.prog 144 #[.string s] w fun e w' => e = .returned (.bool (Lib.validD (bsl s))) ∧ Below w.heap.size w w' from Tryz.utf8_ValidString s w (by omega) (hT w (Below.refl _ _)))
  have HL : Hid ((bsl s).length = s.size) := Lib.hid (bsl_len s)
  clear hT
  by_cases h1 : 16384 < s.size
  · have HC := Lib.hid (show 4 = chkL (bsl s) by unfold chkL; rw [if_pos (by rw [HL.out]; exact h1)])
    have i1 : (16384 : Int) < (s.size : Int) := by omega
    rw [← HC.out]
    go_enter Tryz.func131, Tryz.ntmps131
    go_wp2
    go_ret
    exact ⟨rfl, Below.refl _ _⟩
  · have i1 : ¬ (16384 : Int) < (s.size : Int) := by omega
    have HC : Hid (chkL (bsl s) = if Lib.validD (bsl s) then 0 else 10) := Lib.hid (by unfold chkL; rw [if_neg (by rw [HL.out]; exact h1)])
    rw [HC.out]
    obtain ⟨b, hb⟩ : ∃ b, Lib.validD (bsl s) = b := ⟨_, rfl⟩
    rw [hb] at HV ⊢
    clear hb h1 HC HL
    cases b
    all_goals
      go_enter Tryz.func131, Tryz.ntmps131
      go_wp2_with fail
      refine HV.out.mono ?_
      rintro e w1 ⟨rfl, k⟩
      have K := Lib.hid k
      clear k
      go_wp2
      go_ret
      exact ⟨rfl, K.out⟩
theorem cell_none (s : ByteArray) (w : World) : Calls Tryz.prog 138 #[.string s] w fun e w' => e = .returned (.bool (decide (s.size = 0))) ∧ w = w' := by
  have e1 : s.toList.isEmpty = decide (s.size = 0) := by
    rw [Lib.toList_data]
    have h : s.data.toList.length = s.size := bsl_len s
    cases hx : s.data.toList with
    | nil => rw [hx] at h; simp at h; simp [← h]
    | cons b l =>
      rw [hx] at h
      simp only [List.length_cons] at h
      rw [List.isEmpty_cons, decide_eq_false (by omega)]
  have E1 := Lib.hid e1
  clear e1
  go_enter Tryz.func138, Tryz.ntmps138
  go_wp2
  go_ret
  exact ⟨by rw [← E1.out]; rfl, rfl⟩
theorem cell_zero (n : Int) (w : World) : Calls Tryz.prog 139 #[.int .i64 n] w fun e w' => e = .returned (.bool (decide (n = 0))) ∧ w = w' := by
  go_enter Tryz.func139, Tryz.ntmps139
  go_wp2
  go_ret
  exact ⟨rfl, rfl⟩
theorem kinds_1 (n : Int) (w : World) : Calls Tryz.prog 140 #[.int .i64 n] w fun e w' => e = .returned (.bool (decide (n = 0) || decide (n = 1))) ∧ w = w' := by
  by_cases h0 : n = 0
  · subst h0
    go_enter Tryz.func140, Tryz.ntmps140
    go_wp2
    go_ret
    exact ⟨rfl, rfl⟩
  · have e0 : (n == 0) = false := by simpa using h0
    have HN := Lib.hid h0
    clear h0
    go_enter Tryz.func140, Tryz.ntmps140
    go_wp2
    go_ret
    exact ⟨by rw [decide_eq_false HN.out]; rfl, rfl⟩
theorem kinds_2 (n : Int) (w : World) : Calls Tryz.prog 141 #[.int .i64 n] w fun e w' => e = .returned (.bool true) ∧ w = w' := by
  go_enter Tryz.func141, Tryz.ntmps141
  go_wp2
  go_ret
  exact ⟨rfl, rfl⟩
theorem kinds_3 (s : ByteArray) (w : World) (B : Nat) (hs : s.size ≤ 140737488355328) (hT : TabS B w) : Calls Tryz.prog 142 #[.string s] w fun e w' => e = .returned (.bool (txtB s)) ∧ Below w.heap.size w w' := by
  have HC := text_CheckS s w B hs hT
  obtain ⟨c, hc⟩ : ∃ c, chkL (bsl s) = c := ⟨_, rfl⟩
  have HX : Hid (txtB s = decide (c = 0)) := Lib.hid (by unfold txtB; rw [← hc])
  rw [hc] at HC
  have HC := Lib.hid HC
  rw [HX.out]
  clear hc hT
  go_enter Tryz.func142, Tryz.ntmps142
  go_wp2_with fail
  refine HC.out.mono ?_
  rintro e w1 ⟨rfl, k⟩
  have K := Lib.hid k
  clear k
  go_wp2
  go_ret
  exact ⟨rfl, K.out⟩
set_option maxHeartbeats 400000 in
set_option maxRecDepth 100000 in
theorem cell_name1 (b : UInt8) (w : World) (h : alnB.contains b = true) : Calls Tryz.prog 151 #[.int .i32 (b.toNat : Int)] w fun e w' => e = .returned (.bool false) ∧ w = w' := by
  have hb := b.toNat_lt
  have h1 : b.toNat < 128 := aln_low b.toNat hb (by rw [u8_self]; exact h)
  have h2 := aln_idx b.toNat hb (by rw [u8_self]; exact h)
  have HC := Tryz.strings_ContainsRune_ascii alnS (b.toNat : Int) w (by omega) (by omega)
  have e1 : decide (0 ≤ Lib.indexByte alnS.data.toList (b.toNat : Int).toNat.toUInt8) = true := by
    refine decide_eq_true ?_
    have e2 : (b.toNat : Int).toNat.toUInt8 = UInt8.ofNat b.toNat := by simp
    rw [e2]
    exact h2
  rw [e1] at HC
  have HC : Hid (Calls Tryz.prog 152 #[.string alnS, .int .i32 (b.toNat : Int)] w fun e w' => e = .returned (.bool true) ∧ w' = w) := Lib.hid HC
  generalize (b.toNat : Int) = n at *
  clear h h1 h2 hb e1
  go_enter Tryz.func151, Tryz.ntmps151
  go_wp2_with fail
  refine HC.out.mono ?_
  rintro e w1 ⟨rfl, rfl⟩
  go_wp2
  go_ret
  exact ⟨rfl, rfl⟩
abbrev NameF : Value := .func (.func 151) #[] #[]
set_option maxHeartbeats 1000000 in
set_option maxRecDepth 100000 in
theorem str_indexFunc (s : ByteArray) (w : World) (hall : ∀ j (h : j < s.size), alnB.contains (s[j]'h) = true) (_hs : s.size ≤ 100000) :
    Calls Tryz.prog 170 #[.string s, NameF, .bool true] w fun e w' => e = .returned (.int .i64 (-1)) ∧ Below w.heap.size w w' := by
  have HA := Lib.hid hall
  clear hall
  go_enter Tryz.func170, Tryz.ntmps170
  go_wp2
  go_loopw [] (fun wr => ∃ pos : Nat, wr.heap[w.heap.size]? = some (.stringIter s pos) ∧ Hid (Below w.heap.size w wr)) (fun wr => s.size - wr.iterPos w.heap.size)
  case atStart =>
    refine ⟨0, ?_, Lib.hid ((Below.refl _ w).alloc (Nat.le_refl _) _)⟩
    have := World.iter_heap w s 0
    simpa using this
  case round =>
    obtain ⟨pos, hit, HB⟩ := hrel
    by_cases hp : pos < s.size
    · obtain ⟨b, hb⟩ : ∃ b, s[pos]'hp = b := ⟨_, rfl⟩
      have hc := HA.out pos hp
      rw [hb] at hc
      have hlow : b.toNat < 128 := aln_low b.toNat b.toNat_lt (by rw [u8_self]; exact hc)
      have hnx := fun ty => Lib.run_next_ascii_at (P := Tryz.prog) wr w.heap.size s pos ty hit hp (by rw [hb]; exact hlow)
      rw [hb] at hnx
      have hit2 := Lib.iterAt_heap wr w.heap.size s pos (pos + 1) hit
      have HB2 := Lib.hid (HB.out.trans (Lib.below_iterAt (Below.refl w.heap.size wr) (k := w.heap.size) (Nat.le_refl _) s (pos + 1)))
      have HN := Lib.hid (cell_name1 b (wr.iterAt w.heap.size s (pos + 1)) hc)
      have HIT := Lib.hid hit2
      have HI0 := Lib.hid hit
      clear hc hlow hb hit hit2
      go_wp2_with fail
      refine HN.out.mono ?_
      rintro e w1 ⟨rfl, rfl⟩
      go_wp2
      go_roundw
      case rel => exact ⟨pos + 1, HIT.out, HB2⟩
      case measure =>
        simp only [World.iterPos, HIT.out, HI0.out]
        omega
    · have hnx := fun ty => Lib.run_next_end_at (P := Tryz.prog) wr w.heap.size s pos ty hit hp
      clear hit
      go_wp2
      go_ret
      exact ⟨rfl, HB.out⟩
set_option maxHeartbeats 400000 in
set_option maxRecDepth 100000 in
theorem str_ContainsFunc (s : ByteArray) (w : World) (hall : ∀ j (h : j < s.size), alnB.contains (s[j]'h) = true) (hs : s.size ≤ 100000) :
    Calls Tryz.prog 150 #[.string s, NameF] w fun e w' => e = .returned (.bool false) ∧ Below w.heap.size w w' := by
  have HI := Lib.hid (show Calls Tryz.prog 163 #[.string s, NameF] w fun e w' => e = .returned (.int .i64 (-1)) ∧ Below w.heap.size w w' by
    have HX := Lib.hid (str_indexFunc s w hall hs)
    clear hall
    go_enter Tryz.func163, Tryz.ntmps163
    go_wp2_with fail
    refine HX.out.mono ?_
    rintro e w1 ⟨rfl, k⟩
    have K := Lib.hid k
    clear k
    go_wp2
    go_ret
    exact ⟨rfl, K.out⟩)
  clear hall
  go_enter Tryz.func150, Tryz.ntmps150
  go_wp2_with fail
  refine HI.out.mono ?_
  rintro e w1 ⟨rfl, k⟩
  have K := Lib.hid k
  clear k
  go_wp2
  go_ret
  exact ⟨rfl, K.out⟩
theorem namB_nil {s : ByteArray} (h : s.size = 0) : namB s = false := by
  have h1 : s.data.toList = [] := List.eq_nil_of_length_eq_zero (by rw [← h]; exact bsl_len s)
  unfold namB
  rw [h1]
  rfl
theorem namB_is {s : ByteArray} {b : UInt8} (h0 : 0 < s.size) (hb : s[0]'h0 = b) : namB s = (allA (bsl s) && !digB b) := by
  have h1 : ∃ r, bsl s = b :: r := by
    have h2 : (bsl s)[0]? = some b := by
      rw [show bsl s = s.data.toList from rfl, Array.getElem?_toList, Array.getElem?_eq_getElem (show 0 < s.data.size from h0)]
      exact congrArg some hb
    cases h3 : bsl s with
    | nil => rw [h3] at h2; cases h2
    | cons c l => rw [h3] at h2; obtain rfl := Option.some.inj h2; exact ⟨l, rfl⟩
  obtain ⟨r, hr⟩ := h1
  have e1 : namB s = namL (bsl s) := rfl
  rw [e1, hr, namL, allA, List.all_cons, aln_isB]
  have e2 : (r.all fun c => letB c || digB c) = r.all fun b => alnB.contains b := by congr 1; funext c; exact (aln_isB c).symm
  rw [e2]
  have e3 : letB b = true → digB b = false := fun h => by have := let_dig b.toNat b.toNat_lt (by rwa [u8_self]); rwa [u8_self] at this
  cases hl : letB b with
  | true => rw [e3 hl]; simp
  | false => cases digB b <;> simp
theorem allA_at {s : ByteArray} (h : allA (bsl s) = true) (j : Nat) (hj : j < s.size) : alnB.contains (s[j]'hj) = true := by
  refine List.all_eq_true.1 h _ ?_
  have h2 : (bsl s)[j]? = some (s[j]'hj) := by
    rw [show bsl s = s.data.toList from rfl, Array.getElem?_toList, Array.getElem?_eq_getElem (show j < s.data.size from hj)]
    rfl
  exact List.mem_of_getElem? h2
theorem first_cut {s : ByteArray} {b : UInt8} (h0 : 0 < s.size) (hb : s[0]'h0 = b) : s.extract 0 1 = ⟨#[b]⟩ := by
  refine ByteArray.ext (Array.toList_inj.1 ?_)
  have h2 : (bsl s)[0]? = some b := by
    rw [show bsl s = s.data.toList from rfl, Array.getElem?_toList, Array.getElem?_eq_getElem (show 0 < s.data.size from h0)]
    exact congrArg some hb
  rw [ByteArray.data_extract, Array.toList_extract]
  show List.extract (bsl s) 0 1 = [b]
  cases h3 : bsl s with
  | nil => rw [h3] at h2; cases h2
  | cons c l => rw [h3] at h2; obtain rfl := Option.some.inj h2; rfl
set_option maxHeartbeats 1000000 in
set_option maxRecDepth 100000 in
theorem cell_name (s : ByteArray) (w : World) (hs : s.size ≤ 100000) :
    Calls Tryz.prog 143 #[.string s] w fun e w' => e = .returned (.bool (namB s)) ∧ Below w.heap.size w w' := by
  by_cases h0 : s.size = 0
  · have HN := Lib.hid (namB_nil h0)
    have E1 : s.toList.isEmpty = true := by
      rw [Lib.toList_data, List.eq_nil_of_length_eq_zero (show s.data.toList.length = 0 by rw [← h0]; exact bsl_len s)]
      rfl
    rw [HN.out]
    clear h0
    go_enter Tryz.func143, Tryz.ntmps143
    go_wp2
    go_ret
    exact ⟨rfl, Below.refl _ _⟩
  · have hpos : 0 < s.size := by omega
    have E1 : s.toList.isEmpty = false := by
      cases hx : s.data.toList with
      | nil => have := bsl_len s; rw [show bsl s = s.data.toList from rfl, hx] at this; simp at this; omega
      | cons b l => rw [Lib.toList_data, hx]; rfl
    obtain ⟨b, hb⟩ : ∃ b, s[0]'hpos = b := ⟨_, rfl⟩
    have HNB := Lib.hid (namB_is hpos hb)
    have HCU := Lib.hid (first_cut hpos hb)
    have HTR := Lib.hid (trim_aln s w hpos hs)
    have HCO : ∀ W, Calls Tryz.prog 149 #[.string ⟨#[48, 49, 50, 51, 52, 53, 54, 55, 56, 57]⟩, .string ⟨#[b]⟩] W fun e w' => e = .returned (.bool (digB b)) ∧ w' = W := fun W => by
      have h := Tryz.strings_Contains_one ⟨#[48, 49, 50, 51, 52, 53, 54, 55, 56, 57]⟩ b W
      have h2 := dig_idx b.toNat b.toNat_lt
      rw [u8_self] at h2
      rw [show decide (0 ≤ Lib.indexByte (⟨#[48, 49, 50, 51, 52, 53, 54, 55, 56, 57]⟩ : ByteArray).data.toList b) = digB b from h2] at h
      exact h
    have HCO := Lib.hid HCO
    rw [HNB.out]
    cases ha : allA (bsl s) with
    | false =>
      rw [ha] at HTR
      clear ha hb
      go_enter Tryz.func143, Tryz.ntmps143
      go_wp2_with fail
      refine HTR.out.mono ?_
      rintro e w1 ⟨t, rfl, ht, _, k⟩
      have K := Lib.hid k
      have E2 : t.toList.isEmpty = false := by
        have ht0 := of_decide_eq_false ht
        cases hx : t.data.toList with
        | nil => have := bsl_len t; rw [show bsl t = t.data.toList from rfl, hx] at this; simp at this; omega
        | cons b l => rw [Lib.toList_data, hx]; rfl
      clear k ht
      go_wp2
      go_ret
      exact ⟨rfl, K.out⟩
    | true =>
      rw [ha] at HTR
      have HCF := Lib.hid (fun W => str_ContainsFunc s W (fun j hj => allA_at ha j hj) hs)
      clear ha hb
      obtain ⟨d, hd⟩ : ∃ d, digB b = d := ⟨_, rfl⟩
      rw [hd] at HCO ⊢
      clear hd
      have i1 : (1 : Int) ≤ (s.size : Int) := by omega
      cases d with
      | true =>
        go_enter Tryz.func143, Tryz.ntmps143
        go_wp2_with fail
        refine HTR.out.mono ?_
        rintro e w1 ⟨t, rfl, ht, _, k⟩
        have K := Lib.hid k
        have E2 : t.toList.isEmpty = true := by
          rw [Lib.toList_data, List.eq_nil_of_length_eq_zero (show t.data.toList.length = 0 from (bsl_len t).trans (of_decide_eq_true ht))]
          rfl
        clear k ht
        go_wp2_with fail
        rw [HCU.out]
        refine (HCO.out _).mono ?_
        rintro e w2 ⟨rfl, rfl⟩
        go_wp2
        go_ret
        exact ⟨rfl, K.out⟩
      | false =>
        go_enter Tryz.func143, Tryz.ntmps143
        go_wp2_with fail
        refine HTR.out.mono ?_
        rintro e w1 ⟨t, rfl, ht, _, k⟩
        have K := Lib.hid k
        have E2 : t.toList.isEmpty = true := by
          rw [Lib.toList_data, List.eq_nil_of_length_eq_zero (show t.data.toList.length = 0 from (bsl_len t).trans (of_decide_eq_true ht))]
          rfl
        clear k ht
        go_wp2_with fail
        rw [HCU.out]
        refine (HCO.out _).mono ?_
        rintro e w2 ⟨rfl, rfl⟩
        go_wp2_with fail
        refine (HCF.out _).mono ?_
        rintro e w3 ⟨rfl, k⟩
        have K2 := Lib.hid (K.out.trans (k.mono K.out.size))
        clear k
        go_wp2
        go_ret
        exact ⟨rfl, K2.out⟩
end Go.Proofs.YtbdkedjgfihamaaGreatDoor
