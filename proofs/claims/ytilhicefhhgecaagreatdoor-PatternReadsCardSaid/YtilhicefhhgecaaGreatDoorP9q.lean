/- Walks: the reader's count: a number of one or two digits. PUT1 -/
import Derived.Test.YtilhicefhhgecaaGreatDoorRbq
import Derived.Test.YtilhicefhhgecaaGreatDoorRcq
import Derived.Lib.SmallJoins
namespace Pv
open Go Go.RowKit
theorem digs_all (l : Bs) : ∀ b, b ∈ digs l → 48 ≤ b.toNat ∧ b.toNat ≤ 57 := fun b hb => by
  have h : (digs l).all (fun b => decide (48 ≤ b.toNat) && decide (b.toNat ≤ 57)) = true := List.all_takeWhile
  simpa using List.all_eq_true.1 h b hb
theorem digs_take (l : Bs) : l.take (digs l).length = digs l := by
  have h : digs l <+: l := (List.takeWhile_prefix _).trans (List.take_prefix _ _)
  generalize digs l = d at *
  obtain ⟨t, rfl⟩ := h
  rw [List.take_left]
theorem decFrom_is : ∀ (D : Bs) (acc : Nat), (∀ b, b ∈ D → 48 ≤ b.toNat ∧ b.toNat ≤ 57) → Lib.decFrom acc D = some (D.foldl (fun a b => 10 * a + (b.toNat - 48)) acc)
  | [], acc, _ => rfl
  | b :: D, acc, h => by
    have h1 := h b (by simp)
    unfold Lib.decFrom Lib.digitVal
    rw [if_pos h1]
    simp only [List.foldl_cons]
    rw [decFrom_is D _ fun c hc => h c (by simp [hc]), Nat.mul_comm]
theorem atoi_digs {D : Bs} (h : ∀ b, b ∈ D → 48 ≤ b.toNat ∧ b.toNat ≤ 57) (h0 : 1 ≤ D.length) : Lib.atoi D = some ((decN D : Nat) : Int) := by
  match D, h, h0 with
  | b :: D, h, _ =>
    have h1 := h b (by simp)
    have n1 : (b == 45) = false := by
      simp only [beq_eq_false_iff_ne, ne_eq]
      rintro rfl
      exact absurd h1.1 (by decide)
    have n2 : (b == 43) = false := by
      simp only [beq_eq_false_iff_ne, ne_eq]
      rintro rfl
      exact absurd h1.1 (by decide)
    unfold Lib.atoi
    simp only [n1, n2, Bool.false_eq_true, if_false]
    unfold Lib.decNat
    simp only [List.isEmpty_cons, Bool.false_eq_true, if_false]
    rw [decFrom_is _ _ h]
    rfl
/-- A digit stands at a place below, none at the end. -/
theorem digs_at {l : Bs} {k : Nat} (h : k < (digs l).length) : k < 2 ∧ ∃ b, l[k]? = some b ∧ 48 ≤ b.toNat ∧ b.toNat ≤ 57 := by
  refine ⟨by have := digs_len l; omega, (digs l)[k], ?_, digs_all l _ (List.getElem_mem h)⟩
  conv => lhs; rw [digs_pre l]
  rw [List.getElem?_append_left h, List.getElem?_eq_getElem h]
theorem digs_end (l : Bs) : (digs l).length = 2 ∨ (digs l).length = l.length ∨ ∃ b, l[(digs l).length]? = some b ∧ (b.toNat < 48 ∨ 57 < b.toNat) := by
  match l with
  | [] => exact .inr (.inl rfl)
  | [b] =>
    by_cases hb : 48 ≤ b.toNat ∧ b.toNat ≤ 57
    · exact .inr (.inl (by simp [digs, hb]))
    · exact .inr (.inr ⟨b, by simp [digs, hb], by omega⟩)
  | b :: c :: l =>
    by_cases hb : 48 ≤ b.toNat ∧ b.toNat ≤ 57
    · by_cases hc : 48 ≤ c.toNat ∧ c.toNat ≤ 57
      · exact .inl (by simp [digs, hb, hc])
      · exact .inr (.inr ⟨c, by simp [digs, hb, hc], by omega⟩)
    · exact .inr (.inr ⟨b, by simp [digs, hb], by omega⟩)
end Pv
namespace Go.Proofs.YtilhicefhhgecaaGreatDoor
open Go.RowKit Pv

theorem bsl_at {s : ByteArray} {k : Nat} {b : UInt8} (h : (bsl s)[k]? = some b) : ∃ hk : k < s.size, s[k]'hk = b := by
  have hk : k < s.size := by have := lt_of_get h; rwa [bsl_len] at this
  refine ⟨hk, ?_⟩
  have h3 : (bsl s)[k]? = some (s[k]'hk) := by
    simp only [bsl]
    rw [Array.getElem?_toList]
    exact Array.getElem?_eq_getElem _
  rw [h3] at h
  exact Option.some.inj h
theorem bsl_take (s : ByteArray) (n : Nat) : bsl (s.extract 0 n) = (bsl s).take n := by
  simp only [bsl]
  rw [ByteArray.data_extract, Array.toList_extract]
  simp [List.extract]
theorem bsl_drop (s : ByteArray) (n : Nat) : bsl (s.extract n s.size) = (bsl s).drop n := by
  simp only [bsl]
  rw [ByteArray.data_extract, Array.toList_extract]
  simp only [List.extract]
  rw [List.take_of_length_le]
  have : s.data.toList.length = s.size := rfl
  rw [List.length_drop]
  omega

set_option maxHeartbeats 2000000 in
set_option maxRecDepth 100000 in
theorem rd_count (R : Nat) (l r : Bs) (n : Nat) (wd : Bool) (w : World) (h : RdS w R l wd) (hc : countB l = some (n, r)) (hl : l.length ≤ 100000) :
    Calls Tryz.prog 115 #[.pointer (some ⟨R, 0, none⟩)] w fun e w' => e = .returned (.int .i64 n) ∧ RdS w' R r wd ∧ Only R w w' := by
  obtain ⟨hd1, hn, hn16, hr⟩ := countB_some hc
  obtain ⟨s, hs, HB, hlt, p0, p1, f0, f1⟩ := h.cells
  have hsz : s.size = l.length := by rw [← bsl_len, hs.out]
  have hd2 := digs_len l
  have hd3 : (digs l).length ≤ s.size := by
    rw [hsz, ← digs_take l, List.length_take]
    omega
  have HD := Lib.hid (fun k (hk : k < (digs l).length) => digs_at hk)
  have HE := Lib.hid (digs_end l)
  obtain ⟨dl, hdl⟩ : ∃ dl, (digs l).length = dl := ⟨_, rfl⟩
  have HT : Hid (bsl (s.extract 0 dl) = digs l) := Lib.hid (by
    rw [bsl_take, hs.out, ← hdl, digs_take])
  have HA := Lib.hid (fun W => Tryz.strconv_Atoi (s.extract 0 dl) n (by
    have h1 : (bsl (s.extract 0 dl)).length = dl := by rw [HT.out, hdl]
    rw [bsl_len] at h1
    omega) (by
    have h1 : (s.extract 0 dl).data.toList = digs l := HT.out
    rw [h1, atoi_digs (digs_all l) hd1, hn]) W)
  have HR : Hid (bsl (s.extract dl s.size) = r) := Lib.hid (by rw [bsl_drop, hs.out, hr, hdl])
  have HSZ := Lib.hid hsz
  rw [hdl] at hd1 hd2 hd3 HD HE
  have hn' : (n : Int) ≤ 16 := by omega
  have hn'' : ((n : Int) > 16) = False := by simp; omega
  clear h hc hn hr hdl hsz
  have hs5 : s.size ≤ 100000 := by rw [HSZ.out]; exact hl
  clear hl
  go_enter Tryz.func115, Tryz.ntmps115
  go_wp2
  go_loop [3] (fun iv => ∃ k : Nat, iv = .int .i64 k ∧ k ≤ dl) (fun iv => dl - (intOf iv).toNat)
  case atStart => exact ⟨0, rfl, by omega⟩
  case round =>
    obtain ⟨k, rfl, hk⟩ := hrel
    by_cases hlt2 : k < dl
    · obtain ⟨k2, b, hb, b1, b2⟩ := HD.out k hlt2
      rw [← hs.out] at hb
      obtain ⟨hks, hsb⟩ := bsl_at hb
      have c1 : (48 : Int) ≤ ((s[k]'hks).toNat : Int) := by rw [hsb]; omega
      have c2 : ((s[k]'hks).toNat : Int) ≤ 57 := by rw [hsb]; omega
      clear hb hsb
      go_wp2
      go_round
      case rel => exact ⟨k + 1, by go_num, by omega⟩
      case measure => simp [intOf]; omega
    · obtain rfl : k = dl := by omega
      have hk5 : (k : Int) ≤ (s.size : Int) := by omega
      by_cases hk2 : 2 ≤ k
      · have t1 : decide ((k : Int) < 2) = false := decide_eq_false (by omega)
        clear HE
        go_wp2_with fail
        refine (HA.out _).mono ?_
        rintro e w1 ⟨rfl, t, hw⟩
        have hb1 : Below w.heap.size w w1 := hw ▸ Go.Joins.below_bytesWorld _ w 5 t (Nat.le_refl _)
        have HB1 := Lib.hid hb1
        have HB2 := Lib.hid (HB.out.below hb1 hlt)
        have hlt1 : R < w1.heap.size := Nat.lt_of_lt_of_le hlt hb1.size
        have q0 : w1.cell? ⟨R, 0, none⟩ = some (.string s) := HB2.out.cell 0
        have q1 : w1.frozen? ⟨R, 0, none⟩ = false := HB2.out.frozen 0
        clear hw hb1 p0 p1 f0 f1
        go_wp2
        go_ret
        exact ⟨rfl, ⟨_, HR.out, HB2.out.set 0 _⟩, (Only.of HB1.out).set 0 _⟩
      have k2 : (k : Int) < 2 := by omega
      rcases HE.out with h2 | h2 | ⟨b, hb, hb2⟩
      · omega
      · have h3 : k = s.size := by rw [HSZ.out]; exact h2
        have t1 : decide (k < s.size) = false := decide_eq_false (by omega)
        have t2 : ¬ ((k : Int) < (s.size : Int)) := by omega
        have t3 : (s.size : Int) ≤ (k : Int) := by omega
        clear HE h2 h3
        go_wp2_with fail
        refine (HA.out _).mono ?_
        rintro e w1 ⟨rfl, t, hw⟩
        have hb1 : Below w.heap.size w w1 := hw ▸ Go.Joins.below_bytesWorld _ w 5 t (Nat.le_refl _)
        have HB1 := Lib.hid hb1
        have HB2 := Lib.hid (HB.out.below hb1 hlt)
        have hlt1 : R < w1.heap.size := Nat.lt_of_lt_of_le hlt hb1.size
        have q0 : w1.cell? ⟨R, 0, none⟩ = some (.string s) := HB2.out.cell 0
        have q1 : w1.frozen? ⟨R, 0, none⟩ = false := HB2.out.frozen 0
        clear hw hb1 p0 p1 f0 f1
        go_wp2
        go_ret
        exact ⟨rfl, ⟨_, HR.out, HB2.out.set 0 _⟩, (Only.of HB1.out).set 0 _⟩
      · rw [← hs.out] at hb
        obtain ⟨hks, hsb⟩ := bsl_at hb
        rcases hb2 with hb2 | hb2
        · have c1 : ((s[k]'hks).toNat : Int) < 48 := by rw [hsb]; omega
          clear hb hsb hb2 HE
          go_wp2_with fail
          refine (HA.out _).mono ?_
          rintro e w1 ⟨rfl, t, hw⟩
          have hb1 : Below w.heap.size w w1 := hw ▸ Go.Joins.below_bytesWorld _ w 5 t (Nat.le_refl _)
          have HB1 := Lib.hid hb1
          have HB2 := Lib.hid (HB.out.below hb1 hlt)
          have hlt1 : R < w1.heap.size := Nat.lt_of_lt_of_le hlt hb1.size
          have q0 : w1.cell? ⟨R, 0, none⟩ = some (.string s) := HB2.out.cell 0
          have q1 : w1.frozen? ⟨R, 0, none⟩ = false := HB2.out.frozen 0
          clear hw hb1 p0 p1 f0 f1
          go_wp2
          go_ret
          exact ⟨rfl, ⟨_, HR.out, HB2.out.set 0 _⟩, (Only.of HB1.out).set 0 _⟩
        · have c1 : (57 : Int) < ((s[k]'hks).toNat : Int) := by rw [hsb]; omega
          clear hb hsb hb2 HE
          go_wp2_with fail
          refine (HA.out _).mono ?_
          rintro e w1 ⟨rfl, t, hw⟩
          have hb1 : Below w.heap.size w w1 := hw ▸ Go.Joins.below_bytesWorld _ w 5 t (Nat.le_refl _)
          have HB1 := Lib.hid hb1
          have HB2 := Lib.hid (HB.out.below hb1 hlt)
          have hlt1 : R < w1.heap.size := Nat.lt_of_lt_of_le hlt hb1.size
          have q0 : w1.cell? ⟨R, 0, none⟩ = some (.string s) := HB2.out.cell 0
          have q1 : w1.frozen? ⟨R, 0, none⟩ = false := HB2.out.frozen 0
          clear hw hb1 p0 p1 f0 f1
          go_wp2
          go_ret
          exact ⟨rfl, ⟨_, HR.out, HB2.out.set 0 _⟩, (Only.of HB1.out).set 0 _⟩
end Go.Proofs.YtilhicefhhgecaaGreatDoor

namespace Pv
open Go Go.RowKit
/-- What take does. -/
theorem takeB_split {no l r : Bs} {n : Nat} (h : takeB no l = some (n, r)) : ∃ k, nextP l = some (n, k) ∧ r = l.drop k ∧ (k = 1 → ∃ b r', l = b :: r' ∧ no.contains b = false) := by
  unfold takeB at h
  cases hx : nextP l with
  | none => rw [hx] at h; cases h
  | some p =>
    obtain ⟨m, k⟩ := p
    rw [hx] at h
    simp only at h
    split at h
    · cases h
    · rename_i hc
      obtain ⟨rfl, rfl⟩ := Prod.mk.inj (Option.some.inj h)
      refine ⟨k, rfl, rfl, fun hk => ?_⟩
      cases l with
      | nil => rw [nextP_nil] at hx; cases hx
      | cons b l =>
        refine ⟨b, l, rfl, ?_⟩
        simp only [hk, decide_true, Bool.true_and, List.getD_cons_zero] at hc
        simpa using hc
theorem takeB_no {no l : Bs} (h : takeB no l = none) : nextP l = none ∨ ∃ n b r', nextP l = some (n, 1) ∧ l = b :: r' ∧ no.contains b = true := by
  unfold takeB at h
  cases hx : nextP l with
  | none => exact .inl rfl
  | some p =>
    obtain ⟨m, k⟩ := p
    rw [hx] at h
    simp only at h
    split at h
    · rename_i hc
      simp only [Bool.and_eq_true, decide_eq_true_eq] at hc
      obtain ⟨rfl, hc⟩ := hc
      cases l with
      | nil => rw [nextP_nil] at hx; cases hx
      | cons b l => exact .inr ⟨m, b, l, rfl, rfl, by simpa using hc⟩
    · cases h
theorem takeB_len {no l r : Bs} {n : Nat} (h : takeB no l = some (n, r)) : r.length < l.length ∧ n ≤ 1114111 := by
  obtain ⟨k, h1, rfl, _⟩ := takeB_split h
  have := nextP_size h1
  rw [List.length_drop]
  omega
end Pv
namespace Go.Proofs.YtilhicefhhgecaaGreatDoor
open Go.RowKit Pv

set_option maxHeartbeats 1000000 in
set_option maxRecDepth 100000 in
theorem rd_mustN (R : Nat) (l : Bs) (wd : Bool) (c : UInt8) (w : World) (h : RdS w R l wd) (hr : isB c l = none) :
    Calls Tryz.prog 117 #[.pointer (some ⟨R, 0, none⟩), .string ⟨#[c]⟩] w fun e w' => Stopped e ∧ Only R w w' := by
  have HI := Lib.hid (rd_is R l wd c w h)
  have HR := Lib.hid hr
  have HNO := Lib.hid (fun W => rd_no W)
  clear h hr
  rw [show (isB c l).isSome = false by rw [HR.out]; rfl] at HI
  go_enter Tryz.func117, Tryz.ntmps117
  go_wp2_with fail
  refine HI.out.mono ?_
  rintro e w' ⟨rfl, h1, h2⟩
  have H2 := Lib.hid h2
  clear h1 h2
  go_wp2_with fail
  refine (HNO.out _).mono ?_
  rintro e w'' ⟨he, rfl⟩
  subst he
  go_wp2
  exact ⟨rfl, rfl, H2.out⟩

set_option maxHeartbeats 1000000 in
set_option maxRecDepth 100000 in
theorem rd_takeG (R B : Nat) (l r : Bs) (n : Nat) (wd : Bool) (sno : ByteArray) (w : World) (h : RdS w R l wd) (ht : takeB (bsl sno) l = some (n, r)) (hl : l.length ≤ 100000) (hT : TabV B w) :
    Calls Tryz.prog 163 #[.pointer (some ⟨R, 0, none⟩), .string sno] w fun e w' => e = .returned (.int .i64 n) ∧ RdS w' R r wd ∧ Only R w w' := by
  obtain ⟨k, hk, hr, hno⟩ := takeB_split ht
  have hsz := nextP_size hk
  obtain ⟨s, hs, HB, hlt, p0, p1, f0, f1⟩ := h.cells
  have hsl : s.size = l.length := by rw [← bsl_len, hs.out]
  have h1' : s.size ≤ 140737488355328 := by omega
  have HN := text_NextG s w B h1' hT
  rw [hs.out, hk] at HN
  have HN := Lib.hid HN
  have HR : Hid (bsl (s.extract k s.size) = r) := Lib.hid (by rw [bsl_drop, hs.out, hr])
  have i1 : (k : Int) ≤ (s.size : Int) := by omega
  have i2 : (0 : Int) ≤ (k : Int) := by omega
  clear h ht hT hr hk
  by_cases hk1 : k = 1
  · obtain ⟨b, r', e1, e2⟩ := hno hk1
    have h1 : 0 < s.size := by omega
    have h2 : s[0]'h1 = b := by
      obtain ⟨_, h3⟩ := bsl_at (s := s) (k := 0) (b := b) (by rw [hs.out, e1]; rfl)
      exact h3
    have H2 := Lib.hid h2
    have t1 : ((k : Int) == 1) = true := by simp; omega
    have HI := Lib.hid (fun W => Tryz.strings_IndexByte sno (b.toNat : Int) W)
    rw [show ((b.toNat : Int)).toNat.toUInt8 = b by simp, show Lib.indexByte sno.data.toList b = -1 from indexB_no _ _ e2] at HI
    have h1i : (0 : Int) < (s.size : Int) := by omega
    clear hk1 hno h2 e1 e2 hsl hsz
    go_enter Tryz.func163, Tryz.ntmps163
    go_wp2_with fail
    refine HN.out.mono ?_
    rintro e w1 ⟨rfl, hb⟩
    have HBB := Lib.hid hb
    have HB1 := Lib.hid (HB.out.below hb hlt)
    have q0 : w1.cell? ⟨R, 0, none⟩ = some (.string s) := HB1.out.cell 0
    have q1 : w1.frozen? ⟨R, 0, none⟩ = false := HB1.out.frozen 0
    have hlt1 := HB1.out.lt
    clear hb p0 p1 f0 f1
    go_wp2_with fail
    rw [H2.out]
    refine (HI.out _).mono ?_
    rintro e w' ⟨rfl, hw⟩
    have hw2 := hw.symm
    subst hw2
    clear hw
    go_wp2
    go_ret
    exact ⟨rfl, ⟨_, HR.out, HB1.out.set 0 _⟩, (Only.of HBB.out).set 0 _⟩
  · have t1 : ((k : Int) == 1) = false := by simp; omega
    clear hk1 hno hsl hsz
    go_enter Tryz.func163, Tryz.ntmps163
    go_wp2_with fail
    refine HN.out.mono ?_
    rintro e w1 ⟨rfl, hb⟩
    have HBB := Lib.hid hb
    have HB1 := Lib.hid (HB.out.below hb hlt)
    have q0 : w1.cell? ⟨R, 0, none⟩ = some (.string s) := HB1.out.cell 0
    have q1 : w1.frozen? ⟨R, 0, none⟩ = false := HB1.out.frozen 0
    have hlt1 := HB1.out.lt
    clear hb p0 p1 f0 f1
    go_wp2
    go_ret
    exact ⟨rfl, ⟨_, HR.out, HB1.out.set 0 _⟩, (Only.of HBB.out).set 0 _⟩

set_option maxHeartbeats 1000000 in
set_option maxRecDepth 100000 in
theorem rd_takeN (R B : Nat) (l : Bs) (wd : Bool) (sno : ByteArray) (w : World) (h : RdS w R l wd) (ht : takeB (bsl sno) l = none) (hl : l.length ≤ 100000) (hT : TabV B w) :
    Calls Tryz.prog 163 #[.pointer (some ⟨R, 0, none⟩), .string sno] w fun e w' => Stopped e ∧ Only R w w' := by
  obtain ⟨s, hs, HB, hlt, p0, p1, f0, f1⟩ := h.cells
  have hsl : s.size = l.length := by rw [← bsl_len, hs.out]
  have h1' : s.size ≤ 140737488355328 := by omega
  have HN := text_NextG s w B h1' hT
  have HNO := Lib.hid (fun W => rd_no W)
  rw [hs.out] at HN
  rcases takeB_no ht with hk | ⟨n, b, r', hk, e1, e2⟩
  · rw [hk] at HN
    have HN := Lib.hid HN
    clear h ht hT hk
    go_enter Tryz.func163, Tryz.ntmps163
    go_wp2_with fail
    refine HN.out.mono ?_
    rintro e w1 ⟨⟨c, rfl, hc⟩, hb⟩
    have HBB := Lib.hid hb
    clear hb
    go_wp2_with fail
    refine (HNO.out _).mono ?_
    rintro e w'' ⟨he, rfl⟩
    subst he
    go_wp2
    exact ⟨rfl, rfl, Only.of HBB.out⟩
  · rw [hk] at HN
    have HN := Lib.hid HN
    have h1 : 0 < s.size := by rw [hsl, e1]; simp
    have h2 : s[0]'h1 = b := by
      obtain ⟨_, h3⟩ := bsl_at (s := s) (k := 0) (b := b) (by rw [hs.out, e1]; rfl)
      exact h3
    have H2 := Lib.hid h2
    have HI := Tryz.strings_IndexByte sno (b.toNat : Int)
    rw [show ((b.toNat : Int)).toNat.toUInt8 = b by simp] at HI
    have h0 := indexB_some _ _ e2
    rw [show bsl sno = sno.data.toList from rfl] at h0
    obtain ⟨ix, hix⟩ : ∃ ix, Lib.indexByte sno.data.toList b = ix := ⟨_, rfl⟩
    rw [hix] at HI h0
    have HI := Lib.hid HI
    have h1i : (0 : Int) < (s.size : Int) := by omega
    clear h ht hT hk h2 e1 e2 hix hsl
    go_enter Tryz.func163, Tryz.ntmps163
    go_wp2_with fail
    refine HN.out.mono ?_
    rintro e w1 ⟨rfl, hb⟩
    have HBB := Lib.hid hb
    have HB1 := Lib.hid (HB.out.below hb hlt)
    have q0 : w1.cell? ⟨R, 0, none⟩ = some (.string s) := HB1.out.cell 0
    have hlt1 := HB1.out.lt
    clear hb p0 p1 f0 f1
    go_wp2_with fail
    rw [H2.out]
    refine (HI.out _).mono ?_
    rintro e w' ⟨rfl, hw⟩
    have hw2 := hw.symm
    subst hw2
    clear hw
    go_wp2_with fail
    refine (HNO.out _).mono ?_
    rintro e w'' ⟨he, rfl⟩
    subst he
    go_wp2
    exact ⟨rfl, rfl, Only.of HBB.out⟩
end Go.Proofs.YtilhicefhhgecaaGreatDoor

namespace Go.Proofs.YtilhicefhhgecaaGreatDoor
open Go.RowKit Pv

set_option maxHeartbeats 2000000 in
set_option maxRecDepth 100000 in
theorem rd_countN1 (R : Nat) (l : Bs) (wd : Bool) (w : World) (h : RdS w R l wd) (hd1 : 1 ≤ (digs l).length) (hn16 : 16 < decN (digs l)) (hl : l.length ≤ 100000) :
    Calls Tryz.prog 115 #[.pointer (some ⟨R, 0, none⟩)] w fun e w' => Stopped e ∧ Only R w w' := by
  have HNO := Lib.hid (fun W => rd_no W)
  obtain ⟨n, hn⟩ : ∃ n, decN (digs l) = n := ⟨_, rfl⟩
  rw [hn] at hn16
  obtain ⟨s, hs, HB, hlt, p0, p1, f0, f1⟩ := h.cells
  have hsz : s.size = l.length := by rw [← bsl_len, hs.out]
  have hd2 := digs_len l
  have hd3 : (digs l).length ≤ s.size := by
    rw [hsz, ← digs_take l, List.length_take]
    omega
  have HD := Lib.hid (fun k (hk : k < (digs l).length) => digs_at hk)
  have HE := Lib.hid (digs_end l)
  obtain ⟨dl, hdl⟩ : ∃ dl, (digs l).length = dl := ⟨_, rfl⟩
  have HT : Hid (bsl (s.extract 0 dl) = digs l) := Lib.hid (by
    rw [bsl_take, hs.out, ← hdl, digs_take])
  have HA := Lib.hid (fun W => Tryz.strconv_Atoi (s.extract 0 dl) n (by
    have h1 : (bsl (s.extract 0 dl)).length = dl := by rw [HT.out, hdl]
    rw [bsl_len] at h1
    omega) (by
    have h1 : (s.extract 0 dl).data.toList = digs l := HT.out
    rw [h1, atoi_digs (digs_all l) hd1, hn]) W)
  have HSZ := Lib.hid hsz
  rw [hdl] at hd1 hd2 hd3 HD HE
  have hn' : (16 : Int) < (n : Int) := by omega
  clear h hn hdl hsz
  have hs5 : s.size ≤ 100000 := by rw [HSZ.out]; exact hl
  clear hl
  go_enter Tryz.func115, Tryz.ntmps115
  go_wp2
  go_loop [3] (fun iv => ∃ k : Nat, iv = .int .i64 k ∧ k ≤ dl) (fun iv => dl - (intOf iv).toNat)
  case atStart => exact ⟨0, rfl, by omega⟩
  case round =>
    obtain ⟨k, rfl, hk⟩ := hrel
    by_cases hlt2 : k < dl
    · obtain ⟨k2, b, hb, b1, b2⟩ := HD.out k hlt2
      rw [← hs.out] at hb
      obtain ⟨hks, hsb⟩ := bsl_at hb
      have c1 : (48 : Int) ≤ ((s[k]'hks).toNat : Int) := by rw [hsb]; omega
      have c2 : ((s[k]'hks).toNat : Int) ≤ 57 := by rw [hsb]; omega
      clear hb hsb
      go_wp2
      go_round
      case rel => exact ⟨k + 1, by go_num, by omega⟩
      case measure => simp [intOf]; omega
    · obtain rfl : k = dl := by omega
      have hk5 : (k : Int) ≤ (s.size : Int) := by omega
      by_cases hk2 : 2 ≤ k
      · have t1 : decide ((k : Int) < 2) = false := decide_eq_false (by omega)
        clear HE
        go_wp2_with fail
        refine (HA.out _).mono ?_
        rintro e w1 ⟨rfl, t, hw⟩
        have hb1 : Below w.heap.size w w1 := hw ▸ Go.Joins.below_bytesWorld _ w 5 t (Nat.le_refl _)
        have HB1 := Lib.hid hb1
        clear hw hb1 p0 p1 f0 f1
        go_wp2_with fail
        refine (HNO.out _).mono ?_
        rintro e w'' ⟨he, rfl⟩
        subst he
        go_wp2
        exact ⟨rfl, rfl, Only.of HB1.out⟩
      have k2 : (k : Int) < 2 := by omega
      rcases HE.out with h2 | h2 | ⟨b, hb, hb2⟩
      · omega
      · have h3 : k = s.size := by rw [HSZ.out]; exact h2
        have t1 : decide (k < s.size) = false := decide_eq_false (by omega)
        have t2 : ¬ ((k : Int) < (s.size : Int)) := by omega
        have t3 : (s.size : Int) ≤ (k : Int) := by omega
        clear HE h2 h3
        go_wp2_with fail
        refine (HA.out _).mono ?_
        rintro e w1 ⟨rfl, t, hw⟩
        have hb1 : Below w.heap.size w w1 := hw ▸ Go.Joins.below_bytesWorld _ w 5 t (Nat.le_refl _)
        have HB1 := Lib.hid hb1
        clear hw hb1 p0 p1 f0 f1
        go_wp2_with fail
        refine (HNO.out _).mono ?_
        rintro e w'' ⟨he, rfl⟩
        subst he
        go_wp2
        exact ⟨rfl, rfl, Only.of HB1.out⟩
      · rw [← hs.out] at hb
        obtain ⟨hks, hsb⟩ := bsl_at hb
        rcases hb2 with hb2 | hb2
        · have c1 : ((s[k]'hks).toNat : Int) < 48 := by rw [hsb]; omega
          clear hb hsb hb2 HE
          go_wp2_with fail
          refine (HA.out _).mono ?_
          rintro e w1 ⟨rfl, t, hw⟩
          have hb1 : Below w.heap.size w w1 := hw ▸ Go.Joins.below_bytesWorld _ w 5 t (Nat.le_refl _)
          have HB1 := Lib.hid hb1
          clear hw hb1 p0 p1 f0 f1
          go_wp2_with fail
          refine (HNO.out _).mono ?_
          rintro e w'' ⟨he, rfl⟩
          subst he
          go_wp2
          exact ⟨rfl, rfl, Only.of HB1.out⟩
        · have c1 : (57 : Int) < ((s[k]'hks).toNat : Int) := by rw [hsb]; omega
          clear hb hsb hb2 HE
          go_wp2_with fail
          refine (HA.out _).mono ?_
          rintro e w1 ⟨rfl, t, hw⟩
          have hb1 : Below w.heap.size w w1 := hw ▸ Go.Joins.below_bytesWorld _ w 5 t (Nat.le_refl _)
          have HB1 := Lib.hid hb1
          clear hw hb1 p0 p1 f0 f1
          go_wp2_with fail
          refine (HNO.out _).mono ?_
          rintro e w'' ⟨he, rfl⟩
          subst he
          go_wp2
          exact ⟨rfl, rfl, Only.of HB1.out⟩

set_option maxHeartbeats 2000000 in
set_option maxRecDepth 100000 in
theorem rd_countN2 (R B : Nat) (l : Bs) (wd : Bool) (w : World) (h : RdS w R l wd) (hd0 : digs l = []) (hl : l.length ≤ 100000) (hT : TabV B w) :
    Calls Tryz.prog 115 #[.pointer (some ⟨R, 0, none⟩)] w fun e w' => Stopped e ∧ Only R w w' := by
  have HNO := Lib.hid (fun W => rd_no W)
  have hev := hT.syn
  obtain ⟨s, hs, HB, hlt, p0, p1, f0, f1⟩ := h.cells
  have hsz : s.size = l.length := by rw [← bsl_len, hs.out]
  have hd2 := digs_len l
  have hd3 : (digs l).length ≤ s.size := by
    rw [hsz, ← digs_take l, List.length_take]
    omega
  have HD := Lib.hid (fun k (hk : k < (digs l).length) => digs_at hk)
  have HE := Lib.hid (digs_end l)
  obtain ⟨dl, hdl⟩ : ∃ dl, (digs l).length = dl := ⟨_, rfl⟩
  have HT : Hid (bsl (s.extract 0 dl) = digs l) := Lib.hid (by
    rw [bsl_take, hs.out, ← hdl, digs_take])
  have HA := Lib.hid (fun W (hv : ∃ te pe, W.cell? ⟨Tryz.laysc172_ren.g 15, 0, none⟩ = some (.iface te pe)) => show Calls Tryz.prog 165 #[.string (s.extract 0 dl)] W fun e w' => ∃ N, e = .returned (.tuple #[.int .i64 0, .iface 281 (.pointer (some ⟨N, 0, none⟩))]) ∧ Below W.heap.size W w' from by
    obtain ⟨te, pe, hv⟩ := hv
    exact (Tryz.strconv_Atoi_err (s.extract 0 dl) (by
      have h1 : (bsl (s.extract 0 dl)).length = dl := by rw [HT.out, hdl]
      rw [bsl_len] at h1
      omega) (by
      have h1 : (s.extract 0 dl).data.toList = digs l := HT.out
      rw [h1, hd0]
      rfl) (.iface te pe) W hv (.inr ⟨te, pe, rfl⟩)).mono fun e w' ⟨N, h1, _, _, h4⟩ => ⟨N, h1, h4⟩)
  have HSZ := Lib.hid hsz
  rw [hdl] at hd2 hd3 HD HE
  clear h hd0 hdl hsz hT
  have hs5 : s.size ≤ 100000 := by rw [HSZ.out]; exact hl
  clear hl
  go_enter Tryz.func115, Tryz.ntmps115
  go_wp2
  go_loop [3] (fun iv => ∃ k : Nat, iv = .int .i64 k ∧ k ≤ dl) (fun iv => dl - (intOf iv).toNat)
  case atStart => exact ⟨0, rfl, by omega⟩
  case round =>
    obtain ⟨k, rfl, hk⟩ := hrel
    by_cases hlt2 : k < dl
    · obtain ⟨k2, b, hb, b1, b2⟩ := HD.out k hlt2
      rw [← hs.out] at hb
      obtain ⟨hks, hsb⟩ := bsl_at hb
      have c1 : (48 : Int) ≤ ((s[k]'hks).toNat : Int) := by rw [hsb]; omega
      have c2 : ((s[k]'hks).toNat : Int) ≤ 57 := by rw [hsb]; omega
      clear hb hsb
      go_wp2
      go_round
      case rel => exact ⟨k + 1, by go_num, by omega⟩
      case measure => simp [intOf]; omega
    · obtain rfl : k = dl := by omega
      have hk5 : (k : Int) ≤ (s.size : Int) := by omega
      by_cases hk2 : 2 ≤ k
      · have t1 : decide ((k : Int) < 2) = false := decide_eq_false (by omega)
        clear HE
        go_wp2_with fail
        refine (HA.out w hev).mono ?_
        rintro e w1 ⟨N, rfl, hb1⟩
        have HB1 := Lib.hid hb1
        clear hb1 p0 p1 f0 f1 hev
        go_wp2_with fail
        refine (HNO.out _).mono ?_
        rintro e w'' ⟨he, rfl⟩
        subst he
        go_wp2
        exact ⟨rfl, rfl, Only.of HB1.out⟩
      have k2 : (k : Int) < 2 := by omega
      rcases HE.out with h2 | h2 | ⟨b, hb, hb2⟩
      · omega
      · have h3 : k = s.size := by rw [HSZ.out]; exact h2
        have t1 : decide (k < s.size) = false := decide_eq_false (by omega)
        have t2 : ¬ ((k : Int) < (s.size : Int)) := by omega
        have t3 : (s.size : Int) ≤ (k : Int) := by omega
        clear HE h2 h3
        go_wp2_with fail
        refine (HA.out w hev).mono ?_
        rintro e w1 ⟨N, rfl, hb1⟩
        have HB1 := Lib.hid hb1
        clear hb1 p0 p1 f0 f1 hev
        go_wp2_with fail
        refine (HNO.out _).mono ?_
        rintro e w'' ⟨he, rfl⟩
        subst he
        go_wp2
        exact ⟨rfl, rfl, Only.of HB1.out⟩
      · rw [← hs.out] at hb
        obtain ⟨hks, hsb⟩ := bsl_at hb
        rcases hb2 with hb2 | hb2
        · have c1 : ((s[k]'hks).toNat : Int) < 48 := by rw [hsb]; omega
          clear hb hsb hb2 HE
          go_wp2_with fail
          refine (HA.out w hev).mono ?_
          rintro e w1 ⟨N, rfl, hb1⟩
          have HB1 := Lib.hid hb1
          clear hb1 p0 p1 f0 f1 hev
          go_wp2_with fail
          refine (HNO.out _).mono ?_
          rintro e w'' ⟨he, rfl⟩
          subst he
          go_wp2
          exact ⟨rfl, rfl, Only.of HB1.out⟩
        · have c1 : (57 : Int) < ((s[k]'hks).toNat : Int) := by rw [hsb]; omega
          clear hb hsb hb2 HE
          go_wp2_with fail
          refine (HA.out w hev).mono ?_
          rintro e w1 ⟨N, rfl, hb1⟩
          have HB1 := Lib.hid hb1
          clear hb1 p0 p1 f0 f1 hev
          go_wp2_with fail
          refine (HNO.out _).mono ?_
          rintro e w'' ⟨he, rfl⟩
          subst he
          go_wp2
          exact ⟨rfl, rfl, Only.of HB1.out⟩

theorem rd_countN (R B : Nat) (l : Bs) (wd : Bool) (w : World) (h : RdS w R l wd) (hc : countB l = none) (hl : l.length ≤ 100000) (hT : TabV B w) :
    Calls Tryz.prog 115 #[.pointer (some ⟨R, 0, none⟩)] w fun e w' => Stopped e ∧ Only R w w' := by
  unfold countB at hc
  split at hc
  · rename_i h1
    simp only [Bool.or_eq_true, decide_eq_true_eq, List.isEmpty_iff] at h1
    by_cases h0 : digs l = []
    · exact rd_countN2 R B l wd w h h0 hl hT
    · exact rd_countN1 R l wd w h (List.length_pos_iff.2 h0) (h1.resolve_left h0) hl
  · cases hc
end Go.Proofs.YtilhicefhhgecaaGreatDoor

namespace Pv
open Go Go.RowKit
theorem indexB_sign (l : Bs) (n : Nat) (_hn : n < 128) : decide (0 ≤ Lib.indexByte l ((n : Int)).toNat.toUInt8) = l.contains (UInt8.ofNat n) := by
  have e : ((n : Int)).toNat.toUInt8 = UInt8.ofNat n := by simp
  rw [e]
  cases h : l.contains (UInt8.ofNat n) with
  | true => exact decide_eq_true (indexB_some _ _ h)
  | false => rw [indexB_no _ _ h]; rfl
end Pv
namespace Go.Proofs.YtilhicefhhgecaaGreatDoor
open Go.RowKit Pv
/-- What an escape, or one of a class, leaves. -/
def EscP (R : Nat) (w : World) (s : List Rng) (q : Bool) (l : Bs) (wd : Bool) (e : Ending) (w' : World) : Prop :=
  ∃ A n c, e = .returned (.tuple #[.slice A n c, .bool q]) ∧ OwnSet w' w.heap.size (.slice A n c) s ∧ RdS w' R l wd ∧ Only R w w'
theorem marks_index (n : Nat) (hn : n < 128) (b : Bool) (hb : marksB.contains (UInt8.ofNat n) = b) (W : World) : Calls Tryz.prog 153 #[.string ⟨#[46, 91, 93, 40, 41, 42, 43, 63, 123, 125, 124, 92, 45, 94]⟩, .int .u8 (n : Int)] W fun e w' => ∃ z, e = .returned (.int .i64 z) ∧ decide (0 ≤ z) = b ∧ W = w' :=
  (Tryz.strings_IndexByte ⟨#[46, 91, 93, 40, 41, 42, 43, 63, 123, 125, 124, 92, 45, 94]⟩ (n : Int) W).mono fun _e _w' ⟨h1, h2⟩ => ⟨_, h1, (indexB_sign _ n hn).trans hb, h2.symm⟩

set_option maxHeartbeats 1000000 in
set_option maxRecDepth 100000 in
theorem esc_markW (R B : Nat) (l r : Bs) (n : Nat) (wd : Bool) (w : World) (h : RdS w R l wd) (ht : takeB [] l = some (n, r)) (hl : l.length ≤ 100000) (hT : TabV B w) (hm : n < 128) (hc : marksB.contains (UInt8.ofNat n) = true) :
    Calls Tryz.prog 199 #[.pointer (some ⟨R, 0, none⟩)] w (EscP R w (one1 n) true r wd) := by
  have hn := (takeB_len ht).2
  have HTK := Lib.hid (rd_takeG R B l r n wd ⟨#[]⟩ w h ht hl hT)
  have i0 : (0 : Int) ≤ (n : Int) := by omega
  have i1 : (n : Int) ≤ 1114111 := by omega
  have HIX := Lib.hid (fun W => marks_index n hm true hc W)
  have HSP := Lib.hid (fun W => rd_span n n W (by omega) (by omega))
  have i2 : (n : Int) < 128 := by omega
  clear h ht hl hT hn hm hc
  go_enter Tryz.func199, Tryz.ntmps199
  go_wp2_with fail
  refine HTK.out.mono ?_
  rintro e w1 ⟨rfl, h1, h2⟩
  have H1 := Lib.hid h1; have H2 := Lib.hid h2
  clear h1 h2
  go_wp2_with fail
  refine (HIX.out _).mono ?_
  rintro e w' ⟨z, rfl, hz, rfl⟩
  have hz' := of_decide_eq_true hz
  clear hz
  go_wp2_with fail
  refine (HSP.out _).mono ?_
  rintro e w2 ⟨rfl, h3, h4⟩
  have H3 := Lib.hid h3; have H4 := Lib.hid h4
  clear h3 h4
  go_wp2
  go_ret2
  exact ⟨_, _, _, rfl, OwnK.lower H3.out H2.out.size, H1.out.below H4.out, H2.out.then H4.out⟩

set_option maxHeartbeats 1000000 in
set_option maxRecDepth 100000 in
theorem esc_nW (R B : Nat) (l r : Bs) (wd : Bool) (w : World) (h : RdS w R l wd) (ht : takeB [] l = some (110, r)) (hl : l.length ≤ 100000) (hT : TabV B w) :
    Calls Tryz.prog 199 #[.pointer (some ⟨R, 0, none⟩)] w (EscP R w [⟨10, 10⟩] true r wd) := by
  have HTK := Lib.hid (rd_takeG R B l r 110 wd ⟨#[]⟩ w h ht hl hT)
  have HIX := Lib.hid (fun W => marks_index 110 (by omega) false (by decide) W)
  have HSP := Lib.hid (fun W => rd_span 10 10 W (by omega) (by omega))
  simp only [Int.cast_ofNat_Int] at HTK HIX
  clear h ht hl hT
  go_enter Tryz.func199, Tryz.ntmps199
  go_wp2_with fail
  refine HTK.out.mono ?_
  rintro e w1 ⟨rfl, h1, h2⟩
  have H1 := Lib.hid h1; have H2 := Lib.hid h2
  clear h1 h2
  go_wp2_with fail
  refine (HIX.out _).mono ?_
  rintro e w' ⟨z, rfl, hz, rfl⟩
  have hz' := of_decide_eq_false hz
  clear hz
  go_wp2_with fail
  refine (HSP.out _).mono ?_
  rintro e w2 ⟨rfl, h3, h4⟩
  have H3 := Lib.hid h3; have H4 := Lib.hid h4
  clear h3 h4
  go_wp2
  go_ret2
  exact ⟨_, _, _, rfl, OwnK.lower H3.out H2.out.size, H1.out.below H4.out, H2.out.then H4.out⟩

set_option maxHeartbeats 1000000 in
set_option maxRecDepth 100000 in
theorem esc_rW (R B : Nat) (l r : Bs) (wd : Bool) (w : World) (h : RdS w R l wd) (ht : takeB [] l = some (114, r)) (hl : l.length ≤ 100000) (hT : TabV B w) :
    Calls Tryz.prog 199 #[.pointer (some ⟨R, 0, none⟩)] w (EscP R w [⟨13, 13⟩] true r wd) := by
  have HTK := Lib.hid (rd_takeG R B l r 114 wd ⟨#[]⟩ w h ht hl hT)
  have HIX := Lib.hid (fun W => marks_index 114 (by omega) false (by decide) W)
  have HSP := Lib.hid (fun W => rd_span 13 13 W (by omega) (by omega))
  simp only [Int.cast_ofNat_Int] at HTK HIX
  clear h ht hl hT
  go_enter Tryz.func199, Tryz.ntmps199
  go_wp2_with fail
  refine HTK.out.mono ?_
  rintro e w1 ⟨rfl, h1, h2⟩
  have H1 := Lib.hid h1; have H2 := Lib.hid h2
  clear h1 h2
  go_wp2_with fail
  refine (HIX.out _).mono ?_
  rintro e w' ⟨z, rfl, hz, rfl⟩
  have hz' := of_decide_eq_false hz
  clear hz
  go_wp2_with fail
  refine (HSP.out _).mono ?_
  rintro e w2 ⟨rfl, h3, h4⟩
  have H3 := Lib.hid h3; have H4 := Lib.hid h4
  clear h3 h4
  go_wp2
  go_ret2
  exact ⟨_, _, _, rfl, OwnK.lower H3.out H2.out.size, H1.out.below H4.out, H2.out.then H4.out⟩

set_option maxHeartbeats 1000000 in
set_option maxRecDepth 100000 in
theorem esc_tW (R B : Nat) (l r : Bs) (wd : Bool) (w : World) (h : RdS w R l wd) (ht : takeB [] l = some (116, r)) (hl : l.length ≤ 100000) (hT : TabV B w) :
    Calls Tryz.prog 199 #[.pointer (some ⟨R, 0, none⟩)] w (EscP R w [⟨9, 9⟩] true r wd) := by
  have HTK := Lib.hid (rd_takeG R B l r 116 wd ⟨#[]⟩ w h ht hl hT)
  have HIX := Lib.hid (fun W => marks_index 116 (by omega) false (by decide) W)
  have HSP := Lib.hid (fun W => rd_span 9 9 W (by omega) (by omega))
  simp only [Int.cast_ofNat_Int] at HTK HIX
  clear h ht hl hT
  go_enter Tryz.func199, Tryz.ntmps199
  go_wp2_with fail
  refine HTK.out.mono ?_
  rintro e w1 ⟨rfl, h1, h2⟩
  have H1 := Lib.hid h1; have H2 := Lib.hid h2
  clear h1 h2
  go_wp2_with fail
  refine (HIX.out _).mono ?_
  rintro e w' ⟨z, rfl, hz, rfl⟩
  have hz' := of_decide_eq_false hz
  clear hz
  go_wp2_with fail
  refine (HSP.out _).mono ?_
  rintro e w2 ⟨rfl, h3, h4⟩
  have H3 := Lib.hid h3; have H4 := Lib.hid h4
  clear h3 h4
  go_wp2
  go_ret2
  exact ⟨_, _, _, rfl, OwnK.lower H3.out H2.out.size, H1.out.below H4.out, H2.out.then H4.out⟩

set_option maxHeartbeats 1000000 in
set_option maxRecDepth 100000 in
theorem esc_dW (R B : Nat) (l r : Bs) (wd : Bool) (w : World) (h : RdS w R l wd) (ht : takeB [] l = some (100, r)) (hl : l.length ≤ 100000) (hT : TabV B w) :
    Calls Tryz.prog 199 #[.pointer (some ⟨R, 0, none⟩)] w (EscP R w [⟨48, 57⟩] false r wd) := by
  have HTK := Lib.hid (rd_takeG R B l r 100 wd ⟨#[]⟩ w h ht hl hT)
  have HIX := Lib.hid (fun W => marks_index 100 (by omega) false (by decide) W)
  have HSP := Lib.hid (fun W => rd_span 48 57 W (by omega) (by omega))
  simp only [Int.cast_ofNat_Int] at HTK HIX
  clear h ht hl hT
  go_enter Tryz.func199, Tryz.ntmps199
  go_wp2_with fail
  refine HTK.out.mono ?_
  rintro e w1 ⟨rfl, h1, h2⟩
  have H1 := Lib.hid h1; have H2 := Lib.hid h2
  clear h1 h2
  go_wp2_with fail
  refine (HIX.out _).mono ?_
  rintro e w' ⟨z, rfl, hz, rfl⟩
  have hz' := of_decide_eq_false hz
  clear hz
  go_wp2_with fail
  refine (HSP.out _).mono ?_
  rintro e w2 ⟨rfl, h3, h4⟩
  have H3 := Lib.hid h3; have H4 := Lib.hid h4
  clear h3 h4
  go_wp2
  go_ret2
  exact ⟨_, _, _, rfl, OwnK.lower H3.out H2.out.size, H1.out.below H4.out, H2.out.then H4.out⟩

set_option maxHeartbeats 1000000 in
set_option maxRecDepth 100000 in
theorem esc_noneW (R B : Nat) (l r : Bs) (n : Nat) (wd : Bool) (w : World) (h : RdS w R l wd) (ht : takeB [] l = some (n, r)) (hl : l.length ≤ 100000) (hT : TabV B w) (hm : n < 128 → marksB.contains (UInt8.ofNat n) = false) (hk : n ≠ 110 ∧ n ≠ 114 ∧ n ≠ 116 ∧ n ≠ 100 ∧ n ≠ 119 ∧ n ≠ 115 ∧ n ≠ 117) :
    Calls Tryz.prog 199 #[.pointer (some ⟨R, 0, none⟩)] w (fun e w' => Stopped e ∧ Only R w w') := by
  have hn := (takeB_len ht).2
  have HTK := Lib.hid (rd_takeG R B l r n wd ⟨#[]⟩ w h ht hl hT)
  have i0 : (0 : Int) ≤ (n : Int) := by omega
  have i1 : (n : Int) ≤ 1114111 := by omega
  have HNO := Lib.hid (fun W => rd_no W)
  obtain ⟨k110, k114, k116, k100, k119, k115, k117⟩ := hk
  have e110 : ((n : Int) == 110) = false := by simp; omega
  have e114 : ((n : Int) == 114) = false := by simp; omega
  have e116 : ((n : Int) == 116) = false := by simp; omega
  have e100 : ((n : Int) == 100) = false := by simp; omega
  have e119 : ((n : Int) == 119) = false := by simp; omega
  have e115 : ((n : Int) == 115) = false := by simp; omega
  have e117 : ((n : Int) == 117) = false := by simp; omega
  by_cases hlt : n < 128
  · have HIX := Lib.hid (fun W => marks_index n hlt false (hm hlt) W)
    have i2 : (n : Int) < 128 := by omega
    clear h ht hl hT hn hm hlt k110 k114 k116 k100 k119 k115 k117
    go_enter Tryz.func199, Tryz.ntmps199
    go_wp2_with fail
    refine HTK.out.mono ?_
    rintro e w1 ⟨rfl, h1, h2⟩
    have H1 := Lib.hid h1; have H2 := Lib.hid h2
    clear h1 h2
    go_wp2_with fail
    refine (HIX.out _).mono ?_
    rintro e w' ⟨z, rfl, hz, rfl⟩
    have hz' := of_decide_eq_false hz
    clear hz
    go_wp2_with fail
    refine (HNO.out _).mono ?_
    rintro e w'' ⟨he, rfl⟩
    subst he
    go_wp2
    exact ⟨rfl, rfl, H2.out⟩
  · have i2 : ¬ (n : Int) < 128 := by omega
    clear h ht hl hT hn hm hlt k110 k114 k116 k100 k119 k115 k117
    go_enter Tryz.func199, Tryz.ntmps199
    go_wp2_with fail
    refine HTK.out.mono ?_
    rintro e w1 ⟨rfl, h1, h2⟩
    have H1 := Lib.hid h1; have H2 := Lib.hid h2
    clear h1 h2
    go_wp2_with fail
    refine (HNO.out _).mono ?_
    rintro e w'' ⟨he, rfl⟩
    subst he
    go_wp2
    exact ⟨rfl, rfl, H2.out⟩

set_option maxHeartbeats 1000000 in
set_option maxRecDepth 100000 in
theorem esc_takeN (R B : Nat) (l : Bs) (wd : Bool) (w : World) (h : RdS w R l wd) (ht : takeB [] l = none) (hl : l.length ≤ 100000) (hT : TabV B w) :
    Calls Tryz.prog 199 #[.pointer (some ⟨R, 0, none⟩)] w fun e w' => Stopped e ∧ Only R w w' := by
  have HTK := Lib.hid (rd_takeN R B l wd ⟨#[]⟩ w h ht hl hT)
  clear h ht hl hT
  go_enter Tryz.func199, Tryz.ntmps199
  go_wp2_with fail
  refine HTK.out.mono ?_
  rintro e w1 ⟨he, h2⟩
  have H2 := Lib.hid h2
  subst he
  clear h2
  go_wp2
  exact ⟨rfl, rfl, H2.out⟩
end Go.Proofs.YtilhicefhhgecaaGreatDoor
