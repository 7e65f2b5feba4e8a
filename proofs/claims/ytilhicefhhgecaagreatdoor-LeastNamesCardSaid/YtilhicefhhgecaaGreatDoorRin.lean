/- Walks: the reader's count: a number of one or two digits. PUT1 -/
import Derived.Test.YtilhicefhhgecaaGreatDoorRbn
import Derived.Test.YtilhicefhhgecaaGreatDoorRcn
import Derived.Lib.SmallJoins
namespace Pv
open Go Go.RowKit
theorem digs_all (l : Bs) : ∀ b, b ∈ digs l → 48 ≤ b.toNat ∧ b.toNat ≤ 57 := fun b hb => by
  have h : (digs l).all (fun b => decide (48 ≤ b.toNat) && decide (b.toNat ≤ 57)) = true := List.all_takeWhile
  simpa using List.all_eq_true.1 h b hb
theorem digs_take (l : Bs) : l.take (digs l).length = digs l := by
  have h : digs l <+: l := (List.takeWhile_prefix _).trans (List.take_prefix _ _)
  generalize digs l = d at *
  obtain ⟨t, rfl⟩ := h
  rw [List.take_left]
theorem decFrom_is : ∀ (D : Bs) (acc : Nat), (∀ b, b ∈ D → 48 ≤ b.toNat ∧ b.toNat ≤ 57) → Lib.decFrom acc D = some (D.foldl (fun a b => 10 * a + (b.toNat - 48)) acc)
  | [], acc, _ => rfl
  | b :: D, acc, h => by
    have h1 := h b (by simp)
    unfold Lib.decFrom Lib.digitVal
    rw [if_pos h1]
    simp only [List.foldl_cons]
    rw [decFrom_is D _ fun c hc => h c (by simp [hc]), Nat.mul_comm]
theorem atoi_digs {D : Bs} (h : ∀ b, b ∈ D → 48 ≤ b.toNat ∧ b.toNat ≤ 57) (h0 : 1 ≤ D.length) : Lib.atoi D = some ((decN D : Nat) : Int) := by
  match D, h, h0 with
  | b :: D, h, _ =>
    have h1 := h b (by simp)
    have n1 : (b == 45) = false := by
      simp only [beq_eq_false_iff_ne, ne_eq]
      rintro rfl
      exact absurd h1.1 (by decide)
    have n2 : (b == 43) = false := by
      simp only [beq_eq_false_iff_ne, ne_eq]
      rintro rfl
      exact absurd h1.1 (by decide)
    unfold Lib.atoi
    simp only [n1, n2, Bool.false_eq_true, if_false]
    unfold Lib.decNat
    simp only [List.isEmpty_cons, Bool.false_eq_true, if_false]
    rw [decFrom_is _ _ h]
    rfl
/-- A digit stands at a place below, none at the end. -/
theorem digs_at {l : Bs} {k : Nat} (h : k < (digs l).length) : k < 2 ∧ ∃ b, l[k]? = some b ∧ 48 ≤ b.toNat ∧ b.toNat ≤ 57 := by
  refine ⟨by have := digs_len l; omega, (digs l)[k], ?_, digs_all l _ (List.getElem_mem h)⟩
  conv => lhs; rw [digs_pre l]
  rw [List.getElem?_append_left h, List.getElem?_eq_getElem h]
theorem digs_end (l : Bs) : (digs l).length = 2 ∨ (digs l).length = l.length ∨ ∃ b, l[(digs l).length]? = some b ∧ (b.toNat < 48 ∨ 57 < b.toNat) := by
  match l with
  | [] => exact .inr (.inl rfl)
  | [b] =>
    by_cases hb : 48 ≤ b.toNat ∧ b.toNat ≤ 57
    · exact .inr (.inl (by simp [digs, hb]))
    · exact .inr (.inr ⟨b, by simp [digs, hb], by omega⟩)
  | b :: c :: l =>
    by_cases hb : 48 ≤ b.toNat ∧ b.toNat ≤ 57
    · by_cases hc : 48 ≤ c.toNat ∧ c.toNat ≤ 57
      · exact .inl (by simp [digs, hb, hc])
      · exact .inr (.inr ⟨c, by simp [digs, hb, hc], by omega⟩)
    · exact .inr (.inr ⟨b, by simp [digs, hb], by omega⟩)
end Pv
namespace Go.Proofs.YtilhicefhhgecaaGreatDoor
open Go.RowKit Pv

theorem bsl_at {s : ByteArray} {k : Nat} {b : UInt8} (h : (bsl s)[k]? = some b) : ∃ hk : k < s.size, s[k]'hk = b := by
  have hk : k < s.size := by have := lt_of_get h; rwa [bsl_len] at this
  refine ⟨hk, ?_⟩
  have h3 : (bsl s)[k]? = some (s[k]'hk) := by
    simp only [bsl]
    rw [Array.getElem?_toList]
    exact Array.getElem?_eq_getElem _
  rw [h3] at h
  exact Option.some.inj h
theorem bsl_take (s : ByteArray) (n : Nat) : bsl (s.extract 0 n) = (bsl s).take n := by
  simp only [bsl]
  rw [ByteArray.data_extract, Array.toList_extract]
  simp [List.extract]
theorem bsl_drop (s : ByteArray) (n : Nat) : bsl (s.extract n s.size) = (bsl s).drop n := by
  simp only [bsl]
  rw [ByteArray.data_extract, Array.toList_extract]
  simp only [List.extract]
  rw [List.take_of_length_le]
  have : s.data.toList.length = s.size := rfl
  rw [List.length_drop]
  omega

set_option maxHeartbeats 2000000 in
set_option maxRecDepth 100000 in
theorem rd_count (R : Nat) (l r : Bs) (n : Nat) (wd : Bool) (w : World) (h : RdS w R l wd) (hc : countB l = some (n, r)) (hl : l.length ≤ 100000) :
    Calls Tryz.prog 115 #[.pointer (some ⟨R, 0, none⟩)] w fun e w' => e = .returned (.int .i64 n) ∧ RdS w' R r wd ∧ Only R w w' := by
  obtain ⟨hd1, hn, hn16, hr⟩ := countB_some hc
  obtain ⟨s, hs, HB, hlt, p0, p1, f0, f1⟩ := h.cells
  have hsz : s.size = l.length := by rw [← bsl_len, hs.out]
  have hd2 := digs_len l
  have hd3 : (digs l).length ≤ s.size := by
    rw [hsz, ← digs_take l, List.length_take]
    omega
  have HD := Lib.hid (fun k (hk : k < (digs l).length) => digs_at hk)
  have HE := Lib.hid (digs_end l)
  obtain ⟨dl, hdl⟩ : ∃ dl, (digs l).length = dl := ⟨_, rfl⟩
  have HT : Hid (bsl (s.extract 0 dl) = digs l) := Lib.hid (by
    rw [bsl_take, hs.out, ← hdl, digs_take])
  have HA := Lib.hid (fun W => Tryz.strconv_Atoi (s.extract 0 dl) n (by
    have h1 : (bsl (s.extract 0 dl)).length = dl := by rw [HT.out, hdl]
    rw [bsl_len] at h1
    omega) (by
    have h1 : (s.extract 0 dl).data.toList = digs l := HT.out
    rw [h1, atoi_digs (digs_all l) hd1, hn]) W)
  have HR : Hid (bsl (s.extract dl s.size) = r) := Lib.hid (by rw [bsl_drop, hs.out, hr, hdl])
  have HSZ := Lib.hid hsz
  rw [hdl] at hd1 hd2 hd3 HD HE
  have hn' : (n : Int) ≤ 16 := by omega
  have hn'' : ((n : Int) > 16) = False := by simp; omega
  clear h hc hn hr hdl hsz
  have hs5 : s.size ≤ 100000 := by rw [HSZ.out]; exact hl
  clear hl
  go_enter Tryz.func115, Tryz.ntmps115
  go_wp2
  go_loop [3] (fun iv => ∃ k : Nat, iv = .int .i64 k ∧ k ≤ dl) (fun iv => dl - (intOf iv).toNat)
  case atStart => exact ⟨0, rfl, by omega⟩
  case round =>
    obtain ⟨k, rfl, hk⟩ := hrel
    by_cases hlt2 : k < dl
    · obtain ⟨k2, b, hb, b1, b2⟩ := HD.out k hlt2
      rw [← hs.out] at hb
      obtain ⟨hks, hsb⟩ := bsl_at hb
      have c1 : (48 : Int) ≤ ((s[k]'hks).toNat : Int) := by rw [hsb]; omega
      have c2 : ((s[k]'hks).toNat : Int) ≤ 57 := by rw [hsb]; omega
      clear hb hsb
      go_wp2
      go_round
      case rel => exact ⟨k + 1, by go_num, by omega⟩
      case measure => simp [intOf]; omega
    · obtain rfl : k = dl := by omega
      have hk5 : (k : Int) ≤ (s.size : Int) := by omega
      by_cases hk2 : 2 ≤ k
      · have t1 : decide ((k : Int) < 2) = false := decide_eq_false (by omega)
        clear HE
        go_wp2_with fail
        refine (HA.out _).mono ?_
        rintro e w1 ⟨rfl, t, hw⟩
        have hb1 : Below w.heap.size w w1 := hw ▸ Go.Joins.below_bytesWorld _ w 5 t (Nat.le_refl _)
        have HB1 := Lib.hid hb1
        have HB2 := Lib.hid (HB.out.below hb1 hlt)
        have hlt1 : R < w1.heap.size := Nat.lt_of_lt_of_le hlt hb1.size
        have q0 : w1.cell? ⟨R, 0, none⟩ = some (.string s) := HB2.out.cell 0
        have q1 : w1.frozen? ⟨R, 0, none⟩ = false := HB2.out.frozen 0
        clear hw hb1 p0 p1 f0 f1
        go_wp2
        go_ret
        exact ⟨rfl, ⟨_, HR.out, HB2.out.set 0 _⟩, (Only.of HB1.out).set 0 _⟩
      have k2 : (k : Int) < 2 := by omega
      rcases HE.out with h2 | h2 | ⟨b, hb, hb2⟩
      · omega
      · have h3 : k = s.size := by rw [HSZ.out]; exact h2
        have t1 : decide (k < s.size) = false := decide_eq_false (by omega)
        have t2 : ¬ ((k : Int) < (s.size : Int)) := by omega
        have t3 : (s.size : Int) ≤ (k : Int) := by omega
        clear HE h2 h3
        go_wp2_with fail
        refine (HA.out _).mono ?_
        rintro e w1 ⟨rfl, t, hw⟩
        have hb1 : Below w.heap.size w w1 := hw ▸ Go.Joins.below_bytesWorld _ w 5 t (Nat.le_refl _)
        have HB1 := Lib.hid hb1
        have HB2 := Lib.hid (HB.out.below hb1 hlt)
        have hlt1 : R < w1.heap.size := Nat.lt_of_lt_of_le hlt hb1.size
        have q0 : w1.cell? ⟨R, 0, none⟩ = some (.string s) := HB2.out.cell 0
        have q1 : w1.frozen? ⟨R, 0, none⟩ = false := HB2.out.frozen 0
        clear hw hb1 p0 p1 f0 f1
        go_wp2
        go_ret
        exact ⟨rfl, ⟨_, HR.out, HB2.out.set 0 _⟩, (Only.of HB1.out).set 0 _⟩
      · rw [← hs.out] at hb
        obtain ⟨hks, hsb⟩ := bsl_at hb
        rcases hb2 with hb2 | hb2
        · have c1 : ((s[k]'hks).toNat : Int) < 48 := by rw [hsb]; omega
          clear hb hsb hb2 HE
          go_wp2_with fail
          refine (HA.out _).mono ?_
          rintro e w1 ⟨rfl, t, hw⟩
          have hb1 : Below w.heap.size w w1 := hw ▸ Go.Joins.below_bytesWorld _ w 5 t (Nat.le_refl _)
          have HB1 := Lib.hid hb1
          have HB2 := Lib.hid (HB.out.below hb1 hlt)
          have hlt1 : R < w1.heap.size := Nat.lt_of_lt_of_le hlt hb1.size
          have q0 : w1.cell? ⟨R, 0, none⟩ = some (.string s) := HB2.out.cell 0
          have q1 : w1.frozen? ⟨R, 0, none⟩ = false := HB2.out.frozen 0
          clear hw hb1 p0 p1 f0 f1
          go_wp2
          go_ret
          exact ⟨rfl, ⟨_, HR.out, HB2.out.set 0 _⟩, (Only.of HB1.out).set 0 _⟩
        · have c1 : (57 : Int) < ((s[k]'hks).toNat : Int) := by rw [hsb]; omega
          clear hb hsb hb2 HE
          go_wp2_with fail
          refine (HA.out _).mono ?_
          rintro e w1 ⟨rfl, t, hw⟩
          have hb1 : Below w.heap.size w w1 := hw ▸ Go.Joins.below_bytesWorld _ w 5 t (Nat.le_refl _)
          have HB1 := Lib.hid hb1
          have HB2 := Lib.hid (HB.out.below hb1 hlt)
          have hlt1 : R < w1.heap.size := Nat.lt_of_lt_of_le hlt hb1.size
          have q0 : w1.cell? ⟨R, 0, none⟩ = some (.string s) := HB2.out.cell 0
          have q1 : w1.frozen? ⟨R, 0, none⟩ = false := HB2.out.frozen 0
          clear hw hb1 p0 p1 f0 f1
          go_wp2
          go_ret
          exact ⟨rfl, ⟨_, HR.out, HB2.out.set 0 _⟩, (Only.of HB1.out).set 0 _⟩
end Go.Proofs.YtilhicefhhgecaaGreatDoor
