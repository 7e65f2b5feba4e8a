/- Walks: the document's code points: One, Next. PUT1 -/
import Derived.Test.YtilhicefhhgecaaGreatDoorUbq
import Derived.Test.YtilhicefhhgecaaGreatDoorUtq
import Derived.Test.YtilhicefhhgecaaGreatDoorTaq
namespace Pv
open Go Go.RowKit
/-- What One tells of so many bytes. -/
def oneP (l : List UInt8) (size : Nat) : Nat × Bool := if size ≤ l.length then (numP l size, goodP l size) else (0, false)
theorem oneP_not {l : List UInt8} {size : Nat} (h : l.length < size) : oneP l size = (0, false) := by unfold oneP; rw [if_neg (by omega)]
theorem oneP_in {l : List UInt8} {size : Nat} (h : size ≤ l.length) : oneP l size = (numP l size, goodP l size) := by unfold oneP; rw [if_pos h]
theorem oneP_good {l : List UInt8} {size : Nat} : (oneP l size).2 = goodP l size := by
  by_cases h : size ≤ l.length
  · rw [oneP_in h]
  · rw [oneP_not (by omega)]
    symm
    rw [← Bool.not_eq_true, good_iff]
    omega
theorem numP_lt (l : List UInt8) (size : Nat) (h : size ≤ 4) : numP l size < 64 ^ 5 := by
  have h1 := numK_lt l size (size - 1) (by omega)
  exact Nat.lt_of_lt_of_le h1 (Nat.pow_le_pow_right (by omega) (by omega))
theorem take_eq_extract (s : ByteArray) (a k : Nat) : bsl (s.extract a (a + k)) = ((bsl s).drop a).take k := by
  simp [bsl, ByteArray.data_extract, Array.toList_extract, List.extract_eq_take_drop]
theorem ret_ib {k : IntKind} {a c : Int} {b d : Bool} (h : a = c) (h' : b = d) : Ending.returned (.tuple #[.int k a, .bool b]) = Ending.returned (.tuple #[.int k c, .bool d]) := by rw [h, h']
end Pv
namespace Go.Proofs.YtilhicefhhgecaaGreatDoor
open Go.RowKit Pv

set_option maxHeartbeats 1000000 in
set_option maxRecDepth 100000 in
theorem ref01_One (s : ByteArray) (at' size : Nat) (w : World) (hs : s.size ≤ 140737488355328) (h1 : 1 ≤ size) (h4 : size ≤ 4) (hl : at' ≤ s.size) :
    Calls Tryz.prog 147 #[.string s, .int .i64 at', .int .i64 size] w fun e w' => e = .returned (.tuple #[.int .i64 (oneP ((bsl s).drop at') size).1, .bool (oneP ((bsl s).drop at') size).2]) ∧ Below w.heap.size w w' := by
  have HLen : Hid (((bsl s).drop at').length = s.size - at') := Lib.hid (by rw [List.length_drop, bsl_len])
  by_cases hin : at' + size ≤ s.size
  case neg =>
    have HR := Lib.hid (oneP_not (l := (bsl s).drop at') (size := size) (by rw [HLen.out]; omega))
    rw [HR.out]
    clear HR HLen
    go_enter Tryz.func147, Tryz.ntmps147
    go_wp2
    go_ret2
    exact ⟨rfl, Below.refl _ _⟩
  have HN := Lib.hid (fun W : World => ref01_number s at' size W hs h1 h4 hin)
  have HR := oneP_in (l := (bsl s).drop at') (size := size) (by rw [HLen.out]; omega)
  rw [HR]
  clear HR
  obtain ⟨l, hL⟩ : ∃ l, (bsl s).drop at' = l := ⟨_, rfl⟩
  have HX : Hid (bsl (s.extract at' (at' + size)) = l.take size) := Lib.hid (by rw [take_eq_extract, hL])
  have HG := Lib.hid (good_iff l size)
  rw [hL] at HN ⊢
  have hnl := numP_lt l size h4
  have HLL : size ≤ l.length := by rw [← hL, HLen.out]; omega
  clear HLen hL
  obtain ⟨n, hn⟩ : ∃ n, numP l size = n := ⟨_, rfl⟩
  have HGP : Hid (goodP l size = (isP n && decide (bytesP n = firstN l size))) := Lib.hid (by unfold goodP; rw [hn, decide_eq_true HLL, Bool.true_and])
  rw [hn] at HN hnl ⊢
  rw [HGP.out]
  clear hn HG HGP
  have HIS : Hid (∀ W, Calls Tryz.prog 183 #[.int .i64 n] W fun e w' => e = .returned (.bool (isP n)) ∧ W = w') := Lib.hid (fun W => ref01_Is n W)
  have HT : Hid (True ∧ True) := Lib.hid ⟨trivial, trivial⟩
  have hisN : isP n = true → n ≤ 1114111 := fun h => by unfold isP at h; exact (of_decide_eq_true h).1
  cases hI : isP n
  case false =>
    rw [hI] at HIS
    clear hnl hisN hI
    go_enter Tryz.func147, Tryz.ntmps147
    go_wp2_with fail
    refine (HN.out _).mono ?_
    rintro e w' ⟨rfl, rfl⟩
    go_wp2
    refine wp_region_T 14 (fun _ => True ∧ True) (by kernel_rfl) ?_
    refine wpAnyT_takeW (i := 0) (v := ?_) rfl (by decide) (by kernel_rfl) (by kernel_rfl) (by kernel_rfl) (fun _ _ _ h => h) (.inl ⟨rfl, ?_⟩) (fun _ => HT.out) ?_
    rotate_left
    · intro W__ _
      go_simp
      (try with_reducible rfl)
    try simp only [Act.put]
    refine wpAnyT_takeW (i := 1) (v := ?_) rfl (by decide) (by kernel_rfl) (by kernel_rfl) (by kernel_rfl) (fun _ _ _ h => h) (.inl ⟨rfl, ?_⟩) (fun _ => HT.out) ?_
    rotate_left
    · intro W__ _
      go_simp
      (try with_reducible rfl)
    try simp only [Act.put]
    refine wpAnyT_one (i := 2) rfl (by kernel_rfl) rfl fun K__ hK__ => ?_
    unfold Oper.wp
    go_simp
    refine (HIS.out _).mono ?_
    rintro e w' ⟨rfl, rfl⟩
    refine hK__ _ _ HT.out ?_
    clear hK__
    try simp only [Act.put]
    refine wpAnyT_takeW (i := 3) (v := ?_) rfl (by decide) (by kernel_rfl) (by kernel_rfl) (by kernel_rfl) (fun _ _ _ h => h) (.inl ⟨rfl, ?_⟩) (fun _ => HT.out) ?_
    rotate_left
    · intro W__ _
      go_simp
      (try with_reducible rfl)
    try simp only [Act.put]
    refine wpAnyT_takeW (i := 4) (v := undef) rfl (by decide) (by kernel_rfl) (by kernel_rfl) (by kernel_rfl) (fun _ _ _ h => h) (.inr ⟨by kernel_rfl, rfl⟩) (fun _ => HT.out) ?_
    try simp only [Act.put]
    refine wpAnyT_takeW (i := 5) (v := undef) rfl (by decide) (by kernel_rfl) (by kernel_rfl) (by kernel_rfl) (fun _ _ _ h => h) (.inr ⟨by kernel_rfl, rfl⟩) (fun _ => HT.out) ?_
    try simp only [Act.put]
    refine wpAnyT_takeW (i := 6) (v := undef) rfl (by decide) (by kernel_rfl) (by kernel_rfl) (by kernel_rfl) (fun _ _ _ h => h) (.inr ⟨by kernel_rfl, rfl⟩) (fun _ => HT.out) ?_
    try simp only [Act.put]
    refine wpAnyT_takeW (i := 7) (v := undef) rfl (by decide) (by kernel_rfl) (by kernel_rfl) (by kernel_rfl) (fun _ _ _ h => h) (.inr ⟨by kernel_rfl, rfl⟩) (fun _ => HT.out) ?_
    try simp only [Act.put]
    refine wpAnyT_takeW (i := 8) (v := undef) rfl (by decide) (by kernel_rfl) (by kernel_rfl) (by kernel_rfl) (fun _ _ _ h => h) (.inr ⟨by kernel_rfl, rfl⟩) (fun _ => HT.out) ?_
    try simp only [Act.put]
    refine wpAnyT_takeW (i := 9) (v := undef) rfl (by decide) (by kernel_rfl) (by kernel_rfl) (by kernel_rfl) (fun _ _ _ h => h) (.inr ⟨by kernel_rfl, rfl⟩) (fun _ => HT.out) ?_
    try simp only [Act.put]
    refine wpAnyT_takeW (i := 10) (v := undef) rfl (by decide) (by kernel_rfl) (by kernel_rfl) (by kernel_rfl) (fun _ _ _ h => h) (.inr ⟨by kernel_rfl, rfl⟩) (fun _ => HT.out) ?_
    try simp only [Act.put]
    refine wpAnyT_takeW (i := 11) (v := undef) rfl (by decide) (by kernel_rfl) (by kernel_rfl) (by kernel_rfl) (fun _ _ _ h => h) (.inr ⟨by kernel_rfl, rfl⟩) (fun _ => HT.out) ?_
    try simp only [Act.put]
    refine wpAnyT_takeW (i := 12) (v := undef) rfl (by decide) (by kernel_rfl) (by kernel_rfl) (by kernel_rfl) (fun _ _ _ h => h) (.inr ⟨by kernel_rfl, rfl⟩) (fun _ => HT.out) ?_
    try simp only [Act.put]
    refine wpAnyT_takeW (i := 13) (v := undef) rfl (by decide) (by kernel_rfl) (by kernel_rfl) (by kernel_rfl) (fun _ _ _ h => h) (.inr ⟨by kernel_rfl, rfl⟩) (fun _ => HT.out) ?_
    try simp only [Act.put]
    refine wpAnyT_takeW (i := 15) (v := ?_) rfl (by decide) (by kernel_rfl) (by kernel_rfl) (by kernel_rfl) (fun _ _ _ h => h) (.inl ⟨rfl, ?_⟩) (fun _ => HT.out) ?_
    rotate_left
    · intro W__ _
      go_simp
      (try with_reducible rfl)
    try simp only [Act.put]
    refine wpAnyT_end (i := 14) rfl (by kernel_rfl) rfl (by kernel_rfl) fun K__ hK__ => ?_
    unfold Oper.wp
    go_simp
    refine hK__ _ _ ?_
    clear hK__
    refine wpAnyT_end (i := 16) rfl (by kernel_rfl) rfl (by kernel_rfl) fun K__ hK__ => ?_
    unfold Oper.wp
    go_simp
    refine hK__ _ _ ?_
    clear hK__
    refine wpAnyT_done (by kernel_rfl) ?_ _
    go_wp2
    go_ret2
    exact ⟨rfl, (Below.refl _ _).drew⟩
  case true =>
    rw [hI] at HIS
    have hn1 := hisN hI
    have HBY := Lib.hid (fun W : World => ref01_Bytes n W hn1)
    have HEQ := Lib.hid (bytes8_eq hn1 (l.take size))
    have HV : Hid (((mkS (bytes8 n)).toList == (s.extract at' (at' + size)).toList) = decide (bytesP n = firstN l size)) := Lib.hid (by
      rw [toList_bsl, toList_bsl, bsl_mkS, HX.out, Bool.eq_iff_iff]
      simp only [beq_iff_eq, decide_eq_true_eq]
      exact HEQ.out)
    clear hnl hisN hI hn1
    generalize decide (bytesP n = firstN l size) = ans at *
    have i1 : (0 : Int) ≤ (at' : Int) := by omega
    have i2 : (at' : Int) + (size : Int) ≤ (s.size : Int) := by omega
    have i3 : (at' : Int) ≤ (at' : Int) + (size : Int) := by omega
    have i4 : IntKind.i64.wrap ((at' : Int) + (size : Int)) = (at' : Int) + (size : Int) := by rw [IntKind.wrap_i64]; omega
    go_enter Tryz.func147, Tryz.ntmps147
    go_wp2_with fail
    refine (HN.out _).mono ?_
    rintro e w' ⟨rfl, rfl⟩
    go_wp2
    refine wp_region_T 14 (fun _ => True ∧ True) (by kernel_rfl) ?_
    refine wpAnyT_takeW (i := 0) (v := ?_) rfl (by decide) (by kernel_rfl) (by kernel_rfl) (by kernel_rfl) (fun _ _ _ h => h) (.inl ⟨rfl, ?_⟩) (fun _ => HT.out) ?_
    rotate_left
    · intro W__ _
      go_simp
      (try with_reducible rfl)
    try simp only [Act.put]
    refine wpAnyT_takeW (i := 1) (v := ?_) rfl (by decide) (by kernel_rfl) (by kernel_rfl) (by kernel_rfl) (fun _ _ _ h => h) (.inl ⟨rfl, ?_⟩) (fun _ => HT.out) ?_
    rotate_left
    · intro W__ _
      go_simp
      (try with_reducible rfl)
    try simp only [Act.put]
    refine wpAnyT_one (i := 2) rfl (by kernel_rfl) rfl fun K__ hK__ => ?_
    unfold Oper.wp
    go_simp
    refine (HIS.out _).mono ?_
    rintro e w' ⟨rfl, rfl⟩
    refine hK__ _ _ HT.out ?_
    clear hK__
    try simp only [Act.put]
    refine wpAnyT_takeW (i := 3) (v := ?_) rfl (by decide) (by kernel_rfl) (by kernel_rfl) (by kernel_rfl) (fun _ _ _ h => h) (.inl ⟨rfl, ?_⟩) (fun _ => HT.out) ?_
    rotate_left
    · intro W__ _
      go_simp
      (try with_reducible rfl)
    try simp only [Act.put]
    refine wpAnyT_takeW (i := 4) (v := ?_) rfl (by decide) (by kernel_rfl) (by kernel_rfl) (by kernel_rfl) (fun _ _ _ h => h) (.inl ⟨by kernel_rfl, ?_⟩) (fun _ => HT.out) ?_
    rotate_left
    · intro W__ _
      go_simp
      (try with_reducible rfl)
    try simp only [Act.put]
    refine wpAnyT_takeW (i := 7) (v := ?_) rfl (by decide) (by kernel_rfl) (by kernel_rfl) (by kernel_rfl) (fun _ _ _ h => h) (.inl ⟨by kernel_rfl, ?_⟩) (fun _ => HT.out) ?_
    rotate_left
    · intro W__ _
      go_simp
      (try with_reducible rfl)
    try simp only [Act.put]
    refine wpAnyT_takeW (i := 8) (v := ?_) rfl (by decide) (by kernel_rfl) (by kernel_rfl) (by kernel_rfl) (fun _ _ _ h => h) (.inl ⟨by kernel_rfl, ?_⟩) (fun _ => HT.out) ?_
    rotate_left
    · intro W__ _
      go_simp
      (try with_reducible rfl)
    try simp only [Act.put]
    refine wpAnyT_takeW (i := 9) (v := ?_) rfl (by decide) (by kernel_rfl) (by kernel_rfl) (by kernel_rfl) (fun _ _ _ h => h) (.inl ⟨by kernel_rfl, ?_⟩) (fun _ => HT.out) ?_
    rotate_left
    · intro W__ _
      go_simp
      (try with_reducible rfl)
    try simp only [Act.put]
    refine wpAnyT_takeW (i := 10) (v := ?_) rfl (by decide) (by kernel_rfl) (by kernel_rfl) (by kernel_rfl) (fun _ _ _ h => h) (.inl ⟨by kernel_rfl, ?_⟩) (fun _ => HT.out) ?_
    rotate_left
    · intro W__ _
      go_simp
      (try with_reducible rfl)
    try simp only [Act.put]
    refine wpAnyT_takeW (i := 11) (v := ?_) rfl (by decide) (by kernel_rfl) (by kernel_rfl) (by kernel_rfl) (fun _ _ _ h => h) (.inl ⟨by kernel_rfl, ?_⟩) (fun _ => HT.out) ?_
    rotate_left
    · intro W__ _
      go_simp
      (try with_reducible rfl)
    try simp only [Act.put]
    refine wpAnyT_takeW (i := 12) (v := ?_) rfl (by decide) (by kernel_rfl) (by kernel_rfl) (by kernel_rfl) (fun _ _ _ h => h) (.inl ⟨by kernel_rfl, ?_⟩) (fun _ => HT.out) ?_
    rotate_left
    · intro W__ _
      go_simp
      (try with_reducible rfl)
    try simp only [Act.put]
    refine wpAnyT_one (i := 5) rfl (by kernel_rfl) (by kernel_rfl) fun K__ hK__ => ?_
    unfold Oper.wp
    go_simp
    refine (HBY.out _).mono ?_
    rintro e w1 ⟨g, c, rfl, hc, hb⟩
    refine hK__ _ _ HT.out ?_
    have B1 := Lib.hid ((Below.refl w.heap.size w).drew.trans hb)
    have HCV := conv_bytes g c (bytes8 n) w1 hc
    clear hK__ hc hb
    try simp only [Act.put]
    refine wpAnyT_takeW (i := 15) (v := ?_) rfl (by decide) (by kernel_rfl) (by kernel_rfl) (by kernel_rfl) (fun _ _ _ h => h) (.inl ⟨rfl, ?_⟩) (fun _ => HT.out) ?_
    rotate_left
    · intro W__ _
      go_simp
      (try with_reducible rfl)
    try simp only [Act.put]
    refine wpAnyT_one (i := 6) rfl (by kernel_rfl) (by kernel_rfl) fun K__ hK__ => ?_
    unfold Oper.wp
    go_simp
    refine hK__ _ _ HT.out ?_
    clear hK__ HCV
    try simp only [Act.put]
    refine wpAnyT_one (i := 13) rfl (by kernel_rfl) rfl fun K__ hK__ => ?_
    unfold Oper.wp
    go_simp
    refine hK__ _ _ (HT.out) ?_
    clear hK__
    refine wpAnyT_end (i := 14) rfl (by kernel_rfl) rfl (by kernel_rfl) fun K__ hK__ => ?_
    unfold Oper.wp
    go_simp
    refine hK__ _ _ ?_
    clear hK__
    refine wpAnyT_end (i := 16) rfl (by kernel_rfl) rfl (by kernel_rfl) fun K__ hK__ => ?_
    unfold Oper.wp
    go_simp
    refine hK__ _ _ ?_
    clear hK__
    refine wpAnyT_done (by kernel_rfl) ?_ _
    go_wp2
    go_ret2
    exact ⟨ret_ib rfl (by have h := HV.out; rw [show at' + size = ((at' : Int) + (size : Int)).toNat by omega] at h; exact h), B1.out⟩

set_option maxHeartbeats 1000000 in
set_option maxRecDepth 100000 in
theorem ref01_Next (s : ByteArray) (at' : Nat) (w : World) (hs : s.size ≤ 140737488355328) (hl : at' < s.size) :
    Calls Tryz.prog 103 #[.string s, .int .i64 at'] w fun e w' => Below w.heap.size w w' ∧ e = .returned (match nextP ((bsl s).drop at') with | some (n, k) => .tuple #[.int .i64 n, .int .i64 k, .int .i64 0] | none => .tuple #[.int .i64 0, .int .i64 0, .int .i64 10]) := by
  have HO := Lib.hid (fun (size : Nat) (W : World) (h1 : 1 ≤ size) (h4 : size ≤ 4) => ref01_One s at' size W hs h1 h4 (by omega))
  generalize (bsl s).drop at' = l at *
  have HR := Lib.hid (show ∀ k, 1 ≤ k → k ≤ 5 → (∀ j, 1 ≤ j → j < k → goodP l j = false) → (k ≤ 4 → goodP l k = true → nextP l = some (numP l k, k)) ∧ (k = 5 → nextP l = none) from fun k h1 h5 hj => by
    rcases (show k = 1 ∨ k = 2 ∨ k = 3 ∨ k = 4 ∨ k = 5 by omega) with rfl | rfl | rfl | rfl | rfl
    · exact ⟨fun _ h => by unfold nextP; rw [if_pos h], fun h => by omega⟩
    · exact ⟨fun _ h => by unfold nextP; rw [hj 1 (by omega) (by omega), if_neg (by simp), if_pos h], fun h => by omega⟩
    · exact ⟨fun _ h => by unfold nextP; rw [hj 1 (by omega) (by omega), hj 2 (by omega) (by omega), if_neg (by simp), if_neg (by simp), if_pos h], fun h => by omega⟩
    · exact ⟨fun _ h => by unfold nextP; rw [hj 1 (by omega) (by omega), hj 2 (by omega) (by omega), hj 3 (by omega) (by omega), if_neg (by simp), if_neg (by simp), if_neg (by simp), if_pos h], fun h => by omega⟩
    · exact ⟨fun h => by omega, fun _ => by unfold nextP; rw [hj 1 (by omega) (by omega), hj 2 (by omega) (by omega), hj 3 (by omega) (by omega), hj 4 (by omega) (by omega)]; rfl⟩)
  obtain ⟨res, hres⟩ : ∃ res, (match nextP l with | some (n, k) => Value.tuple #[.int .i64 n, .int .i64 k, .int .i64 0] | none => .tuple #[.int .i64 0, .int .i64 0, .int .i64 10]) = res := ⟨_, rfl⟩
  rw [hres]
  have HRES := Lib.hid hres
  clear hres
  have q1 : decide (s.size ≤ at') = false := decide_eq_false (by omega)
  have q2 : decide ((at' : Int) < 0) = false := decide_eq_false (by omega)
  go_enter Tryz.func103, Tryz.ntmps103
  go_wp2
  go_loopw [7] (fun i wr => ∃ k : Nat, 1 ≤ k ∧ k ≤ 5 ∧ i = .int .i64 k ∧ (∀ j, 1 ≤ j → j < k → goodP l j = false) ∧ Below w.heap.size w wr) (fun i _ => 5 - (intOf i).toNat)
  case atStart => exact ⟨1, by omega, by omega, rfl, by intros; omega, Below.refl _ _⟩
  case round =>
    obtain ⟨k, k1, k5, rfl, hj, hb⟩ := hrel
    have HJ := Lib.hid hj; have HB := Lib.hid hb
    clear hj hb
    by_cases hlt : k ≤ 4
    · have H1 := Lib.hid (HO.out k wr k1 hlt)
      have HGG := Lib.hid (oneP_good (l := l) (size := k))
      cases hg : goodP l k
      case true =>
        have HN := Lib.hid ((HR.out k k1 k5 HJ.out).1 hlt hg)
        have hp : oneP l k = (numP l k, true) := by
          have h1 := HGG.out
          rw [hg] at h1
          rw [oneP_in (((good_iff l k).1 hg).1), hg]
        rw [hp] at H1
        have HFIN := Lib.hid (show Value.tuple #[.int .i64 (numP l k), .int .i64 k, .int .i64 0] = res by rw [← HRES.out, HN.out])
        clear hg hp
        go_wp2_with fail
        refine H1.out.mono ?_
        rintro e w1 ⟨rfl, hb1⟩
        have B1 := Lib.hid (HB.out.trans (hb1.mono HB.out.size))
        clear hb1
        go_wp2
        go_ret3
        exact ⟨B1.out, congrArg Ending.returned HFIN.out⟩
      case false =>
        rw [hg] at HGG
        have HJ2 := Lib.hid (show ∀ j, 1 ≤ j → j < k + 1 → goodP l j = false from fun j j1 j2 => by
          by_cases e : j = k
          · subst e; exact hg
          · exact HJ.out j j1 (by omega))
        rw [HGG.out] at H1
        generalize (oneP l k).1 = v at *
        clear hg
        go_wp2_with fail
        refine H1.out.mono ?_
        rintro e w1 ⟨rfl, hb1⟩
        have B1 := Lib.hid (HB.out.trans (hb1.mono HB.out.size))
        clear hb1
        go_wp2
        go_roundw
        case rel => exact ⟨k + 1, by omega, by omega, by go_num, HJ2.out, B1.out⟩
        case measure => simp [intOf]; omega
    · have HFIN := Lib.hid (show Value.tuple #[.int .i64 0, .int .i64 0, .int .i64 10] = res by rw [← HRES.out, (HR.out k k1 k5 HJ.out).2 (by omega)])
      go_wp2
      go_ret3
      exact ⟨HB.out, congrArg Ending.returned HFIN.out⟩
end Go.Proofs.YtilhicefhhgecaaGreatDoor

namespace Pv
open Go Go.RowKit
theorem ret_vb {v : Value} {a b : Bool} (h : a = b) : Ending.returned (.tuple #[v, .bool a]) = Ending.returned (.tuple #[v, .bool b]) := by rw [h]
end Pv
namespace Go.Proofs.YtilhicefhhgecaaGreatDoor
open Go.RowKit Pv

theorem info_intU : (Tryz.prog.info? 3).map (fun i => (i.zero, i.size, i.bytes)) = some (some (.int .i64 0), 1, 8) := by kernel_rfl

set_option maxHeartbeats 1000000 in
set_option maxRecDepth 100000 in
theorem ref01_Points (s : ByteArray) (w : World) (hs : s.size ≤ 100000) :
    Calls Tryz.prog 65 #[.string s] w fun e w' => Below w.heap.size w w' ∧ ∃ v, e = .returned (.tuple #[v, .bool (Lib.validD (bsl s))]) := by
  obtain ⟨i0, hi0, hz0, hs0, hb0⟩ := info_parts info_intU
  have HNX := Lib.hid (fun (k : Nat) (W : World) (h : k < s.size) => ref01_Next s k W (by omega) h)
  obtain ⟨l, HL⟩ : ∃ l, Hid (bsl s = l) := ⟨_, Lib.hid rfl⟩
  have HLen : Hid (l.length = s.size) := Lib.hid (by rw [← HL.out, bsl_len])
  rw [HL.out] at HNX ⊢
  obtain ⟨ans, HA⟩ : ∃ ans, Hid (Lib.validD l = ans) := ⟨_, Lib.hid rfl⟩
  rw [HA.out]
  go_enter Tryz.func65, Tryz.ntmps65
  go_wp2
  go_loopw [4, 5] (fun o i wr => ∃ (k : Nat) (A : Option Addr) (c : Nat) (acc : List Int), i = .int .i64 k ∧ k ≤ s.size ∧ acc.length ≤ k ∧ o = .slice A acc.length c ∧ wr.ownsRow w.heap.size 3 1 (.slice A acc.length c) acc.length (acc.map (Value.int .i64)) ∧ Lib.validD (l.drop k) = ans ∧ Below w.heap.size w wr) (fun _ i _ => s.size - (intOf i).toNat)
  case atStart => exact ⟨0, none, 0, [], rfl, by omega, by simp, rfl, World.ownsRow_nil _ _ _ _, by simpa using HA.out, Below.refl _ _⟩
  case round =>
    obtain ⟨k, A, c, acc, rfl, hk, hacc, rfl, hown, hval, hb⟩ := hrel
    have HO := Lib.hid hown; have HB := Lib.hid hb; have HV := Lib.hid hval
    clear hown hb hval
    by_cases hlt : k < s.size
    · have H1 := HNX.out k wr hlt
      have hne : l.drop k ≠ [] := by
        intro h; have := congrArg List.length h; rw [List.length_drop, HLen.out] at this; simp at this; omega
      have HST := ptsL_step hne
      have HVV := ptsL_valid _ (l.drop k) (Nat.le_refl _)
      cases hx : nextP (l.drop k) with
      | none =>
        rw [hx] at H1 HST
        have HF := Lib.hid (show false = ans by rw [← HV.out, ← HVV, HST]; rfl)
        have HC := Lib.hid H1
        clear H1 HST HVV hx hne
        go_wp2_with fail
        refine HC.out.mono ?_
        rintro e w1 ⟨hb1, rfl⟩
        have B1 := Lib.hid (HB.out.trans (hb1.mono HB.out.size))
        clear hb1
        go_wp2
        go_ret2
        exact ⟨B1.out, _, ret_vb HF.out⟩
      | some p =>
        obtain ⟨n, q⟩ := p
        have hsz := nextP_size hx
        rw [List.length_drop, HLen.out] at hsz
        obtain ⟨q1, q4, qk, hn⟩ := hsz
        rw [hx] at H1 HST
        have HV2 := Lib.hid (show Lib.validD (l.drop (k + q)) = ans by
          rw [← ptsL_valid _ _ (Nat.le_refl _), ← HV.out, ← HVV, HST]
          simp [List.drop_drop])
        have HC := Lib.hid H1
        have Q1 : Hid (acc.length + 1 ≤ maxLen) := Lib.hid (by simp only [maxLen]; omega)
        have Q2 : Hid ((acc.length + 1) * 8 ≤ 140737488355328) := Lib.hid (by omega)
        obtain ⟨m, hm⟩ : ∃ m : Int, (n : Int) = m := ⟨_, rfl⟩
        have m0 : 0 ≤ m := by omega
        have m1 : m ≤ 1114111 := by omega
        simp only [hm] at HC
        clear H1 HST HVV hx hne hn hm
        go_wp2_with fail
        refine HC.out.mono ?_
        rintro e w1 ⟨hb1, rfl⟩
        have B1 := Lib.hid (HB.out.trans (hb1.mono HB.out.size))
        have OW1 := Lib.hid ((ownsRow_below HO.out hb1).alloc (.cells #[.int .i64 m] 3))
        have SR1 := Lib.hid (Pv.Src.one (w := w1) (x := .int .i64 m) (t := 3) rfl)
        have Q3 : Hid (w.heap.size ≤ (w1.alloc (.cells #[.int .i64 m] 3)).heap.size) := Lib.hid (by have := B1.out.size; simp; omega)
        clear hb1
        go_wp2_with (at_builtin
                     go_must (refine wpList_append_src _ rfl (.tmp 22) (.tmp 24) 22 rfl w.heap.size 3 i0 (.int .i64 0) 1 8 Tryz.underlying22 hi0 hz0 hs0 hb0 rfl (by decide) A c acc.length (acc.map (Value.int .i64)) rfl OW1.out (some ⟨w1.heap.size, 0, none⟩) 1 1 [.int .i64 m] rfl SR1.out Q1.out Q2.out Q3.out ?_)
                     intro A' c' w2 own' gr' _
                     have OW2 := Lib.hid own'
                     have B2 := Lib.hid ((B1.out.alloc B1.out.size (.cells #[.int .i64 m] 3)).grown gr' (by have := B1.out.size; simp; omega) (fun k hk => (OW1.out.lt k hk).1))
                     clear own' gr')
        go_roundw
        case rel =>
          exact ⟨k + q, A', c', acc ++ [m], by go_num, by omega, by simp; omega, by simp, by simpa using OW2.out, HV2.out, B2.out⟩
        case measure => simp [intOf]; omega
    · have HF := Lib.hid (show true = ans by
        rw [← HV.out, List.drop_eq_nil_of_le (by rw [HLen.out]; omega)]; rfl)
      go_wp2
      go_ret2
      exact ⟨HB.out, _, ret_vb HF.out⟩
end Go.Proofs.YtilhicefhhgecaaGreatDoor
