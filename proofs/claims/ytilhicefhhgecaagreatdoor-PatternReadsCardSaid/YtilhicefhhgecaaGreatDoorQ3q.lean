/- Walks: the document's places of two sets, however long (printed by genq2.py from Fc). PUT1 -/
import Derived.Test.YtilhicefhhgecaaGreatDoorFcq
import Derived.Test.YtilhicefhhgecaaGreatDoorQ1q
import Derived.Test.YtilhicefhhgecaaGreatDoorP11q
namespace Go.Proofs.YtilhicefhhgecaaGreatDoor
open Go.RowKit Pv
set_option maxHeartbeats 2000000 in
set_option maxRecDepth 100000 in
theorem ref06_placesW (A : Option Addr) (c n : Nat) (S : List (List Rng)) (w : World) (h : AtSets w A S) (HL : Hid (S.length = n)) (hn : n ≤ 2) (hs : ∀ s ∈ S, s.length ≤ 40000 ∧ RngsOk s) :
    Calls Tryz.prog 250 #[.slice A n c] w fun e w' => (∃ v, e = .returned v ∧ OwnI w' w.heap.size v (plcL S)) ∧ Below w.heap.size w w' := by
  have HA := Lib.hid h; have HSL := Lib.hid hs
  have O0 := Lib.hid (own_lit w w.heap.size (.int .i64 0) 3 (Nat.le_refl _))
  have HB0 := Lib.hid ((Below.refl w.heap.size w).alloc (Nat.le_refl _) (.cells #[.int .i64 0] 3))
  clear h hs
  go_enter Tryz.func250, Tryz.ntmps250
  go_wp2
  go_loopw [4, 3] (fun iv lv wr => ∃ (i m : Nat) (B : Option Addr) (bc : Nat), iv = .int .i64 i ∧ i ≤ n ∧ lv = .slice B m bc ∧ 0 < m ∧ m ≤ 1 + 80000 * i ∧ Hid (m = (plcL (S.take i)).length) ∧ Hid (wr.ownsRow w.heap.size 3 1 (.slice B m bc) m ((plcL (S.take i)).map (Value.int .i64))) ∧ Hid (Below w.heap.size w wr)) (fun iv _ _ => n - (intOf iv).toNat)
  case atStart => exact ⟨0, 1, _, 1, rfl, by omega, rfl, by omega, by omega, Lib.hid rfl, O0, HB0⟩
  case round =>
    obtain ⟨i, m, B, bc, rfl, hi, rfl, hm, hm2, HM, HO, HB⟩ := hrel
    by_cases hlt : i < n
    · obtain ⟨b1, o1, T, q, tc, s, rfl, hb1, c0, hset, HQ, hqc, HX⟩ := AtSets.gt HA.out HL hlt
      have HSET := Lib.hid hset
      have HC1 := Lib.hid (show ∀ W, Below w.heap.size w W → W.cell? ⟨b1, o1 + i, none⟩ = some (.slice T q tc) from fun W hb => ((Keep.of hb).cell _ _ hb1).trans c0)
      have hq : q ≤ 40000 := by have := (HSL.out s (mem_of_get HX.out)).1; rwa [HQ.out] at this
      have HSN := Lib.hid (plcL_snoc HX.out)
      have i1 : (0 : Int) ≤ (i : Int) := by omega
      have i2 : (i : Int) < (n : Int) := by omega
      have HONE := Lib.hid (show ∀ (i : Nat) x, s[i]? = some x → 0 ≤ x.lo ∧ x.lo ≤ x.hi ∧ x.hi ≤ 1114111 from fun i x h => (HSL.out s (mem_of_get HX.out)).2 x (mem_of_get h))
      clear hset c0 HX
      go_wp2
      go_loopw [5, 3] (fun kv lv wr2 => ∃ (k m : Nat) (B : Option Addr) (bc : Nat), kv = .int .i64 k ∧ k ≤ q ∧ lv = .slice B m bc ∧ 0 < m ∧ m ≤ 1 + 80000 * i + 2 * k ∧ Hid (m = ((s.take k).foldl plc1 (plcL (S.take i))).length) ∧ Hid (wr2.ownsRow w.heap.size 3 1 (.slice B m bc) m (((s.take k).foldl plc1 (plcL (S.take i))).map (Value.int .i64))) ∧ Hid (Below w.heap.size w wr2)) (fun kv _ _ => q - (intOf kv).toNat)
      case atStart => exact ⟨0, m, B, bc, rfl, by omega, rfl, hm, by omega, Lib.hid HM.out, Lib.hid HO.out, HB⟩
      case round =>
        clear HO HM hm hm2 HB
        obtain ⟨k, m, B, bc, rfl, hk, rfl, hm, hm2, HM, HO, HB⟩ := hrel
        have c1 := HC1.out _ HB.out
        by_cases hkt : k < q
        · obtain ⟨b2, o2, lo, hi', rfl, hb2, c2, c3, _, _, HY⟩ := AtSet.gt (HSET.out.keep (Keep.of HB.out)) HQ hkt
          have i3 : (0 : Int) ≤ (k : Int) := by omega
          have i4 : (k : Int) < (q : Int) := by omega
          have HSK := Lib.hid (plc1_snoc (l := plcL (S.take i)) HY.out)
          have hone := HONE.out k _ HY.out
          simp only at hone
          obtain ⟨x1, x2, x3⟩ := hone
          have hp1 := HO.out
          have HS : Hid (wr.drew.cell? ⟨b1, o1 + i, none⟩ = some (.slice (some ⟨b2, o2, none⟩) q tc) ∧ wr.drew.cell? ⟨b2, o2 + k * 2, none⟩ = some (.int .i64 lo) ∧ wr.drew.cell? ⟨b2, o2 + k * 2 + 1, none⟩ = some (.int .i64 hi')) := Lib.hid ⟨c1, c2, c3⟩
          have HBD := Lib.hid HB.out.drew
          have HCB := Lib.hid (ref06_with w.heap.size B bc m _ lo wr.drew (ownsRow_drewN HO.out 1) hm (by omega))
          clear hp1
          go_wp2
          refine wp_region_T 20 (fun W => W.cell? ⟨b1, o1 + i, none⟩ = some (.slice (some ⟨b2, o2, none⟩) q tc) ∧ W.cell? ⟨b2, o2 + k * 2, none⟩ = some (.int .i64 lo) ∧ W.cell? ⟨b2, o2 + k * 2 + 1, none⟩ = some (.int .i64 hi')) (by kernel_rfl) ?_
          refine wpAnyT_take (i := 0) (v := ?_) rfl (by kernel_rfl) (by kernel_rfl) (by kernel_rfl) (by kernel_rfl) (by kernel_rfl) (fun _ _ _ h => h) (.inl ⟨rfl, ?_⟩) HS.out ?_
          rotate_left
          · intro W__ hW__
            obtain ⟨h1, h2, h3⟩ := hW__
            go_simp
            (try with_reducible rfl)
          try simp only [Act.put]
          refine wpAnyT_take (i := 1) (v := ?_) rfl (by kernel_rfl) (by kernel_rfl) (by kernel_rfl) (by kernel_rfl) (by kernel_rfl) (fun _ _ _ h => h) (.inl ⟨rfl, ?_⟩) HS.out ?_
          rotate_left
          · intro W__ hW__
            obtain ⟨h1, h2, h3⟩ := hW__
            go_simp
            (try with_reducible rfl)
          try simp only [Act.put]
          refine wpAnyT_take (i := 2) (v := ?_) rfl (by kernel_rfl) (by kernel_rfl) (by kernel_rfl) (by kernel_rfl) (by kernel_rfl) (fun _ _ _ h => h) (.inl ⟨rfl, ?_⟩) HS.out ?_
          rotate_left
          · intro W__ hW__
            obtain ⟨h1, h2, h3⟩ := hW__
            go_simp
            (try with_reducible rfl)
          try simp only [Act.put]
          refine wpAnyT_take (i := 3) (v := ?_) rfl (by kernel_rfl) (by kernel_rfl) (by kernel_rfl) (by kernel_rfl) (by kernel_rfl) (fun _ _ _ h => h) (.inl ⟨rfl, ?_⟩) HS.out ?_
          rotate_left
          · intro W__ hW__
            obtain ⟨h1, h2, h3⟩ := hW__
            go_simp
            (try with_reducible rfl)
          try simp only [Act.put]
          refine wpAnyT_take (i := 4) (v := ?_) rfl (by kernel_rfl) (by kernel_rfl) (by kernel_rfl) (by kernel_rfl) (by kernel_rfl) (fun _ _ _ h => h) (.inl ⟨rfl, ?_⟩) HS.out ?_
          rotate_left
          · intro W__ hW__
            obtain ⟨h1, h2, h3⟩ := hW__
            go_simp
            (try with_reducible rfl)
          try simp only [Act.put]
          refine wpAnyT_take (i := 5) (v := ?_) rfl (by kernel_rfl) (by kernel_rfl) (by kernel_rfl) (by kernel_rfl) (by kernel_rfl) (fun _ _ _ h => h) (.inl ⟨rfl, ?_⟩) HS.out ?_
          rotate_left
          · intro W__ hW__
            obtain ⟨h1, h2, h3⟩ := hW__
            go_simp
            (try with_reducible rfl)
          try simp only [Act.put]
          refine wpAnyT_take (i := 6) (v := ?_) rfl (by kernel_rfl) (by kernel_rfl) (by kernel_rfl) (by kernel_rfl) (by kernel_rfl) (fun _ _ _ h => h) (.inl ⟨rfl, ?_⟩) HS.out ?_
          rotate_left
          · intro W__ hW__
            obtain ⟨h1, h2, h3⟩ := hW__
            go_simp
            (try with_reducible rfl)
          try simp only [Act.put]
          refine wpAnyT_take (i := 7) (v := ?_) rfl (by kernel_rfl) (by kernel_rfl) (by kernel_rfl) (by kernel_rfl) (by kernel_rfl) (fun _ _ _ h => h) (.inl ⟨rfl, ?_⟩) HS.out ?_
          rotate_left
          · intro W__ hW__
            obtain ⟨h1, h2, h3⟩ := hW__
            go_simp
            (try with_reducible rfl)
          try simp only [Act.put]
          refine wpAnyT_take (i := 8) (v := ?_) rfl (by kernel_rfl) (by kernel_rfl) (by kernel_rfl) (by kernel_rfl) (by kernel_rfl) (fun _ _ _ h => h) (.inl ⟨rfl, ?_⟩) HS.out ?_
          rotate_left
          · intro W__ hW__
            obtain ⟨h1, h2, h3⟩ := hW__
            go_simp
            (try with_reducible rfl)
          try simp only [Act.put]
          refine wpAnyT_take (i := 10) (v := ?_) rfl (by kernel_rfl) (by kernel_rfl) (by kernel_rfl) (by kernel_rfl) (by kernel_rfl) (fun _ _ _ h => h) (.inl ⟨rfl, ?_⟩) HS.out ?_
          rotate_left
          · intro W__ hW__
            obtain ⟨h1, h2, h3⟩ := hW__
            go_simp
            (try with_reducible rfl)
          try simp only [Act.put]
          refine wpAnyT_take (i := 11) (v := ?_) rfl (by kernel_rfl) (by kernel_rfl) (by kernel_rfl) (by kernel_rfl) (by kernel_rfl) (fun _ _ _ h => h) (.inl ⟨rfl, ?_⟩) HS.out ?_
          rotate_left
          · intro W__ hW__
            obtain ⟨h1, h2, h3⟩ := hW__
            go_simp
            (try with_reducible rfl)
          try simp only [Act.put]
          refine wpAnyT_take (i := 12) (v := ?_) rfl (by kernel_rfl) (by kernel_rfl) (by kernel_rfl) (by kernel_rfl) (by kernel_rfl) (fun _ _ _ h => h) (.inl ⟨rfl, ?_⟩) HS.out ?_
          rotate_left
          · intro W__ hW__
            obtain ⟨h1, h2, h3⟩ := hW__
            go_simp
            (try with_reducible rfl)
          try simp only [Act.put]
          refine wpAnyT_take (i := 13) (v := ?_) rfl (by kernel_rfl) (by kernel_rfl) (by kernel_rfl) (by kernel_rfl) (by kernel_rfl) (fun _ _ _ h => h) (.inl ⟨rfl, ?_⟩) HS.out ?_
          rotate_left
          · intro W__ hW__
            obtain ⟨h1, h2, h3⟩ := hW__
            go_simp
            (try with_reducible rfl)
          try simp only [Act.put]
          refine wpAnyT_take (i := 14) (v := ?_) rfl (by kernel_rfl) (by kernel_rfl) (by kernel_rfl) (by kernel_rfl) (by kernel_rfl) (fun _ _ _ h => h) (.inl ⟨rfl, ?_⟩) HS.out ?_
          rotate_left
          · intro W__ hW__
            obtain ⟨h1, h2, h3⟩ := hW__
            go_simp
            (try with_reducible rfl)
          try simp only [Act.put]
          refine wpAnyT_take (i := 15) (v := ?_) rfl (by kernel_rfl) (by kernel_rfl) (by kernel_rfl) (by kernel_rfl) (by kernel_rfl) (fun _ _ _ h => h) (.inl ⟨rfl, ?_⟩) HS.out ?_
          rotate_left
          · intro W__ hW__
            obtain ⟨h1, h2, h3⟩ := hW__
            go_simp
            (try with_reducible rfl)
          try simp only [Act.put]
          refine wpAnyT_take (i := 16) (v := ?_) rfl (by kernel_rfl) (by kernel_rfl) (by kernel_rfl) (by kernel_rfl) (by kernel_rfl) (fun _ _ _ h => h) (.inl ⟨rfl, ?_⟩) HS.out ?_
          rotate_left
          · intro W__ hW__
            obtain ⟨h1, h2, h3⟩ := hW__
            go_simp
            (try with_reducible rfl)
          try simp only [Act.put]
          refine wpAnyT_take (i := 17) (v := ?_) rfl (by kernel_rfl) (by kernel_rfl) (by kernel_rfl) (by kernel_rfl) (by kernel_rfl) (fun _ _ _ h => h) (.inl ⟨rfl, ?_⟩) HS.out ?_
          rotate_left
          · intro W__ hW__
            obtain ⟨h1, h2, h3⟩ := hW__
            go_simp
            (try with_reducible rfl)
          try simp only [Act.put]
          refine wpAnyT_take (i := 18) (v := ?_) rfl (by kernel_rfl) (by kernel_rfl) (by kernel_rfl) (by kernel_rfl) (by kernel_rfl) (fun _ _ _ h => h) (.inl ⟨rfl, ?_⟩) HS.out ?_
          rotate_left
          · intro W__ hW__
            obtain ⟨h1, h2, h3⟩ := hW__
            go_simp
            (try with_reducible rfl)
          try simp only [Act.put]
          refine wpAnyT_one (i := 9) rfl (by kernel_rfl) rfl fun K__ hK__ => ?_
          unfold Oper.wp
          go_simp
          refine HCB.out.mono ?_
          rintro e w3 ⟨⟨v2, rfl, A2, c2', rfl, ho2⟩, hb3⟩
          have HK3 := Lib.hid ((Keep.drew wr).trans (Keep.of hb3))
          have HB3 := Lib.hid (HBD.out.trans (hb3.mono HBD.out.size))
          have HL2 := Lib.hid (withL_len ((s.take k).foldl plc1 (plcL (S.take i))) lo)
          have HP2 := Lib.hid (withL_pos (l := (s.take k).foldl plc1 (plcL (S.take i))) (n := lo) (by rw [← HM.out]; exact hm))
          rw [← HM.out] at HL2
          obtain ⟨m2, HM2⟩ : ∃ m2, Hid (m2 = (withL ((s.take k).foldl plc1 (plcL (S.take i))) lo).length) := ⟨_, Lib.hid rfl⟩
          rw [← HM2.out] at ho2 HL2 HP2
          have hm22 := HL2.out; have hm23 := HP2.out
          have HCC := Lib.hid (ref06_with w.heap.size A2 c2' m2 _ (hi' + 1) w3 ho2 hm23 (by omega))
          have HS3 : Hid (w3.cell? ⟨b1, o1 + i, none⟩ = some (.slice (some ⟨b2, o2, none⟩) q tc) ∧ w3.cell? ⟨b2, o2 + k * 2, none⟩ = some (.int .i64 lo) ∧ w3.cell? ⟨b2, o2 + k * 2 + 1, none⟩ = some (.int .i64 hi')) := Lib.hid ⟨HC1.out _ HB3.out, (HK3.out.cell _ _ hb2).trans c2, (HK3.out.cell _ _ hb2).trans c3⟩
          clear ho2 hb3
          rw [← HM2.out]
          refine hK__ _ _ HS3.out ?_
          clear hK__
          refine wpAnyT_one (i := 19) rfl (by kernel_rfl) rfl fun K__ hK__ => ?_
          unfold Oper.wp
          go_simp
          have hwr : IntKind.i64.wrap (hi' + 1) = hi' + 1 := by rw [IntKind.wrap_i64]; omega
          rw [hwr]
          refine HCC.out.mono ?_
          rintro e w4 ⟨⟨v4, rfl, A4, c4', rfl, ho4⟩, hb4⟩
          have HB4 := Lib.hid (HB3.out.trans (hb4.mono HB3.out.size))
          have HS4 : Hid (w4.cell? ⟨b1, o1 + i, none⟩ = some (.slice (some ⟨b2, o2, none⟩) q tc) ∧ w4.cell? ⟨b2, o2 + k * 2, none⟩ = some (.int .i64 lo) ∧ w4.cell? ⟨b2, o2 + k * 2 + 1, none⟩ = some (.int .i64 hi')) := Lib.hid ⟨HC1.out _ HB4.out, ((Keep.of hb4).cell _ _ (World.block_lt_of_cell? _ _ HS3.out.2.1)).trans HS3.out.2.1, ((Keep.of hb4).cell _ _ (World.block_lt_of_cell? _ _ HS3.out.2.1)).trans HS3.out.2.2⟩
          have HL4 := Lib.hid (withL_len (withL ((s.take k).foldl plc1 (plcL (S.take i))) lo) (hi' + 1))
          have HP4 := Lib.hid (withL_pos (l := withL ((s.take k).foldl plc1 (plcL (S.take i))) lo) (n := hi' + 1) (by rw [← HM2.out]; exact hm23))
          rw [← HM2.out] at HL4
          rw [← HSK.out] at ho4 HL4 HP4 ⊢
          obtain ⟨m4, HM4⟩ : ∃ m4, Hid (m4 = ((s.take (k + 1)).foldl plc1 (plcL (S.take i))).length) := ⟨_, Lib.hid rfl⟩
          rw [← HM4.out] at ho4 HL4 HP4 ⊢
          have hm42 := HL4.out; have hm43 := HP4.out
          have HO4 := Lib.hid ho4
          clear ho4 hb4
          refine hK__ _ _ HS4.out ?_
          clear hK__
          refine wpAnyT_end (i := 20) rfl (by kernel_rfl) rfl (by kernel_rfl) fun K__ hK__ => ?_
          unfold Oper.wp
          go_simp
          refine hK__ _ _ ?_
          clear hK__
          refine wpAnyT_done (by kernel_rfl) ?_ _
          clear c1 c2 c3
          go_wp2
          go_roundw
          case rel => exact ⟨k + 1, m4, A4, c4', by go_num, by omega, rfl, hm43, by omega, HM4, HO4, HB4⟩
          case measure => simp [intOf]; omega
        · obtain rfl : k = q := by omega
          have HTK := Lib.hid (show s.take k = s from List.take_of_length_le (by rw [HQ.out]; omega))
          go_wp2
          go_roundw
          case rel => exact ⟨i + 1, m, B, bc, by go_num, by omega, rfl, hm, by omega, Lib.hid (by rw [HSN.out, HM.out, HTK.out]), Lib.hid (by have := HO.out; rw [HTK.out] at this; rw [HSN.out]; exact this), HB⟩
          case measure => simp [intOf]; omega
    · obtain rfl : i = n := by omega
      have HTK := Lib.hid (show S.take i = S from List.take_of_length_le (by rw [HL.out]; omega))
      go_wp2
      go_ret
      have hm3 := HM.out
      subst hm3
      exact ⟨⟨_, rfl, by have := HO.out; rw [HTK.out] at this ⊢; exact ⟨B, bc, rfl, this⟩⟩, HB.out⟩
end Go.Proofs.YtilhicefhhgecaaGreatDoor

namespace Pv
open Go Go.RowKit
theorem joinF_bd {a b : Int} : ∀ (m : List Rng) (out : List Rng), (∀ x, x ∈ m → a ≤ x.lo ∧ x.lo ≤ x.hi ∧ x.hi ≤ b) → (∀ x, x ∈ out → a ≤ x.lo ∧ x.lo ≤ x.hi ∧ x.hi ≤ b) → ∀ x, x ∈ m.foldl join1 out → a ≤ x.lo ∧ x.lo ≤ x.hi ∧ x.hi ≤ b
  | [], _, _, ho => ho
  | z :: m, out, hm, ho => by
    have hz := hm z (by simp)
    refine joinF_bd m _ (fun x hx => hm x (by simp [hx])) fun x hx => ?_
    rcases List.eq_nil_or_concat out with rfl | ⟨o, v, rfl⟩
    · rw [join1_nil] at hx
      obtain rfl := List.mem_singleton.1 hx
      exact hz
    · rw [List.concat_eq_append] at hx ho
      have hv := ho v (by simp)
      rw [join1_app] at hx
      split at hx
      · rcases List.mem_append.1 hx with hx | hx
        · exact ho x (by simp [hx])
        · obtain rfl := List.mem_singleton.1 hx
          simp only
          omega
      · rcases List.mem_append.1 hx with hx | hx
        · exact ho x hx
        · obtain rfl := List.mem_singleton.1 hx
          exact hz
/-- What the first classes give. -/
def setJ (f : Int → Bool) (l : List Int) (i : Nat) : List Rng := joinR (((clsR l).take i).filter fun x => f x.lo)
theorem setJ_all (f : Int → Bool) {l : List Int} {n : Nat} (h : l.length = n) : setJ f l n = setF f l := by
  unfold setJ setF
  rw [List.take_of_length_le (by rw [clsR_len, h]; exact Nat.le_refl _)]
theorem setJ_next (f : Int → Bool) {l : List Int} {i : Nat} {p : Int} (h : l[i]? = some p) : setJ f l (i + 1) = if f p = true then join1 (setJ f l i) ⟨p, match l[i + 1]? with | some q => q - 1 | none => 1114111⟩ else setJ f l i := by
  have h1 := clsR_get l i p h
  unfold setJ joinR
  rw [take_snoc h1, List.filter_append, List.foldl_append]
  simp only [List.filter_cons, List.filter_nil]
  by_cases hf : f p = true
  · rw [if_pos hf, if_pos hf]; rfl
  · rw [if_neg hf, if_neg hf]; rfl
theorem setJ_bd {f : Int → Bool} {l : List Int} (hl : l.Pairwise (· < ·)) (hm : ∀ p, p ∈ l → 0 ≤ p ∧ p ≤ 1114111) {i : Nat} {p : Int} (h : l[i]? = some p) : ∀ y, y ∈ setJ f l i → 0 ≤ y.lo ∧ y.lo ≤ y.hi ∧ y.hi ≤ p - 1 := by
  refine joinF_bd _ [] (fun x hx => ?_) (by simp)
  have hx := (List.mem_filter.1 hx).1
  obtain ⟨j, hj⟩ := List.getElem?_of_mem hx
  have hji : j < i := by
    have := lt_of_get hj
    rw [List.length_take] at this
    omega
  rw [List.getElem?_take_of_lt hji] at hj
  obtain ⟨k1, k2, _⟩ := clsR_ok hl fun p hp => (hm p hp).2
  have hxm := List.mem_of_getElem? hj
  obtain ⟨e1, e2, e3, e4⟩ := k2 x hxm
  have hpx := clsR_get l i p h
  have hlt : x.hi < p := by
    have hil := lt_of_get hpx
    have := List.pairwise_iff_getElem.1 k1 j i (by omega) hil hji
    rw [List.getElem?_eq_getElem (by omega)] at hj
    rw [List.getElem?_eq_getElem hil] at hpx
    rw [Option.some.inj hj, Option.some.inj hpx] at this
    exact this
  exact ⟨(hm _ e2).1, e1, by omega⟩
end Pv
namespace Go.Proofs.YtilhicefhhgecaaGreatDoor
open Go.RowKit Pv
set_option maxHeartbeats 4000000 in
set_option maxRecDepth 100000 in
theorem ref06_Set (A B : Option Addr) (c d n : Nat) (l : List Int) (f : Int → Bool) (w : World) (hA : At w A RI l) (HL : Hid (l.length = n)) (hB : At w B RB (l.map f)) (hr : l.Pairwise (· < ·)) (hm : ∀ p, p ∈ l → 0 ≤ p ∧ p ≤ 1114111) (hn : n ≤ 200000) :
    Calls Tryz.prog 252 #[.slice A n c, .slice B n d] w fun e w' => ∃ A' n' c', e = .returned (.slice A' n' c') ∧ OwnSet w' w.heap.size (.slice A' n' c') (setF f l) ∧ Below w.heap.size w w' := by
  obtain ⟨i0, hi0, hz0, hs0, hb0⟩ := info_parts info_range
  have HA := Lib.hid hA; have HB := Lib.hid hB
  have HML : Hid ((l.map f).length = n) := Lib.hid (by rw [List.length_map, HL.out])
  have HBD := Lib.hid (fun (i : Nat) (p : Int) (h : l[i]? = some p) => setJ_bd (f := f) hr hm h)
  have HM := Lib.hid hm
  have HRI := Lib.hid hr
  clear hA hB hr hm
  go_enter Tryz.func252, Tryz.ntmps252
  go_wp2
  go_loopw [6, 5] (fun iv ov W => ∃ (i q oc : Nat) (O : Option Addr), iv = .int .i64 i ∧ i ≤ n ∧ ov = .slice O q oc ∧ q ≤ i ∧ Hid (OwnSet W w.heap.size (.slice O q oc) (setJ f l i)) ∧ Hid (Below w.heap.size w W)) (fun iv _ _ => n - (intOf iv).toNat)
  case atStart => exact ⟨0, 0, 0, none, rfl, by omega, rfl, by omega, Lib.hid OwnK.nil, Lib.hid (Below.refl _ _)⟩
  case round =>
    obtain ⟨i, q, oc, O, rfl, hi, rfl, hqi, HO, HW⟩ := hrel
    have hW := HW.out.size
    by_cases hlt : i < n
    · obtain ⟨b1, o1, u1, p, rfl, hb1, c1, hp1, HX⟩ := At.gt HA.out HL hlt
      obtain ⟨rfl, hp2, hp3⟩ := hp1
      obtain ⟨b2, o2, u2, x2, rfl, hb2, c2, hx2, HY⟩ := At.gt HB.out HML hlt
      obtain rfl := hx2
      have hfp : f p = x2 := by
        have := HY.out
        rw [List.getElem?_map, HX.out] at this
        exact Option.some.inj this
      have HFP := Lib.hid hfp
      have k1 := ((Keep.of HW.out).cell _ _ hb1).trans c1
      have k2 := ((Keep.of HW.out).cell _ _ hb2).trans c2
      have hpm := HM.out p (List.mem_of_getElem? HX.out)
      have HN := Lib.hid (setJ_next f HX.out)
      have HB1 := Lib.hid (HBD.out i p HX.out)
      have i1 : (i : Int) < (n : Int) := by omega
      obtain ⟨tz, HTO, ht1, ht2, hcase⟩ : ∃ tz : Int, Hid ((match l[i + 1]? with | some q => q - 1 | none => 1114111) = tz) ∧ p ≤ tz ∧ tz ≤ 1114111 ∧ (((i : Int) + 1 < (n : Int) ∧ wr.cell? ⟨b1, o1 + (i + 1), none⟩ = some (.int .i64 (tz + 1))) ∨ (¬ (i : Int) + 1 < (n : Int) ∧ tz = 1114111)) := by
        by_cases h2 : i + 1 < n
        · obtain ⟨b3, o3, u3, p3, e, hb3, c3, hq3, HZ⟩ := At.gt HA.out HL h2
          injection e with e
          injection e with e1 e2
          subst e1; subst e2
          obtain ⟨rfl, _⟩ := hq3
          have hp3m := HM.out p3 (List.mem_of_getElem? HZ.out)
          have hlt3 : p < p3 := by
            have h5 := List.getElem?_eq_some_iff.1 HX.out
            have h6 := List.getElem?_eq_some_iff.1 HZ.out
            obtain ⟨h5a, h5b⟩ := h5
            obtain ⟨h6a, h6b⟩ := h6
            have := List.pairwise_iff_getElem.1 HRI.out i (i + 1) h5a h6a (by omega)
            rw [h5b, h6b] at this
            exact this
          refine ⟨p3 - 1, Lib.hid (by rw [HZ.out]), by omega, by omega, .inl ⟨by omega, ?_⟩⟩
          rw [show p3 - 1 + 1 = p3 by omega]
          exact ((Keep.of HW.out).cell _ _ hb3).trans c3
        · have h3 : l[i + 1]? = none := List.getElem?_eq_none_iff.2 (by rw [HL.out]; omega)
          exact ⟨1114111, Lib.hid (by rw [h3]), by omega, by omega, .inr ⟨by omega, rfl⟩⟩
      have e1 : tz + 1 - 1 = tz := by omega
      have e2 : IntKind.i64.wrap tz = tz := by rw [IntKind.wrap_i64]; omega
      clear c1 c2 hfp
      rcases hcase with ⟨i2, k3⟩ | ⟨i2, hto⟩
      · cases x2 with
        | false =>
          rw [HFP.out] at HN
          go_wp2
          go_roundw
          case rel => exact ⟨i + 1, q, oc, O, by go_num, by omega, rfl, by omega, Lib.hid (by rw [HN.out]; exact HO.out), HW⟩
          case measure => simp [intOf]; omega
        | true =>
          rw [HFP.out] at HN
          simp only [if_true] at HN
          rw [HTO.out] at HN
          rcases List.eq_nil_or_concat (setJ f l i) with he | ⟨o, y, he⟩
          · rw [he, join1_nil] at HN
            have HO1 := HO
            rw [he] at HO1
            obtain rfl : q = 0 := by obtain ⟨A', c', us, hv, _⟩ := HO1.out; injection hv
            have HT : Hid (True ∧ True) := Lib.hid ⟨trivial, trivial⟩
            obtain ⟨us, HOA, HRL, HQL⟩ := set_split (OwnK.alloc (OwnK.drew HO1.out) (.cells #[.int .i64 p, .int .i64 tz] TRg))
            have Q1 : Hid (0 + 1 ≤ maxLen) := Lib.hid (by simp only [maxLen]; omega)
            have Q2 : Hid ((0 + 1) * 16 ≤ 140737488355328) := Lib.hid (by omega)
            have hz2 : w.heap.size ≤ (wr.drew.alloc (.cells #[.int .i64 p, .int .i64 tz] TRg)).heap.size := by simp; omega
            have HW2 := Lib.hid ((HW.out.drew).alloc (by simpa using hW) (.cells #[.int .i64 p, .int .i64 tz] TRg))
            have HSR := Lib.hid (src_rng (w := wr.drew) (x := .int .i64 p) (y := .int .i64 tz) (t := TRg) rfl rfl)
            clear he
            go_wp2
            refine wp_region_T 17 (fun _ => True ∧ True) (by kernel_rfl) ?_
            refine wpAnyT_takeW (i := 0) (v := ?_) rfl (by decide) (by kernel_rfl) (by kernel_rfl) (by kernel_rfl) (fun _ _ _ h => h) (.inl ⟨rfl, ?_⟩) (fun _ => HT.out) ?_
            rotate_left
            · intro W__ _
              go_simp
              (try with_reducible rfl)
            try simp only [Act.put]
            refine wpAnyT_takeW (i := 1) (v := ?_) rfl (by decide) (by kernel_rfl) (by kernel_rfl) (by kernel_rfl) (fun _ _ _ h => h) (.inl ⟨rfl, ?_⟩) (fun _ => HT.out) ?_
            rotate_left
            · intro W__ _
              go_simp
              (try with_reducible rfl)
            try simp only [Act.put]
            refine wpAnyT_takeW (i := 2) (v := ?_) rfl (by decide) (by kernel_rfl) (by kernel_rfl) (by kernel_rfl) (fun _ _ _ h => h) (.inl ⟨rfl, ?_⟩) (fun _ => HT.out) ?_
            rotate_left
            · intro W__ _
              go_simp
              (try with_reducible rfl)
            try simp only [Act.put]
            refine wpAnyT_takeW (i := 3) (v := ?_) rfl (by decide) (by kernel_rfl) (by kernel_rfl) (by kernel_rfl) (fun _ _ _ h => h) (.inl ⟨rfl, ?_⟩) (fun _ => HT.out) ?_
            rotate_left
            · intro W__ _
              go_simp
              (try with_reducible rfl)
            try simp only [Act.put]
            refine wpAnyT_takeW (i := 4) (v := undef) rfl (by decide) (by kernel_rfl) (by kernel_rfl) (by kernel_rfl) (fun _ _ _ h => h) (.inr ⟨by kernel_rfl, rfl⟩) (fun _ => HT.out) ?_
            try simp only [Act.put]
            refine wpAnyT_takeW (i := 5) (v := undef) rfl (by decide) (by kernel_rfl) (by kernel_rfl) (by kernel_rfl) (fun _ _ _ h => h) (.inr ⟨by kernel_rfl, rfl⟩) (fun _ => HT.out) ?_
            try simp only [Act.put]
            refine wpAnyT_takeW (i := 6) (v := undef) rfl (by decide) (by kernel_rfl) (by kernel_rfl) (by kernel_rfl) (fun _ _ _ h => h) (.inr ⟨by kernel_rfl, rfl⟩) (fun _ => HT.out) ?_
            try simp only [Act.put]
            refine wpAnyT_takeW (i := 7) (v := undef) rfl (by decide) (by kernel_rfl) (by kernel_rfl) (by kernel_rfl) (fun _ _ _ h => h) (.inr ⟨by kernel_rfl, rfl⟩) (fun _ => HT.out) ?_
            try simp only [Act.put]
            refine wpAnyT_takeW (i := 8) (v := undef) rfl (by decide) (by kernel_rfl) (by kernel_rfl) (by kernel_rfl) (fun _ _ _ h => h) (.inr ⟨by kernel_rfl, rfl⟩) (fun _ => HT.out) ?_
            try simp only [Act.put]
            refine wpAnyT_takeW (i := 9) (v := undef) rfl (by decide) (by kernel_rfl) (by kernel_rfl) (by kernel_rfl) (fun _ _ _ h => h) (.inr ⟨by kernel_rfl, rfl⟩) (fun _ => HT.out) ?_
            try simp only [Act.put]
            refine wpAnyT_takeW (i := 10) (v := undef) rfl (by decide) (by kernel_rfl) (by kernel_rfl) (by kernel_rfl) (fun _ _ _ h => h) (.inr ⟨by kernel_rfl, rfl⟩) (fun _ => HT.out) ?_
            try simp only [Act.put]
            refine wpAnyT_takeW (i := 11) (v := undef) rfl (by decide) (by kernel_rfl) (by kernel_rfl) (by kernel_rfl) (fun _ _ _ h => h) (.inr ⟨by kernel_rfl, rfl⟩) (fun _ => HT.out) ?_
            try simp only [Act.put]
            refine wpAnyT_takeW (i := 12) (v := undef) rfl (by decide) (by kernel_rfl) (by kernel_rfl) (by kernel_rfl) (fun _ _ _ h => h) (.inr ⟨by kernel_rfl, rfl⟩) (fun _ => HT.out) ?_
            try simp only [Act.put]
            refine wpAnyT_takeW (i := 13) (v := undef) rfl (by decide) (by kernel_rfl) (by kernel_rfl) (by kernel_rfl) (fun _ _ _ h => h) (.inr ⟨by kernel_rfl, rfl⟩) (fun _ => HT.out) ?_
            try simp only [Act.put]
            refine wpAnyT_takeW (i := 14) (v := undef) rfl (by decide) (by kernel_rfl) (by kernel_rfl) (by kernel_rfl) (fun _ _ _ h => h) (.inr ⟨by kernel_rfl, rfl⟩) (fun _ => HT.out) ?_
            try simp only [Act.put]
            refine wpAnyT_takeW (i := 15) (v := undef) rfl (by decide) (by kernel_rfl) (by kernel_rfl) (by kernel_rfl) (fun _ _ _ h => h) (.inr ⟨by kernel_rfl, rfl⟩) (fun _ => HT.out) ?_
            try simp only [Act.put]
            refine wpAnyT_takeW (i := 16) (v := undef) rfl (by decide) (by kernel_rfl) (by kernel_rfl) (by kernel_rfl) (fun _ _ _ h => h) (.inr ⟨by kernel_rfl, rfl⟩) (fun _ => HT.out) ?_
            try simp only [Act.put]
            refine wpAnyT_end (i := 17) rfl (by kernel_rfl) rfl (by kernel_rfl) fun K__ hK__ => ?_
            unfold Oper.wp
            go_simp
            refine hK__ _ _ ?_
            clear hK__
            refine wpAnyT_done (by kernel_rfl) ?_ _
            go_wp2_with (first
            | (at_builtin
               go_must (refine wpList_append_src _ rfl (.tmp 55) (.tmp 62) 50 rfl w.heap.size TRg i0 _ 2 16 Tryz.underlying50 hi0 hz0 hs0 hb0 rfl (by decide) O oc (0) _ rfl HOA.out (some ⟨wr.heap.size, 0, none⟩) 1 1 _ rfl HSR.out Q1.out Q2.out hz2 ?_)
               intro A9 c9 w9 own9 gr9 _
               (try simp only [Nat.zero_add] at own9)
               have HO9 := Lib.hid (set_push ⟨HRL.out, by omega, by omega⟩ HQL.out own9)
               have HB9 := Lib.hid (HW2.out.grown gr9 hz2 (fun k hk => (HOA.out.lt k hk).1))
               clear own9 gr9))
            go_roundw
            case rel => exact ⟨i + 1, 0 + 1, c9, A9, by go_num, by omega, by simp, by omega, Lib.hid (by rw [HN.out]; exact HO9.out), HB9⟩
            case measure => simp [intOf]; omega
          · rw [List.concat_eq_append] at he
            have HY1 := HB1.out y (by rw [he]; simp)
            have HO1 := HO
            rw [he] at HN HO1
            obtain ⟨p0, hp0⟩ : ∃ p0, o.length = p0 := ⟨_, rfl⟩
            obtain ⟨hq1, G, hG, hG1, hG2, d0, d1, d2⟩ := OwnSet.last HO1.out hp0
            subst hq1; subst hG
            have HP0 := Lib.hid hp0
            obtain ⟨ylo, yhi⟩ := y
            simp only at d0 d1 HY1
            obtain ⟨hy1, hy2, hy3⟩ := HY1
            rw [join1_app] at HN
            simp only at HN
            have HS : Hid (wr.drew.cell? ⟨G, p0 * 2 + 1, none⟩ = some (.int .i64 yhi) ∧ wr.drew.cell? ⟨b1, o1 + i, none⟩ = some (.int .i64 p)) := Lib.hid ⟨d1, k1⟩
            have e3 : IntKind.i64.wrap (p0 : Int) = (p0 : Int) := by rw [IntKind.wrap_i64]; omega
            have e4 : (p0 : Int) < (p0 : Int) + 1 := by omega
            have e5 : IntKind.i64.wrap (p - 1) = p - 1 := by rw [IntKind.wrap_i64]; omega
            clear he hp0 d0
            by_cases hc : yhi = p - 1
            · have j1 : (yhi == p - 1) = true := by simpa using hc
              have hmx : max yhi tz = tz := by omega
              rw [if_pos (by omega), hmx] at HN
              go_wp2
              refine wp_region_T 17 (fun W => W.cell? ⟨G, p0 * 2 + 1, none⟩ = some (.int .i64 yhi) ∧ W.cell? ⟨b1, o1 + i, none⟩ = some (.int .i64 p)) (by kernel_rfl) ?_
              refine wpAnyT_takeC (i := 0) [17, 3, 2, 1] (v := ?_) rfl (by kernel_rfl) (by kernel_rfl) (by kernel_rfl) (by kernel_rfl) (by kernel_rfl) (by kernel_rfl) (fun _ _ _ h => h) (.inl ⟨rfl, ?_⟩) HS.out ?_
              rotate_left
              · intro W__ hW__
                obtain ⟨h1, h2⟩ := hW__
                go_simp
                (try with_reducible rfl)
              try simp only [Act.put]
              refine wpAnyT_takeC (i := 1) [17, 3, 2] (v := ?_) rfl (by kernel_rfl) (by kernel_rfl) (by kernel_rfl) (by kernel_rfl) (by kernel_rfl) (by kernel_rfl) (fun _ _ _ h => h) (.inl ⟨rfl, ?_⟩) HS.out ?_
              rotate_left
              · intro W__ hW__
                obtain ⟨h1, h2⟩ := hW__
                go_simp
                (try with_reducible rfl)
              try simp only [Act.put]
              refine wpAnyT_takeC (i := 2) [17, 3] (v := ?_) rfl (by kernel_rfl) (by kernel_rfl) (by kernel_rfl) (by kernel_rfl) (by kernel_rfl) (by kernel_rfl) (fun _ _ _ h => h) (.inl ⟨rfl, ?_⟩) HS.out ?_
              rotate_left
              · intro W__ hW__
                obtain ⟨h1, h2⟩ := hW__
                go_simp
                (try with_reducible rfl)
              try simp only [Act.put]
              refine wpAnyT_takeC (i := 3) [17] (v := ?_) rfl (by kernel_rfl) (by kernel_rfl) (by kernel_rfl) (by kernel_rfl) (by kernel_rfl) (by kernel_rfl) (fun _ _ _ h => h) (.inl ⟨rfl, ?_⟩) HS.out ?_
              rotate_left
              · intro W__ hW__
                obtain ⟨h1, h2⟩ := hW__
                go_simp
                (try with_reducible rfl)
              try simp only [Act.put]
              refine wpAnyT_takeC (i := 4) [17, 16, 10, 9, 8] (v := ?_) rfl (by kernel_rfl) (by kernel_rfl) (by kernel_rfl) (by kernel_rfl) (by kernel_rfl) (by kernel_rfl) (fun _ _ _ h => h) (.inl ⟨by kernel_rfl, ?_⟩) HS.out ?_
              rotate_left
              · intro W__ hW__
                obtain ⟨h1, h2⟩ := hW__
                go_simp
                (try with_reducible rfl)
              try simp only [Act.put]
              refine wpAnyT_takeC (i := 5) [17, 16, 10, 9, 8, 7, 6] (v := ?_) rfl (by kernel_rfl) (by kernel_rfl) (by kernel_rfl) (by kernel_rfl) (by kernel_rfl) (by kernel_rfl) (fun _ _ _ h => h) (.inl ⟨by kernel_rfl, ?_⟩) HS.out ?_
              rotate_left
              · intro W__ hW__
                obtain ⟨h1, h2⟩ := hW__
                go_simp
                (try with_reducible rfl)
              try simp only [Act.put]
              refine wpAnyT_takeC (i := 11) [17, 16, 15, 14, 13] (v := ?_) rfl (by kernel_rfl) (by kernel_rfl) (by kernel_rfl) (by kernel_rfl) (by kernel_rfl) (by kernel_rfl) (fun _ _ _ h => h) (.inl ⟨by kernel_rfl, ?_⟩) HS.out ?_
              rotate_left
              · intro W__ hW__
                obtain ⟨h1, h2⟩ := hW__
                go_simp
                (try with_reducible rfl)
              try simp only [Act.put]
              refine wpAnyT_takeC (i := 12) [17, 16, 15, 14, 13] (v := ?_) rfl (by kernel_rfl) (by kernel_rfl) (by kernel_rfl) (by kernel_rfl) (by kernel_rfl) (by kernel_rfl) (fun _ _ _ h => h) (.inl ⟨by kernel_rfl, ?_⟩) HS.out ?_
              rotate_left
              · intro W__ hW__
                obtain ⟨h1, h2⟩ := hW__
                go_simp
                (try with_reducible rfl)
              try simp only [Act.put]
              refine wpAnyT_takeC (i := 6) [17, 16, 10, 9, 8, 7] (v := ?_) rfl (by kernel_rfl) (by kernel_rfl) (by kernel_rfl) (by kernel_rfl) (by kernel_rfl) (by kernel_rfl) (fun _ _ _ h => h) (.inl ⟨by kernel_rfl, ?_⟩) HS.out ?_
              rotate_left
              · intro W__ hW__
                obtain ⟨h1, h2⟩ := hW__
                go_simp
                (try with_reducible rfl)
              try simp only [Act.put]
              refine wpAnyT_takeC (i := 13) [17, 16, 15, 14] (v := ?_) rfl (by kernel_rfl) (by kernel_rfl) (by kernel_rfl) (by kernel_rfl) (by kernel_rfl) (by kernel_rfl) (fun _ _ _ h => h) (.inl ⟨by kernel_rfl, ?_⟩) HS.out ?_
              rotate_left
              · intro W__ hW__
                obtain ⟨h1, h2⟩ := hW__
                go_simp
                (try with_reducible rfl)
              try simp only [Act.put]
              refine wpAnyT_takeC (i := 7) [17, 16, 10, 9, 8] (v := ?_) rfl (by kernel_rfl) (by kernel_rfl) (by kernel_rfl) (by kernel_rfl) (by kernel_rfl) (by kernel_rfl) (fun _ _ _ h => h) (.inl ⟨by kernel_rfl, ?_⟩) HS.out ?_
              rotate_left
              · intro W__ hW__
                obtain ⟨h1, h2⟩ := hW__
                go_simp
                (try with_reducible rfl)
              try simp only [Act.put]
              refine wpAnyT_takeC (i := 14) [17, 16, 15] (v := ?_) rfl (by kernel_rfl) (by kernel_rfl) (by kernel_rfl) (by kernel_rfl) (by kernel_rfl) (by kernel_rfl) (fun _ _ _ h => h) (.inl ⟨by kernel_rfl, ?_⟩) HS.out ?_
              rotate_left
              · intro W__ hW__
                obtain ⟨h1, h2⟩ := hW__
                go_simp
                (try with_reducible rfl)
              try simp only [Act.put]
              refine wpAnyT_takeC (i := 8) [17, 16, 10, 9] (v := ?_) rfl (by kernel_rfl) (by kernel_rfl) (by kernel_rfl) (by kernel_rfl) (by kernel_rfl) (by kernel_rfl) (fun _ _ _ h => h) (.inl ⟨by kernel_rfl, ?_⟩) HS.out ?_
              rotate_left
              · intro W__ hW__
                obtain ⟨h1, h2⟩ := hW__
                go_simp
                (try with_reducible rfl)
              try simp only [Act.put]
              refine wpAnyT_takeC (i := 15) [17, 16] (v := ?_) rfl (by kernel_rfl) (by kernel_rfl) (by kernel_rfl) (by kernel_rfl) (by kernel_rfl) (by kernel_rfl) (fun _ _ _ h => h) (.inl ⟨by kernel_rfl, ?_⟩) HS.out ?_
              rotate_left
              · intro W__ hW__
                obtain ⟨h1, h2⟩ := hW__
                go_simp
                (try with_reducible rfl)
              try simp only [Act.put]
              refine wpAnyT_takeC (i := 9) [17, 16, 10] (v := ?_) rfl (by kernel_rfl) (by kernel_rfl) (by kernel_rfl) (by kernel_rfl) (by kernel_rfl) (by kernel_rfl) (fun _ _ _ h => h) (.inl ⟨by kernel_rfl, ?_⟩) HS.out ?_
              rotate_left
              · intro W__ hW__
                obtain ⟨h1, h2⟩ := hW__
                go_simp
                (try with_reducible rfl)
              try simp only [Act.put]
              refine wpAnyT_takeC (i := 10) [17, 16] (v := ?_) rfl (by kernel_rfl) (by kernel_rfl) (by kernel_rfl) (by kernel_rfl) (by kernel_rfl) (by kernel_rfl) (fun _ _ _ h => h) (.inl ⟨by kernel_rfl, ?_⟩) HS.out ?_
              rotate_left
              · intro W__ hW__
                obtain ⟨h1, h2⟩ := hW__
                go_simp
                (try with_reducible rfl)
              try simp only [Act.put]
              refine wpAnyT_takeC (i := 16) [17] (v := ?_) rfl (by kernel_rfl) (by kernel_rfl) (by kernel_rfl) (by kernel_rfl) (by kernel_rfl) (by kernel_rfl) (fun _ _ _ h => h) (.inl ⟨by kernel_rfl, ?_⟩) HS.out ?_
              rotate_left
              · intro W__ hW__
                obtain ⟨h1, h2⟩ := hW__
                go_simp
                (try with_reducible rfl)
              try simp only [Act.put]
              refine wpAnyT_end (i := 17) rfl (by kernel_rfl) rfl (by kernel_rfl) fun K__ hK__ => ?_
              unfold Oper.wp
              go_simp
              refine hK__ _ _ ?_
              clear hK__
              refine wpAnyT_done (by kernel_rfl) ?_ _
              have HO5 := Lib.hid (OwnSet.hi (z := tz) (OwnK.drew HO1.out) HP0.out (by omega))
              have HB5 := Lib.hid ((HW.out.drew).setCell (p := ⟨G, p0 * 2 + 1, none⟩) hG1 (.int .i64 tz))
              go_wp2
              go_roundw
              case rel => exact ⟨i + 1, p0 + 1, oc, some ⟨G, 0, none⟩, by go_num, by omega, by simp, by omega, Lib.hid (by rw [HN.out]; exact HO5.out), HB5⟩
              case measure => simp [intOf]; omega
            · have j1 : (yhi == p - 1) = false := by simpa using hc
              rw [if_neg (by omega)] at HN
              obtain ⟨us, HOA, HRL, HQL⟩ := set_split (OwnK.alloc (OwnK.drew HO1.out) (.cells #[.int .i64 p, .int .i64 tz] TRg))
              have Q1 : Hid ((p0 + 1) + 1 ≤ maxLen) := Lib.hid (by simp only [maxLen]; omega)
              have Q2 : Hid (((p0 + 1) + 1) * 16 ≤ 140737488355328) := Lib.hid (by omega)
              have hz2 : w.heap.size ≤ (wr.drew.alloc (.cells #[.int .i64 p, .int .i64 tz] TRg)).heap.size := by simp; omega
              have HW2 := Lib.hid ((HW.out.drew).alloc (by simpa using hW) (.cells #[.int .i64 p, .int .i64 tz] TRg))
              have HSR := Lib.hid (src_rng (w := wr.drew) (x := .int .i64 p) (y := .int .i64 tz) (t := TRg) rfl rfl)
              go_wp2
              refine wp_region_T 17 (fun W => W.cell? ⟨G, p0 * 2 + 1, none⟩ = some (.int .i64 yhi) ∧ W.cell? ⟨b1, o1 + i, none⟩ = some (.int .i64 p)) (by kernel_rfl) ?_
              refine wpAnyT_takeC (i := 0) [17, 3, 2, 1] (v := ?_) rfl (by kernel_rfl) (by kernel_rfl) (by kernel_rfl) (by kernel_rfl) (by kernel_rfl) (by kernel_rfl) (fun _ _ _ h => h) (.inl ⟨rfl, ?_⟩) HS.out ?_
              rotate_left
              · intro W__ hW__
                obtain ⟨h1, h2⟩ := hW__
                go_simp
                (try with_reducible rfl)
              try simp only [Act.put]
              refine wpAnyT_takeC (i := 1) [17, 3, 2] (v := ?_) rfl (by kernel_rfl) (by kernel_rfl) (by kernel_rfl) (by kernel_rfl) (by kernel_rfl) (by kernel_rfl) (fun _ _ _ h => h) (.inl ⟨rfl, ?_⟩) HS.out ?_
              rotate_left
              · intro W__ hW__
                obtain ⟨h1, h2⟩ := hW__
                go_simp
                (try with_reducible rfl)
              try simp only [Act.put]
              refine wpAnyT_takeC (i := 2) [17, 3] (v := ?_) rfl (by kernel_rfl) (by kernel_rfl) (by kernel_rfl) (by kernel_rfl) (by kernel_rfl) (by kernel_rfl) (fun _ _ _ h => h) (.inl ⟨rfl, ?_⟩) HS.out ?_
              rotate_left
              · intro W__ hW__
                obtain ⟨h1, h2⟩ := hW__
                go_simp
                (try with_reducible rfl)
              try simp only [Act.put]
              refine wpAnyT_takeC (i := 3) [17] (v := ?_) rfl (by kernel_rfl) (by kernel_rfl) (by kernel_rfl) (by kernel_rfl) (by kernel_rfl) (by kernel_rfl) (fun _ _ _ h => h) (.inl ⟨rfl, ?_⟩) HS.out ?_
              rotate_left
              · intro W__ hW__
                obtain ⟨h1, h2⟩ := hW__
                go_simp
                (try with_reducible rfl)
              try simp only [Act.put]
              refine wpAnyT_takeC (i := 4) [17, 16, 10, 9, 8] (v := ?_) rfl (by kernel_rfl) (by kernel_rfl) (by kernel_rfl) (by kernel_rfl) (by kernel_rfl) (by kernel_rfl) (fun _ _ _ h => h) (.inl ⟨by kernel_rfl, ?_⟩) HS.out ?_
              rotate_left
              · intro W__ hW__
                obtain ⟨h1, h2⟩ := hW__
                go_simp
                (try with_reducible rfl)
              try simp only [Act.put]
              refine wpAnyT_takeC (i := 5) [17, 16, 10, 9, 8, 7, 6] (v := ?_) rfl (by kernel_rfl) (by kernel_rfl) (by kernel_rfl) (by kernel_rfl) (by kernel_rfl) (by kernel_rfl) (fun _ _ _ h => h) (.inl ⟨by kernel_rfl, ?_⟩) HS.out ?_
              rotate_left
              · intro W__ hW__
                obtain ⟨h1, h2⟩ := hW__
                go_simp
                (try with_reducible rfl)
              try simp only [Act.put]
              refine wpAnyT_takeC (i := 11) [17, 16, 15, 14, 13] (v := ?_) rfl (by kernel_rfl) (by kernel_rfl) (by kernel_rfl) (by kernel_rfl) (by kernel_rfl) (by kernel_rfl) (fun _ _ _ h => h) (.inl ⟨by kernel_rfl, ?_⟩) HS.out ?_
              rotate_left
              · intro W__ hW__
                obtain ⟨h1, h2⟩ := hW__
                go_simp
                (try with_reducible rfl)
              try simp only [Act.put]
              refine wpAnyT_takeC (i := 12) [17, 16, 15, 14, 13] (v := ?_) rfl (by kernel_rfl) (by kernel_rfl) (by kernel_rfl) (by kernel_rfl) (by kernel_rfl) (by kernel_rfl) (fun _ _ _ h => h) (.inl ⟨by kernel_rfl, ?_⟩) HS.out ?_
              rotate_left
              · intro W__ hW__
                obtain ⟨h1, h2⟩ := hW__
                go_simp
                (try with_reducible rfl)
              try simp only [Act.put]
              refine wpAnyT_takeC (i := 6) [17, 16, 10, 9, 8, 7] (v := ?_) rfl (by kernel_rfl) (by kernel_rfl) (by kernel_rfl) (by kernel_rfl) (by kernel_rfl) (by kernel_rfl) (fun _ _ _ h => h) (.inl ⟨by kernel_rfl, ?_⟩) HS.out ?_
              rotate_left
              · intro W__ hW__
                obtain ⟨h1, h2⟩ := hW__
                go_simp
                (try with_reducible rfl)
              try simp only [Act.put]
              refine wpAnyT_takeC (i := 13) [17, 16, 15, 14] (v := ?_) rfl (by kernel_rfl) (by kernel_rfl) (by kernel_rfl) (by kernel_rfl) (by kernel_rfl) (by kernel_rfl) (fun _ _ _ h => h) (.inl ⟨by kernel_rfl, ?_⟩) HS.out ?_
              rotate_left
              · intro W__ hW__
                obtain ⟨h1, h2⟩ := hW__
                go_simp
                (try with_reducible rfl)
              try simp only [Act.put]
              refine wpAnyT_takeC (i := 7) [17, 16, 10, 9, 8] (v := ?_) rfl (by kernel_rfl) (by kernel_rfl) (by kernel_rfl) (by kernel_rfl) (by kernel_rfl) (by kernel_rfl) (fun _ _ _ h => h) (.inl ⟨by kernel_rfl, ?_⟩) HS.out ?_
              rotate_left
              · intro W__ hW__
                obtain ⟨h1, h2⟩ := hW__
                go_simp
                (try with_reducible rfl)
              try simp only [Act.put]
              refine wpAnyT_takeC (i := 14) [17, 16, 15] (v := ?_) rfl (by kernel_rfl) (by kernel_rfl) (by kernel_rfl) (by kernel_rfl) (by kernel_rfl) (by kernel_rfl) (fun _ _ _ h => h) (.inl ⟨by kernel_rfl, ?_⟩) HS.out ?_
              rotate_left
              · intro W__ hW__
                obtain ⟨h1, h2⟩ := hW__
                go_simp
                (try with_reducible rfl)
              try simp only [Act.put]
              refine wpAnyT_takeC (i := 8) [17, 16, 10, 9] (v := ?_) rfl (by kernel_rfl) (by kernel_rfl) (by kernel_rfl) (by kernel_rfl) (by kernel_rfl) (by kernel_rfl) (fun _ _ _ h => h) (.inl ⟨by kernel_rfl, ?_⟩) HS.out ?_
              rotate_left
              · intro W__ hW__
                obtain ⟨h1, h2⟩ := hW__
                go_simp
                (try with_reducible rfl)
              try simp only [Act.put]
              refine wpAnyT_takeC (i := 15) [17, 16] (v := ?_) rfl (by kernel_rfl) (by kernel_rfl) (by kernel_rfl) (by kernel_rfl) (by kernel_rfl) (by kernel_rfl) (fun _ _ _ h => h) (.inl ⟨by kernel_rfl, ?_⟩) HS.out ?_
              rotate_left
              · intro W__ hW__
                obtain ⟨h1, h2⟩ := hW__
                go_simp
                (try with_reducible rfl)
              try simp only [Act.put]
              refine wpAnyT_takeC (i := 9) [17, 16, 10] (v := ?_) rfl (by kernel_rfl) (by kernel_rfl) (by kernel_rfl) (by kernel_rfl) (by kernel_rfl) (by kernel_rfl) (fun _ _ _ h => h) (.inl ⟨by kernel_rfl, ?_⟩) HS.out ?_
              rotate_left
              · intro W__ hW__
                obtain ⟨h1, h2⟩ := hW__
                go_simp
                (try with_reducible rfl)
              try simp only [Act.put]
              refine wpAnyT_takeC (i := 10) [17, 16] (v := ?_) rfl (by kernel_rfl) (by kernel_rfl) (by kernel_rfl) (by kernel_rfl) (by kernel_rfl) (by kernel_rfl) (fun _ _ _ h => h) (.inl ⟨by kernel_rfl, ?_⟩) HS.out ?_
              rotate_left
              · intro W__ hW__
                obtain ⟨h1, h2⟩ := hW__
                go_simp
                (try with_reducible rfl)
              try simp only [Act.put]
              refine wpAnyT_takeC (i := 16) [17] (v := ?_) rfl (by kernel_rfl) (by kernel_rfl) (by kernel_rfl) (by kernel_rfl) (by kernel_rfl) (by kernel_rfl) (fun _ _ _ h => h) (.inl ⟨by kernel_rfl, ?_⟩) HS.out ?_
              rotate_left
              · intro W__ hW__
                obtain ⟨h1, h2⟩ := hW__
                go_simp
                (try with_reducible rfl)
              try simp only [Act.put]
              refine wpAnyT_end (i := 17) rfl (by kernel_rfl) rfl (by kernel_rfl) fun K__ hK__ => ?_
              unfold Oper.wp
              go_simp
              refine hK__ _ _ ?_
              clear hK__
              refine wpAnyT_done (by kernel_rfl) ?_ _
              go_wp2_with (first
              | (at_builtin
                 go_must (refine wpList_append_src _ rfl (.tmp 55) (.tmp 62) 50 rfl w.heap.size TRg i0 _ 2 16 Tryz.underlying50 hi0 hz0 hs0 hb0 rfl (by decide) (some ⟨G, 0, none⟩) oc ((p0 + 1)) _ rfl HOA.out (some ⟨wr.heap.size, 0, none⟩) 1 1 _ rfl HSR.out Q1.out Q2.out hz2 ?_)
                 intro A9 c9 w9 own9 gr9 _
                 (try simp only [Nat.zero_add] at own9)
                 have HO9 := Lib.hid (set_push ⟨HRL.out, by omega, by omega⟩ HQL.out own9)
                 have HB9 := Lib.hid (HW2.out.grown gr9 hz2 (fun k hk => (HOA.out.lt k hk).1))
                 clear own9 gr9))
              go_roundw
              case rel => exact ⟨i + 1, (p0 + 1) + 1, c9, A9, by go_num, by omega, rfl, by omega, Lib.hid (by rw [HN.out]; exact HO9.out), HB9⟩
              case measure => simp [intOf]; omega
      · have HTT := Lib.hid hto
        subst hto
        cases x2 with
        | false =>
          rw [HFP.out] at HN
          go_wp2
          go_roundw
          case rel => exact ⟨i + 1, q, oc, O, by go_num, by omega, rfl, by omega, Lib.hid (by rw [HN.out]; exact HO.out), HW⟩
          case measure => simp [intOf]; omega
        | true =>
          rw [HFP.out] at HN
          simp only [if_true] at HN
          rw [HTO.out] at HN
          rcases List.eq_nil_or_concat (setJ f l i) with he | ⟨o, y, he⟩
          · rw [he, join1_nil] at HN
            have HO1 := HO
            rw [he] at HO1
            obtain rfl : q = 0 := by obtain ⟨A', c', us, hv, _⟩ := HO1.out; injection hv
            have HT : Hid (True ∧ True) := Lib.hid ⟨trivial, trivial⟩
            obtain ⟨us, HOA, HRL, HQL⟩ := set_split (OwnK.alloc (OwnK.drew HO1.out) (.cells #[.int .i64 p, .int .i64 1114111] TRg))
            have Q1 : Hid (0 + 1 ≤ maxLen) := Lib.hid (by simp only [maxLen]; omega)
            have Q2 : Hid ((0 + 1) * 16 ≤ 140737488355328) := Lib.hid (by omega)
            have hz2 : w.heap.size ≤ (wr.drew.alloc (.cells #[.int .i64 p, .int .i64 1114111] TRg)).heap.size := by simp; omega
            have HW2 := Lib.hid ((HW.out.drew).alloc (by simpa using hW) (.cells #[.int .i64 p, .int .i64 1114111] TRg))
            have HSR := Lib.hid (src_rng (w := wr.drew) (x := .int .i64 p) (y := .int .i64 1114111) (t := TRg) rfl rfl)
            clear he
            go_wp2
            refine wp_region_T 17 (fun _ => True ∧ True) (by kernel_rfl) ?_
            refine wpAnyT_takeW (i := 0) (v := ?_) rfl (by decide) (by kernel_rfl) (by kernel_rfl) (by kernel_rfl) (fun _ _ _ h => h) (.inl ⟨rfl, ?_⟩) (fun _ => HT.out) ?_
            rotate_left
            · intro W__ _
              go_simp
              (try with_reducible rfl)
            try simp only [Act.put]
            refine wpAnyT_takeW (i := 1) (v := ?_) rfl (by decide) (by kernel_rfl) (by kernel_rfl) (by kernel_rfl) (fun _ _ _ h => h) (.inl ⟨rfl, ?_⟩) (fun _ => HT.out) ?_
            rotate_left
            · intro W__ _
              go_simp
              (try with_reducible rfl)
            try simp only [Act.put]
            refine wpAnyT_takeW (i := 2) (v := ?_) rfl (by decide) (by kernel_rfl) (by kernel_rfl) (by kernel_rfl) (fun _ _ _ h => h) (.inl ⟨rfl, ?_⟩) (fun _ => HT.out) ?_
            rotate_left
            · intro W__ _
              go_simp
              (try with_reducible rfl)
            try simp only [Act.put]
            refine wpAnyT_takeW (i := 3) (v := ?_) rfl (by decide) (by kernel_rfl) (by kernel_rfl) (by kernel_rfl) (fun _ _ _ h => h) (.inl ⟨rfl, ?_⟩) (fun _ => HT.out) ?_
            rotate_left
            · intro W__ _
              go_simp
              (try with_reducible rfl)
            try simp only [Act.put]
            refine wpAnyT_takeW (i := 4) (v := undef) rfl (by decide) (by kernel_rfl) (by kernel_rfl) (by kernel_rfl) (fun _ _ _ h => h) (.inr ⟨by kernel_rfl, rfl⟩) (fun _ => HT.out) ?_
            try simp only [Act.put]
            refine wpAnyT_takeW (i := 5) (v := undef) rfl (by decide) (by kernel_rfl) (by kernel_rfl) (by kernel_rfl) (fun _ _ _ h => h) (.inr ⟨by kernel_rfl, rfl⟩) (fun _ => HT.out) ?_
            try simp only [Act.put]
            refine wpAnyT_takeW (i := 6) (v := undef) rfl (by decide) (by kernel_rfl) (by kernel_rfl) (by kernel_rfl) (fun _ _ _ h => h) (.inr ⟨by kernel_rfl, rfl⟩) (fun _ => HT.out) ?_
            try simp only [Act.put]
            refine wpAnyT_takeW (i := 7) (v := undef) rfl (by decide) (by kernel_rfl) (by kernel_rfl) (by kernel_rfl) (fun _ _ _ h => h) (.inr ⟨by kernel_rfl, rfl⟩) (fun _ => HT.out) ?_
            try simp only [Act.put]
            refine wpAnyT_takeW (i := 8) (v := undef) rfl (by decide) (by kernel_rfl) (by kernel_rfl) (by kernel_rfl) (fun _ _ _ h => h) (.inr ⟨by kernel_rfl, rfl⟩) (fun _ => HT.out) ?_
            try simp only [Act.put]
            refine wpAnyT_takeW (i := 9) (v := undef) rfl (by decide) (by kernel_rfl) (by kernel_rfl) (by kernel_rfl) (fun _ _ _ h => h) (.inr ⟨by kernel_rfl, rfl⟩) (fun _ => HT.out) ?_
            try simp only [Act.put]
            refine wpAnyT_takeW (i := 10) (v := undef) rfl (by decide) (by kernel_rfl) (by kernel_rfl) (by kernel_rfl) (fun _ _ _ h => h) (.inr ⟨by kernel_rfl, rfl⟩) (fun _ => HT.out) ?_
            try simp only [Act.put]
            refine wpAnyT_takeW (i := 11) (v := undef) rfl (by decide) (by kernel_rfl) (by kernel_rfl) (by kernel_rfl) (fun _ _ _ h => h) (.inr ⟨by kernel_rfl, rfl⟩) (fun _ => HT.out) ?_
            try simp only [Act.put]
            refine wpAnyT_takeW (i := 12) (v := undef) rfl (by decide) (by kernel_rfl) (by kernel_rfl) (by kernel_rfl) (fun _ _ _ h => h) (.inr ⟨by kernel_rfl, rfl⟩) (fun _ => HT.out) ?_
            try simp only [Act.put]
            refine wpAnyT_takeW (i := 13) (v := undef) rfl (by decide) (by kernel_rfl) (by kernel_rfl) (by kernel_rfl) (fun _ _ _ h => h) (.inr ⟨by kernel_rfl, rfl⟩) (fun _ => HT.out) ?_
            try simp only [Act.put]
            refine wpAnyT_takeW (i := 14) (v := undef) rfl (by decide) (by kernel_rfl) (by kernel_rfl) (by kernel_rfl) (fun _ _ _ h => h) (.inr ⟨by kernel_rfl, rfl⟩) (fun _ => HT.out) ?_
            try simp only [Act.put]
            refine wpAnyT_takeW (i := 15) (v := undef) rfl (by decide) (by kernel_rfl) (by kernel_rfl) (by kernel_rfl) (fun _ _ _ h => h) (.inr ⟨by kernel_rfl, rfl⟩) (fun _ => HT.out) ?_
            try simp only [Act.put]
            refine wpAnyT_takeW (i := 16) (v := undef) rfl (by decide) (by kernel_rfl) (by kernel_rfl) (by kernel_rfl) (fun _ _ _ h => h) (.inr ⟨by kernel_rfl, rfl⟩) (fun _ => HT.out) ?_
            try simp only [Act.put]
            refine wpAnyT_end (i := 17) rfl (by kernel_rfl) rfl (by kernel_rfl) fun K__ hK__ => ?_
            unfold Oper.wp
            go_simp
            refine hK__ _ _ ?_
            clear hK__
            refine wpAnyT_done (by kernel_rfl) ?_ _
            go_wp2_with (first
            | (at_builtin
               go_must (refine wpList_append_src _ rfl (.tmp 55) (.tmp 62) 50 rfl w.heap.size TRg i0 _ 2 16 Tryz.underlying50 hi0 hz0 hs0 hb0 rfl (by decide) O oc (0) _ rfl HOA.out (some ⟨wr.heap.size, 0, none⟩) 1 1 _ rfl HSR.out Q1.out Q2.out hz2 ?_)
               intro A9 c9 w9 own9 gr9 _
               (try simp only [Nat.zero_add] at own9)
               have HO9 := Lib.hid (set_push ⟨HRL.out, by omega, by omega⟩ HQL.out own9)
               have HB9 := Lib.hid (HW2.out.grown gr9 hz2 (fun k hk => (HOA.out.lt k hk).1))
               clear own9 gr9))
            go_roundw
            case rel => exact ⟨i + 1, 0 + 1, c9, A9, by go_num, by omega, by simp, by omega, Lib.hid (by rw [HN.out]; exact HO9.out), HB9⟩
            case measure => simp [intOf]; omega
          · rw [List.concat_eq_append] at he
            have HY1 := HB1.out y (by rw [he]; simp)
            have HO1 := HO
            rw [he] at HN HO1
            obtain ⟨p0, hp0⟩ : ∃ p0, o.length = p0 := ⟨_, rfl⟩
            obtain ⟨hq1, G, hG, hG1, hG2, d0, d1, d2⟩ := OwnSet.last HO1.out hp0
            subst hq1; subst hG
            have HP0 := Lib.hid hp0
            obtain ⟨ylo, yhi⟩ := y
            simp only at d0 d1 HY1
            obtain ⟨hy1, hy2, hy3⟩ := HY1
            rw [join1_app] at HN
            simp only at HN
            have HS : Hid (wr.drew.cell? ⟨G, p0 * 2 + 1, none⟩ = some (.int .i64 yhi) ∧ wr.drew.cell? ⟨b1, o1 + i, none⟩ = some (.int .i64 p)) := Lib.hid ⟨d1, k1⟩
            have e3 : IntKind.i64.wrap (p0 : Int) = (p0 : Int) := by rw [IntKind.wrap_i64]; omega
            have e4 : (p0 : Int) < (p0 : Int) + 1 := by omega
            have e5 : IntKind.i64.wrap (p - 1) = p - 1 := by rw [IntKind.wrap_i64]; omega
            clear he hp0 d0
            by_cases hc : yhi = p - 1
            · have j1 : (yhi == p - 1) = true := by simpa using hc
              have hmx : max yhi 1114111 = 1114111 := by omega
              rw [if_pos (by omega), hmx] at HN
              go_wp2
              refine wp_region_T 17 (fun W => W.cell? ⟨G, p0 * 2 + 1, none⟩ = some (.int .i64 yhi) ∧ W.cell? ⟨b1, o1 + i, none⟩ = some (.int .i64 p)) (by kernel_rfl) ?_
              refine wpAnyT_takeC (i := 0) [17, 3, 2, 1] (v := ?_) rfl (by kernel_rfl) (by kernel_rfl) (by kernel_rfl) (by kernel_rfl) (by kernel_rfl) (by kernel_rfl) (fun _ _ _ h => h) (.inl ⟨rfl, ?_⟩) HS.out ?_
              rotate_left
              · intro W__ hW__
                obtain ⟨h1, h2⟩ := hW__
                go_simp
                (try with_reducible rfl)
              try simp only [Act.put]
              refine wpAnyT_takeC (i := 1) [17, 3, 2] (v := ?_) rfl (by kernel_rfl) (by kernel_rfl) (by kernel_rfl) (by kernel_rfl) (by kernel_rfl) (by kernel_rfl) (fun _ _ _ h => h) (.inl ⟨rfl, ?_⟩) HS.out ?_
              rotate_left
              · intro W__ hW__
                obtain ⟨h1, h2⟩ := hW__
                go_simp
                (try with_reducible rfl)
              try simp only [Act.put]
              refine wpAnyT_takeC (i := 2) [17, 3] (v := ?_) rfl (by kernel_rfl) (by kernel_rfl) (by kernel_rfl) (by kernel_rfl) (by kernel_rfl) (by kernel_rfl) (fun _ _ _ h => h) (.inl ⟨rfl, ?_⟩) HS.out ?_
              rotate_left
              · intro W__ hW__
                obtain ⟨h1, h2⟩ := hW__
                go_simp
                (try with_reducible rfl)
              try simp only [Act.put]
              refine wpAnyT_takeC (i := 3) [17] (v := ?_) rfl (by kernel_rfl) (by kernel_rfl) (by kernel_rfl) (by kernel_rfl) (by kernel_rfl) (by kernel_rfl) (fun _ _ _ h => h) (.inl ⟨rfl, ?_⟩) HS.out ?_
              rotate_left
              · intro W__ hW__
                obtain ⟨h1, h2⟩ := hW__
                go_simp
                (try with_reducible rfl)
              try simp only [Act.put]
              refine wpAnyT_takeC (i := 4) [17, 16, 10, 9, 8] (v := ?_) rfl (by kernel_rfl) (by kernel_rfl) (by kernel_rfl) (by kernel_rfl) (by kernel_rfl) (by kernel_rfl) (fun _ _ _ h => h) (.inl ⟨by kernel_rfl, ?_⟩) HS.out ?_
              rotate_left
              · intro W__ hW__
                obtain ⟨h1, h2⟩ := hW__
                go_simp
                (try with_reducible rfl)
              try simp only [Act.put]
              refine wpAnyT_takeC (i := 5) [17, 16, 10, 9, 8, 7, 6] (v := ?_) rfl (by kernel_rfl) (by kernel_rfl) (by kernel_rfl) (by kernel_rfl) (by kernel_rfl) (by kernel_rfl) (fun _ _ _ h => h) (.inl ⟨by kernel_rfl, ?_⟩) HS.out ?_
              rotate_left
              · intro W__ hW__
                obtain ⟨h1, h2⟩ := hW__
                go_simp
                (try with_reducible rfl)
              try simp only [Act.put]
              refine wpAnyT_takeC (i := 11) [17, 16, 15, 14, 13] (v := ?_) rfl (by kernel_rfl) (by kernel_rfl) (by kernel_rfl) (by kernel_rfl) (by kernel_rfl) (by kernel_rfl) (fun _ _ _ h => h) (.inl ⟨by kernel_rfl, ?_⟩) HS.out ?_
              rotate_left
              · intro W__ hW__
                obtain ⟨h1, h2⟩ := hW__
                go_simp
                (try with_reducible rfl)
              try simp only [Act.put]
              refine wpAnyT_takeC (i := 12) [17, 16, 15, 14, 13] (v := ?_) rfl (by kernel_rfl) (by kernel_rfl) (by kernel_rfl) (by kernel_rfl) (by kernel_rfl) (by kernel_rfl) (fun _ _ _ h => h) (.inl ⟨by kernel_rfl, ?_⟩) HS.out ?_
              rotate_left
              · intro W__ hW__
                obtain ⟨h1, h2⟩ := hW__
                go_simp
                (try with_reducible rfl)
              try simp only [Act.put]
              refine wpAnyT_takeC (i := 6) [17, 16, 10, 9, 8, 7] (v := ?_) rfl (by kernel_rfl) (by kernel_rfl) (by kernel_rfl) (by kernel_rfl) (by kernel_rfl) (by kernel_rfl) (fun _ _ _ h => h) (.inl ⟨by kernel_rfl, ?_⟩) HS.out ?_
              rotate_left
              · intro W__ hW__
                obtain ⟨h1, h2⟩ := hW__
                go_simp
                (try with_reducible rfl)
              try simp only [Act.put]
              refine wpAnyT_takeC (i := 13) [17, 16, 15, 14] (v := ?_) rfl (by kernel_rfl) (by kernel_rfl) (by kernel_rfl) (by kernel_rfl) (by kernel_rfl) (by kernel_rfl) (fun _ _ _ h => h) (.inl ⟨by kernel_rfl, ?_⟩) HS.out ?_
              rotate_left
              · intro W__ hW__
                obtain ⟨h1, h2⟩ := hW__
                go_simp
                (try with_reducible rfl)
              try simp only [Act.put]
              refine wpAnyT_takeC (i := 7) [17, 16, 10, 9, 8] (v := ?_) rfl (by kernel_rfl) (by kernel_rfl) (by kernel_rfl) (by kernel_rfl) (by kernel_rfl) (by kernel_rfl) (fun _ _ _ h => h) (.inl ⟨by kernel_rfl, ?_⟩) HS.out ?_
              rotate_left
              · intro W__ hW__
                obtain ⟨h1, h2⟩ := hW__
                go_simp
                (try with_reducible rfl)
              try simp only [Act.put]
              refine wpAnyT_takeC (i := 14) [17, 16, 15] (v := ?_) rfl (by kernel_rfl) (by kernel_rfl) (by kernel_rfl) (by kernel_rfl) (by kernel_rfl) (by kernel_rfl) (fun _ _ _ h => h) (.inl ⟨by kernel_rfl, ?_⟩) HS.out ?_
              rotate_left
              · intro W__ hW__
                obtain ⟨h1, h2⟩ := hW__
                go_simp
                (try with_reducible rfl)
              try simp only [Act.put]
              refine wpAnyT_takeC (i := 8) [17, 16, 10, 9] (v := ?_) rfl (by kernel_rfl) (by kernel_rfl) (by kernel_rfl) (by kernel_rfl) (by kernel_rfl) (by kernel_rfl) (fun _ _ _ h => h) (.inl ⟨by kernel_rfl, ?_⟩) HS.out ?_
              rotate_left
              · intro W__ hW__
                obtain ⟨h1, h2⟩ := hW__
                go_simp
                (try with_reducible rfl)
              try simp only [Act.put]
              refine wpAnyT_takeC (i := 15) [17, 16] (v := ?_) rfl (by kernel_rfl) (by kernel_rfl) (by kernel_rfl) (by kernel_rfl) (by kernel_rfl) (by kernel_rfl) (fun _ _ _ h => h) (.inl ⟨by kernel_rfl, ?_⟩) HS.out ?_
              rotate_left
              · intro W__ hW__
                obtain ⟨h1, h2⟩ := hW__
                go_simp
                (try with_reducible rfl)
              try simp only [Act.put]
              refine wpAnyT_takeC (i := 9) [17, 16, 10] (v := ?_) rfl (by kernel_rfl) (by kernel_rfl) (by kernel_rfl) (by kernel_rfl) (by kernel_rfl) (by kernel_rfl) (fun _ _ _ h => h) (.inl ⟨by kernel_rfl, ?_⟩) HS.out ?_
              rotate_left
              · intro W__ hW__
                obtain ⟨h1, h2⟩ := hW__
                go_simp
                (try with_reducible rfl)
              try simp only [Act.put]
              refine wpAnyT_takeC (i := 10) [17, 16] (v := ?_) rfl (by kernel_rfl) (by kernel_rfl) (by kernel_rfl) (by kernel_rfl) (by kernel_rfl) (by kernel_rfl) (fun _ _ _ h => h) (.inl ⟨by kernel_rfl, ?_⟩) HS.out ?_
              rotate_left
              · intro W__ hW__
                obtain ⟨h1, h2⟩ := hW__
                go_simp
                (try with_reducible rfl)
              try simp only [Act.put]
              refine wpAnyT_takeC (i := 16) [17] (v := ?_) rfl (by kernel_rfl) (by kernel_rfl) (by kernel_rfl) (by kernel_rfl) (by kernel_rfl) (by kernel_rfl) (fun _ _ _ h => h) (.inl ⟨by kernel_rfl, ?_⟩) HS.out ?_
              rotate_left
              · intro W__ hW__
                obtain ⟨h1, h2⟩ := hW__
                go_simp
                (try with_reducible rfl)
              try simp only [Act.put]
              refine wpAnyT_end (i := 17) rfl (by kernel_rfl) rfl (by kernel_rfl) fun K__ hK__ => ?_
              unfold Oper.wp
              go_simp
              refine hK__ _ _ ?_
              clear hK__
              refine wpAnyT_done (by kernel_rfl) ?_ _
              have HO5 := Lib.hid (OwnSet.hi (z := 1114111) (OwnK.drew HO1.out) HP0.out (by omega))
              have HB5 := Lib.hid ((HW.out.drew).setCell (p := ⟨G, p0 * 2 + 1, none⟩) hG1 (.int .i64 1114111))
              go_wp2
              go_roundw
              case rel => exact ⟨i + 1, p0 + 1, oc, some ⟨G, 0, none⟩, by go_num, by omega, by simp, by omega, Lib.hid (by rw [HN.out]; exact HO5.out), HB5⟩
              case measure => simp [intOf]; omega
            · have j1 : (yhi == p - 1) = false := by simpa using hc
              rw [if_neg (by omega)] at HN
              obtain ⟨us, HOA, HRL, HQL⟩ := set_split (OwnK.alloc (OwnK.drew HO1.out) (.cells #[.int .i64 p, .int .i64 1114111] TRg))
              have Q1 : Hid ((p0 + 1) + 1 ≤ maxLen) := Lib.hid (by simp only [maxLen]; omega)
              have Q2 : Hid (((p0 + 1) + 1) * 16 ≤ 140737488355328) := Lib.hid (by omega)
              have hz2 : w.heap.size ≤ (wr.drew.alloc (.cells #[.int .i64 p, .int .i64 1114111] TRg)).heap.size := by simp; omega
              have HW2 := Lib.hid ((HW.out.drew).alloc (by simpa using hW) (.cells #[.int .i64 p, .int .i64 1114111] TRg))
              have HSR := Lib.hid (src_rng (w := wr.drew) (x := .int .i64 p) (y := .int .i64 1114111) (t := TRg) rfl rfl)
              go_wp2
              refine wp_region_T 17 (fun W => W.cell? ⟨G, p0 * 2 + 1, none⟩ = some (.int .i64 yhi) ∧ W.cell? ⟨b1, o1 + i, none⟩ = some (.int .i64 p)) (by kernel_rfl) ?_
              refine wpAnyT_takeC (i := 0) [17, 3, 2, 1] (v := ?_) rfl (by kernel_rfl) (by kernel_rfl) (by kernel_rfl) (by kernel_rfl) (by kernel_rfl) (by kernel_rfl) (fun _ _ _ h => h) (.inl ⟨rfl, ?_⟩) HS.out ?_
              rotate_left
              · intro W__ hW__
                obtain ⟨h1, h2⟩ := hW__
                go_simp
                (try with_reducible rfl)
              try simp only [Act.put]
              refine wpAnyT_takeC (i := 1) [17, 3, 2] (v := ?_) rfl (by kernel_rfl) (by kernel_rfl) (by kernel_rfl) (by kernel_rfl) (by kernel_rfl) (by kernel_rfl) (fun _ _ _ h => h) (.inl ⟨rfl, ?_⟩) HS.out ?_
              rotate_left
              · intro W__ hW__
                obtain ⟨h1, h2⟩ := hW__
                go_simp
                (try with_reducible rfl)
              try simp only [Act.put]
              refine wpAnyT_takeC (i := 2) [17, 3] (v := ?_) rfl (by kernel_rfl) (by kernel_rfl) (by kernel_rfl) (by kernel_rfl) (by kernel_rfl) (by kernel_rfl) (fun _ _ _ h => h) (.inl ⟨rfl, ?_⟩) HS.out ?_
              rotate_left
              · intro W__ hW__
                obtain ⟨h1, h2⟩ := hW__
                go_simp
                (try with_reducible rfl)
              try simp only [Act.put]
              refine wpAnyT_takeC (i := 3) [17] (v := ?_) rfl (by kernel_rfl) (by kernel_rfl) (by kernel_rfl) (by kernel_rfl) (by kernel_rfl) (by kernel_rfl) (fun _ _ _ h => h) (.inl ⟨rfl, ?_⟩) HS.out ?_
              rotate_left
              · intro W__ hW__
                obtain ⟨h1, h2⟩ := hW__
                go_simp
                (try with_reducible rfl)
              try simp only [Act.put]
              refine wpAnyT_takeC (i := 4) [17, 16, 10, 9, 8] (v := ?_) rfl (by kernel_rfl) (by kernel_rfl) (by kernel_rfl) (by kernel_rfl) (by kernel_rfl) (by kernel_rfl) (fun _ _ _ h => h) (.inl ⟨by kernel_rfl, ?_⟩) HS.out ?_
              rotate_left
              · intro W__ hW__
                obtain ⟨h1, h2⟩ := hW__
                go_simp
                (try with_reducible rfl)
              try simp only [Act.put]
              refine wpAnyT_takeC (i := 5) [17, 16, 10, 9, 8, 7, 6] (v := ?_) rfl (by kernel_rfl) (by kernel_rfl) (by kernel_rfl) (by kernel_rfl) (by kernel_rfl) (by kernel_rfl) (fun _ _ _ h => h) (.inl ⟨by kernel_rfl, ?_⟩) HS.out ?_
              rotate_left
              · intro W__ hW__
                obtain ⟨h1, h2⟩ := hW__
                go_simp
                (try with_reducible rfl)
              try simp only [Act.put]
              refine wpAnyT_takeC (i := 11) [17, 16, 15, 14, 13] (v := ?_) rfl (by kernel_rfl) (by kernel_rfl) (by kernel_rfl) (by kernel_rfl) (by kernel_rfl) (by kernel_rfl) (fun _ _ _ h => h) (.inl ⟨by kernel_rfl, ?_⟩) HS.out ?_
              rotate_left
              · intro W__ hW__
                obtain ⟨h1, h2⟩ := hW__
                go_simp
                (try with_reducible rfl)
              try simp only [Act.put]
              refine wpAnyT_takeC (i := 12) [17, 16, 15, 14, 13] (v := ?_) rfl (by kernel_rfl) (by kernel_rfl) (by kernel_rfl) (by kernel_rfl) (by kernel_rfl) (by kernel_rfl) (fun _ _ _ h => h) (.inl ⟨by kernel_rfl, ?_⟩) HS.out ?_
              rotate_left
              · intro W__ hW__
                obtain ⟨h1, h2⟩ := hW__
                go_simp
                (try with_reducible rfl)
              try simp only [Act.put]
              refine wpAnyT_takeC (i := 6) [17, 16, 10, 9, 8, 7] (v := ?_) rfl (by kernel_rfl) (by kernel_rfl) (by kernel_rfl) (by kernel_rfl) (by kernel_rfl) (by kernel_rfl) (fun _ _ _ h => h) (.inl ⟨by kernel_rfl, ?_⟩) HS.out ?_
              rotate_left
              · intro W__ hW__
                obtain ⟨h1, h2⟩ := hW__
                go_simp
                (try with_reducible rfl)
              try simp only [Act.put]
              refine wpAnyT_takeC (i := 13) [17, 16, 15, 14] (v := ?_) rfl (by kernel_rfl) (by kernel_rfl) (by kernel_rfl) (by kernel_rfl) (by kernel_rfl) (by kernel_rfl) (fun _ _ _ h => h) (.inl ⟨by kernel_rfl, ?_⟩) HS.out ?_
              rotate_left
              · intro W__ hW__
                obtain ⟨h1, h2⟩ := hW__
                go_simp
                (try with_reducible rfl)
              try simp only [Act.put]
              refine wpAnyT_takeC (i := 7) [17, 16, 10, 9, 8] (v := ?_) rfl (by kernel_rfl) (by kernel_rfl) (by kernel_rfl) (by kernel_rfl) (by kernel_rfl) (by kernel_rfl) (fun _ _ _ h => h) (.inl ⟨by kernel_rfl, ?_⟩) HS.out ?_
              rotate_left
              · intro W__ hW__
                obtain ⟨h1, h2⟩ := hW__
                go_simp
                (try with_reducible rfl)
              try simp only [Act.put]
              refine wpAnyT_takeC (i := 14) [17, 16, 15] (v := ?_) rfl (by kernel_rfl) (by kernel_rfl) (by kernel_rfl) (by kernel_rfl) (by kernel_rfl) (by kernel_rfl) (fun _ _ _ h => h) (.inl ⟨by kernel_rfl, ?_⟩) HS.out ?_
              rotate_left
              · intro W__ hW__
                obtain ⟨h1, h2⟩ := hW__
                go_simp
                (try with_reducible rfl)
              try simp only [Act.put]
              refine wpAnyT_takeC (i := 8) [17, 16, 10, 9] (v := ?_) rfl (by kernel_rfl) (by kernel_rfl) (by kernel_rfl) (by kernel_rfl) (by kernel_rfl) (by kernel_rfl) (fun _ _ _ h => h) (.inl ⟨by kernel_rfl, ?_⟩) HS.out ?_
              rotate_left
              · intro W__ hW__
                obtain ⟨h1, h2⟩ := hW__
                go_simp
                (try with_reducible rfl)
              try simp only [Act.put]
              refine wpAnyT_takeC (i := 15) [17, 16] (v := ?_) rfl (by kernel_rfl) (by kernel_rfl) (by kernel_rfl) (by kernel_rfl) (by kernel_rfl) (by kernel_rfl) (fun _ _ _ h => h) (.inl ⟨by kernel_rfl, ?_⟩) HS.out ?_
              rotate_left
              · intro W__ hW__
                obtain ⟨h1, h2⟩ := hW__
                go_simp
                (try with_reducible rfl)
              try simp only [Act.put]
              refine wpAnyT_takeC (i := 9) [17, 16, 10] (v := ?_) rfl (by kernel_rfl) (by kernel_rfl) (by kernel_rfl) (by kernel_rfl) (by kernel_rfl) (by kernel_rfl) (fun _ _ _ h => h) (.inl ⟨by kernel_rfl, ?_⟩) HS.out ?_
              rotate_left
              · intro W__ hW__
                obtain ⟨h1, h2⟩ := hW__
                go_simp
                (try with_reducible rfl)
              try simp only [Act.put]
              refine wpAnyT_takeC (i := 10) [17, 16] (v := ?_) rfl (by kernel_rfl) (by kernel_rfl) (by kernel_rfl) (by kernel_rfl) (by kernel_rfl) (by kernel_rfl) (fun _ _ _ h => h) (.inl ⟨by kernel_rfl, ?_⟩) HS.out ?_
              rotate_left
              · intro W__ hW__
                obtain ⟨h1, h2⟩ := hW__
                go_simp
                (try with_reducible rfl)
              try simp only [Act.put]
              refine wpAnyT_takeC (i := 16) [17] (v := ?_) rfl (by kernel_rfl) (by kernel_rfl) (by kernel_rfl) (by kernel_rfl) (by kernel_rfl) (by kernel_rfl) (fun _ _ _ h => h) (.inl ⟨by kernel_rfl, ?_⟩) HS.out ?_
              rotate_left
              · intro W__ hW__
                obtain ⟨h1, h2⟩ := hW__
                go_simp
                (try with_reducible rfl)
              try simp only [Act.put]
              refine wpAnyT_end (i := 17) rfl (by kernel_rfl) rfl (by kernel_rfl) fun K__ hK__ => ?_
              unfold Oper.wp
              go_simp
              refine hK__ _ _ ?_
              clear hK__
              refine wpAnyT_done (by kernel_rfl) ?_ _
              go_wp2_with (first
              | (at_builtin
                 go_must (refine wpList_append_src _ rfl (.tmp 55) (.tmp 62) 50 rfl w.heap.size TRg i0 _ 2 16 Tryz.underlying50 hi0 hz0 hs0 hb0 rfl (by decide) (some ⟨G, 0, none⟩) oc ((p0 + 1)) _ rfl HOA.out (some ⟨wr.heap.size, 0, none⟩) 1 1 _ rfl HSR.out Q1.out Q2.out hz2 ?_)
                 intro A9 c9 w9 own9 gr9 _
                 (try simp only [Nat.zero_add] at own9)
                 have HO9 := Lib.hid (set_push ⟨HRL.out, by omega, by omega⟩ HQL.out own9)
                 have HB9 := Lib.hid (HW2.out.grown gr9 hz2 (fun k hk => (HOA.out.lt k hk).1))
                 clear own9 gr9))
              go_roundw
              case rel => exact ⟨i + 1, (p0 + 1) + 1, c9, A9, by go_num, by omega, rfl, by omega, Lib.hid (by rw [HN.out]; exact HO9.out), HB9⟩
              case measure => simp [intOf]; omega
    · obtain rfl : i = n := by omega
      have i1 : ¬ (i : Int) < (i : Int) := by omega
      have HJ := Lib.hid (setJ_all f HL.out)
      go_wp2
      go_ret
      exact ⟨O, q, oc, rfl, by rw [← HJ.out]; exact HO.out, HW.out⟩
end Go.Proofs.YtilhicefhhgecaaGreatDoor
