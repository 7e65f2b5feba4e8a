/- Walks: strconv.ParseInt at six digits to the base of 16. PUT1 -/
import Derived.Test.YtilhicefhhgecaaGreatDoorP23q
import Derived.Lib.ConvBytes
import Derived.Lib.AtoiAllMem
import Derived.Laws.Strings3
import Derived.Laws.Closers25
import Derived.Laws.Closers25b
namespace Go.Proofs.YtilhicefhhgecaaGreatDoor
open Go.RowKit Pv
theorem hex_low : ∀ b ∈ hexB, (48 ≤ b.toNat ∧ b.toNat ≤ 57 ∧ hexVB b = b.toNat - 48) ∨ (¬ b.toNat ≤ 57 ∧ 97 ≤ bits .or .u8 (b.toNat : Int) 32 ∧ bits .or .u8 (b.toNat : Int) 32 ≤ 102 ∧ bits .or .u8 (b.toNat : Int) 32 - 87 = (hexVB b : Int)) := by decide
theorem hex_v : ∀ b ∈ hexB, hexVB b < 16 ∧ b.toNat ≠ 43 ∧ b.toNat ≠ 45 := by decide
theorem hexNB_next (l : Bs) (k : Nat) (b : UInt8) (h : l[k]? = some b) : hexNB (l.take (k + 1)) = 16 * hexNB (l.take k) + hexVB b := by
  rw [List.take_add_one, h, hexNB, hexNB, List.foldl_append]
  rfl
set_option maxHeartbeats 1000000 in
set_option maxRecDepth 100000 in
theorem low_is (c : Int) (w : World) :
    Calls Tryz.prog 266 #[.int .u8 c] w fun e w' => e = .returned (.int .u8 (bits .or .u8 c 32)) ∧ w = w' := by
  go_enter Tryz.func266, Tryz.ntmps266
  go_wp2
  go_ret
  exact ⟨rfl, rfl⟩
set_option maxHeartbeats 4000000 in
set_option maxRecDepth 100000 in
theorem pu_hex (t : ByteArray) (hn : t.size = 6) (hx : allH (bsl t) = true) (w : World) :
    Calls Tryz.prog 247 #[.string t, .int .i64 16, .int .i64 64] w fun e w' => e = .returned (.tuple #[.int .u64 (hexNB (bsl t)), .nilIface]) ∧ w' = Lib.bytesWorld w 5 t := by
  have hemp : t.toList.isEmpty = false := by
    rw [← decide_eq_emptyBytes]
    exact decide_eq_false (fun h => by rw [h] at hn; simp at hn)
  have hcv := Lib.run_convert_string_bytes (P := Tryz.prog) w 9 162 5 t (u := .string) Tryz.underlying9 Tryz.underlying162 Tryz.underlying5
  have hB : ∀ j, j < t.size → (Lib.bytesWorld w 5 t).cell? ⟨w.heap.size, j, none⟩ = some (.int .u8 (t.data.toList.getD j 0).toNat) := fun j hj => Lib.bytesWorld_cell w 5 t j hj
  obtain ⟨W1, hW1⟩ : ∃ W1, W1 = Lib.bytesWorld w 5 t := ⟨_, rfl⟩
  rw [← hW1] at hcv hB ⊢
  clear hW1
  obtain ⟨bs, hL⟩ : ∃ bs, bs = bsl t := ⟨_, rfl⟩
  have hLn : bs.length = 6 := by rw [hL, bsl_len, hn]
  rw [show t.data.toList = bsl t from rfl, ← hL] at hB
  rw [← hL] at hx ⊢
  clear hL
  rw [hn] at hcv hB
  have hmv : IntKind.u64.wrap (IntKind.u64.wrap 18446744073709551616 - 1) = 18446744073709551615 := by
    rw [IntKind.wrap_u64, IntKind.wrap_u64]
    decide
  have HX := Lib.hid hx; have HLN := Lib.hid hLn
  have HB := Lib.hid hB
  have HLW := Lib.hid (fun c W => low_is c W)
  clear hx hLn hB
  go_enter Tryz.func247, Tryz.ntmps247
  go_wp2
  go_loop [12, 13, 101] (fun vu vn vi => ∃ (k acc : Nat) (a : Int), vu = .bool false ∧ vn = .int .u64 a ∧ vi = .int .i64 k ∧ k ≤ 6 ∧ a < 16777216 ∧ 0 ≤ a ∧ Hid (a = (acc : Int) ∧ acc = hexNB (bs.take k) ∧ acc < 16 ^ k))
    (fun _ _ vi => 6 - (intOf vi).toNat)
  case atStart => exact ⟨0, 0, 0, rfl, rfl, rfl, by omega, by omega, by omega, Lib.hid ⟨rfl, rfl, by decide⟩⟩
  case round =>
    obtain ⟨k, acc, a, rfl, rfl, rfl, hk, ha1, ha0, hh⟩ := hrel
    obtain ⟨ha, hacc, hpow⟩ := hh.out
    clear hh
    by_cases hlt : k < 6
    · have hc := HB.out k hlt
      have hk' : k < bs.length := by rw [HLN.out]; exact hlt
      have hget : bs[k]? = some (bs.getD k 0) := by rw [List.getElem?_eq_getElem hk', List.getD, List.getElem?_eq_getElem hk']; rfl
      generalize bs.getD k 0 = b at hc hget
      have hbm : b ∈ hexB := by
        have h1 := List.all_eq_true.1 HX.out b (List.mem_of_getElem? hget)
        simpa using h1
      have hnx := hexNB_next bs k b hget
      rw [← hacc] at hnx
      have hv := (hex_v b hbm).1
      have hp5 : 16 ^ k ≤ 16 ^ 5 := Nat.pow_le_pow_right (by omega) (by omega)
      have hp : 16 ^ (k + 1) = 16 ^ k * 16 := Nat.pow_succ ..
      have hlow := hex_low b hbm
      have hv' : hexVB b = (hexVB b) := rfl
      obtain ⟨v, hvv⟩ : ∃ v, hexVB b = v := ⟨_, rfl⟩
      rw [hvv] at hnx hv hlow
      have hc256 : b.toNat < 256 := b.toNat_lt
      have HN : Hid (a * 16 + (v : Int) = ((16 * acc + v : Nat) : Int) ∧ 16 * acc + v = hexNB (bs.take (k + 1)) ∧ 16 * acc + v < 16 ^ (k + 1)) := Lib.hid ⟨by omega, hnx.symm, by omega⟩
      have ib : a * 16 + (v : Int) < 16777216 := by omega
      have ic : 0 ≤ a * 16 + (v : Int) := by omega
      generalize b.toNat = m at hc hlow hc256
      clear hv' hvv hnx hget hbm hpow hacc ha hp hp5
      rcases hlow with ⟨l1, l2, l3⟩ | ⟨l1, l2, l3, l4⟩
      · have l4 : (m : Int) - 48 = (v : Int) := by omega
        have l5 : (48 : Int) ≤ (m : Int) := by omega
        have l6 : (m : Int) ≤ 57 := by omega
        have l7 : (v : Int) < 16 := by omega
        have HV := Lib.hid l4
        obtain ⟨z, hz⟩ : ∃ z, (v : Int) = z := ⟨_, rfl⟩
        rw [hz] at HN ib ic l4 l7
        have l8 : (m : Int) = z + 48 := by omega
        rw [l8] at hc l5 l6
        clear HV hz l1 l2 l3 l4 l8 hv hc256
        go_wp2
        refine ⟨⟨k + 1, _, a * 16 + z, rfl, by first | rfl | (congr 1; omega), by first | rfl | (congr 1; omega), by omega, by omega, by omega, HN⟩, by simp [intOf]; omega⟩
      · have l5 : ¬ (m : Int) ≤ 57 := by omega
        have l6 : ¬ (m : Int) = 95 := by intro h; rw [h] at l3; revert l3; decide
        have l7 : (v : Int) < 16 := by omega
        obtain ⟨z, hz⟩ : ∃ z, (v : Int) = z := ⟨_, rfl⟩
        rw [hz] at HN ib ic l4 l7
        obtain ⟨y, hy⟩ : ∃ y, bits .or .u8 (m : Int) 32 = y := ⟨_, rfl⟩
        have HL2 := HLW.out (m : Int)
        rw [hy] at l2 l3 l4 HL2
        have l8 : y = z + 87 := by omega
        rw [l8] at l2 l3 HL2
        have HL2 := Lib.hid HL2
        clear hz hy l1 l4 l8 hv
        go_wp2_with fail
        refine (HL2.out _).mono ?_
        rintro e w' ⟨rfl, rfl⟩
        go_wp2_with fail
        refine (HL2.out _).mono ?_
        rintro e w' ⟨rfl, rfl⟩
        go_wp2_with fail
        refine (HL2.out _).mono ?_
        rintro e w' ⟨rfl, rfl⟩
        go_wp2
        refine ⟨⟨k + 1, _, a * 16 + z, rfl, by first | rfl | (congr 1; omega), by first | rfl | (congr 1; omega), by omega, by omega, by omega, HN⟩, by simp [intOf]; omega⟩
    · have hkk : k = 6 := by omega
      subst hkk
      have ha' : a = (hexNB bs : Int) := by
        rw [ha, hacc, List.take_of_length_le (by rw [HLN.out]; exact Nat.le_refl _)]
      clear ha hacc hpow
      subst ha'
      go_wp2
      go_ret2
      exact ⟨rfl, rfl⟩
theorem hexF_lt : ∀ (l : Bs) (a : Nat), (∀ b ∈ l, b ∈ hexB) → l.foldl (fun a b => 16 * a + hexVB b) a < (a + 1) * 16 ^ l.length
  | [], a, _ => by simp
  | b :: l, a, h => by
    have h1 := hexF_lt l (16 * a + hexVB b) fun c hc => h c (List.mem_cons_of_mem _ hc)
    have h2 := (hex_v b (h b (by simp))).1
    rw [List.foldl_cons, List.length_cons, Nat.pow_succ]
    refine Nat.lt_of_lt_of_le h1 ?_
    rw [Nat.mul_comm (16 ^ l.length) 16, ← Nat.mul_assoc]
    exact Nat.mul_le_mul_right _ (by omega)
theorem hexNB_lt (l : Bs) (h : ∀ b ∈ l, b ∈ hexB) : hexNB l < 16 ^ l.length := by
  have := hexF_lt l 0 h
  rw [Nat.zero_add, Nat.one_mul] at this
  exact this
theorem hexNB_six {t : ByteArray} (hn : t.size = 6) (hx : allH (bsl t) = true) : hexNB (bsl t) < 16777216 := by
  have h := hexNB_lt (bsl t) fun b hb => by simpa using List.all_eq_true.1 hx b hb
  rw [bsl_len, hn] at h
  simpa using h
set_option maxHeartbeats 4000000 in
set_option maxRecDepth 100000 in
theorem pi_hex (t : ByteArray) (hn : t.size = 6) (hx : allH (bsl t) = true) (w : World) :
    Calls Tryz.prog 226 #[.string t, .int .i64 16, .int .i64 64] w fun e w' => e = .returned (.tuple #[.int .i64 (hexNB (bsl t)), .nilIface]) ∧ w' = Lib.bytesWorld w 5 t := by
  have hemp : t.toList.isEmpty = false := by
    rw [← decide_eq_emptyBytes]
    exact decide_eq_false (fun h => by rw [h] at hn; simp at hn)
  have HP := Lib.hid (pu_hex t hn hx w)
  have hlt := hexNB_six hn hx
  have h1 : 0 < t.size := by omega
  obtain ⟨b, hb⟩ : ∃ b, t[0]'h1 = b := ⟨_, rfl⟩
  have HB := Lib.hid hb
  have hbm : b ∈ hexB := by
    have h2 : (bsl t)[0]? = some b := by
      rw [show bsl t = t.data.toList from rfl, Array.getElem?_toList, Array.getElem?_eq_getElem (show 0 < t.data.size from h1)]
      exact congrArg some hb
    simpa using List.all_eq_true.1 hx b (List.mem_of_getElem? h2)
  obtain ⟨_, b43, b45⟩ := hex_v b hbm
  have j1 : (((t[0]'h1).toNat : Int) == 43) = false := by rw [hb]; simp; omega
  have j2 : (((t[0]'h1).toNat : Int) == 45) = false := by rw [hb]; simp; omega
  have n1 : ((hexNB (bsl t) : Nat) : Int) < 9223372036854775808 := by omega
  have n0 : 0 ≤ ((hexNB (bsl t) : Nat) : Int) := by omega
  generalize ((hexNB (bsl t) : Nat) : Int) = a at *
  have i1 : (0 : Int) < (t.size : Int) := by omega
  generalize Lib.bytesWorld w 5 t = W1 at *
  clear HB hb hbm hx hlt hn b43 b45
  go_enter Tryz.func226, Tryz.ntmps226
  go_wp2_with fail
  refine HP.out.mono ?_
  rintro e w1 ⟨rfl, rfl⟩
  go_wp2
  go_ret2
  exact ⟨rfl, rfl⟩
set_option maxHeartbeats 4000000 in
set_option maxRecDepth 100000 in
theorem pint_hex (t : ByteArray) (hn : t.size = 6) (hx : allH (bsl t) = true) (w : World) :
    Calls Tryz.prog 223 #[.string t, .int .i64 16, .int .i64 64] w fun e w' => e = .returned (.tuple #[.int .i64 (hexNB (bsl t)), .nilIface]) ∧ w' = Lib.bytesWorld w 5 t := by
  have HP := Lib.hid (pi_hex t hn hx w)
  generalize ((hexNB (bsl t) : Nat) : Int) = a at *
  generalize Lib.bytesWorld w 5 t = W1 at *
  clear hx hn
  go_enter Tryz.func223, Tryz.ntmps223
  go_wp2_with fail
  refine HP.out.mono ?_
  rintro e w1 ⟨rfl, rfl⟩
  go_wp2
  go_ret2
  exact ⟨rfl, rfl⟩
end Go.Proofs.YtilhicefhhgecaaGreatDoor
