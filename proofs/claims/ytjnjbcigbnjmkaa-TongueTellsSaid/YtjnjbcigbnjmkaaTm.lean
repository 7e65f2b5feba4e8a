/- Walks: places as bytes; a step behind a number (the program's). -/
import Derived.Test.YtjnjbcigbnjmkaaTl
namespace Go.Proofs.Ytjnjbcigbnjmkaa
open Go.RowKit Pv

abbrev TU8 : TypeId := 5
theorem info_u8 : (Try.prog.info? 5).map (fun i => (i.zero, i.size, i.bytes)) = some (some (.int .u8 0), 1, 1) := by kernel_rfl

set_option maxHeartbeats 1000000 in
set_option maxRecDepth 100000 in
theorem tongue_written (A : Option Addr) (c n : Nat) (S : Nat → Prop) (w : World) (hn : n ≤ 1000) (h : At w A RB (lst n S)) :
    Calls Try.prog 115 #[.slice A (n + 1) c] w fun e w' => e = .returned (.string (strOfNums (bitN n S))) ∧ Below w.heap.size w w' := by
  have hm1 := fun W : World => run_make_row' (P := Try.prog) 208 5 (.int .u8 0) 1 Try.underlying208 info_u8 rfl .i64 .i64 (n + 1) (by omega) (by omega) W
  simp only [Int.natCast_add, Int.cast_ofNat_Int] at hm1
  have hW : Below w.heap.size w (w.alloc (.cells (madeCells #[.int .u8 0] (n + 1)) 5)) := (Below.refl _ _).alloc (Nat.le_refl _) _
  have R0 := Lib.hid ((World.rowIs_made w (.int .u8 0) (n + 1) 5).congr (g := fun i => .int .u8 (if i < 0 ∧ yes (S i) = true then 1 else 0)) (fun i _ => by simp))
  have HW := Lib.hid hW; have HA := Lib.hid h
  clear h hW
  go_enter Try.func115, Try.ntmps115
  go_wp2
  go_loopw [11] (fun iv wr => ∃ k : Nat, iv = .int .i64 k ∧ k ≤ n + 1 ∧ wr.rowIs w.heap.size 5 (n + 1) (fun i => .int .u8 (if i < k ∧ yes (S i) = true then 1 else 0)) ∧ Below w.heap.size w wr) (fun iv _ => n + 1 - (intOf iv).toNat)
  case atStart => exact ⟨0, rfl, by omega, R0.out, HW.out⟩
  case round =>
    obtain ⟨k, rfl, hk, hrow, hb⟩ := hrel
    have R1 := Lib.hid hrow; have B1 := Lib.hid hb
    clear hrow hb
    by_cases hlt : k ≤ n
    · obtain ⟨g, o, eM, hg, hc⟩ := (At.keep HA.out (Keep.of B1.out)).bit hlt
      subst eM
      have q1 : (k : Int) < (n : Int) + 1 := by omega
      by_cases hS : S k
      · rw [yes_t hS] at hc
        have c1 := R1.out.cell (i := k) (by omega)
        have f1 := R1.out.frozen k
        have RS := Lib.hid ((R1.out.set k (.int .u8 1)).congr (g := fun i => .int .u8 (if i < k + 1 ∧ yes (S i) = true then 1 else 0)) (fun i _ => by
          by_cases e : i = k
          · subst e; simp [yes_t hS]
          · simp only [if_neg e]
            by_cases e2 : i < k
            · simp [e2, show i < k + 1 by omega]
            · simp [e2, show ¬ i < k + 1 by omega]))
        have BS := Lib.hid (B1.out.setCell (p := ⟨w.heap.size, k, none⟩) (Nat.le_refl _) (.int .u8 1))
        clear hS
        go_wp2
        go_roundw
        case rel => exact ⟨k + 1, by go_num, by omega, RS.out, BS.out⟩
        case measure => simp [intOf]; omega
      · rw [yes_f hS] at hc
        have RS := Lib.hid (R1.out.congr (g := fun i => .int .u8 (if i < k + 1 ∧ yes (S i) = true then 1 else 0)) (fun i _ => by
          by_cases e : i = k
          · subst e; simp [yes_f hS]
          · by_cases e2 : i < k
            · simp [e2, show i < k + 1 by omega]
            · simp [e2, show ¬ i < k + 1 by omega]))
        clear hS
        go_wp2
        go_roundw
        case rel => exact ⟨k + 1, by go_num, by omega, RS.out, B1.out⟩
        case measure => simp [intOf]; omega
    · have hkn : k = n + 1 := by omega
      have hcv := run_convert_bytes_arg (P := Try.prog) (w := wr) 208 5 Try.underlying208 Try.underlying5 w.heap.size 0 (n + 1) (n + 1) (bitN n S) (bitN_len n S) (fun i hi => by
        rw [Nat.zero_add, R1.out.cell hi, bitN_getD (by omega)]
        simp [show i < k by omega]) 9 Try.underlying9
      clear hkn
      go_wp2
      go_ret
      exact ⟨rfl, B1.out⟩

set_option maxHeartbeats 2000000 in
set_option maxRecDepth 100000 in
theorem tongue_step (pm : Nat) (pA : Option Addr) (np cp : Nat) (pts : List Int) (B : Option Addr) (m cs : Nat) (l : List Rng) (A : Option Addr) (c : Nat) (S : Nat → Prop) (w : World) (hn : np ≤ 1000) (hpm : pm < w.heap.size)
    (m2 : w.cell? ⟨pm, 2, none⟩ = some (.slice pA np cp)) (hp : At w pA RI pts) (HP : Hid (pts.length = np)) (hl : AtSet w B l) (HL : Hid (l.length = m)) (h : At w A RB (lst np S)) :
    Calls Try.prog 114 #[.pointer (some ⟨pm, 0, none⟩), .slice B m cs, .slice A (np + 1) c] w fun e w' => ∃ b, e = .returned (.slice (some ⟨b, 0, none⟩) (np + 1) (np + 1)) ∧ w.heap.size ≤ b ∧ BRow w' 4 b np (fun j => ∃ i p, S i ∧ pts[i]? = some p ∧ InSet l p ∧ j = i + 1) ∧ Below w.heap.size w w' := by
  have hm1 := fun W : World => run_make_row' (P := Try.prog) 24 4 (.bool false) 1 Try.underlying24 info_bool rfl .i64 .i64 (np + 1) (by omega) (by omega) W
  simp only [Int.natCast_add, Int.cast_ofNat_Int] at hm1
  have hW : Below w.heap.size w (w.alloc (.cells (madeCells #[.bool false] (np + 1)) 4)) := (Below.refl _ _).alloc (Nat.le_refl _) _
  have R0 := Lib.hid ((BRow.made w 4 np).congr (S' := fun j => ∃ i p, i < 0 ∧ S i ∧ pts[i]? = some p ∧ InSet l p ∧ j = i + 1) (fun i _ => by simp))
  have m2' := ((Keep.of hW).cell _ 2 hpm).trans m2
  have HW := Lib.hid hW; have HA := Lib.hid h; have HPT := Lib.hid hp; have HS := Lib.hid hl
  clear h hW hp hl m2
  go_enter Try.func114, Try.ntmps114
  go_wp2
  go_loopw [18] (fun iv wr => ∃ k : Nat, iv = .int .i64 k ∧ k ≤ np ∧ BRow wr 4 w.heap.size np (fun j => ∃ i p, i < k ∧ S i ∧ pts[i]? = some p ∧ InSet l p ∧ j = i + 1) ∧ Below w.heap.size w wr) (fun iv _ => np - (intOf iv).toNat)
  case atStart => exact ⟨0, rfl, by omega, R0.out, HW.out⟩
  case round =>
    obtain ⟨k, rfl, hk, hrow, hb⟩ := hrel
    have R1 := Lib.hid hrow; have B1 := Lib.hid hb
    clear hrow hb m2'
    by_cases hlt : k < np
    · obtain ⟨g, o, eM, hg, hc⟩ := (At.keep HA.out (Keep.of B1.out)).bit (i := k) (by omega)
      subst eM
      obtain ⟨pb, po, u, z, rfl, hpl, hpc, ⟨rfl, hz1, hz2⟩, HZ⟩ := At.gt (HPT.out.keep (Keep.of B1.out)) HP hlt
      have q1 : (k : Int) < (np : Int) + 1 := by omega
      have q3 : (k : Int) + 1 < (np : Int) + 1 := by omega
      have HH := Lib.hid (ranges_Has B cs m l z wr (AtK.keep HS.out (Keep.of B1.out)) HL)
      have HST := Lib.hid (fun (W : World) (R : BRow W 4 w.heap.size np (fun j => ∃ i p, i < k ∧ S i ∧ pts[i]? = some p ∧ InSet l p ∧ j = i + 1)) (v : Bool) (hv : S k ∧ InSet l z ↔ v = true) => R.set (j := k + 1) (v := v) (S' := fun j => ∃ i p, i < k + 1 ∧ S i ∧ pts[i]? = some p ∧ InSet l p ∧ j = i + 1) (by
        rw [← hv]
        constructor
        · rintro ⟨i, p, h1, h2, h3, h4, h5⟩
          obtain rfl : i = k := by omega
          obtain rfl := Option.some.inj (h3.symm.trans HZ.out)
          exact ⟨h2, h4⟩
        · rintro ⟨h1, h2⟩; exact ⟨k, z, by omega, h1, HZ.out, h2, rfl⟩) (fun i _ hne => by
        constructor
        · rintro ⟨a, p, h1, h2⟩; exact ⟨a, p, by omega, h2⟩
        · rintro ⟨a, p, h1, h2, h3, h4, h5⟩; exact ⟨a, p, by omega, h2, h3, h4, h5⟩))
      by_cases hS : S k
      · rw [yes_t hS] at hc
        have HSK := Lib.hid hS
        clear hS
        go_wp2_with fail
        refine HH.out.mono ?_
        rintro e w2 ⟨rfl, hb2⟩
        have R2 := R1.out.next hb2
        have c1 := R2.cell (i := k + 1) (by omega)
        have f1 := R2.frozen (k + 1)
        have RS := Lib.hid (HST.out w2 R2 (yes (InSet l z)) ⟨fun h => yes_t h.2, fun h => ⟨HSK.out, of_yes h⟩⟩)
        have BS := Lib.hid ((B1.out.trans (hb2.mono B1.out.size)).setCell (p := ⟨w.heap.size, k + 1, none⟩) (Nat.le_refl _) (.bool (yes (InSet l z))))
        generalize yes (InSet l z) = v at *
        clear hb2 R2
        go_wp2
        go_roundw
        case rel => exact ⟨k + 1, by go_num, by omega, RS.out, BS.out⟩
        case measure => simp [intOf]; omega
      · rw [yes_f hS] at hc
        have c1 := R1.out.cell (i := k + 1) (by omega)
        have f1 := R1.out.frozen (k + 1)
        have RS := Lib.hid (HST.out wr R1.out false ⟨fun h => absurd h.1 hS, fun h => by cases h⟩)
        have BS := Lib.hid (B1.out.setCell (p := ⟨w.heap.size, k + 1, none⟩) (Nat.le_refl _) (.bool false))
        clear hS
        go_wp2
        go_roundw
        case rel => exact ⟨k + 1, by go_num, by omega, RS.out, BS.out⟩
        case measure => simp [intOf]; omega
    · have RS := Lib.hid (R1.out.congr (S' := fun j => ∃ i p, S i ∧ pts[i]? = some p ∧ InSet l p ∧ j = i + 1) (fun i _ => by
        constructor
        · rintro ⟨a, p, _, h2⟩; exact ⟨a, p, h2⟩
        · rintro ⟨a, p, h2, h3, h4⟩; exact ⟨a, p, by have := lt_of_get h3; rw [HP.out] at this; omega, h2, h3, h4⟩))
      go_wp2
      go_ret
      exact ⟨w.heap.size, rfl, Nat.le_refl _, RS.out, B1.out⟩

end Go.Proofs.Ytjnjbcigbnjmkaa
