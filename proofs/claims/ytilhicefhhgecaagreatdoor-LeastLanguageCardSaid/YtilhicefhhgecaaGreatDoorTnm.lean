/- Walks: helpers of the program: lists compared, cloned, sought through; places as bytes; a step. -/
import Derived.Test.YtilhicefhhgecaaGreatDoorTjm
import Derived.Test.YtilhicefhhgecaaGreatDoorWhm
import Derived.Laws.BytesArg
namespace Pv
open Go Go.RowKit

/-- Places as numbers. -/
noncomputable def bitN (n : Nat) (S : Nat → Prop) : List Int := (List.range (n + 1)).map fun i => if yes (S i) = true then 1 else 0
theorem bitN_len (n : Nat) (S : Nat → Prop) : (bitN n S).length = n + 1 := by simp [bitN]
theorem bitN_getD {n i : Nat} {S : Nat → Prop} (h : i ≤ n) : (bitN n S).getD i 0 = if yes (S i) = true then 1 else 0 := by
  simp only [bitN, List.getD, List.getElem?_map, List.getElem?_range (show i < n + 1 by omega), Option.map_some, Option.getD_some]
theorem bits_inj {n : Nat} {S S' : Nat → Prop} (h : strOfNums (bitN n S) = strOfNums (bitN n S')) : lst n S = lst n S' := by
  refine lst_ext fun i hi => ?_
  have h1 : (strOfNums (bitN n S)).data.toList[i]? = (strOfNums (bitN n S')).data.toList[i]? := by rw [h]
  simp only [strOfNums_data, bitN, List.getElem?_map, List.getElem?_range (show i < n + 1 by omega), Option.map_some, Option.some.injEq] at h1
  by_cases a : S i <;> by_cases b : S' i
  · exact ⟨fun _ => b, fun _ => a⟩
  · rw [yes_t a, yes_f b] at h1; simp at h1
  · rw [yes_f a, yes_t b] at h1; simp at h1
  · exact ⟨fun h => absurd h a, fun h => absurd h b⟩
end Pv
namespace Go.Proofs.YtilhicefhhgecaaGreatDoor
open Go.RowKit Pv

set_option maxHeartbeats 400000 in
theorem equal_bool (A B : Option Addr) (c d n : Nat) (l r : List Bool) (w : World) (ha : At w A RB l) (hb : At w B RB r) (HL : Hid (l.length = n)) (HM : Hid (r.length = n)) :
    Calls Tryz.prog 180 #[.slice A n c, .slice B n d] w fun e w' => e = .returned (.bool (decide (l = r))) ∧ ∃ n, w' = w.drewN n := by
  have hl : n ≤ 140737488355328 := by have := ha.1; rwa [HL.out] at this
  have h1 : ((n : Int) != (n : Int)) = false := by simp
  go_enter Tryz.func180, Tryz.ntmps180
  go_wp2
  go_loopw [13] (fun i wr => ∃ k q : Nat, i = .int .i64 k ∧ wr = w.drewN q ∧ k ≤ n ∧ l.take k = r.take k) (fun i _ => n - (intOf i).toNat)
  case atStart => exact ⟨0, 0, rfl, rfl, by omega, by simp⟩
  case round =>
    obtain ⟨k, q, rfl, rfl, hk, heq⟩ := hrel
    have HE := Lib.hid heq; clear heq
    by_cases hlt : k < n
    · obtain ⟨b, off, u, x, rfl, hbs, hx, hu, HX⟩ := ha.gt HL hlt
      obtain ⟨b', off', u', y, rfl, hbs', hy, hu', HY⟩ := hb.gt HM hlt
      obtain rfl : u = .bool x := hu
      obtain rfl : u' = .bool y := hu'
      clear ha hb
      have HXY := Lib.hid (show x ≠ y → decide (l = r) = false from fun h => decide_eq_false fun hh => h (by subst hh; exact Option.some.inj (HX.out.symm.trans HY.out)))
      have HSE := Lib.hid (show x = y → l.take (k + 1) = r.take (k + 1) from fun h => by rw [take_snoc HX.out, take_snoc HY.out, HE.out, h])
      cases x <;> cases y
      case false.false =>
        have HS := Lib.hid (HSE.out rfl)
        go_wp2
        go_quiet (fail)
        go_wp2
        go_roundw
        case rel => exact ⟨k + 1, _, by go_num, rfl, by omega, HS.out⟩
        case measure => simp [intOf]; omega
      case true.true =>
        have HS := Lib.hid (HSE.out rfl)
        go_wp2
        go_quiet (fail)
        go_wp2
        go_roundw
        case rel => exact ⟨k + 1, _, by go_num, rfl, by omega, HS.out⟩
        case measure => simp [intOf]; omega
      case false.true =>
        have HN := Lib.hid (HXY.out (by simp))
        go_wp2
        go_quiet (fail)
        go_wp2
        go_ret
        exact ⟨ret_bool HN.out.symm, _, World.drewN_drewN _ _ _⟩
      case true.false =>
        have HN := Lib.hid (HXY.out (by simp))
        go_wp2
        go_quiet (fail)
        go_wp2
        go_ret
        exact ⟨ret_bool HN.out.symm, _, World.drewN_drewN _ _ _⟩
    · have : k = n := by omega
      subst this
      have HY := Lib.hid (show true = decide (l = r) from (decide_eq_true (by have := HE.out; rwa [List.take_of_length_le (by rw [HL.out]; omega), List.take_of_length_le (by rw [HM.out]; omega)] at this)).symm)
      go_wp2
      go_ret
      exact ⟨ret_bool HY.out, q, rfl⟩

set_option maxHeartbeats 1000000 in
set_option maxRecDepth 100000 in
theorem clone_bool (g o c n : Nat) (S : Nat → Prop) (w : World) (hn : n ≤ 1000) (h : At w (some ⟨g, o, none⟩) RB (lst n S)) :
    Calls Tryz.prog 181 #[.slice (some ⟨g, o, none⟩) (n + 1) c] w fun e w' => ∃ b c', e = .returned (.slice (some ⟨b, 0, none⟩) (n + 1) c') ∧ w.heap.size ≤ b ∧ BRow w' 4 b n S ∧ Below w.heap.size w w' := by
  have hnil := fun (W : World) (a : Option Addr) (n c : Nat) => Lib.run_eql_slice_nil (P := Tryz.prog) W 24 4 a n c 0 0 Tryz.underlying24
  obtain ⟨i0, hi0, hz0, hs0, hb0⟩ := info_parts info_bool
  obtain ⟨us, hr, src⟩ := h.src (fun u x (hux : RB u x) => by rw [show u = .bool x from hux]; rfl)
  rw [lst_len] at src
  have hba : Below w.heap.size w (w.alloc (.cells #[] 4)) := (Below.refl _ _).alloc (Nat.le_refl _) _
  have S1 := Lib.hid (src.keep (Keep.of hba)); have R1 := Lib.hid hr
  have OW : Hid ((w.alloc (.cells #[] 4)).ownsRow w.heap.size 4 1 (.slice (some ⟨w.heap.size, 0, none⟩) 0 0) 0 []) := Lib.hid ⟨by simp, .inr ⟨w.heap.size, 0, #[], rfl, Nat.le_refl _, by show (w.heap.push _)[w.heap.size]? = _; simp, Nat.le_refl _, by simp only [maxLen]; omega, by simp, by simp⟩⟩
  have HB := Lib.hid hba
  have Q1 : Hid (0 + (n + 1) ≤ maxLen) := Lib.hid (by simp only [maxLen]; omega)
  have Q2 : Hid ((0 + (n + 1)) * 1 ≤ 140737488355328) := Lib.hid (by omega)
  clear src hr h hba
  go_enter Tryz.func181, Tryz.ntmps181
  go_wp2_with (at_builtin
               go_must (refine wpList_append_src _ rfl (.tmp 5) (.tmp 6) 24 rfl w.heap.size 4 i0 (.bool false) 1 1 Tryz.underlying24 hi0 hz0 hs0 hb0 rfl (by decide) (some ⟨w.heap.size, 0, none⟩) 0 0 [] rfl OW.out (some ⟨g, o, none⟩) (n + 1) c us rfl S1.out Q1.out Q2.out HB.out.size ?_)
               intro A1 c1 w1 own1 gr1 _
               simp only [List.nil_append, Nat.zero_add] at own1
               have G1 := Lib.hid (HB.out.grown gr1 HB.out.size (fun g hg => (OW.out.lt g hg).1)); have O1 := Lib.hid own1
               clear own1 gr1)
  go_ret
  rcases O1.out.2 with ⟨hv, h0⟩ | ⟨q, cap, cur, hv, hq, hh, hnc, hcm, hcs, htk⟩
  · omega
  · injection hv with e1 e2 e3
    subst e1
    refine ⟨q, c1, by simp, hq, ⟨cur, hh, by omega, fun i hi => ?_⟩, G1.out⟩
    have hu : us[i]? = some (us[i]'(by have := R1.out.1; rw [lst_len] at this; omega)) := List.getElem?_eq_getElem _
    have hR := R1.out.2 i _ _ hu (lst_get hi)
    have h2 : (cur.toList.take ((n + 1) * 1))[i]? = us[i]? := by rw [htk]
    rw [List.getElem?_take, if_pos (by omega), hu] at h2
    rw [← Array.getElem?_toList, h2]
    exact congrArg some hR

end Go.Proofs.YtilhicefhhgecaaGreatDoor

namespace Go.Proofs.YtilhicefhhgecaaGreatDoor
open Go.RowKit Pv

theorem info_u8 : (Tryz.prog.info? 5).map (fun i => (i.zero, i.size, i.bytes)) = some (some (.int .u8 0), 1, 1) := by kernel_rfl

set_option maxHeartbeats 1000000 in
set_option maxRecDepth 100000 in
theorem tongue_written (A : Option Addr) (c n : Nat) (S : Nat → Prop) (w : World) (hn : n ≤ 1000) (h : At w A RB (lst n S)) :
    Calls Tryz.prog 144 #[.slice A (n + 1) c] w fun e w' => e = .returned (.string (strOfNums (bitN n S))) ∧ Below w.heap.size w w' := by
  have hm1 := fun W : World => run_make_row' (P := Tryz.prog) 162 5 (.int .u8 0) 1 Tryz.underlying162 info_u8 rfl .i64 .i64 (n + 1) (by omega) (by omega) W
  simp only [Int.natCast_add, Int.cast_ofNat_Int] at hm1
  have hW : Below w.heap.size w (w.alloc (.cells (madeCells #[.int .u8 0] (n + 1)) 5)) := (Below.refl _ _).alloc (Nat.le_refl _) _
  have R0 := Lib.hid ((World.rowIs_made w (.int .u8 0) (n + 1) 5).congr (g := fun i => .int .u8 (if i < 0 ∧ yes (S i) = true then 1 else 0)) (fun i _ => by simp))
  have HW := Lib.hid hW; have HA := Lib.hid h
  clear h hW
  go_enter Tryz.func144, Tryz.ntmps144
  go_wp2
  go_loopw [11] (fun iv wr => ∃ k : Nat, iv = .int .i64 k ∧ k ≤ n + 1 ∧ wr.rowIs w.heap.size 5 (n + 1) (fun i => .int .u8 (if i < k ∧ yes (S i) = true then 1 else 0)) ∧ Below w.heap.size w wr) (fun iv _ => n + 1 - (intOf iv).toNat)
  case atStart => exact ⟨0, rfl, by omega, R0.out, HW.out⟩
  case round =>
    obtain ⟨k, rfl, hk, hrow, hb⟩ := hrel
    have R1 := Lib.hid hrow; have B1 := Lib.hid hb
    clear hrow hb
    by_cases hlt : k ≤ n
    · obtain ⟨g, o, eM, hg, hc⟩ := (At.keep HA.out (Keep.of B1.out)).bit hlt
      subst eM
      have q1 : (k : Int) < (n : Int) + 1 := by omega
      by_cases hS : S k
      · rw [yes_t hS] at hc
        have c1 := R1.out.cell (i := k) (by omega)
        have f1 := R1.out.frozen k
        have RS := Lib.hid ((R1.out.set k (.int .u8 1)).congr (g := fun i => .int .u8 (if i < k + 1 ∧ yes (S i) = true then 1 else 0)) (fun i _ => by
          by_cases e : i = k
          · subst e; simp [yes_t hS]
          · simp only [if_neg e]
            by_cases e2 : i < k
            · simp [e2, show i < k + 1 by omega]
            · simp [e2, show ¬ i < k + 1 by omega]))
        have BS := Lib.hid (B1.out.setCell (p := ⟨w.heap.size, k, none⟩) (Nat.le_refl _) (.int .u8 1))
        clear hS
        go_wp2
        go_roundw
        case rel => exact ⟨k + 1, by go_num, by omega, RS.out, BS.out⟩
        case measure => simp [intOf]; omega
      · rw [yes_f hS] at hc
        have RS := Lib.hid (R1.out.congr (g := fun i => .int .u8 (if i < k + 1 ∧ yes (S i) = true then 1 else 0)) (fun i _ => by
          by_cases e : i = k
          · subst e; simp [yes_f hS]
          · by_cases e2 : i < k
            · simp [e2, show i < k + 1 by omega]
            · simp [e2, show ¬ i < k + 1 by omega]))
        clear hS
        go_wp2
        go_roundw
        case rel => exact ⟨k + 1, by go_num, by omega, RS.out, B1.out⟩
        case measure => simp [intOf]; omega
    · have hkn : k = n + 1 := by omega
      have hcv := run_convert_bytes_arg (P := Tryz.prog) (w := wr) 162 5 Tryz.underlying162 Tryz.underlying5 w.heap.size 0 (n + 1) (n + 1) (bitN n S) (bitN_len n S) (fun i hi => by
        rw [Nat.zero_add, R1.out.cell hi, bitN_getD (by omega)]
        simp [show i < k by omega]) 9 Tryz.underlying9
      clear hkn
      go_wp2
      go_ret
      exact ⟨rfl, B1.out⟩

set_option maxHeartbeats 2000000 in
set_option maxRecDepth 100000 in
theorem tongue_step (pm : Nat) (pA : Option Addr) (np cp : Nat) (pts : List Int) (B : Option Addr) (m cs : Nat) (l : List Rng) (A : Option Addr) (c : Nat) (S : Nat → Prop) (w : World) (hn : np ≤ 1000) (hpm : pm < w.heap.size)
    (m2 : w.cell? ⟨pm, 2, none⟩ = some (.slice pA np cp)) (hp : At w pA RI pts) (HP : Hid (pts.length = np)) (hl : AtSet w B l) (HL : Hid (l.length = m)) (h : At w A RB (lst np S)) :
    Calls Tryz.prog 143 #[.pointer (some ⟨pm, 0, none⟩), .slice B m cs, .slice A (np + 1) c] w fun e w' => ∃ b, e = .returned (.slice (some ⟨b, 0, none⟩) (np + 1) (np + 1)) ∧ w.heap.size ≤ b ∧ BRow w' 4 b np (fun j => ∃ i p, S i ∧ pts[i]? = some p ∧ InSet l p ∧ j = i + 1) ∧ Below w.heap.size w w' := by
  have hm1 := fun W : World => run_make_row' (P := Tryz.prog) 24 4 (.bool false) 1 Tryz.underlying24 info_bool rfl .i64 .i64 (np + 1) (by omega) (by omega) W
  simp only [Int.natCast_add, Int.cast_ofNat_Int] at hm1
  have hW : Below w.heap.size w (w.alloc (.cells (madeCells #[.bool false] (np + 1)) 4)) := (Below.refl _ _).alloc (Nat.le_refl _) _
  have R0 := Lib.hid ((BRow.made w 4 np).congr (S' := fun j => ∃ i p, i < 0 ∧ S i ∧ pts[i]? = some p ∧ InSet l p ∧ j = i + 1) (fun i _ => by simp))
  have m2' := ((Keep.of hW).cell _ 2 hpm).trans m2
  have HW := Lib.hid hW; have HA := Lib.hid h; have HPT := Lib.hid hp; have HS := Lib.hid hl
  clear h hW hp hl m2
  go_enter Tryz.func143, Tryz.ntmps143
  go_wp2
  go_loopw [18] (fun iv wr => ∃ k : Nat, iv = .int .i64 k ∧ k ≤ np ∧ BRow wr 4 w.heap.size np (fun j => ∃ i p, i < k ∧ S i ∧ pts[i]? = some p ∧ InSet l p ∧ j = i + 1) ∧ Below w.heap.size w wr) (fun iv _ => np - (intOf iv).toNat)
  case atStart => exact ⟨0, rfl, by omega, R0.out, HW.out⟩
  case round =>
    obtain ⟨k, rfl, hk, hrow, hb⟩ := hrel
    have R1 := Lib.hid hrow; have B1 := Lib.hid hb
    clear hrow hb m2'
    by_cases hlt : k < np
    · obtain ⟨g, o, eM, hg, hc⟩ := (At.keep HA.out (Keep.of B1.out)).bit (i := k) (by omega)
      subst eM
      obtain ⟨pb, po, u, z, rfl, hpl, hpc, ⟨rfl, hz1, hz2⟩, HZ⟩ := At.gt (HPT.out.keep (Keep.of B1.out)) HP hlt
      have q1 : (k : Int) < (np : Int) + 1 := by omega
      have q3 : (k : Int) + 1 < (np : Int) + 1 := by omega
      have HH := Lib.hid (ranges_Has B cs m l z wr (AtK.keep HS.out (Keep.of B1.out)) HL)
      have HST := Lib.hid (fun (W : World) (R : BRow W 4 w.heap.size np (fun j => ∃ i p, i < k ∧ S i ∧ pts[i]? = some p ∧ InSet l p ∧ j = i + 1)) (v : Bool) (hv : S k ∧ InSet l z ↔ v = true) => R.set (j := k + 1) (v := v) (S' := fun j => ∃ i p, i < k + 1 ∧ S i ∧ pts[i]? = some p ∧ InSet l p ∧ j = i + 1) (by
        rw [← hv]
        constructor
        · rintro ⟨i, p, h1, h2, h3, h4, h5⟩
          obtain rfl : i = k := by omega
          obtain rfl := Option.some.inj (h3.symm.trans HZ.out)
          exact ⟨h2, h4⟩
        · rintro ⟨h1, h2⟩; exact ⟨k, z, by omega, h1, HZ.out, h2, rfl⟩) (fun i _ hne => by
        constructor
        · rintro ⟨a, p, h1, h2⟩; exact ⟨a, p, by omega, h2⟩
        · rintro ⟨a, p, h1, h2, h3, h4, h5⟩; exact ⟨a, p, by omega, h2, h3, h4, h5⟩))
      by_cases hS : S k
      · rw [yes_t hS] at hc
        have HSK := Lib.hid hS
        clear hS
        go_wp2_with fail
        refine HH.out.mono ?_
        rintro e w2 ⟨rfl, hb2⟩
        have R2 := R1.out.next hb2
        have c1 := R2.cell (i := k + 1) (by omega)
        have f1 := R2.frozen (k + 1)
        have RS := Lib.hid (HST.out w2 R2 (yes (InSet l z)) ⟨fun h => yes_t h.2, fun h => ⟨HSK.out, of_yes h⟩⟩)
        have BS := Lib.hid ((B1.out.trans (hb2.mono B1.out.size)).setCell (p := ⟨w.heap.size, k + 1, none⟩) (Nat.le_refl _) (.bool (yes (InSet l z))))
        generalize yes (InSet l z) = v at *
        clear hb2 R2
        go_wp2
        go_roundw
        case rel => exact ⟨k + 1, by go_num, by omega, RS.out, BS.out⟩
        case measure => simp [intOf]; omega
      · rw [yes_f hS] at hc
        have c1 := R1.out.cell (i := k + 1) (by omega)
        have f1 := R1.out.frozen (k + 1)
        have RS := Lib.hid (HST.out wr R1.out false ⟨fun h => absurd h.1 hS, fun h => by cases h⟩)
        have BS := Lib.hid (B1.out.setCell (p := ⟨w.heap.size, k + 1, none⟩) (Nat.le_refl _) (.bool false))
        clear hS
        go_wp2
        go_roundw
        case rel => exact ⟨k + 1, by go_num, by omega, RS.out, BS.out⟩
        case measure => simp [intOf]; omega
    · have RS := Lib.hid (R1.out.congr (S' := fun j => ∃ i p, S i ∧ pts[i]? = some p ∧ InSet l p ∧ j = i + 1) (fun i _ => by
        constructor
        · rintro ⟨a, p, _, h2⟩; exact ⟨a, p, h2⟩
        · rintro ⟨a, p, h2, h3, h4⟩; exact ⟨a, p, by have := lt_of_get h3; rw [HP.out] at this; omega, h2, h3, h4⟩))
      go_wp2
      go_ret
      exact ⟨w.heap.size, rfl, Nat.le_refl _, RS.out, B1.out⟩

end Go.Proofs.YtilhicefhhgecaaGreatDoor

namespace Go.Proofs.YtilhicefhhgecaaGreatDoor
open Go.RowKit Pv

abbrev TWk : TypeId := 215
abbrev TI : TypeId := 3
/-- The walker, its ends under way. -/
structure WB (w wr : World) (pm mb : Nat) (tA : Option Addr) (nt ct : Nat) (EA : Option Addr) (k ec : Nat) (pA : Option Addr) (np cp : Nat) (l : List Int) : Prop where
  be : Below w.heap.size w wr
  b : Blk wr pm TWk #[.slice tA nt ct, .slice EA k ec, .slice pA np cp, .map (some mb)]
  m : wr.heap[mb]? = some (.map #[] 0)
  oe : wr.ownsRow (pm + 1) TI 1 (.slice EA k ec) k (l.map (Value.int .i64))
section
variable {w wr w' : World} {pm mb nt ct k ec np cp : Nat} {tA EA pA : Option Addr} {l : List Int}
theorem obj_lt {w : World} {b : Nat} {o : Obj} (h : w.heap[b]? = some o) : b < w.heap.size := by
  rcases Nat.lt_or_ge b w.heap.size with hlt | hge
  · exact hlt
  · rw [Array.getElem?_eq_none hge] at h; cases h
theorem WB.next (h : WB w wr pm mb tA nt ct EA k ec pA np cp l) (hb : Below wr.heap.size wr w') : WB w w' pm mb tA nt ct EA k ec pA np cp l :=
  ⟨h.be.trans (hb.mono h.be.size), h.b.below hb h.b.lt, (hb.block mb (obj_lt h.m)).trans h.m, ownsRow_below h.oe hb⟩
theorem WB.push {EA' : Option Addr} {ec' : Nat} {z : Int} (h : WB w wr pm mb tA nt ct EA k ec pA np cp l) (hp : w.heap.size ≤ pm) (hmp : mb < pm) (g : wr.grownBy w' (Value.slice EA k ec).ownBlock) (own : w'.ownsRow (pm + 1) TI 1 (.slice EA' (k + 1) ec') (k + 1) (l.map (Value.int .i64) ++ [.int .i64 z])) :
    WB w (w'.setCell ⟨pm, 1, none⟩ (.slice EA' (k + 1) ec')) pm mb tA nt ct EA' (k + 1) ec' pA np cp (l ++ [z]) := by
  have hb := h.b.grown g (own_blk_ne h.oe h.b (by decide))
  refine ⟨(h.be.grown g h.be.size (fun q hq => by have := (h.oe.lt q hq).1; omega)).setCell hp _, hb.set 1 _, ?_, ownsRow_setFar (by simpa using own) hb (by decide) 1 _⟩
  have h1 := (g.block mb (obj_lt h.m) (fun e => by have := (h.oe.lt mb e.symm).1; omega)).trans h.m
  exact (Below.heap_setCell w' ⟨pm, 1, none⟩ _ mb (by simp only; omega)).trans h1
end

set_option maxHeartbeats 2000000 in
set_option maxRecDepth 100000 in
theorem tongue_begun (tA : Option Addr) (nt ct : Nat) (t : List Rx) (pA : Option Addr) (np cp : Nat) (w : World) (ht : AtRx w tA t) (HT : Hid (t.length = nt)) (hnp : np ≤ 1000 ∨ (1024 < np ∧ np ≤ 100000)) :
    Calls Tryz.prog 101 #[.slice tA nt ct, .slice pA np cp] w fun e w' => (e = .returned (.tuple #[.pointer none, .int .i64 (askE t np)]) ∧ (¬ Pat t ∨ 1024 < np) ∧ Below w.heap.size w w') ∨
      (Pat t ∧ np ≤ 1000 ∧ ∃ pm mb EA ec, e = .returned (.tuple #[.pointer (some ⟨pm, 0, none⟩), .int .i64 0]) ∧ w.heap.size ≤ mb ∧ mb < pm ∧ WB w w' pm mb tA nt ct EA nt ec pA np cp (endsL t)) := by
  obtain ⟨i0, hi0, hz0, hs0, hb0⟩ := info_parts info_int
  have HC := Lib.hid (pattern_Check tA ct nt t w ht HT)
  by_cases hpt : Pat t
  case neg =>
    rw [patE_no hpt] at HC
    have HA := Lib.hid (show (8 : Int) = askE t np by rw [askE, patB_no hpt]; rfl)
    have HN := Lib.hid hpt
    clear ht hpt
    go_enter Tryz.func101, Tryz.ntmps101
    go_wp2_with fail
    refine HC.out.mono ?_
    rintro e w1 ⟨rfl, hb1⟩
    have B1 := Lib.hid hb1
    clear hb1
    go_wp2
    go_ret2
    exact .inl ⟨by rw [← HA.out]; rfl, .inl HN.out, B1.out⟩
  rw [patE_yes hpt] at HC
  by_cases hn : 1024 < np
  · have HA := Lib.hid (show (4 : Int) = askE t np by rw [askE, patB_yes hpt, if_pos rfl, if_pos hn])
    clear ht hpt
    go_enter Tryz.func101, Tryz.ntmps101
    go_wp2_with fail
    refine HC.out.mono ?_
    rintro e w1 ⟨rfl, hb1⟩
    have B1 := Lib.hid hb1
    clear hb1
    go_wp2
    go_ret2
    exact .inl ⟨by rw [← HA.out]; rfl, .inr hn, B1.out⟩
  have hn1 : np ≤ 1000 := by omega
  have hnt : nt ≤ 64 := by have := hpt.2.1; rwa [HT.out] at this
  have hmm := @run_makeMap Tryz.prog
  have HPE := Lib.hid (fun (W : World) (kp : Keep w W) (i : Nat) (hi : i < nt) => pattern_End_yes tA ct nt i t W (AtRx.keep ht kp) HT (Lib.hid hpt) hi)
  have HGET := Lib.hid (fun i (hi : i < nt) => (show (endsL t)[i]? = some (bR (behind t 16 i)) by simp [endsL, HT.out, hi]))
  have HLE : Hid ((endsL t).length = nt) := Lib.hid (by simp [endsL, HT.out])
  have HPT := Lib.hid hpt
  clear ht hpt
  go_enter Tryz.func101, Tryz.ntmps101
  go_wp2_with fail
  refine HC.out.mono ?_
  rintro e w1 ⟨rfl, hb1⟩
  have hM1 : Below w1.heap.size w1 (w1.alloc (.map #[] 0)) := (Below.refl _ _).alloc (Nat.le_refl _) _
  have hM2 : Below w1.heap.size w1 ((w1.alloc (.map #[] 0)).alloc (.cells #[.slice tA nt ct, .slice none 0 0, .slice pA np cp, .map (some w1.heap.size)] TWk)) := hM1.alloc hM1.size _
  have P0 : Hid (WB w ((w1.alloc (.map #[] 0)).alloc (.cells #[.slice tA nt ct, .slice none 0 0, .slice pA np cp, .map (some w1.heap.size)] TWk)) (w1.heap.size + 1) w1.heap.size tA nt ct none 0 0 pA np cp []) := Lib.hid ⟨hb1.trans (hM2.mono hb1.size), by
    have := Blk.new (w1.alloc (.map #[] 0)) TWk #[.slice tA nt ct, .slice none 0 0, .slice pA np cp, .map (some w1.heap.size)]
    rwa [show (w1.alloc (.map #[] 0)).heap.size = w1.heap.size + 1 by simp] at this, (Below.heap_alloc _ _ w1.heap.size (by simp)).trans (by show (w1.heap.push _)[w1.heap.size]? = _; simp), World.ownsRow_nil _ _ _ _⟩
  have hp1 : w.heap.size ≤ w1.heap.size := hb1.size
  clear hb1 hM1 hM2
  go_wp2
  go_loopw [27] (fun iv wr => ∃ (k : Nat) (EA : Option Addr) (ec : Nat), iv = .int .i64 k ∧ k ≤ nt ∧ WB w wr (w1.heap.size + 1) w1.heap.size tA nt ct EA k ec pA np cp ((endsL t).take k)) (fun iv _ => nt - (intOf iv).toNat)
  case atStart => exact ⟨0, none, 0, rfl, by omega, by simpa using P0.out⟩
  case round =>
    obtain ⟨k, EA, ec, rfl, hk, hpe⟩ := hrel
    have PP := Lib.hid hpe
    clear hpe
    by_cases hlt : k < nt
    · have HE1 := Lib.hid (HPE.out wr (Keep.of PP.out.be) k hlt)
      have HTK := Lib.hid (take_snoc (HGET.out k hlt))
      go_wp2_with fail
      refine HE1.out.mono ?_
      rintro e w2 ⟨rfl, hb2⟩
      have P2 := PP.out.next hb2
      have hal : Below w2.heap.size w2 (w2.alloc (.cells #[.int .i64 (bR (behind t 16 k))] TI)) := (Below.refl _ _).alloc (Nat.le_refl _) _
      have PB := Lib.hid (P2.next hal)
      generalize bR (behind t 16 k) = z at *
      have SRC := Lib.hid (Pv.Src.one (w := w2) (x := .int .i64 z) (t := TI) rfl)
      have Q1 : Hid (k + 1 ≤ maxLen) := Lib.hid (by simp only [maxLen]; omega)
      have Q2 : Hid ((k + 1) * 8 ≤ 140737488355328) := Lib.hid (by omega)
      have Q3 : Hid (w1.heap.size + 1 + 1 ≤ (w2.alloc (.cells #[.int .i64 z] TI)).heap.size) := Lib.hid (by have := P2.b.lt; simp; omega)
      have m3 := PB.out.b.cell 1
      have m30 := P2.b.cell 1
      clear hb2 hal P2 PP
      go_wp2_with (at_builtin
                   go_must (refine wpList_append_src _ rfl (.tmp 41) (.tmp 43) 22 rfl (w1.heap.size + 1 + 1) TI i0 (.int .i64 0) 1 8 Tryz.underlying22 hi0 hz0 hs0 hb0 rfl (by decide) EA ec k _ rfl PB.out.oe _ 1 1 _ rfl SRC.out Q1.out Q2.out Q3.out ?_)
                   intro A8 c8 w8 own8 gr8 _
                   have P8 := Lib.hid (PB.out.push (by omega) (by omega) gr8 own8)
                   have b8 := PB.out.b.grown gr8 (own_blk_ne PB.out.oe PB.out.b (by decide))
                   have f8 := b8.frozen 1
                   have c8' := b8.cell 1
                   clear gr8 own8 b8 m3 m30)
      go_roundw
      case rel => exact ⟨k + 1, A8, c8, by go_num, by omega, by rw [HTK.out]; exact P8.out⟩
      case measure => simp [intOf]; omega
    have hkn : k = nt := by omega
    subst hkn
    rw [List.take_of_length_le (by rw [HLE.out]; exact Nat.le_refl _)] at PP
    go_wp2
    go_ret2
    exact .inr ⟨HPT.out, hn1, w1.heap.size + 1, w1.heap.size, EA, ec, rfl, hp1, by omega, PP.out⟩

end Go.Proofs.YtilhicefhhgecaaGreatDoor
