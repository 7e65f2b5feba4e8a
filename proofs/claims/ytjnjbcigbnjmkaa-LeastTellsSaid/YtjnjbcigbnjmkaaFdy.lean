/- Walks: where sets turn (the document's). PUT1 -/
import Derived.Test.YtjnjbcigbnjmkaaFcy
namespace Pv
open Go Go.RowKit
theorem turn_nil {p : Int} : yes (TurnAt [] p) = false := yes_f fun ⟨_, h, _⟩ => by simp at h
theorem turn_snoc {S : List (List Rng)} {s : List Rng} {p : Int} : yes (TurnAt (S ++ [s]) p) = (yes (TurnAt S p) || (yes (InSet s p) != yes (InSet s (p - 1)))) := by
  by_cases h : TurnAt S p
  · rw [yes_t h, yes_t (p := TurnAt (S ++ [s]) p) ?_]; rfl
    obtain ⟨t, h1, h2⟩ := h; exact ⟨t, by simp [h1], h2⟩
  · rw [yes_f h, Bool.false_or]
    by_cases h2 : yes (InSet s p) = yes (InSet s (p - 1))
    · rw [h2, yes_f (p := TurnAt (S ++ [s]) p) ?_]; simp
      rintro ⟨t, h3, h4⟩
      rcases List.mem_append.1 h3 with h3 | h3
      · exact h ⟨t, h3, h4⟩
      · simp at h3; subst h3; exact h4 h2
    · rw [yes_t (p := TurnAt (S ++ [s]) p) ⟨s, by simp, h2⟩]; simpa using h2
/-- The first i places that turn. -/
noncomputable def turnsI (S : List (List Rng)) (i : Nat) : List Int := 0 :: ((plcL S).take i).tail.filter fun p => yes (TurnAt S p)
theorem turnsI_snoc {S : List (List Rng)} {i : Nat} {x : Int} (hi : 1 ≤ i) (h : (plcL S)[i]? = some x) : turnsI S (i + 1) = if yes (TurnAt S x) = true then turnsI S i ++ [x] else turnsI S i := by
  unfold turnsI
  have hne : (plcL S).take i ≠ [] := by
    intro e
    have h1 := congrArg List.length e
    have h2 := lt_of_get h
    rw [List.length_take, List.length_nil] at h1
    omega
  rw [take_snoc h, List.tail_append_of_ne_nil hne, List.filter_append]
  by_cases ht : yes (TurnAt S x) = true
  · rw [if_pos ht]; simp [ht]
  · rw [if_neg ht]; simp [ht]
theorem turnsI_one (S : List (List Rng)) : turnsI S 1 = [0] := by
  unfold turnsI
  cases plcL S <;> simp
theorem turnsI_len {S : List (List Rng)} {i : Nat} (hi : 1 ≤ i) : (turnsI S i).length ≤ i := by
  unfold turnsI
  have h := List.length_filter_le (fun p => yes (TurnAt S p)) ((plcL S).take i).tail
  simp at h ⊢
  omega
theorem plcL_in {S : List (List Rng)} (h : ∀ s ∈ S, SetOk s) {x : Int} (hx : x ∈ plcL S) : 0 ≤ x ∧ x ≤ 1114111 := by
  obtain ⟨h1, h2⟩ := plcL_mem.1 hx
  refine ⟨?_, h2⟩
  rcases h1 with rfl | ⟨s, hs, r, hr, hx⟩
  · omega
  · obtain ⟨i, hi⟩ := List.getElem?_of_mem hr
    have := (h s hs).one i r hi
    omega
theorem plc_len (s : List Rng) : ∀ l : List Int, (s.foldl plc1 l).length ≤ l.length + 2 * s.length := by
  induction s with
  | nil => intro l; simp
  | cons r s ih =>
    intro l
    have h1 := ih (plc1 l r)
    have h2 := withL_len (withL l r.lo) (r.hi + 1)
    have h3 := withL_len l r.lo
    simp only [List.foldl_cons, List.length_cons]
    unfold plc1 at h1 ⊢
    omega
theorem plcL_len {S : List (List Rng)} (h : ∀ s ∈ S, SetOk s) : (plcL S).length ≤ 1 + 512 * S.length := by
  have h2 : ∀ (T : List (List Rng)) (l : List Int), (∀ s ∈ T, s.length ≤ 256) → (T.foldl (fun l s => s.foldl plc1 l) l).length ≤ l.length + 512 * T.length := fun T => by
    induction T with
    | nil => intro l _; simp
    | cons s T ih =>
      intro l hs
      have h1 := ih (s.foldl plc1 l) (fun t ht => hs t (by simp [ht]))
      have h2 := plc_len s l
      have h3 := hs s (by simp)
      simp only [List.foldl_cons, List.length_cons]
      omega
  exact h2 S [0] fun s hs => (h s hs).few
end Pv
namespace Go.Proofs.Ytjnjbcigbnjmkaa
open Go.RowKit Pv

set_option maxHeartbeats 2000000 in
set_option maxRecDepth 100000 in
theorem ref06_Turns (A : Option Addr) (c n : Nat) (S : List (List Rng)) (w : World) (h : AtSets w A S) (HL : Hid (S.length = n)) (hn : n ≤ 256) (hs : ∀ s ∈ S, SetOk s) :
    Calls Try.prog 94 #[.slice A n c] w fun e w' => (∃ v, e = .returned v ∧ OwnI w' w.heap.size v (turnsL S)) ∧ Below w.heap.size w w' := by
  have HA := Lib.hid h; have HSL := Lib.hid hs
  obtain ⟨i0, hi0, hz0, hs0, hb0⟩ := info_parts info_int9
  have HPL := Lib.hid (ref06_places A c n S w h HL hn hs)
  clear h hs
  go_enter Try.func94, Try.ntmps94
  go_wp2_with (go_at_call 134; refine HPL.out.mono ?_; rintro e w1 ⟨⟨v1, rfl, A1, c1, rfl, ho1⟩, hb1⟩; obtain ⟨p, HP⟩ : ∃ p, Hid (p = (plcL S).length) := ⟨_, Lib.hid rfl⟩; rw [← HP.out] at ho1 ⊢; have HO1 := Lib.hid ho1; have HB1 := Lib.hid hb1; clear ho1 hb1)
  have hp : p ≤ 140000 := by have := plcL_len HSL.out; rw [← HP.out, HL.out] at this; omega
  have hp1 : 1 ≤ p := by obtain ⟨l, hl⟩ := plcL_head HSL.out; have := HP.out; rw [hl] at this; simp at this; omega
  have HPA : Hid (At w1 A1 RI (plcL S)) := Lib.hid (by
    have h0 : OwnI w1 w.heap.size (.slice A1 p c1) (plcL S) := ⟨A1, c1, by rw [← HP.out], by rw [← HP.out]; exact HO1.out⟩
    obtain ⟨A', c', e1, h2, _⟩ := h0.at' (fun x hx => by have := plcL_in HSL.out hx; omega) (by rw [← HP.out]; omega)
    injection e1 with e1 _ _
    rw [e1]; exact h2)
  have O0 := Lib.hid (own_lit w1 w1.heap.size (.int .i64 0) 3 (Nat.le_refl _))
  have B0 := Lib.hid (HB1.out.alloc HB1.out.size (.cells #[.int .i64 0] 3))
  have HK0 := Lib.hid ((Below.refl w1.heap.size w1).alloc (Nat.le_refl _) (.cells #[.int .i64 0] 3))
  go_loopw [5, 4] (fun iv lv wr => ∃ (i m : Nat) (B : Option Addr) (bc : Nat), iv = .int .i64 i ∧ 1 ≤ i ∧ i ≤ p ∧ lv = .slice B m bc ∧ m ≤ i ∧ Hid (m = (turnsI S i).length) ∧ Hid (wr.ownsRow w1.heap.size 3 1 (.slice B m bc) m ((turnsI S i).map (Value.int .i64))) ∧ Hid (Below w1.heap.size w1 wr) ∧ Hid (Below w.heap.size w wr)) (fun iv _ _ => p - (intOf iv).toNat)
  case atStart => exact ⟨1, 1, _, 1, rfl, by omega, by omega, rfl, by omega, Lib.hid (by rw [turnsI_one]; rfl), Lib.hid (by rw [turnsI_one]; exact O0.out), HK0, B0⟩
  case round =>
    obtain ⟨i, m, B, bc, rfl, hi1, hi, rfl, hm, HM, HO, HK, HB⟩ := hrel
    have i1 : (0 : Int) ≤ (i : Int) := by omega
    by_cases hlt : i < p
    · have i2 : (i : Int) < (p : Int) := by omega
      obtain ⟨b1, o1, u, x, rfl, hb1, c0, ⟨rfl, _, _⟩, HX⟩ := HPA.out.gt (Lib.hid HP.out.symm) hlt
      have HC1 := Lib.hid (show ∀ W, Keep w1 W → W.cell? ⟨b1, o1 + i, none⟩ = some (.int .i64 x) from fun W hb => (hb.cell _ _ hb1).trans c0)
      have hx := plcL_in HSL.out (mem_of_get HX.out)
      have HSN := Lib.hid (turnsI_snoc hi1 HX.out)
      have hwr : IntKind.i64.wrap (x - 1) = x - 1 := by rw [IntKind.wrap_i64]; omega
      have HWR := Lib.hid hwr
      clear c0 hb1 hwr
      go_wp2
      go_loopw [7, 6] (fun kv bv wr2 => ∃ (k : Nat), kv = .int .i64 k ∧ k ≤ n ∧ bv = .bool (yes (TurnAt (S.take k) x)) ∧ Hid (wr2.ownsRow w1.heap.size 3 1 (.slice B m bc) m ((turnsI S i).map (Value.int .i64))) ∧ Hid (Below w1.heap.size w1 wr2) ∧ Hid (Below w.heap.size w wr2)) (fun kv _ _ => n - (intOf kv).toNat)
      case atStart => exact ⟨0, rfl, by omega, by rw [List.take_zero, turn_nil], HO, HK, HB⟩
      case round =>
        clear HO HK HB
        obtain ⟨k, rfl, hk, rfl, HO, HK, HB⟩ := hrel
        have i3 : (0 : Int) ≤ (k : Int) := by omega
        by_cases hkn : k < n
        · have i4 : (k : Int) < (n : Int) := by omega
          obtain ⟨b2, o2, T, q, tc, s, rfl, hb2, c2, hset, HQ, hqc, HY⟩ := AtSets.gt (HA.out.keep (Keep.of HB.out)) HL hkn
          have c1' := HC1.out wr (Keep.of HK.out)
          have HH1 := Lib.hid (fun m : Nat => ref06_Has T tc q s x (wr.drewN m) (AtK.keep hset (Keep.drewN wr m)) HQ)
          have HH2 := Lib.hid (fun m : Nat => ref06_Has T tc q s (x - 1) (wr.drewN m) (AtK.keep hset (Keep.drewN wr m)) HQ)
          rw [← HWR.out] at HH2
          have HTS : Hid (yes (TurnAt (S.take (k + 1)) x) = (yes (TurnAt (S.take k) x) || (yes (InSet s x) != yes (InSet s (x - 1))))) := Lib.hid (by rw [take_snoc HY.out, turn_snoc])
          rw [← HWR.out] at HTS
          clear hset
          generalize hb : yes (TurnAt (S.take k) x) = b at *
          generalize ht1 : yes (InSet s x) = t1 at *
          generalize ht2 : yes (InSet s (IntKind.i64.wrap (x - 1))) = t2 at *
          have HBT := Lib.hid hb
          clear hb ht1 ht2
          cases b
          case true =>
            go_wp2
            go_quiet (fail)
            go_wp2
            go_roundw
            case rel => exact ⟨k + 1, by go_num, by omega, by rw [HTS.out]; rfl, Lib.hid (ownsRow_drewN HO.out _), Lib.hid (below_drewN HK.out _), Lib.hid (below_drewN HB.out _)⟩
            case measure => simp [intOf]; omega
          case false =>
            go_wp2
            go_quiet ((go_at_call 120; with_reducible (first | exact Calls.quiet_of_same (HH1.out _) | exact Calls.quiet_of_same (HH2.out _))))
            go_wp2
            go_roundw
            case rel => exact ⟨k + 1, by go_num, by omega, by rw [HTS.out]; cases t1 <;> cases t2 <;> rfl, Lib.hid (ownsRow_drewN HO.out _), Lib.hid (below_drewN HK.out _), Lib.hid (below_drewN HB.out _)⟩
            case measure => simp [intOf]; omega
        · obtain rfl : k = n := by omega
          have HTK := Lib.hid (show S.take k = S from List.take_of_length_le (by rw [HL.out]; omega))
          rw [HTK.out]
          have c1' := HC1.out wr (Keep.of HK.out)
          have Q1 : Hid (m + 1 ≤ maxLen) := Lib.hid (by simp only [maxLen]; omega)
          have Q2 : Hid ((m + 1) * 8 ≤ 140737488355328) := Lib.hid (by omega)
          generalize hb : yes (TurnAt S x) = b at *
          have HBT := Lib.hid hb
          clear hb
          cases b
          case true =>
            have O1 := Lib.hid (HO.out.alloc (.cells #[.int .i64 x] 3))
            have SR1 := Lib.hid (Src.one (w := wr) (x := .int .i64 x) (t := 3) rfl)
            have D1 := Lib.hid (HK.out.alloc HK.out.size (.cells #[.int .i64 x] 3))
            have B1 := Lib.hid (HB.out.alloc HB.out.size (.cells #[.int .i64 x] 3))
            have Z1 : Hid (w1.heap.size ≤ (wr.alloc (.cells #[.int .i64 x] 3)).heap.size) := Lib.hid D1.out.size
            go_wp2_with (first
              | (at_builtin
                 go_must (refine wpList_append_src _ rfl (.tmp 47) (.tmp 52) 22 rfl w1.heap.size 3 i0 (.int .i64 0) 1 8 Try.underlying22 hi0 hz0 hs0 hb0 rfl (by decide) B bc m _ rfl O1.out _ 1 1 _ rfl SR1.out Q1.out Q2.out Z1.out ?_)
                 intro A2 c2 w2 own2 gr2 _
                 have D2 := Lib.hid (D1.out.grown gr2 Z1.out (fun g hg => (O1.out.lt g hg).1))
                 have B2 := Lib.hid (B1.out.grown gr2 B1.out.size (fun g hg => Nat.le_trans HB1.out.size (O1.out.lt g hg).1))
                 have O2 := Lib.hid own2
                 clear own2 gr2))
            go_roundw
            case rel => exact ⟨i + 1, m + 1, A2, c2, by go_num, by omega, by omega, rfl, by omega, Lib.hid (by rw [HSN.out]; simp [← HM.out]), Lib.hid (by rw [HSN.out]; simpa using O2.out), D2, B2⟩
            case measure => simp [intOf]; omega
          case false =>
            go_wp2
            go_roundw
            case rel => exact ⟨i + 1, m, B, bc, by go_num, by omega, by omega, rfl, by omega, Lib.hid (by rw [HSN.out]; exact HM.out), Lib.hid (by rw [HSN.out]; exact HO.out), HK, HB⟩
            case measure => simp [intOf]; omega
    · obtain rfl : i = p := by omega
      have HTK : Hid (turnsI S i = turnsL S) := Lib.hid (by unfold turnsI turnsL; rw [List.take_of_length_le (by rw [← HP.out]; omega)])
      go_wp2
      go_ret
      have hm3 := HM.out
      subst hm3
      exact ⟨⟨_, rfl, by have := HO.out; rw [HTK.out] at this ⊢; exact OwnI.lower ⟨B, bc, rfl, this⟩ HB1.out.size⟩, HB.out⟩
end Go.Proofs.Ytjnjbcigbnjmkaa
