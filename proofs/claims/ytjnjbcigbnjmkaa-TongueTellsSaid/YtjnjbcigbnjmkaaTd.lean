/- Walks: tables of places (the document's): one and then another one; either. PUT1 -/
import Derived.Test.YtjnjbcigbnjmkaaTc
namespace Go.Proofs.Ytjnjbcigbnjmkaa
open Go.RowKit Pv

/-- By one and then another one. -/
def Th (A B : Nat → Nat → Prop) (i j : Nat) : Prop := ∃ k, i ≤ k ∧ k ≤ j ∧ A i k ∧ B k j

set_option maxHeartbeats 2000000 in
set_option maxRecDepth 100000 in
theorem ref08_then (ga gb n : Nat) (A B : Nat → Nat → Prop) (hn : n ≤ 1000) (w : World) (ha : Tab w ga n A) (hb : Tab w gb n B) :
    Calls Try.prog 123 #[.slice (some ⟨ga, 0, none⟩) (n + 1) (n + 1), .slice (some ⟨gb, 0, none⟩) (n + 1) (n + 1)] w (TabPost w n (Th A B)) := by
  have HN := Lib.hid (ref08_none n hn w)
  have TA := Lib.hid ha; have TB' := Lib.hid hb
  clear ha hb
  go_enter Try.func123, Try.ntmps123
  go_wp2_with fail
  refine HN.out.mono ?_
  rintro e w1 ⟨g, rfl, hg, tb, hb⟩
  have T0 := Lib.hid (tb.congr (R' := fun i j => i < 0 ∧ Th A B i j) (fun i j _ _ => by simp))
  have B0 := Lib.hid hb
  clear tb hb
  go_wp2
  go_loopw [7] (fun iv wr => ∃ i : Nat, iv = .int .i64 i ∧ i ≤ n + 1 ∧ Tab wr g n (fun a b => a < i ∧ Th A B a b) ∧ Below w.heap.size w wr) (fun iv _ => n + 1 - (intOf iv).toNat)
  case atStart => exact ⟨0, rfl, by omega, T0.out, B0.out⟩
  case round =>
    obtain ⟨i, rfl, hi, htb, hb⟩ := hrel
    have T1 := Lib.hid htb; have B1 := Lib.hid hb
    clear htb hb
    by_cases hlt : i ≤ n
    · have T2 := Lib.hid (T1.out.congr (R' := fun a b => (a < i ∧ Th A B a b) ∨ (a = i ∧ ∃ m, i ≤ m ∧ m < i ∧ m ≤ b ∧ A i m ∧ B m b)) (fun a b _ _ => by
        constructor
        · exact fun h => .inl h
        · rintro (h | ⟨_, m, h1, h2, _⟩)
          · exact h
          · omega))
      go_wp2
      go_loopw [8] (fun kv wr => ∃ k : Nat, kv = .int .i64 k ∧ i ≤ k ∧ k ≤ n + 1 ∧ Tab wr g n (fun a b => (a < i ∧ Th A B a b) ∨ (a = i ∧ ∃ m, i ≤ m ∧ m < k ∧ m ≤ b ∧ A i m ∧ B m b)) ∧ Below w.heap.size w wr) (fun kv _ => n + 1 - (intOf kv).toNat)
      case atStart => exact ⟨i, rfl, Nat.le_refl _, by omega, T2.out, B1.out⟩
      case round =>
        obtain ⟨k, rfl, hik, hk, htb, hb⟩ := hrel
        have T3 := Lib.hid htb; have B3 := Lib.hid hb
        clear htb hb
        by_cases hkt : k ≤ n
        · have T4 := Lib.hid (T3.out.congr (R' := fun a b => ((a < i ∧ Th A B a b) ∨ (a = i ∧ ∃ m, i ≤ m ∧ m < k ∧ m ≤ b ∧ A i m ∧ B m b)) ∨ (a = i ∧ k ≤ b ∧ b < k ∧ A i k ∧ B k b)) (fun a b _ _ => by
            constructor
            · exact fun h => .inl h
            · rintro (h | ⟨_, h1, h2, _⟩)
              · exact h
              · omega))
          go_wp2
          go_loopw [9] (fun jv wr => ∃ j : Nat, jv = .int .i64 j ∧ k ≤ j ∧ j ≤ n + 1 ∧ (A i k ∨ j = k) ∧ Tab wr g n (fun a b => ((a < i ∧ Th A B a b) ∨ (a = i ∧ ∃ m, i ≤ m ∧ m < k ∧ m ≤ b ∧ A i m ∧ B m b)) ∨ (a = i ∧ k ≤ b ∧ b < j ∧ A i k ∧ B k b)) ∧ Below w.heap.size w wr) (fun jv _ => n + 1 - (intOf jv).toNat)
          case atStart => exact ⟨k, rfl, Nat.le_refl _, by omega, .inr rfl, T4.out, B3.out⟩
          case round =>
            obtain ⟨j, rfl, hkj, hj, hak, htb, hb⟩ := hrel
            have T5 := Lib.hid htb; have B5 := Lib.hid hb; have HAK := Lib.hid hak
            clear htb hb hak
            have TA5 := Lib.hid (TA.out.next B5.out)
            have TB5 := Lib.hid (TB'.out.next B5.out)
            have a0 := TA5.out.rowCell hlt
            have a1 := TA5.out.cell hlt hkt
            have HEX := Lib.hid (fun (h : ¬ (j ≤ n ∧ A i k)) => T5.out.congr (R' := fun a b => (a < i ∧ Th A B a b) ∨ (a = i ∧ ∃ m, i ≤ m ∧ m < k + 1 ∧ m ≤ b ∧ A i m ∧ B m b)) (fun a b _ hbn => by
              constructor
              · rintro ((h1 | ⟨h1, m, h2, h3, h4⟩) | ⟨rfl, h2, h3, h4, h5⟩)
                · exact .inl h1
                · exact .inr ⟨h1, m, h2, by omega, h4⟩
                · exact .inr ⟨rfl, k, hik, by omega, h2, h4, h5⟩
              · rintro (h1 | ⟨rfl, m, h2, h3, h4, h5, h6⟩)
                · exact .inl (.inl h1)
                · by_cases e : m < k
                  · exact .inl (.inr ⟨rfl, m, h2, e, h4, h5, h6⟩)
                  · obtain rfl : m = k := by omega
                    exact .inr ⟨rfl, h4, by
                      by_cases hjn : j ≤ n
                      · exact absurd ⟨hjn, h5⟩ h
                      · omega, h5, h6⟩))
            by_cases hjn : j ≤ n
            · by_cases hA : A i k
              · rw [yes_t hA] at a1
                have HA := Lib.hid hA
                have o0 := T5.out.rowCell hlt
                have o1 := T5.out.cell hlt hjn
                have f1 := (T5.out.row i hlt).frozen j
                have b0 := TB5.out.rowCell hkt
                have b1 := TB5.out.cell hkt hjn
                have HST := Lib.hid (fun (v : Bool) (hv : v = (yes ((((i < i ∧ Th A B i j) ∨ (i = i ∧ ∃ m, i ≤ m ∧ m < k ∧ m ≤ j ∧ A i m ∧ B m j)) ∨ (i = i ∧ k ≤ j ∧ j < j ∧ A i k ∧ B k j))) || yes (B k j))) => T5.out.set (j := j) (b := v) (R' := fun a b => ((a < i ∧ Th A B a b) ∨ (a = i ∧ ∃ m, i ≤ m ∧ m < k ∧ m ≤ b ∧ A i m ∧ B m b)) ∨ (a = i ∧ k ≤ b ∧ b < j + 1 ∧ A i k ∧ B k b)) hlt (by
                  rw [hv, Bool.or_eq_true]
                  constructor
                  · rintro (h1 | ⟨_, _, _, _, h5⟩)
                    · exact .inl (yes_t (.inl h1))
                    · exact .inr (yes_t h5)
                  · rintro (h1 | h1)
                    · rcases of_yes h1 with h1 | ⟨_, _, h1, _⟩
                      · exact .inl h1
                      · omega
                    · exact .inr ⟨rfl, hkj, by omega, hA, of_yes h1⟩) (fun a c _ _ h => by
                  constructor
                  · rintro (h1 | ⟨h1, h2, h3, h4⟩)
                    · exact .inl h1
                    · exact .inr ⟨h1, h2, by omega, h4⟩
                  · rintro (h1 | ⟨h1, h2, h3, h4⟩)
                    · exact .inl h1
                    · exact .inr ⟨h1, h2, by have : c ≠ j := fun e => h ⟨h1, e⟩
                                             omega, h4⟩))
                have BS := Lib.hid (fun (v : Bool) => B5.out.setCell (p := ⟨g + 1 + i, j, none⟩) (by simp only; omega) (.bool v))
                generalize yes ((((i < i ∧ Th A B i j) ∨ (i = i ∧ ∃ m, i ≤ m ∧ m < k ∧ m ≤ j ∧ A i m ∧ B m j)) ∨ (i = i ∧ k ≤ j ∧ j < j ∧ A i k ∧ B k j))) = v1 at *
                generalize yes (B k j) = v2 at *
                clear hA
                have q1 : (i : Int) < (n : Int) + 1 := by omega
                have q2 : (j : Int) < (n : Int) + 1 := by omega
                have q3 : (k : Int) < (n : Int) + 1 := by omega
                cases v1
                · have K1 : Hid (wr.drew.cell? ⟨g, i, none⟩ = some (.slice (some ⟨g + 1 + i, 0, none⟩) (n + 1) (n + 1)) ∧ wr.drew.cell? ⟨g + 1 + i, j, none⟩ = some (.bool false) ∧ wr.drew.cell? ⟨gb, k, none⟩ = some (.slice (some ⟨gb + 1 + k, 0, none⟩) (n + 1) (n + 1)) ∧ wr.drew.cell? ⟨gb + 1 + k, j, none⟩ = some (.bool v2)) := Lib.hid ⟨o0, o1, b0, b1⟩
                  go_wp2
                  refine wp_region_T 22 (fun W' => W'.cell? ⟨g, i, none⟩ = some (.slice (some ⟨g + 1 + i, 0, none⟩) (n + 1) (n + 1)) ∧ W'.cell? ⟨g + 1 + i, j, none⟩ = some (.bool false) ∧ W'.cell? ⟨gb, k, none⟩ = some (.slice (some ⟨gb + 1 + k, 0, none⟩) (n + 1) (n + 1)) ∧ W'.cell? ⟨gb + 1 + k, j, none⟩ = some (.bool v2)) (by kernel_rfl) ?_
                  refine wpAnyT_take (i := 0) (v := ?_) rfl (by kernel_rfl) (by kernel_rfl) (by kernel_rfl) (by kernel_rfl) (by kernel_rfl) (fun _ _ _ h => h) (.inl ⟨rfl, ?_⟩) K1.out ?_
                  rotate_left
                  · intro W__ hW__
                    obtain ⟨h1, h2, h3, h4⟩ := hW__
                    go_simp
                    (try with_reducible rfl)
                  simp only [Act.put]
                  refine wpAnyT_take (i := 1) (v := ?_) rfl (by kernel_rfl) (by kernel_rfl) (by kernel_rfl) (by kernel_rfl) (by kernel_rfl) (fun _ _ _ h => h) (.inl ⟨rfl, ?_⟩) K1.out ?_
                  rotate_left
                  · intro W__ hW__
                    obtain ⟨h1, h2, h3, h4⟩ := hW__
                    go_simp
                    (try with_reducible rfl)
                  simp only [Act.put]
                  refine wpAnyT_take (i := 2) (v := ?_) rfl (by kernel_rfl) (by kernel_rfl) (by kernel_rfl) (by kernel_rfl) (by kernel_rfl) (fun _ _ _ h => h) (.inl ⟨rfl, ?_⟩) K1.out ?_
                  rotate_left
                  · intro W__ hW__
                    obtain ⟨h1, h2, h3, h4⟩ := hW__
                    go_simp
                    (try with_reducible rfl)
                  simp only [Act.put]
                  refine wpAnyT_take (i := 3) (v := ?_) rfl (by kernel_rfl) (by kernel_rfl) (by kernel_rfl) (by kernel_rfl) (by kernel_rfl) (fun _ _ _ h => h) (.inl ⟨rfl, ?_⟩) K1.out ?_
                  rotate_left
                  · intro W__ hW__
                    obtain ⟨h1, h2, h3, h4⟩ := hW__
                    go_simp
                    (try with_reducible rfl)
                  simp only [Act.put]
                  refine wpAnyT_take (i := 4) (v := ?_) rfl (by kernel_rfl) (by kernel_rfl) (by kernel_rfl) (by kernel_rfl) (by kernel_rfl) (fun _ _ _ h => h) (.inl ⟨rfl, ?_⟩) K1.out ?_
                  rotate_left
                  · intro W__ hW__
                    obtain ⟨h1, h2, h3, h4⟩ := hW__
                    go_simp
                    (try with_reducible rfl)
                  simp only [Act.put]
                  refine wpAnyT_take (i := 5) (v := ?_) rfl (by kernel_rfl) (by kernel_rfl) (by kernel_rfl) (by kernel_rfl) (by kernel_rfl) (fun _ _ _ h => h) (.inl ⟨rfl, ?_⟩) K1.out ?_
                  rotate_left
                  · intro W__ hW__
                    obtain ⟨h1, h2, h3, h4⟩ := hW__
                    go_simp
                    (try with_reducible rfl)
                  simp only [Act.put]
                  refine wpAnyT_take (i := 6) (v := ?_) rfl (by kernel_rfl) (by kernel_rfl) (by kernel_rfl) (by kernel_rfl) (by kernel_rfl) (fun _ _ _ h => h) (.inl ⟨rfl, ?_⟩) K1.out ?_
                  rotate_left
                  · intro W__ hW__
                    obtain ⟨h1, h2, h3, h4⟩ := hW__
                    go_simp
                    (try with_reducible rfl)
                  simp only [Act.put]
                  refine wpAnyT_take (i := 7) (v := ?_) rfl (by kernel_rfl) (by kernel_rfl) (by kernel_rfl) (by kernel_rfl) (by kernel_rfl) (fun _ _ _ h => h) (.inl ⟨rfl, ?_⟩) K1.out ?_
                  rotate_left
                  · intro W__ hW__
                    obtain ⟨h1, h2, h3, h4⟩ := hW__
                    go_simp
                    (try with_reducible rfl)
                  simp only [Act.put]
                  refine wpAnyT_take (i := 8) (v := ?_) rfl (by kernel_rfl) (by kernel_rfl) (by kernel_rfl) (by kernel_rfl) (by kernel_rfl) (fun _ _ _ h => h) (.inl ⟨rfl, ?_⟩) K1.out ?_
                  rotate_left
                  · intro W__ hW__
                    obtain ⟨h1, h2, h3, h4⟩ := hW__
                    go_simp
                    (try with_reducible rfl)
                  simp only [Act.put]
                  refine wpAnyT_take (i := 9) (v := ?_) rfl (by kernel_rfl) (by kernel_rfl) (by kernel_rfl) (by kernel_rfl) (by kernel_rfl) (fun _ _ _ h => h) (.inl ⟨rfl, ?_⟩) K1.out ?_
                  rotate_left
                  · intro W__ hW__
                    obtain ⟨h1, h2, h3, h4⟩ := hW__
                    go_simp
                    (try with_reducible rfl)
                  simp only [Act.put]
                  refine wpAnyT_take (i := 10) (v := ?_) rfl (by kernel_rfl) (by kernel_rfl) (by kernel_rfl) (by kernel_rfl) (by kernel_rfl) (fun _ _ _ h => h) (.inl ⟨rfl, ?_⟩) K1.out ?_
                  rotate_left
                  · intro W__ hW__
                    obtain ⟨h1, h2, h3, h4⟩ := hW__
                    go_simp
                    (try with_reducible rfl)
                  simp only [Act.put]
                  refine wpAnyT_take (i := 11) (v := ?_) rfl (by kernel_rfl) (by kernel_rfl) (by kernel_rfl) (by kernel_rfl) (by kernel_rfl) (fun _ _ _ h => h) (.inl ⟨rfl, ?_⟩) K1.out ?_
                  rotate_left
                  · intro W__ hW__
                    obtain ⟨h1, h2, h3, h4⟩ := hW__
                    go_simp
                    (try with_reducible rfl)
                  simp only [Act.put]
                  refine wpAnyT_take (i := 12) (v := ?_) rfl (by kernel_rfl) (by kernel_rfl) (by kernel_rfl) (by kernel_rfl) (by kernel_rfl) (fun _ _ _ h => h) (.inl ⟨rfl, ?_⟩) K1.out ?_
                  rotate_left
                  · intro W__ hW__
                    obtain ⟨h1, h2, h3, h4⟩ := hW__
                    go_simp
                    (try with_reducible rfl)
                  simp only [Act.put]
                  refine wpAnyT_take (i := 13) (v := ?_) rfl (by kernel_rfl) (by kernel_rfl) (by kernel_rfl) (by kernel_rfl) (by kernel_rfl) (fun _ _ _ h => h) (.inl ⟨by kernel_rfl, ?_⟩) K1.out ?_
                  rotate_left
                  · intro W__ hW__
                    obtain ⟨h1, h2, h3, h4⟩ := hW__
                    go_simp
                    (try with_reducible rfl)
                  simp only [Act.put]
                  refine wpAnyT_take (i := 14) (v := ?_) rfl (by kernel_rfl) (by kernel_rfl) (by kernel_rfl) (by kernel_rfl) (by kernel_rfl) (fun _ _ _ h => h) (.inl ⟨by kernel_rfl, ?_⟩) K1.out ?_
                  rotate_left
                  · intro W__ hW__
                    obtain ⟨h1, h2, h3, h4⟩ := hW__
                    go_simp
                    (try with_reducible rfl)
                  simp only [Act.put]
                  refine wpAnyT_take (i := 15) (v := ?_) rfl (by kernel_rfl) (by kernel_rfl) (by kernel_rfl) (by kernel_rfl) (by kernel_rfl) (fun _ _ _ h => h) (.inl ⟨by kernel_rfl, ?_⟩) K1.out ?_
                  rotate_left
                  · intro W__ hW__
                    obtain ⟨h1, h2, h3, h4⟩ := hW__
                    go_simp
                    (try with_reducible rfl)
                  simp only [Act.put]
                  refine wpAnyT_take (i := 16) (v := ?_) rfl (by kernel_rfl) (by kernel_rfl) (by kernel_rfl) (by kernel_rfl) (by kernel_rfl) (fun _ _ _ h => h) (.inl ⟨by kernel_rfl, ?_⟩) K1.out ?_
                  rotate_left
                  · intro W__ hW__
                    obtain ⟨h1, h2, h3, h4⟩ := hW__
                    go_simp
                    (try with_reducible rfl)
                  simp only [Act.put]
                  refine wpAnyT_take (i := 17) (v := ?_) rfl (by kernel_rfl) (by kernel_rfl) (by kernel_rfl) (by kernel_rfl) (by kernel_rfl) (fun _ _ _ h => h) (.inl ⟨by kernel_rfl, ?_⟩) K1.out ?_
                  rotate_left
                  · intro W__ hW__
                    obtain ⟨h1, h2, h3, h4⟩ := hW__
                    go_simp
                    (try with_reducible rfl)
                  simp only [Act.put]
                  refine wpAnyT_take (i := 18) (v := ?_) rfl (by kernel_rfl) (by kernel_rfl) (by kernel_rfl) (by kernel_rfl) (by kernel_rfl) (fun _ _ _ h => h) (.inl ⟨by kernel_rfl, ?_⟩) K1.out ?_
                  rotate_left
                  · intro W__ hW__
                    obtain ⟨h1, h2, h3, h4⟩ := hW__
                    go_simp
                    (try with_reducible rfl)
                  simp only [Act.put]
                  refine wpAnyT_take (i := 19) (v := ?_) rfl (by kernel_rfl) (by kernel_rfl) (by kernel_rfl) (by kernel_rfl) (by kernel_rfl) (fun _ _ _ h => h) (.inl ⟨by kernel_rfl, ?_⟩) K1.out ?_
                  rotate_left
                  · intro W__ hW__
                    obtain ⟨h1, h2, h3, h4⟩ := hW__
                    go_simp
                    (try with_reducible rfl)
                  simp only [Act.put]
                  refine wpAnyT_take (i := 20) (v := ?_) rfl (by kernel_rfl) (by kernel_rfl) (by kernel_rfl) (by kernel_rfl) (by kernel_rfl) (fun _ _ _ h => h) (.inl ⟨rfl, ?_⟩) K1.out ?_
                  rotate_left
                  · intro W__ hW__
                    obtain ⟨h1, h2, h3, h4⟩ := hW__
                    go_simp
                    (try with_reducible rfl)
                  simp only [Act.put]
                  refine wpAnyT_take (i := 21) (v := ?_) rfl (by kernel_rfl) (by kernel_rfl) (by kernel_rfl) (by kernel_rfl) (by kernel_rfl) (fun _ _ _ h => h) (.inl ⟨rfl, ?_⟩) K1.out ?_
                  rotate_left
                  · intro W__ hW__
                    obtain ⟨h1, h2, h3, h4⟩ := hW__
                    go_simp
                    (try with_reducible rfl)
                  simp only [Act.put]
                  refine wpAnyT_end (i := 22) rfl (by kernel_rfl) rfl (by kernel_rfl) fun K__ hK__ => ?_
                  unfold Oper.wp
                  go_simp
                  refine hK__ _ _ ?_
                  clear hK__
                  refine wpAnyT_done (by kernel_rfl) ?_ _
                  go_wp2
                  go_roundw
                  case rel => exact ⟨j + 1, by go_num, by omega, by omega, .inl HA.out, (HST.out v2 (by simp)).drew, (BS.out v2).drew⟩
                  case measure => simp [intOf]; omega
                · have K1 : Hid (wr.drew.cell? ⟨g, i, none⟩ = some (.slice (some ⟨g + 1 + i, 0, none⟩) (n + 1) (n + 1)) ∧ wr.drew.cell? ⟨g + 1 + i, j, none⟩ = some (.bool true) ∧ wr.drew.cell? ⟨gb, k, none⟩ = some (.slice (some ⟨gb + 1 + k, 0, none⟩) (n + 1) (n + 1)) ∧ wr.drew.cell? ⟨gb + 1 + k, j, none⟩ = some (.bool v2)) := Lib.hid ⟨o0, o1, b0, b1⟩
                  go_wp2
                  refine wp_region_T 22 (fun W' => W'.cell? ⟨g, i, none⟩ = some (.slice (some ⟨g + 1 + i, 0, none⟩) (n + 1) (n + 1)) ∧ W'.cell? ⟨g + 1 + i, j, none⟩ = some (.bool true) ∧ W'.cell? ⟨gb, k, none⟩ = some (.slice (some ⟨gb + 1 + k, 0, none⟩) (n + 1) (n + 1)) ∧ W'.cell? ⟨gb + 1 + k, j, none⟩ = some (.bool v2)) (by kernel_rfl) ?_
                  refine wpAnyT_take (i := 0) (v := ?_) rfl (by kernel_rfl) (by kernel_rfl) (by kernel_rfl) (by kernel_rfl) (by kernel_rfl) (fun _ _ _ h => h) (.inl ⟨rfl, ?_⟩) K1.out ?_
                  rotate_left
                  · intro W__ hW__
                    obtain ⟨h1, h2, h3, h4⟩ := hW__
                    go_simp
                    (try with_reducible rfl)
                  simp only [Act.put]
                  refine wpAnyT_take (i := 1) (v := ?_) rfl (by kernel_rfl) (by kernel_rfl) (by kernel_rfl) (by kernel_rfl) (by kernel_rfl) (fun _ _ _ h => h) (.inl ⟨rfl, ?_⟩) K1.out ?_
                  rotate_left
                  · intro W__ hW__
                    obtain ⟨h1, h2, h3, h4⟩ := hW__
                    go_simp
                    (try with_reducible rfl)
                  simp only [Act.put]
                  refine wpAnyT_take (i := 2) (v := ?_) rfl (by kernel_rfl) (by kernel_rfl) (by kernel_rfl) (by kernel_rfl) (by kernel_rfl) (fun _ _ _ h => h) (.inl ⟨rfl, ?_⟩) K1.out ?_
                  rotate_left
                  · intro W__ hW__
                    obtain ⟨h1, h2, h3, h4⟩ := hW__
                    go_simp
                    (try with_reducible rfl)
                  simp only [Act.put]
                  refine wpAnyT_take (i := 3) (v := ?_) rfl (by kernel_rfl) (by kernel_rfl) (by kernel_rfl) (by kernel_rfl) (by kernel_rfl) (fun _ _ _ h => h) (.inl ⟨rfl, ?_⟩) K1.out ?_
                  rotate_left
                  · intro W__ hW__
                    obtain ⟨h1, h2, h3, h4⟩ := hW__
                    go_simp
                    (try with_reducible rfl)
                  simp only [Act.put]
                  refine wpAnyT_take (i := 4) (v := ?_) rfl (by kernel_rfl) (by kernel_rfl) (by kernel_rfl) (by kernel_rfl) (by kernel_rfl) (fun _ _ _ h => h) (.inl ⟨rfl, ?_⟩) K1.out ?_
                  rotate_left
                  · intro W__ hW__
                    obtain ⟨h1, h2, h3, h4⟩ := hW__
                    go_simp
                    (try with_reducible rfl)
                  simp only [Act.put]
                  refine wpAnyT_take (i := 5) (v := ?_) rfl (by kernel_rfl) (by kernel_rfl) (by kernel_rfl) (by kernel_rfl) (by kernel_rfl) (fun _ _ _ h => h) (.inl ⟨rfl, ?_⟩) K1.out ?_
                  rotate_left
                  · intro W__ hW__
                    obtain ⟨h1, h2, h3, h4⟩ := hW__
                    go_simp
                    (try with_reducible rfl)
                  simp only [Act.put]
                  refine wpAnyT_take (i := 6) (v := ?_) rfl (by kernel_rfl) (by kernel_rfl) (by kernel_rfl) (by kernel_rfl) (by kernel_rfl) (fun _ _ _ h => h) (.inl ⟨rfl, ?_⟩) K1.out ?_
                  rotate_left
                  · intro W__ hW__
                    obtain ⟨h1, h2, h3, h4⟩ := hW__
                    go_simp
                    (try with_reducible rfl)
                  simp only [Act.put]
                  refine wpAnyT_take (i := 7) (v := ?_) rfl (by kernel_rfl) (by kernel_rfl) (by kernel_rfl) (by kernel_rfl) (by kernel_rfl) (fun _ _ _ h => h) (.inl ⟨rfl, ?_⟩) K1.out ?_
                  rotate_left
                  · intro W__ hW__
                    obtain ⟨h1, h2, h3, h4⟩ := hW__
                    go_simp
                    (try with_reducible rfl)
                  simp only [Act.put]
                  refine wpAnyT_take (i := 8) (v := ?_) rfl (by kernel_rfl) (by kernel_rfl) (by kernel_rfl) (by kernel_rfl) (by kernel_rfl) (fun _ _ _ h => h) (.inl ⟨rfl, ?_⟩) K1.out ?_
                  rotate_left
                  · intro W__ hW__
                    obtain ⟨h1, h2, h3, h4⟩ := hW__
                    go_simp
                    (try with_reducible rfl)
                  simp only [Act.put]
                  refine wpAnyT_take (i := 9) (v := ?_) rfl (by kernel_rfl) (by kernel_rfl) (by kernel_rfl) (by kernel_rfl) (by kernel_rfl) (fun _ _ _ h => h) (.inl ⟨rfl, ?_⟩) K1.out ?_
                  rotate_left
                  · intro W__ hW__
                    obtain ⟨h1, h2, h3, h4⟩ := hW__
                    go_simp
                    (try with_reducible rfl)
                  simp only [Act.put]
                  refine wpAnyT_take (i := 10) (v := ?_) rfl (by kernel_rfl) (by kernel_rfl) (by kernel_rfl) (by kernel_rfl) (by kernel_rfl) (fun _ _ _ h => h) (.inl ⟨rfl, ?_⟩) K1.out ?_
                  rotate_left
                  · intro W__ hW__
                    obtain ⟨h1, h2, h3, h4⟩ := hW__
                    go_simp
                    (try with_reducible rfl)
                  simp only [Act.put]
                  refine wpAnyT_take (i := 11) (v := ?_) rfl (by kernel_rfl) (by kernel_rfl) (by kernel_rfl) (by kernel_rfl) (by kernel_rfl) (fun _ _ _ h => h) (.inl ⟨rfl, ?_⟩) K1.out ?_
                  rotate_left
                  · intro W__ hW__
                    obtain ⟨h1, h2, h3, h4⟩ := hW__
                    go_simp
                    (try with_reducible rfl)
                  simp only [Act.put]
                  refine wpAnyT_take (i := 12) (v := ?_) rfl (by kernel_rfl) (by kernel_rfl) (by kernel_rfl) (by kernel_rfl) (by kernel_rfl) (fun _ _ _ h => h) (.inl ⟨rfl, ?_⟩) K1.out ?_
                  rotate_left
                  · intro W__ hW__
                    obtain ⟨h1, h2, h3, h4⟩ := hW__
                    go_simp
                    (try with_reducible rfl)
                  simp only [Act.put]
                  refine wpAnyT_takeW (i := 13) (v := undef) rfl (by decide) (by kernel_rfl) (by kernel_rfl) (by kernel_rfl) (fun _ _ _ h => h) (.inr ⟨by kernel_rfl, rfl⟩) (fun _ => K1.out) ?_
                  simp only [Act.put]
                  refine wpAnyT_takeW (i := 14) (v := undef) rfl (by decide) (by kernel_rfl) (by kernel_rfl) (by kernel_rfl) (fun _ _ _ h => h) (.inr ⟨by kernel_rfl, rfl⟩) (fun _ => K1.out) ?_
                  simp only [Act.put]
                  refine wpAnyT_takeW (i := 15) (v := undef) rfl (by decide) (by kernel_rfl) (by kernel_rfl) (by kernel_rfl) (fun _ _ _ h => h) (.inr ⟨by kernel_rfl, rfl⟩) (fun _ => K1.out) ?_
                  simp only [Act.put]
                  refine wpAnyT_takeW (i := 16) (v := undef) rfl (by decide) (by kernel_rfl) (by kernel_rfl) (by kernel_rfl) (fun _ _ _ h => h) (.inr ⟨by kernel_rfl, rfl⟩) (fun _ => K1.out) ?_
                  simp only [Act.put]
                  refine wpAnyT_takeW (i := 17) (v := undef) rfl (by decide) (by kernel_rfl) (by kernel_rfl) (by kernel_rfl) (fun _ _ _ h => h) (.inr ⟨by kernel_rfl, rfl⟩) (fun _ => K1.out) ?_
                  simp only [Act.put]
                  refine wpAnyT_takeW (i := 18) (v := undef) rfl (by decide) (by kernel_rfl) (by kernel_rfl) (by kernel_rfl) (fun _ _ _ h => h) (.inr ⟨by kernel_rfl, rfl⟩) (fun _ => K1.out) ?_
                  simp only [Act.put]
                  refine wpAnyT_takeW (i := 19) (v := undef) rfl (by decide) (by kernel_rfl) (by kernel_rfl) (by kernel_rfl) (fun _ _ _ h => h) (.inr ⟨by kernel_rfl, rfl⟩) (fun _ => K1.out) ?_
                  simp only [Act.put]
                  refine wpAnyT_take (i := 20) (v := ?_) rfl (by kernel_rfl) (by kernel_rfl) (by kernel_rfl) (by kernel_rfl) (by kernel_rfl) (fun _ _ _ h => h) (.inl ⟨rfl, ?_⟩) K1.out ?_
                  rotate_left
                  · intro W__ hW__
                    obtain ⟨h1, h2, h3, h4⟩ := hW__
                    go_simp
                    (try with_reducible rfl)
                  simp only [Act.put]
                  refine wpAnyT_take (i := 21) (v := ?_) rfl (by kernel_rfl) (by kernel_rfl) (by kernel_rfl) (by kernel_rfl) (by kernel_rfl) (fun _ _ _ h => h) (.inl ⟨rfl, ?_⟩) K1.out ?_
                  rotate_left
                  · intro W__ hW__
                    obtain ⟨h1, h2, h3, h4⟩ := hW__
                    go_simp
                    (try with_reducible rfl)
                  simp only [Act.put]
                  refine wpAnyT_end (i := 22) rfl (by kernel_rfl) rfl (by kernel_rfl) fun K__ hK__ => ?_
                  unfold Oper.wp
                  go_simp
                  refine hK__ _ _ ?_
                  clear hK__
                  refine wpAnyT_done (by kernel_rfl) ?_ _
                  go_wp2
                  go_roundw
                  case rel => exact ⟨j + 1, by go_num, by omega, by omega, .inl HA.out, (HST.out true (by simp)).drew, (BS.out true).drew⟩
                  case measure => simp [intOf]; omega
              · rw [yes_f hA] at a1
                have TX := Lib.hid (HEX.out (fun h => hA h.2))
                clear hA
                go_wp2
                go_roundw
                case rel => exact ⟨k + 1, by go_num, by omega, by omega, TX.out, B5.out⟩
                case measure => simp [intOf]; omega
            · have TX := Lib.hid (HEX.out (fun h => hjn h.1))
              go_wp2
              go_roundw
              case rel => exact ⟨k + 1, by go_num, by omega, by omega, TX.out, B5.out⟩
              case measure => simp [intOf]; omega
        · have TX := Lib.hid (T3.out.congr (R' := fun a b => a < i + 1 ∧ Th A B a b) (fun a b ha hbn => by
            constructor
            · rintro (⟨h1, h2⟩ | ⟨rfl, m, h2, h3, h4, h5, h6⟩)
              · exact ⟨by omega, h2⟩
              · exact ⟨by omega, m, h2, h4, h5, h6⟩
            · rintro ⟨h1, h2⟩
              by_cases e : a < i
              · exact .inl ⟨e, h2⟩
              · obtain rfl : a = i := by omega
                obtain ⟨m, h3, h4, h5, h6⟩ := h2
                exact .inr ⟨rfl, m, h3, by omega, h4, h5, h6⟩))
          go_wp2
          go_roundw
          case rel => exact ⟨i + 1, by go_num, by omega, TX.out, B3.out⟩
          case measure => simp [intOf]; omega
    · have TD := Lib.hid (T1.out.congr (R' := Th A B) (fun a b ha _ => ⟨fun h => h.2, fun h => ⟨by omega, h⟩⟩))
      go_wp2
      go_ret
      exact ⟨g, rfl, hg, TD.out, B1.out⟩

set_option maxHeartbeats 2000000 in
set_option maxRecDepth 100000 in
theorem ref08_either (ga gb n : Nat) (A B : Nat → Nat → Prop) (hA : Fwd A) (hB : Fwd B) (hn : n ≤ 1000) (w : World) (ha : Tab w ga n A) (hb : Tab w gb n B) :
    Calls Try.prog 124 #[.slice (some ⟨ga, 0, none⟩) (n + 1) (n + 1), .slice (some ⟨gb, 0, none⟩) (n + 1) (n + 1)] w (TabPost w n (fun i j => A i j ∨ B i j)) := by
  have HN := Lib.hid (ref08_none n hn w)
  have TA := Lib.hid ha; have TB' := Lib.hid hb
  have HFA := Lib.hid hA; have HFB := Lib.hid hB
  clear ha hb hA hB
  go_enter Try.func124, Try.ntmps124
  go_wp2_with fail
  refine HN.out.mono ?_
  rintro e w1 ⟨g, rfl, hg, tb, hb⟩
  have T0 := Lib.hid (tb.congr (R' := fun i j => i < 0 ∧ (A i j ∨ B i j)) (fun i j _ _ => by simp))
  have B0 := Lib.hid hb
  clear tb hb
  go_wp2
  go_loopw [7] (fun iv wr => ∃ i : Nat, iv = .int .i64 i ∧ i ≤ n + 1 ∧ Tab wr g n (fun a b => a < i ∧ (A a b ∨ B a b)) ∧ Below w.heap.size w wr) (fun iv _ => n + 1 - (intOf iv).toNat)
  case atStart => exact ⟨0, rfl, by omega, T0.out, B0.out⟩
  case round =>
    obtain ⟨i, rfl, hi, htb, hb⟩ := hrel
    have T1 := Lib.hid htb; have B1 := Lib.hid hb
    clear htb hb
    by_cases hlt : i ≤ n
    · have T2 := Lib.hid (T1.out.congr (R' := fun a b => (a < i ∧ (A a b ∨ B a b)) ∨ (a = i ∧ b < i ∧ (A a b ∨ B a b))) (fun a b _ _ => by
        constructor
        · exact fun h => .inl h
        · rintro (h | ⟨rfl, h1, h2⟩)
          · exact h
          · rcases h2 with h2 | h2
            · have := HFA.out _ _ h2; omega
            · have := HFB.out _ _ h2; omega))
      go_wp2
      go_loopw [8] (fun jv wr => ∃ j : Nat, jv = .int .i64 j ∧ i ≤ j ∧ j ≤ n + 1 ∧ Tab wr g n (fun a b => (a < i ∧ (A a b ∨ B a b)) ∨ (a = i ∧ b < j ∧ (A a b ∨ B a b))) ∧ Below w.heap.size w wr) (fun jv _ => n + 1 - (intOf jv).toNat)
      case atStart => exact ⟨i, rfl, Nat.le_refl _, by omega, T2.out, B1.out⟩
      case round =>
        obtain ⟨j, rfl, hij, hj, htb, hb⟩ := hrel
        have T3 := Lib.hid htb; have B3 := Lib.hid hb
        clear htb hb
        by_cases hjn : j ≤ n
        · have TA5 := Lib.hid (TA.out.next B3.out)
          have TB5 := Lib.hid (TB'.out.next B3.out)
          have a0 := TA5.out.rowCell hlt
          have a1 := TA5.out.cell hlt hjn
          have b0 := TB5.out.rowCell hlt
          have b1 := TB5.out.cell hlt hjn
          have o0 := T3.out.rowCell hlt
          have o1 := T3.out.cell hlt hjn
          have f1 := (T3.out.row i hlt).frozen j
          have HST := Lib.hid (fun (v : Bool) (hv : v = (yes (A i j) || yes (B i j))) => T3.out.set (j := j) (b := v) (R' := fun a b => (a < i ∧ (A a b ∨ B a b)) ∨ (a = i ∧ b < j + 1 ∧ (A a b ∨ B a b))) hlt (by
            rw [hv, Bool.or_eq_true]
            constructor
            · rintro (⟨h1, _⟩ | ⟨_, _, h1 | h1⟩)
              · omega
              · exact .inl (yes_t h1)
              · exact .inr (yes_t h1)
            · rintro (h1 | h1)
              · exact .inr ⟨rfl, by omega, .inl (of_yes h1)⟩
              · exact .inr ⟨rfl, by omega, .inr (of_yes h1)⟩) (fun a c _ _ h => by
            constructor
            · rintro (h1 | ⟨h1, h2, h3⟩)
              · exact .inl h1
              · exact .inr ⟨h1, by omega, h3⟩
            · rintro (h1 | ⟨h1, h2, h3⟩)
              · exact .inl h1
              · exact .inr ⟨h1, by have : c ≠ j := fun e => h ⟨h1, e⟩
                                   omega, h3⟩))
          have BS := Lib.hid (fun (v : Bool) => B3.out.setCell (p := ⟨g + 1 + i, j, none⟩) (by simp only; omega) (.bool v))
          generalize yes (A i j) = v1 at *
          generalize yes (B i j) = v2 at *
          have q1 : (i : Int) < (n : Int) + 1 := by omega
          have q2 : (j : Int) < (n : Int) + 1 := by omega
          cases v1
          · have K1 : Hid (wr.drew.cell? ⟨g, i, none⟩ = some (.slice (some ⟨g + 1 + i, 0, none⟩) (n + 1) (n + 1)) ∧ wr.drew.cell? ⟨ga, i, none⟩ = some (.slice (some ⟨ga + 1 + i, 0, none⟩) (n + 1) (n + 1)) ∧ wr.drew.cell? ⟨ga + 1 + i, j, none⟩ = some (.bool false) ∧ wr.drew.cell? ⟨gb, i, none⟩ = some (.slice (some ⟨gb + 1 + i, 0, none⟩) (n + 1) (n + 1)) ∧ wr.drew.cell? ⟨gb + 1 + i, j, none⟩ = some (.bool v2)) := Lib.hid ⟨o0, a0, a1, b0, b1⟩
            go_wp2
            refine wp_region_T 22 (fun W' => W'.cell? ⟨g, i, none⟩ = some (.slice (some ⟨g + 1 + i, 0, none⟩) (n + 1) (n + 1)) ∧ W'.cell? ⟨ga, i, none⟩ = some (.slice (some ⟨ga + 1 + i, 0, none⟩) (n + 1) (n + 1)) ∧ W'.cell? ⟨ga + 1 + i, j, none⟩ = some (.bool false) ∧ W'.cell? ⟨gb, i, none⟩ = some (.slice (some ⟨gb + 1 + i, 0, none⟩) (n + 1) (n + 1)) ∧ W'.cell? ⟨gb + 1 + i, j, none⟩ = some (.bool v2)) (by kernel_rfl) ?_
            refine wpAnyT_take (i := 0) (v := ?_) rfl (by kernel_rfl) (by kernel_rfl) (by kernel_rfl) (by kernel_rfl) (by kernel_rfl) (fun _ _ _ h => h) (.inl ⟨rfl, ?_⟩) K1.out ?_
            rotate_left
            · intro W__ hW__
              obtain ⟨h1, h2, h3, h4, h5⟩ := hW__
              go_simp
              (try with_reducible rfl)
            simp only [Act.put]
            refine wpAnyT_take (i := 1) (v := ?_) rfl (by kernel_rfl) (by kernel_rfl) (by kernel_rfl) (by kernel_rfl) (by kernel_rfl) (fun _ _ _ h => h) (.inl ⟨rfl, ?_⟩) K1.out ?_
            rotate_left
            · intro W__ hW__
              obtain ⟨h1, h2, h3, h4, h5⟩ := hW__
              go_simp
              (try with_reducible rfl)
            simp only [Act.put]
            refine wpAnyT_take (i := 2) (v := ?_) rfl (by kernel_rfl) (by kernel_rfl) (by kernel_rfl) (by kernel_rfl) (by kernel_rfl) (fun _ _ _ h => h) (.inl ⟨rfl, ?_⟩) K1.out ?_
            rotate_left
            · intro W__ hW__
              obtain ⟨h1, h2, h3, h4, h5⟩ := hW__
              go_simp
              (try with_reducible rfl)
            simp only [Act.put]
            refine wpAnyT_take (i := 3) (v := ?_) rfl (by kernel_rfl) (by kernel_rfl) (by kernel_rfl) (by kernel_rfl) (by kernel_rfl) (fun _ _ _ h => h) (.inl ⟨rfl, ?_⟩) K1.out ?_
            rotate_left
            · intro W__ hW__
              obtain ⟨h1, h2, h3, h4, h5⟩ := hW__
              go_simp
              (try with_reducible rfl)
            simp only [Act.put]
            refine wpAnyT_take (i := 4) (v := ?_) rfl (by kernel_rfl) (by kernel_rfl) (by kernel_rfl) (by kernel_rfl) (by kernel_rfl) (fun _ _ _ h => h) (.inl ⟨rfl, ?_⟩) K1.out ?_
            rotate_left
            · intro W__ hW__
              obtain ⟨h1, h2, h3, h4, h5⟩ := hW__
              go_simp
              (try with_reducible rfl)
            simp only [Act.put]
            refine wpAnyT_take (i := 5) (v := ?_) rfl (by kernel_rfl) (by kernel_rfl) (by kernel_rfl) (by kernel_rfl) (by kernel_rfl) (fun _ _ _ h => h) (.inl ⟨rfl, ?_⟩) K1.out ?_
            rotate_left
            · intro W__ hW__
              obtain ⟨h1, h2, h3, h4, h5⟩ := hW__
              go_simp
              (try with_reducible rfl)
            simp only [Act.put]
            refine wpAnyT_take (i := 6) (v := ?_) rfl (by kernel_rfl) (by kernel_rfl) (by kernel_rfl) (by kernel_rfl) (by kernel_rfl) (fun _ _ _ h => h) (.inl ⟨rfl, ?_⟩) K1.out ?_
            rotate_left
            · intro W__ hW__
              obtain ⟨h1, h2, h3, h4, h5⟩ := hW__
              go_simp
              (try with_reducible rfl)
            simp only [Act.put]
            refine wpAnyT_take (i := 7) (v := ?_) rfl (by kernel_rfl) (by kernel_rfl) (by kernel_rfl) (by kernel_rfl) (by kernel_rfl) (fun _ _ _ h => h) (.inl ⟨rfl, ?_⟩) K1.out ?_
            rotate_left
            · intro W__ hW__
              obtain ⟨h1, h2, h3, h4, h5⟩ := hW__
              go_simp
              (try with_reducible rfl)
            simp only [Act.put]
            refine wpAnyT_take (i := 8) (v := ?_) rfl (by kernel_rfl) (by kernel_rfl) (by kernel_rfl) (by kernel_rfl) (by kernel_rfl) (fun _ _ _ h => h) (.inl ⟨rfl, ?_⟩) K1.out ?_
            rotate_left
            · intro W__ hW__
              obtain ⟨h1, h2, h3, h4, h5⟩ := hW__
              go_simp
              (try with_reducible rfl)
            simp only [Act.put]
            refine wpAnyT_take (i := 9) (v := ?_) rfl (by kernel_rfl) (by kernel_rfl) (by kernel_rfl) (by kernel_rfl) (by kernel_rfl) (fun _ _ _ h => h) (.inl ⟨rfl, ?_⟩) K1.out ?_
            rotate_left
            · intro W__ hW__
              obtain ⟨h1, h2, h3, h4, h5⟩ := hW__
              go_simp
              (try with_reducible rfl)
            simp only [Act.put]
            refine wpAnyT_take (i := 10) (v := ?_) rfl (by kernel_rfl) (by kernel_rfl) (by kernel_rfl) (by kernel_rfl) (by kernel_rfl) (fun _ _ _ h => h) (.inl ⟨rfl, ?_⟩) K1.out ?_
            rotate_left
            · intro W__ hW__
              obtain ⟨h1, h2, h3, h4, h5⟩ := hW__
              go_simp
              (try with_reducible rfl)
            simp only [Act.put]
            refine wpAnyT_take (i := 11) (v := ?_) rfl (by kernel_rfl) (by kernel_rfl) (by kernel_rfl) (by kernel_rfl) (by kernel_rfl) (fun _ _ _ h => h) (.inl ⟨rfl, ?_⟩) K1.out ?_
            rotate_left
            · intro W__ hW__
              obtain ⟨h1, h2, h3, h4, h5⟩ := hW__
              go_simp
              (try with_reducible rfl)
            simp only [Act.put]
            refine wpAnyT_take (i := 12) (v := ?_) rfl (by kernel_rfl) (by kernel_rfl) (by kernel_rfl) (by kernel_rfl) (by kernel_rfl) (fun _ _ _ h => h) (.inl ⟨rfl, ?_⟩) K1.out ?_
            rotate_left
            · intro W__ hW__
              obtain ⟨h1, h2, h3, h4, h5⟩ := hW__
              go_simp
              (try with_reducible rfl)
            simp only [Act.put]
            refine wpAnyT_take (i := 13) (v := ?_) rfl (by kernel_rfl) (by kernel_rfl) (by kernel_rfl) (by kernel_rfl) (by kernel_rfl) (fun _ _ _ h => h) (.inl ⟨by kernel_rfl, ?_⟩) K1.out ?_
            rotate_left
            · intro W__ hW__
              obtain ⟨h1, h2, h3, h4, h5⟩ := hW__
              go_simp
              (try with_reducible rfl)
            simp only [Act.put]
            refine wpAnyT_take (i := 14) (v := ?_) rfl (by kernel_rfl) (by kernel_rfl) (by kernel_rfl) (by kernel_rfl) (by kernel_rfl) (fun _ _ _ h => h) (.inl ⟨by kernel_rfl, ?_⟩) K1.out ?_
            rotate_left
            · intro W__ hW__
              obtain ⟨h1, h2, h3, h4, h5⟩ := hW__
              go_simp
              (try with_reducible rfl)
            simp only [Act.put]
            refine wpAnyT_take (i := 15) (v := ?_) rfl (by kernel_rfl) (by kernel_rfl) (by kernel_rfl) (by kernel_rfl) (by kernel_rfl) (fun _ _ _ h => h) (.inl ⟨by kernel_rfl, ?_⟩) K1.out ?_
            rotate_left
            · intro W__ hW__
              obtain ⟨h1, h2, h3, h4, h5⟩ := hW__
              go_simp
              (try with_reducible rfl)
            simp only [Act.put]
            refine wpAnyT_take (i := 16) (v := ?_) rfl (by kernel_rfl) (by kernel_rfl) (by kernel_rfl) (by kernel_rfl) (by kernel_rfl) (fun _ _ _ h => h) (.inl ⟨by kernel_rfl, ?_⟩) K1.out ?_
            rotate_left
            · intro W__ hW__
              obtain ⟨h1, h2, h3, h4, h5⟩ := hW__
              go_simp
              (try with_reducible rfl)
            simp only [Act.put]
            refine wpAnyT_take (i := 17) (v := ?_) rfl (by kernel_rfl) (by kernel_rfl) (by kernel_rfl) (by kernel_rfl) (by kernel_rfl) (fun _ _ _ h => h) (.inl ⟨by kernel_rfl, ?_⟩) K1.out ?_
            rotate_left
            · intro W__ hW__
              obtain ⟨h1, h2, h3, h4, h5⟩ := hW__
              go_simp
              (try with_reducible rfl)
            simp only [Act.put]
            refine wpAnyT_take (i := 18) (v := ?_) rfl (by kernel_rfl) (by kernel_rfl) (by kernel_rfl) (by kernel_rfl) (by kernel_rfl) (fun _ _ _ h => h) (.inl ⟨by kernel_rfl, ?_⟩) K1.out ?_
            rotate_left
            · intro W__ hW__
              obtain ⟨h1, h2, h3, h4, h5⟩ := hW__
              go_simp
              (try with_reducible rfl)
            simp only [Act.put]
            refine wpAnyT_take (i := 19) (v := ?_) rfl (by kernel_rfl) (by kernel_rfl) (by kernel_rfl) (by kernel_rfl) (by kernel_rfl) (fun _ _ _ h => h) (.inl ⟨by kernel_rfl, ?_⟩) K1.out ?_
            rotate_left
            · intro W__ hW__
              obtain ⟨h1, h2, h3, h4, h5⟩ := hW__
              go_simp
              (try with_reducible rfl)
            simp only [Act.put]
            refine wpAnyT_take (i := 20) (v := ?_) rfl (by kernel_rfl) (by kernel_rfl) (by kernel_rfl) (by kernel_rfl) (by kernel_rfl) (fun _ _ _ h => h) (.inl ⟨rfl, ?_⟩) K1.out ?_
            rotate_left
            · intro W__ hW__
              obtain ⟨h1, h2, h3, h4, h5⟩ := hW__
              go_simp
              (try with_reducible rfl)
            simp only [Act.put]
            refine wpAnyT_take (i := 21) (v := ?_) rfl (by kernel_rfl) (by kernel_rfl) (by kernel_rfl) (by kernel_rfl) (by kernel_rfl) (fun _ _ _ h => h) (.inl ⟨rfl, ?_⟩) K1.out ?_
            rotate_left
            · intro W__ hW__
              obtain ⟨h1, h2, h3, h4, h5⟩ := hW__
              go_simp
              (try with_reducible rfl)
            simp only [Act.put]
            refine wpAnyT_end (i := 22) rfl (by kernel_rfl) rfl (by kernel_rfl) fun K__ hK__ => ?_
            unfold Oper.wp
            go_simp
            refine hK__ _ _ ?_
            clear hK__
            refine wpAnyT_done (by kernel_rfl) ?_ _
            go_wp2
            go_roundw
            case rel => exact ⟨j + 1, by go_num, by omega, by omega, (HST.out v2 (by simp)).drew, (BS.out v2).drew⟩
            case measure => simp [intOf]; omega
          · have K1 : Hid (wr.drew.cell? ⟨g, i, none⟩ = some (.slice (some ⟨g + 1 + i, 0, none⟩) (n + 1) (n + 1)) ∧ wr.drew.cell? ⟨ga, i, none⟩ = some (.slice (some ⟨ga + 1 + i, 0, none⟩) (n + 1) (n + 1)) ∧ wr.drew.cell? ⟨ga + 1 + i, j, none⟩ = some (.bool true) ∧ wr.drew.cell? ⟨gb, i, none⟩ = some (.slice (some ⟨gb + 1 + i, 0, none⟩) (n + 1) (n + 1)) ∧ wr.drew.cell? ⟨gb + 1 + i, j, none⟩ = some (.bool v2)) := Lib.hid ⟨o0, a0, a1, b0, b1⟩
            go_wp2
            refine wp_region_T 22 (fun W' => W'.cell? ⟨g, i, none⟩ = some (.slice (some ⟨g + 1 + i, 0, none⟩) (n + 1) (n + 1)) ∧ W'.cell? ⟨ga, i, none⟩ = some (.slice (some ⟨ga + 1 + i, 0, none⟩) (n + 1) (n + 1)) ∧ W'.cell? ⟨ga + 1 + i, j, none⟩ = some (.bool true) ∧ W'.cell? ⟨gb, i, none⟩ = some (.slice (some ⟨gb + 1 + i, 0, none⟩) (n + 1) (n + 1)) ∧ W'.cell? ⟨gb + 1 + i, j, none⟩ = some (.bool v2)) (by kernel_rfl) ?_
            refine wpAnyT_take (i := 0) (v := ?_) rfl (by kernel_rfl) (by kernel_rfl) (by kernel_rfl) (by kernel_rfl) (by kernel_rfl) (fun _ _ _ h => h) (.inl ⟨rfl, ?_⟩) K1.out ?_
            rotate_left
            · intro W__ hW__
              obtain ⟨h1, h2, h3, h4, h5⟩ := hW__
              go_simp
              (try with_reducible rfl)
            simp only [Act.put]
            refine wpAnyT_take (i := 1) (v := ?_) rfl (by kernel_rfl) (by kernel_rfl) (by kernel_rfl) (by kernel_rfl) (by kernel_rfl) (fun _ _ _ h => h) (.inl ⟨rfl, ?_⟩) K1.out ?_
            rotate_left
            · intro W__ hW__
              obtain ⟨h1, h2, h3, h4, h5⟩ := hW__
              go_simp
              (try with_reducible rfl)
            simp only [Act.put]
            refine wpAnyT_take (i := 2) (v := ?_) rfl (by kernel_rfl) (by kernel_rfl) (by kernel_rfl) (by kernel_rfl) (by kernel_rfl) (fun _ _ _ h => h) (.inl ⟨rfl, ?_⟩) K1.out ?_
            rotate_left
            · intro W__ hW__
              obtain ⟨h1, h2, h3, h4, h5⟩ := hW__
              go_simp
              (try with_reducible rfl)
            simp only [Act.put]
            refine wpAnyT_take (i := 3) (v := ?_) rfl (by kernel_rfl) (by kernel_rfl) (by kernel_rfl) (by kernel_rfl) (by kernel_rfl) (fun _ _ _ h => h) (.inl ⟨rfl, ?_⟩) K1.out ?_
            rotate_left
            · intro W__ hW__
              obtain ⟨h1, h2, h3, h4, h5⟩ := hW__
              go_simp
              (try with_reducible rfl)
            simp only [Act.put]
            refine wpAnyT_take (i := 4) (v := ?_) rfl (by kernel_rfl) (by kernel_rfl) (by kernel_rfl) (by kernel_rfl) (by kernel_rfl) (fun _ _ _ h => h) (.inl ⟨rfl, ?_⟩) K1.out ?_
            rotate_left
            · intro W__ hW__
              obtain ⟨h1, h2, h3, h4, h5⟩ := hW__
              go_simp
              (try with_reducible rfl)
            simp only [Act.put]
            refine wpAnyT_take (i := 5) (v := ?_) rfl (by kernel_rfl) (by kernel_rfl) (by kernel_rfl) (by kernel_rfl) (by kernel_rfl) (fun _ _ _ h => h) (.inl ⟨rfl, ?_⟩) K1.out ?_
            rotate_left
            · intro W__ hW__
              obtain ⟨h1, h2, h3, h4, h5⟩ := hW__
              go_simp
              (try with_reducible rfl)
            simp only [Act.put]
            refine wpAnyT_take (i := 6) (v := ?_) rfl (by kernel_rfl) (by kernel_rfl) (by kernel_rfl) (by kernel_rfl) (by kernel_rfl) (fun _ _ _ h => h) (.inl ⟨rfl, ?_⟩) K1.out ?_
            rotate_left
            · intro W__ hW__
              obtain ⟨h1, h2, h3, h4, h5⟩ := hW__
              go_simp
              (try with_reducible rfl)
            simp only [Act.put]
            refine wpAnyT_take (i := 7) (v := ?_) rfl (by kernel_rfl) (by kernel_rfl) (by kernel_rfl) (by kernel_rfl) (by kernel_rfl) (fun _ _ _ h => h) (.inl ⟨rfl, ?_⟩) K1.out ?_
            rotate_left
            · intro W__ hW__
              obtain ⟨h1, h2, h3, h4, h5⟩ := hW__
              go_simp
              (try with_reducible rfl)
            simp only [Act.put]
            refine wpAnyT_take (i := 8) (v := ?_) rfl (by kernel_rfl) (by kernel_rfl) (by kernel_rfl) (by kernel_rfl) (by kernel_rfl) (fun _ _ _ h => h) (.inl ⟨rfl, ?_⟩) K1.out ?_
            rotate_left
            · intro W__ hW__
              obtain ⟨h1, h2, h3, h4, h5⟩ := hW__
              go_simp
              (try with_reducible rfl)
            simp only [Act.put]
            refine wpAnyT_take (i := 9) (v := ?_) rfl (by kernel_rfl) (by kernel_rfl) (by kernel_rfl) (by kernel_rfl) (by kernel_rfl) (fun _ _ _ h => h) (.inl ⟨rfl, ?_⟩) K1.out ?_
            rotate_left
            · intro W__ hW__
              obtain ⟨h1, h2, h3, h4, h5⟩ := hW__
              go_simp
              (try with_reducible rfl)
            simp only [Act.put]
            refine wpAnyT_take (i := 10) (v := ?_) rfl (by kernel_rfl) (by kernel_rfl) (by kernel_rfl) (by kernel_rfl) (by kernel_rfl) (fun _ _ _ h => h) (.inl ⟨rfl, ?_⟩) K1.out ?_
            rotate_left
            · intro W__ hW__
              obtain ⟨h1, h2, h3, h4, h5⟩ := hW__
              go_simp
              (try with_reducible rfl)
            simp only [Act.put]
            refine wpAnyT_take (i := 11) (v := ?_) rfl (by kernel_rfl) (by kernel_rfl) (by kernel_rfl) (by kernel_rfl) (by kernel_rfl) (fun _ _ _ h => h) (.inl ⟨rfl, ?_⟩) K1.out ?_
            rotate_left
            · intro W__ hW__
              obtain ⟨h1, h2, h3, h4, h5⟩ := hW__
              go_simp
              (try with_reducible rfl)
            simp only [Act.put]
            refine wpAnyT_take (i := 12) (v := ?_) rfl (by kernel_rfl) (by kernel_rfl) (by kernel_rfl) (by kernel_rfl) (by kernel_rfl) (fun _ _ _ h => h) (.inl ⟨rfl, ?_⟩) K1.out ?_
            rotate_left
            · intro W__ hW__
              obtain ⟨h1, h2, h3, h4, h5⟩ := hW__
              go_simp
              (try with_reducible rfl)
            simp only [Act.put]
            refine wpAnyT_takeW (i := 13) (v := undef) rfl (by decide) (by kernel_rfl) (by kernel_rfl) (by kernel_rfl) (fun _ _ _ h => h) (.inr ⟨by kernel_rfl, rfl⟩) (fun _ => K1.out) ?_
            simp only [Act.put]
            refine wpAnyT_takeW (i := 14) (v := undef) rfl (by decide) (by kernel_rfl) (by kernel_rfl) (by kernel_rfl) (fun _ _ _ h => h) (.inr ⟨by kernel_rfl, rfl⟩) (fun _ => K1.out) ?_
            simp only [Act.put]
            refine wpAnyT_takeW (i := 15) (v := undef) rfl (by decide) (by kernel_rfl) (by kernel_rfl) (by kernel_rfl) (fun _ _ _ h => h) (.inr ⟨by kernel_rfl, rfl⟩) (fun _ => K1.out) ?_
            simp only [Act.put]
            refine wpAnyT_takeW (i := 16) (v := undef) rfl (by decide) (by kernel_rfl) (by kernel_rfl) (by kernel_rfl) (fun _ _ _ h => h) (.inr ⟨by kernel_rfl, rfl⟩) (fun _ => K1.out) ?_
            simp only [Act.put]
            refine wpAnyT_takeW (i := 17) (v := undef) rfl (by decide) (by kernel_rfl) (by kernel_rfl) (by kernel_rfl) (fun _ _ _ h => h) (.inr ⟨by kernel_rfl, rfl⟩) (fun _ => K1.out) ?_
            simp only [Act.put]
            refine wpAnyT_takeW (i := 18) (v := undef) rfl (by decide) (by kernel_rfl) (by kernel_rfl) (by kernel_rfl) (fun _ _ _ h => h) (.inr ⟨by kernel_rfl, rfl⟩) (fun _ => K1.out) ?_
            simp only [Act.put]
            refine wpAnyT_takeW (i := 19) (v := undef) rfl (by decide) (by kernel_rfl) (by kernel_rfl) (by kernel_rfl) (fun _ _ _ h => h) (.inr ⟨by kernel_rfl, rfl⟩) (fun _ => K1.out) ?_
            simp only [Act.put]
            refine wpAnyT_take (i := 20) (v := ?_) rfl (by kernel_rfl) (by kernel_rfl) (by kernel_rfl) (by kernel_rfl) (by kernel_rfl) (fun _ _ _ h => h) (.inl ⟨rfl, ?_⟩) K1.out ?_
            rotate_left
            · intro W__ hW__
              obtain ⟨h1, h2, h3, h4, h5⟩ := hW__
              go_simp
              (try with_reducible rfl)
            simp only [Act.put]
            refine wpAnyT_take (i := 21) (v := ?_) rfl (by kernel_rfl) (by kernel_rfl) (by kernel_rfl) (by kernel_rfl) (by kernel_rfl) (fun _ _ _ h => h) (.inl ⟨rfl, ?_⟩) K1.out ?_
            rotate_left
            · intro W__ hW__
              obtain ⟨h1, h2, h3, h4, h5⟩ := hW__
              go_simp
              (try with_reducible rfl)
            simp only [Act.put]
            refine wpAnyT_end (i := 22) rfl (by kernel_rfl) rfl (by kernel_rfl) fun K__ hK__ => ?_
            unfold Oper.wp
            go_simp
            refine hK__ _ _ ?_
            clear hK__
            refine wpAnyT_done (by kernel_rfl) ?_ _
            go_wp2
            go_roundw
            case rel => exact ⟨j + 1, by go_num, by omega, by omega, (HST.out true (by simp)).drew, (BS.out true).drew⟩
            case measure => simp [intOf]; omega
        · have TX := Lib.hid (T3.out.congr (R' := fun a b => a < i + 1 ∧ (A a b ∨ B a b)) (fun a b ha hbn => by
            constructor
            · rintro (⟨h1, h2⟩ | ⟨rfl, h2, h3⟩)
              · exact ⟨by omega, h2⟩
              · exact ⟨by omega, h3⟩
            · rintro ⟨h1, h2⟩
              by_cases e : a < i
              · exact .inl ⟨e, h2⟩
              · exact .inr ⟨by omega, by omega, h2⟩))
          go_wp2
          go_roundw
          case rel => exact ⟨i + 1, by go_num, by omega, TX.out, B3.out⟩
          case measure => simp [intOf]; omega
    · have TD := Lib.hid (T1.out.congr (R' := fun a b => A a b ∨ B a b) (fun a b ha _ => ⟨fun h => h.2, fun h => ⟨by omega, h⟩⟩))
      go_wp2
      go_ret
      exact ⟨g, rfl, hg, TD.out, B1.out⟩

end Go.Proofs.Ytjnjbcigbnjmkaa
