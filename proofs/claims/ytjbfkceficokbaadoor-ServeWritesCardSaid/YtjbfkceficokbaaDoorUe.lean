/- Walks: the document's Points, quoted's test; the program's text.Check. -/
import Derived.Test.YtjbfkceficokbaaDoorUd
namespace Pv
open Go Go.RowKit
theorem ret_vb {v : Value} {a b : Bool} (h : a = b) : Ending.returned (.tuple #[v, .bool a]) = Ending.returned (.tuple #[v, .bool b]) := by rw [h]
end Pv
namespace Go.Proofs.YtjbfkceficokbaaDoor
open Go.RowKit Pv

theorem info_int : (Tryd.prog.info? 3).map (fun i => (i.zero, i.size, i.bytes)) = some (some (.int .i64 0), 1, 8) := by kernel_rfl

set_option maxHeartbeats 1000000 in
set_option maxRecDepth 100000 in
theorem ref01_Points (s : ByteArray) (w : World) (hs : s.size ≤ 100000) :
    Calls Tryd.prog 30 #[.string s] w fun e w' => Below w.heap.size w w' ∧ ∃ v, e = .returned (.tuple #[v, .bool (Lib.validD (bsl s))]) := by
  obtain ⟨i0, hi0, hz0, hs0, hb0⟩ := info_parts info_int
  have HNX := Lib.hid (fun (k : Nat) (W : World) (h : k < s.size) => ref01_Next s k W (by omega) h)
  obtain ⟨l, HL⟩ : ∃ l, Hid (bsl s = l) := ⟨_, Lib.hid rfl⟩
  have HLen : Hid (l.length = s.size) := Lib.hid (by rw [← HL.out, bsl_len])
  rw [HL.out] at HNX ⊢
  obtain ⟨ans, HA⟩ : ∃ ans, Hid (Lib.validD l = ans) := ⟨_, Lib.hid rfl⟩
  rw [HA.out]
  go_enter Tryd.func30, Tryd.ntmps30
  go_wp2
  go_loopw [4, 5] (fun o i wr => ∃ (k : Nat) (A : Option Addr) (c : Nat) (acc : List Int), i = .int .i64 k ∧ k ≤ s.size ∧ acc.length ≤ k ∧ o = .slice A acc.length c ∧ wr.ownsRow w.heap.size 3 1 (.slice A acc.length c) acc.length (acc.map (Value.int .i64)) ∧ Lib.validD (l.drop k) = ans ∧ Below w.heap.size w wr) (fun _ i _ => s.size - (intOf i).toNat)
  case atStart => exact ⟨0, none, 0, [], rfl, by omega, by simp, rfl, World.ownsRow_nil _ _ _ _, by simpa using HA.out, Below.refl _ _⟩
  case round =>
    obtain ⟨k, A, c, acc, rfl, hk, hacc, rfl, hown, hval, hb⟩ := hrel
    have HO := Lib.hid hown; have HB := Lib.hid hb; have HV := Lib.hid hval
    clear hown hb hval
    by_cases hlt : k < s.size
    · have H1 := HNX.out k wr hlt
      have hne : l.drop k ≠ [] := by
        intro h; have := congrArg List.length h; rw [List.length_drop, HLen.out] at this; simp at this; omega
      have HST := ptsL_step hne
      have HVV := ptsL_valid _ (l.drop k) (Nat.le_refl _)
      cases hx : nextP (l.drop k) with
      | none =>
        rw [hx] at H1 HST
        have HF := Lib.hid (show false = ans by rw [← HV.out, ← HVV, HST]; rfl)
        have HC := Lib.hid H1
        clear H1 HST HVV hx hne
        go_wp2_with fail
        refine HC.out.mono ?_
        rintro e w1 ⟨hb1, rfl⟩
        have B1 := Lib.hid (HB.out.trans (hb1.mono HB.out.size))
        clear hb1
        go_wp2
        go_ret2
        exact ⟨B1.out, _, ret_vb HF.out⟩
      | some p =>
        obtain ⟨n, q⟩ := p
        have hsz := nextP_size hx
        rw [List.length_drop, HLen.out] at hsz
        obtain ⟨q1, q4, qk, hn⟩ := hsz
        rw [hx] at H1 HST
        have HV2 := Lib.hid (show Lib.validD (l.drop (k + q)) = ans by
          rw [← ptsL_valid _ _ (Nat.le_refl _), ← HV.out, ← HVV, HST]
          simp [List.drop_drop])
        have HC := Lib.hid H1
        have Q1 : Hid (acc.length + 1 ≤ maxLen) := Lib.hid (by simp only [maxLen]; omega)
        have Q2 : Hid ((acc.length + 1) * 8 ≤ 140737488355328) := Lib.hid (by omega)
        obtain ⟨m, hm⟩ : ∃ m : Int, (n : Int) = m := ⟨_, rfl⟩
        have m0 : 0 ≤ m := by omega
        have m1 : m ≤ 1114111 := by omega
        simp only [hm] at HC
        clear H1 HST HVV hx hne hn hm
        go_wp2_with fail
        refine HC.out.mono ?_
        rintro e w1 ⟨hb1, rfl⟩
        have B1 := Lib.hid (HB.out.trans (hb1.mono HB.out.size))
        have OW1 := Lib.hid ((ownsRow_below HO.out hb1).alloc (.cells #[.int .i64 m] 3))
        have SR1 := Lib.hid (Src.one (w := w1) (x := .int .i64 m) (t := 3) rfl)
        have Q3 : Hid (w.heap.size ≤ (w1.alloc (.cells #[.int .i64 m] 3)).heap.size) := Lib.hid (by have := B1.out.size; simp; omega)
        clear hb1
        go_wp2_with (at_builtin
                     go_must (refine wpList_append_src _ rfl (.tmp 22) (.tmp 24) 70 rfl w.heap.size 3 i0 (.int .i64 0) 1 8 Tryd.underlying70 hi0 hz0 hs0 hb0 rfl (by decide) A c acc.length (acc.map (Value.int .i64)) rfl OW1.out (some ⟨w1.heap.size, 0, none⟩) 1 1 [.int .i64 m] rfl SR1.out Q1.out Q2.out Q3.out ?_)
                     intro A' c' w2 own' gr' _
                     have OW2 := Lib.hid own'
                     have B2 := Lib.hid ((B1.out.alloc B1.out.size (.cells #[.int .i64 m] 3)).grown gr' (by have := B1.out.size; simp; omega) (fun k hk => (OW1.out.lt k hk).1))
                     clear own' gr')
        go_roundw
        case rel =>
          exact ⟨k + q, A', c', acc ++ [m], by go_num, by omega, by simp; omega, by simp, by simpa using OW2.out, HV2.out, B2.out⟩
        case measure => simp [intOf]; omega
    · have HF := Lib.hid (show true = ans by
        rw [← HV.out, List.drop_eq_nil_of_le (by rw [HLen.out]; omega)]; rfl)
      go_wp2
      go_ret2
      exact ⟨HB.out, _, ret_vb HF.out⟩
end Go.Proofs.YtjbfkceficokbaaDoor
