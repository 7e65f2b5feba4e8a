/- Walks: records that a test holds of, by the library's ContainsFunc. PUT1 -/
import Derived.Test.YtbdkedjgfihamaaGreatDoorV20u
namespace Go.Proofs.YtbdkedjgfihamaaGreatDoor
open Go.RowKit Pv Go.Maps
/-- What IndexFunc tells. -/
def IdxR (p : Rec → Bool) (l : List Rec) (e : Ending) : Prop := (e = .returned (.int .i64 (-1)) ∧ ∀ y, y ∈ l → p y = false) ∨ ∃ (i : Nat) (x : Rec), e = .returned (.int .i64 i) ∧ x ∈ l ∧ p x = true
set_option maxHeartbeats 2000000 in
set_option maxRecDepth 100000 in
theorem idx_clash (rb kb mb : Nat) (A : Option Addr) (c n : Nat) (l : List Rec) (p : Rec → Bool) (w : World) (h : AtRec w A l) (HL : Hid (l.length = n)) (hn : n ≤ 100000) (HT : Hid (∀ r D m c W, r ∈ l → AtCel W D r.data → r.data.length = m → m ≤ c → Below w.heap.size w W → Calls Tryz.prog 99 #[.agg #[.string r.id, .slice D m c], .pointer (some ⟨rb, 0, none⟩), .pointer (some ⟨kb, 0, none⟩), .pointer (some ⟨mb, 0, none⟩)] W fun e w' => e = .returned (.bool (p r)) ∧ Below W.heap.size W w')) :
    Calls Tryz.prog 121 #[.slice A n c, .func (.func 99) #[] #[.pointer (some ⟨rb, 0, none⟩), .pointer (some ⟨kb, 0, none⟩), .pointer (some ⟨mb, 0, none⟩)]] w fun e w' => IdxR p l e ∧ Below w.heap.size w w' := by
  have HA : Hid (AtRec w A l) := Lib.hid h
  clear h
  go_enter Tryz.func121, Tryz.ntmps121
  go_wp2
  go_loopw [8] (fun iv W => ∃ i : Nat, iv = .int .i64 i ∧ i ≤ n ∧ Hid (Below w.heap.size w W) ∧ Hid (∀ x, x ∈ l.take i → p x = false)) (fun iv _ => n - (intOf iv).toNat)
  case atStart => exact ⟨0, rfl, by omega, Lib.hid (Below.refl _ _), Lib.hid (by simp)⟩
  case round =>
    obtain ⟨i, rfl, hi, HB, HNO⟩ := hrel
    by_cases hlt : i < n
    · obtain ⟨b1, o1, x, D, m, cc, rfl, lb1, c0, c1, _, hD, HM, hmc, HX⟩ := AtRec.g2 (AtRec.keep HA.out (Keep.of HB.out)) HL hlt
      have HTT := Lib.hid (HT.out x D m cc wr (mem_of_get HX.out) hD HM.out hmc HB.out)
      have i1 : (i : Int) < (n : Int) := by omega
      have i2 : (0 : Int) ≤ (i : Int) := by omega
      clear hD
      cases hk : p x with
      | true =>
        rw [hk] at HTT
        have HV := Lib.hid hk
        clear hk
        go_wp2_with fail
        refine HTT.out.mono ?_
        rintro e w1 ⟨rfl, k⟩
        have HB1 := Lib.hid (HB.out.trans (k.mono HB.out.size))
        clear k
        go_wp2
        go_ret
        exact ⟨.inr ⟨i, x, rfl, mem_of_get HX.out, HV.out⟩, HB1.out⟩
      | false =>
        rw [hk] at HTT
        have HK := Lib.hid hk
        clear hk
        go_wp2_with fail
        refine HTT.out.mono ?_
        rintro e w1 ⟨rfl, k⟩
        have HB1 := Lib.hid (HB.out.trans (k.mono HB.out.size))
        clear k
        go_wp2
        go_roundw
        case rel =>
          refine ⟨i + 1, by go_num, by omega, HB1, Lib.hid fun z hz => ?_⟩
          rw [take_snoc HX.out] at hz
          rcases List.mem_append.1 hz with hz | hz
          · exact HNO.out z hz
          · obtain rfl := List.mem_singleton.1 hz
            exact HK.out
        case measure => simp [intOf]; omega
    · have HV := Lib.hid (show ∀ x, x ∈ l → p x = false by
        have h1 := HNO.out
        rwa [List.take_of_length_le (by rw [HL.out]; omega)] at h1)
      have i1 : ¬ (i : Int) < (n : Int) := by omega
      go_wp2
      go_ret
      exact ⟨.inl ⟨rfl, HV.out⟩, HB.out⟩
set_option maxHeartbeats 1000000 in
set_option maxRecDepth 100000 in
theorem has_clash (rb kb mb : Nat) (A : Option Addr) (c n : Nat) (l : List Rec) (p : Rec → Bool) (w : World) (h : AtRec w A l) (HL : Hid (l.length = n)) (hn : n ≤ 100000) (HT : Hid (∀ r D m c W, r ∈ l → AtCel W D r.data → r.data.length = m → m ≤ c → Below w.heap.size w W → Calls Tryz.prog 99 #[.agg #[.string r.id, .slice D m c], .pointer (some ⟨rb, 0, none⟩), .pointer (some ⟨kb, 0, none⟩), .pointer (some ⟨mb, 0, none⟩)] W fun e w' => e = .returned (.bool (p r)) ∧ Below W.heap.size W w')) :
    Calls Tryz.prog 98 #[.slice A n c, .func (.func 99) #[] #[.pointer (some ⟨rb, 0, none⟩), .pointer (some ⟨kb, 0, none⟩), .pointer (some ⟨mb, 0, none⟩)]] w fun e w' => e = .returned (.bool (l.any p)) ∧ Below w.heap.size w w' := by
  have HC := Lib.hid (idx_clash rb kb mb A c n l p w h HL hn HT)
  clear h
  go_enter Tryz.func98, Tryz.ntmps98
  go_wp2_with fail
  refine HC.out.mono ?_
  rintro e w1 ⟨hv, k⟩
  have K := Lib.hid k
  clear k
  rcases hv with ⟨rfl, hv⟩ | ⟨i, x, rfl, hx, hv⟩
  · have HV := Lib.hid (show l.any p = false from List.any_eq_false.2 fun x hx => by rw [hv x hx]; simp)
    clear hv
    go_wp2
    go_ret
    exact ⟨ret_bool HV.out.symm, K.out⟩
  · have HV := Lib.hid (show l.any p = true from List.any_eq_true.2 ⟨x, hx, hv⟩)
    have i1 : (0 : Int) ≤ (i : Int) := by omega
    clear hv hx
    go_wp2
    go_ret
    exact ⟨ret_bool HV.out.symm, K.out⟩
set_option maxHeartbeats 2000000 in
set_option maxRecDepth 100000 in
theorem idx_check (kb : Nat) (A : Option Addr) (c n : Nat) (l : List Rec) (p : Rec → Bool) (w : World) (h : AtRec w A l) (HL : Hid (l.length = n)) (hn : n ≤ 100000) (HT : Hid (∀ r D m c W, r ∈ l → AtCel W D r.data → r.data.length = m → m ≤ c → Below w.heap.size w W → Calls Tryz.prog 104 #[.agg #[.string r.id, .slice D m c], .pointer (some ⟨kb, 0, none⟩)] W fun e w' => e = .returned (.bool (p r)) ∧ Below W.heap.size W w')) :
    Calls Tryz.prog 121 #[.slice A n c, .func (.func 104) #[] #[.pointer (some ⟨kb, 0, none⟩)]] w fun e w' => IdxR p l e ∧ Below w.heap.size w w' := by
  have HA : Hid (AtRec w A l) := Lib.hid h
  clear h
  go_enter Tryz.func121, Tryz.ntmps121
  go_wp2
  go_loopw [8] (fun iv W => ∃ i : Nat, iv = .int .i64 i ∧ i ≤ n ∧ Hid (Below w.heap.size w W) ∧ Hid (∀ x, x ∈ l.take i → p x = false)) (fun iv _ => n - (intOf iv).toNat)
  case atStart => exact ⟨0, rfl, by omega, Lib.hid (Below.refl _ _), Lib.hid (by simp)⟩
  case round =>
    obtain ⟨i, rfl, hi, HB, HNO⟩ := hrel
    by_cases hlt : i < n
    · obtain ⟨b1, o1, x, D, m, cc, rfl, lb1, c0, c1, _, hD, HM, hmc, HX⟩ := AtRec.g2 (AtRec.keep HA.out (Keep.of HB.out)) HL hlt
      have HTT := Lib.hid (HT.out x D m cc wr (mem_of_get HX.out) hD HM.out hmc HB.out)
      have i1 : (i : Int) < (n : Int) := by omega
      have i2 : (0 : Int) ≤ (i : Int) := by omega
      clear hD
      cases hk : p x with
      | true =>
        rw [hk] at HTT
        have HV := Lib.hid hk
        clear hk
        go_wp2_with fail
        refine HTT.out.mono ?_
        rintro e w1 ⟨rfl, k⟩
        have HB1 := Lib.hid (HB.out.trans (k.mono HB.out.size))
        clear k
        go_wp2
        go_ret
        exact ⟨.inr ⟨i, x, rfl, mem_of_get HX.out, HV.out⟩, HB1.out⟩
      | false =>
        rw [hk] at HTT
        have HK := Lib.hid hk
        clear hk
        go_wp2_with fail
        refine HTT.out.mono ?_
        rintro e w1 ⟨rfl, k⟩
        have HB1 := Lib.hid (HB.out.trans (k.mono HB.out.size))
        clear k
        go_wp2
        go_roundw
        case rel =>
          refine ⟨i + 1, by go_num, by omega, HB1, Lib.hid fun z hz => ?_⟩
          rw [take_snoc HX.out] at hz
          rcases List.mem_append.1 hz with hz | hz
          · exact HNO.out z hz
          · obtain rfl := List.mem_singleton.1 hz
            exact HK.out
        case measure => simp [intOf]; omega
    · have HV := Lib.hid (show ∀ x, x ∈ l → p x = false by
        have h1 := HNO.out
        rwa [List.take_of_length_le (by rw [HL.out]; omega)] at h1)
      have i1 : ¬ (i : Int) < (n : Int) := by omega
      go_wp2
      go_ret
      exact ⟨.inl ⟨rfl, HV.out⟩, HB.out⟩
set_option maxHeartbeats 1000000 in
set_option maxRecDepth 100000 in
theorem has_check (kb : Nat) (A : Option Addr) (c n : Nat) (l : List Rec) (p : Rec → Bool) (w : World) (h : AtRec w A l) (HL : Hid (l.length = n)) (hn : n ≤ 100000) (HT : Hid (∀ r D m c W, r ∈ l → AtCel W D r.data → r.data.length = m → m ≤ c → Below w.heap.size w W → Calls Tryz.prog 104 #[.agg #[.string r.id, .slice D m c], .pointer (some ⟨kb, 0, none⟩)] W fun e w' => e = .returned (.bool (p r)) ∧ Below W.heap.size W w')) :
    Calls Tryz.prog 98 #[.slice A n c, .func (.func 104) #[] #[.pointer (some ⟨kb, 0, none⟩)]] w fun e w' => e = .returned (.bool (l.any p)) ∧ Below w.heap.size w w' := by
  have HC := Lib.hid (idx_check kb A c n l p w h HL hn HT)
  clear h
  go_enter Tryz.func98, Tryz.ntmps98
  go_wp2_with fail
  refine HC.out.mono ?_
  rintro e w1 ⟨hv, k⟩
  have K := Lib.hid k
  clear k
  rcases hv with ⟨rfl, hv⟩ | ⟨i, x, rfl, hx, hv⟩
  · have HV := Lib.hid (show l.any p = false from List.any_eq_false.2 fun x hx => by rw [hv x hx]; simp)
    clear hv
    go_wp2
    go_ret
    exact ⟨ret_bool HV.out.symm, K.out⟩
  · have HV := Lib.hid (show l.any p = true from List.any_eq_true.2 ⟨x, hx, hv⟩)
    have i1 : (0 : Int) ≤ (i : Int) := by omega
    clear hv hx
    go_wp2
    go_ret
    exact ⟨ret_bool HV.out.symm, K.out⟩
end Go.Proofs.YtbdkedjgfihamaaGreatDoor
