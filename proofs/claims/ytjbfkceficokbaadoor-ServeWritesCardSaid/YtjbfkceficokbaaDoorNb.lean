/- Walks: a member written; a number of a fault's. PUT1 -/
import Derived.Test.YtjbfkceficokbaaDoorNa
namespace Go.Proofs.YtjbfkceficokbaaDoor
open Go.RowKit Pv

set_option maxHeartbeats 400000 in
set_option maxRecDepth 100000 in
theorem fault_num (n : Int) (w : World) (B : Nat) (h0 : -9223372036854775808 ≤ n) (h1 : n ≤ 9223372036854775807) (hT : TabsB B w) :
    Calls Tryd.prog 18 #[.int .i64 n] w fun e w' => e = .returned (.string (mkS (Lib.itoa n))) ∧ Below w.heap.size w w' := by
  have HF := Lib.hid (whole_Write n w B h0 h1 hT)
  clear hT
  go_enter Tryd.func18, Tryd.ntmps18
  go_wp2_with fail
  refine HF.out.mono ?_
  rintro e w1 ⟨rfl, hb⟩
  go_wp2
  go_ret
  exact ⟨rfl, hb⟩

set_option maxHeartbeats 400000 in
set_option maxRecDepth 100000 in
theorem member_no (w0 W : World) (B b : Nat) (l : List UInt8) (nm v : ByteArray) (hE : WE w0 W B b l) :
    Calls Tryd.prog 21 #[.pointer (some ⟨b, 0, none⟩), .bool false, .string nm, .string v] W (WPost w0 W B b l (.tuple #[])) := by
  have EE := Lib.hid hE
  clear hE
  go_enter Tryd.func21, Tryd.ntmps21
  go_wp2
  go_end0
  exact ⟨rfl, EE.out, WrK.refl _ _ _ _ _⟩

set_option maxHeartbeats 1000000 in
set_option maxRecDepth 100000 in
theorem member_yes (w0 W : World) (B b : Nat) (l : List UInt8) (nm v : ByteArray) (m : List UInt8) (hE : WE w0 W B b l) (hn : nm.size ≤ 3000) (hv : v.size ≤ 1000000) (hm : bsl v = m) (hl : l.length ≤ 1000000000) :
    Calls Tryd.prog 21 #[.pointer (some ⟨b, 0, none⟩), .bool true, .string nm, .string v] W (WPost w0 W B b (l ++ memS (bsl nm) m) (.tuple #[])) := by
  have EE := Lib.hid hE
  have HQ := Lib.hid (fun (W' : World) (h : TabsB B W') => serve_quote nm W' B (by omega) h)
  have hJ := jq_len (bsl nm)
  rw [bsl_len] at hJ
  have HT : Hid (True ∧ True) := Lib.hid ⟨trivial, trivial⟩
  have hqs : (mkS (jq (bsl nm))).size ≤ 20000 := by rw [mkS_size]; omega
  have HM : Hid (bsl (((({ data := #[44] } : ByteArray) ++ mkS (jq (bsl nm))) ++ ({ data := #[58] } : ByteArray)) ++ v) = memS (bsl nm) m) := Lib.hid (by
    rw [bsl_app, bsl_app, bsl_app, bsl_mkS, hm]; simp [memS]; rfl)
  generalize mkS (jq (bsl nm)) = q at *
  have HWS := Lib.hid (fun (W' : World) (h : WE w0 W' B b l) => we_string h (((({ data := #[44] } : ByteArray) ++ q) ++ ({ data := #[58] } : ByteArray)) ++ v) _ HM.out (by
    have h1 : (((({ data := #[44] } : ByteArray) ++ q) ++ ({ data := #[58] } : ByteArray)) ++ v).size = 1 + q.size + 1 + v.size := by simp only [ByteArray.size_append]; rfl
    omega))
  clear hE hJ hm
  go_enter Tryd.func21, Tryd.ntmps21
  go_wp2
  refine wp_region_T 4 (fun _ => True ∧ True) (by kernel_rfl) ?_
  refine wpAnyT_takeW (i := 0) (v := ?_) rfl (by decide) (by kernel_rfl) (by kernel_rfl) (by kernel_rfl) (fun _ _ _ h => h) (.inl ⟨rfl, ?_⟩) (fun _ => HT.out) ?_
  rotate_left
  · intro W__ _
    go_simp
    (try with_reducible rfl)
  try simp only [Act.put]
  refine wpAnyT_takeW (i := 3) (v := ?_) rfl (by decide) (by kernel_rfl) (by kernel_rfl) (by kernel_rfl) (fun _ _ _ h => h) (.inl ⟨rfl, ?_⟩) (fun _ => HT.out) ?_
  rotate_left
  · intro W__ _
    go_simp
    (try with_reducible rfl)
  try simp only [Act.put]
  refine wpAnyT_takeW (i := 7) (v := ?_) rfl (by decide) (by kernel_rfl) (by kernel_rfl) (by kernel_rfl) (fun _ _ _ h => h) (.inl ⟨rfl, ?_⟩) (fun _ => HT.out) ?_
  rotate_left
  · intro W__ _
    go_simp
    (try with_reducible rfl)
  try simp only [Act.put]
  refine wpAnyT_takeW (i := 1) (v := ?_) rfl (by decide) (by kernel_rfl) (by kernel_rfl) (by kernel_rfl) (fun _ _ _ h => h) (.inl ⟨rfl, ?_⟩) (fun _ => HT.out) ?_
  rotate_left
  · intro W__ _
    go_simp
    (try with_reducible rfl)
  try simp only [Act.put]
  refine wpAnyT_takeW (i := 2) (v := ?_) rfl (by decide) (by kernel_rfl) (by kernel_rfl) (by kernel_rfl) (fun _ _ _ h => h) (.inl ⟨rfl, ?_⟩) (fun _ => HT.out) ?_
  rotate_left
  · intro W__ _
    go_simp
    (try with_reducible rfl)
  try simp only [Act.put]
  refine wpAnyT_end (i := 4) rfl (by kernel_rfl) rfl (by kernel_rfl) fun K__ hK__ => ?_
  unfold Oper.wp
  go_simp
  refine (HQ.out _ (EE.out.next (Below.refl _ _).drew).tb).mono ?_
  rintro e w1 ⟨rfl, hb1⟩
  refine hK__ _ _ ?_
  have E1 := Lib.hid ((EE.out.next (Below.refl _ _).drew).next hb1)
  have K1 := Lib.hid ((WrK.of (T := TW) (e := T8) (B := B) (b := b) (Below.refl W.heap.size W).drew).trans (WrK.of hb1))
  clear hK__ hb1
  try simp only [Act.put]
  have hq1 : (9223372036854775807 < 1 + q.size) = False := eq_false (by omega)
  have hq2 : (9223372036854775807 < 1 + q.size + 1) = False := eq_false (by omega)
  have hq3 : (9223372036854775807 < 1 + q.size + 1 + v.size) = False := eq_false (by omega)
  refine wpAnyT_end (i := 5) rfl (by kernel_rfl) rfl (by kernel_rfl) fun K__ hK__ => ?_
  unfold Oper.wp
  go_simp
  refine hK__ _ _ ?_
  clear hK__
  refine wpAnyT_end (i := 6) rfl (by kernel_rfl) rfl (by kernel_rfl) fun K__ hK__ => ?_
  unfold Oper.wp
  go_simp
  refine hK__ _ _ ?_
  clear hK__
  refine wpAnyT_end (i := 8) rfl (by kernel_rfl) rfl (by kernel_rfl) fun K__ hK__ => ?_
  unfold Oper.wp
  go_simp
  refine hK__ _ _ ?_
  clear hK__
  refine wpAnyT_end (i := 9) rfl (by kernel_rfl) rfl (by kernel_rfl) fun K__ hK__ => ?_
  unfold Oper.wp
  go_simp
  refine (HWS.out _ E1.out).mono ?_
  rintro e w2 ⟨rfl, E2, K2⟩
  refine hK__ _ _ ?_
  have E3 := Lib.hid E2; have K3 := Lib.hid (K1.out.trans K2)
  clear hK__ E2 K2
  try simp only [Act.put]
  refine wpAnyT_done (by kernel_rfl) ?_ _
  go_wp2
  go_end0
  exact ⟨rfl, E3.out, K3.out⟩
end Go.Proofs.YtjbfkceficokbaaDoor
