/- Walks: a value's text (the program's). PUT1 -/
import Derived.Test.YtjbfkceficokbaaDoorLa
import Derived.Test.YtjbfkceficokbaaDoorSc
namespace Pv
open Go Go.RowKit
abbrev AtCl (w : World) (A : Option Addr) (v : List Cl) : Prop := AtK w 5 A RCl v
theorem AtCl.gt {w : World} {A : Option Addr} {v : List Cl} {n i : Nat} (h : AtCl w A v) (HL : Hid (v.length = n)) (hi : i < n) :
    ∃ b off k m t z q, A = some ⟨b, off, none⟩ ∧ b < w.heap.size ∧ (w.cell? ⟨b, off + i * 5, none⟩ = some (.int .u8 k) ∧ w.cell? ⟨b, off + i * 5 + 1, none⟩ = some (.string m) ∧ w.cell? ⟨b, off + i * 5 + 2, none⟩ = some (.string t) ∧
      w.cell? ⟨b, off + i * 5 + 3, none⟩ = some (.int .i64 z) ∧ w.cell? ⟨b, off + i * 5 + 4, none⟩ = some (.int .i64 q)) ∧ (0 ≤ k ∧ k ≤ 255) ∧ (-9223372036854775808 ≤ z ∧ z ≤ 9223372036854775807) ∧ (-9223372036854775808 ≤ q ∧ q ≤ 9223372036854775807) ∧ Hid (v[i]? = some ⟨k, m, t, z, q⟩) := by
  obtain ⟨b, off, f, ⟨k, m, t, z, q⟩, e, hb, hc, ⟨⟨h0, h01⟩, h1, h2, ⟨h3, h31⟩, ⟨h4, h41⟩⟩, hx⟩ := AtK.gt h HL hi
  have c0 := hc 0 (by omega); have c1 := hc 1 (by omega); have c2 := hc 2 (by omega); have c3 := hc 3 (by omega); have c4 := hc 4 (by omega)
  rw [h0] at c0; rw [h1] at c1; rw [h2] at c2; rw [h3] at c3; rw [h4] at c4
  exact ⟨b, off, k, m, t, z, q, e, hb, ⟨c0, c1, c2, c3, c4⟩, h01, h31, h41, hx⟩
end Pv
namespace Go.Proofs.YtjbfkceficokbaaDoor
open Go.RowKit Pv

abbrev TCell : TypeId := 34
/-- The writer under way: what it holds, what stands from before. -/
structure WE (w0 W : World) (B b : Nat) (l : List UInt8) : Prop where
  wr : Wr TW T8 B b l W
  kp : Keep w0 W
  tb : TabsB B W
  h0 : w0.heap.size ≤ B
  hB : B ≤ W.heap.size
theorem WE.step {w0 W W' : World} {B b : Nat} {l l' : List UInt8} (h : WE w0 W B b l) (hw : Wr TW T8 B b l' W') (hk : WrK TW T8 B b W W') : WE w0 W' B b l' :=
  ⟨hw, hk.keep h.wr.ge h.kp h.h0 h.hB, h.tb.next (hk.below h.wr.ge h.hB), h.h0, Nat.le_trans h.hB hk.size⟩
theorem WE.next {w0 W W' : World} {B b : Nat} {l : List UInt8} (h : WE w0 W B b l) (hb : Below W.heap.size W W') : WE w0 W' B b l :=
  h.step (h.wr.next hb) (WrK.of hb)
/-- What a call writes. -/
def WPost (w0 W : World) (B b : Nat) (l : List UInt8) (v : Value) (e : Ending) (w' : World) : Prop := e = .returned v ∧ WE w0 w' B b l ∧ WrK TW T8 B b W w'
theorem we_byte {w0 W : World} {B b : Nat} {l : List UInt8} (h : WE w0 W B b l) (c : UInt8) (hlen : l.length + 1 ≤ 140737488355328) :
    Calls Tryd.prog 8 #[.pointer (some ⟨b, 0, none⟩), .int .u8 c.toNat] W (WPost w0 W B b (l ++ [c]) .nilIface) :=
  (writer_WriteByte B b l c W h.wr hlen h.hB).mono fun _ _ ⟨he, hw, hk⟩ => ⟨he, h.step hw hk, hk⟩
theorem we_string {w0 W : World} {B b : Nat} {l : List UInt8} (h : WE w0 W B b l) (s : ByteArray) (m : List UInt8) (hs : bsl s = m) (hlen : l.length + s.size ≤ 140737488355328) :
    Calls Tryd.prog 9 #[.pointer (some ⟨b, 0, none⟩), .string s] W (WPost w0 W B b (l ++ m) (.tuple #[.int .i64 s.size, .nilIface])) :=
  (writer_WriteString B b l s W h.wr hlen h.hB).mono fun _ _ ⟨he, hw, hk⟩ => ⟨he, hs ▸ h.step hw hk, hk⟩

/-- What the program's value does. -/
def ValW (w0 : World) (B b : Nat) (vA : Option Addr) (n c : Nat) (v : List Cl) (d : Nat) : Prop :=
  ∀ (a : Nat) (W : World) (l : List UInt8), a < n → n - a ≤ d → WE w0 W B b l → l.length + 20000 * (n - a) ≤ 1000000000 →
    Calls Tryd.prog 13 #[.pointer (some ⟨b, 0, none⟩), .slice vA n c, .int .i64 a] W (WPost w0 W B b (l ++ (valF v d a).1) (.int .i64 (valF v d a).2))

set_option maxHeartbeats 2000000 in
set_option maxRecDepth 100000 in
theorem value_leaf (w0 : World) (B b : Nat) (vA : Option Addr) (n c : Nat) (v : List Cl) (g : Nat → List UInt8 × Nat) (hv : AtCl w0 vA v) (HL : Hid (v.length = n)) (hok : ClsOk v) (a : Nat) (x : Cl) (HX : Hid (v[a]? = some x)) (hk : x.kind < 6 ∨ 7 < x.kind) (W : World) (l : List UInt8) (han : a < n) (hE : WE w0 W B b l) (hl : l.length + 20000 * (n - a) ≤ 1000000000) :
    Calls Tryd.prog 13 #[.pointer (some ⟨b, 0, none⟩), .slice vA n c, .int .i64 a] W (WPost w0 W B b (l ++ (valC g v a x).1) (.int .i64 (valC g v a x).2)) := by
  have hn100 : n ≤ 100 := by have := hok.len; rwa [HL.out] at this
  obtain ⟨vb, off, k, m, t, z, q, rfl, hvb, ⟨x0, x1, x2, x3, x4⟩, hkk, hz, hq, HX'⟩ := AtCl.gt hv HL han
  obtain rfl := Option.some.inj (HX.out.symm.trans HX'.out)
  have ht : t.size ≤ 3000 := hok.text a _ HX.out
  simp only at hk
  have y0 := (hE.kp.cell _ _ hvb).trans x0
  have y1 := (hE.kp.cell _ _ hvb).trans x1
  have y2 := (hE.kp.cell _ _ hvb).trans x2
  have y3 := (hE.kp.cell _ _ hvb).trans x3
  have y4 := (hE.kp.cell _ _ hvb).trans x4
  have hlt := Nat.lt_of_lt_of_le hvb hE.kp.size
  have hW : Below W.heap.size W (W.alloc (.cells #[.int .u8 k, .string m, .string t, .int .i64 z, .int .i64 q] TCell)) := (Below.refl _ _).alloc (Nat.le_refl _) _
  have E1 := Lib.hid (hE.next hW)
  have K1 := Lib.hid (WrK.of (T := TW) (e := T8) (B := B) (b := b) hW)
  have BX := Lib.hid (Blk.new W TCell #[.int .u8 k, .string m, .string t, .int .i64 z, .int .i64 q])
  clear x0 x1 x2 x3 x4 hW hE
  have hll : l.length ≤ 1000000000 := by omega
  by_cases h1 : k = 1
  · subst h1
    by_cases hz0 : z = 0
    · subst hz0
      have HR := Lib.hid (show valC g v a ⟨1, m, t, 0, q⟩ = ([102, 97, 108, 115, 101], a + 1) by unfold valC; simp)
      rw [HR.out]
      have HWS := Lib.hid (we_string E1.out { data := #[102, 97, 108, 115, 101] } [102, 97, 108, 115, 101] rfl (by show l.length + 5 ≤ _; omega))
      clear HR hkk hq hk hz
      go_enter Tryd.func13, Tryd.ntmps13
      go_wp2_with fail
      refine HWS.out.mono ?_
      rintro e w1 ⟨rfl, E2, K2⟩
      have EE := Lib.hid E2; have KK := Lib.hid (K1.out.trans K2)
      clear E2 K2
      go_wp2
      go_ret
      exact ⟨ret_int (by go_num), EE.out, KK.out⟩
    · have HR := Lib.hid (show valC g v a ⟨1, m, t, z, q⟩ = ([116, 114, 117, 101], a + 1) by unfold valC; simp [hz0])
      rw [HR.out]
      have HWS := Lib.hid (we_string E1.out { data := #[116, 114, 117, 101] } [116, 114, 117, 101] rfl (by show l.length + 4 ≤ _; omega))
      have q0 : (z == 0) = false := by simpa using hz0
      clear HR hkk hq hk hz hz0
      go_enter Tryd.func13, Tryd.ntmps13
      go_wp2_with fail
      refine HWS.out.mono ?_
      rintro e w1 ⟨rfl, E2, K2⟩
      have EE := Lib.hid E2; have KK := Lib.hid (K1.out.trans K2)
      clear E2 K2
      go_wp2
      go_ret
      exact ⟨ret_int (by go_num), EE.out, KK.out⟩
  by_cases h2 : k = 2
  · subst h2
    have HR := Lib.hid (show valC g v a ⟨2, m, t, z, q⟩ = (Lib.itoa z, a + 1) by unfold valC; simp)
    rw [HR.out]
    have hI := itoa_len z hz.1 hz.2
    have HWR := Lib.hid (fun (W' : World) (h : TabsB B W') => whole_Write z W' B hz.1 hz.2 h)
    have HST := Lib.hid (fun (W' : World) (h : WE w0 W' B b l) => we_string h (mkS (Lib.itoa z)) (Lib.itoa z) (bsl_mkS _) (by rw [mkS_size]; omega))
    have HS : Hid ((W.alloc (.cells #[.int .u8 2, .string m, .string t, .int .i64 z, .int .i64 q] TCell)).drew.cell? ⟨W.heap.size, 3, none⟩ = some (.int .i64 z) ∧ True) := Lib.hid ⟨BX.out.cell 3, trivial⟩
    generalize mkS (Lib.itoa z) = r at *
    generalize Lib.itoa z = it at *
    clear HR hkk hq hk hI h1
    go_enter Tryd.func13, Tryd.ntmps13
    go_wp2_with fail
    refine wp_region_T 5 (fun W' => W'.cell? ⟨W.heap.size, 3, none⟩ = some (.int .i64 z) ∧ True) (by kernel_rfl) ?_
    refine wpAnyT_takeW (i := 0) (v := ?_) rfl (by decide) (by kernel_rfl) (by kernel_rfl) (by kernel_rfl) (fun _ _ _ h => h) (.inl ⟨rfl, ?_⟩) (fun _ => HS.out) ?_
    rotate_left
    · intro W__ _
      go_simp
      (try with_reducible rfl)
    try simp only [Act.put]
    refine wpAnyT_takeW (i := 3) (v := ?_) rfl (by decide) (by kernel_rfl) (by kernel_rfl) (by kernel_rfl) (fun _ _ _ h => h) (.inl ⟨rfl, ?_⟩) (fun _ => HS.out) ?_
    rotate_left
    · intro W__ _
      go_simp
      (try with_reducible rfl)
    try simp only [Act.put]
    refine wpAnyT_takeW (i := 1) (v := ?_) rfl (by decide) (by kernel_rfl) (by kernel_rfl) (by kernel_rfl) (fun _ _ _ h => h) (.inl ⟨rfl, ?_⟩) (fun _ => HS.out) ?_
    rotate_left
    · intro W__ _
      go_simp
      (try with_reducible rfl)
    try simp only [Act.put]
    refine wpAnyT_takeW (i := 2) (v := ?_) rfl (by decide) (by kernel_rfl) (by kernel_rfl) (by kernel_rfl) (fun _ _ _ h => h) (.inl ⟨rfl, ?_⟩) (fun _ => HS.out) ?_
    rotate_left
    · intro W__ _
      go_simp
      (try with_reducible rfl)
    try simp only [Act.put]
    refine wpAnyT_take (i := 4) (v := ?_) rfl (by kernel_rfl) (by kernel_rfl) (by kernel_rfl) (by kernel_rfl) (by kernel_rfl) (fun _ _ _ h => h) (.inl ⟨rfl, ?_⟩) HS.out ?_
    rotate_left
    · intro W__ hW__
      obtain ⟨g1, g2⟩ := hW__
      go_simp
      (try with_reducible rfl)
    try simp only [Act.put]
    refine wpAnyT_end (i := 5) rfl (by kernel_rfl) rfl (by kernel_rfl) fun K__ hK__ => ?_
    unfold Oper.wp
    go_simp
    refine (HWR.out _ (E1.out.next (Below.refl _ _).drew).tb).mono ?_
    rintro e w1 ⟨rfl, hb1⟩
    refine hK__ _ _ ?_
    have E2 := Lib.hid ((E1.out.next (Below.refl _ _).drew).next hb1)
    have K2 := Lib.hid ((K1.out.trans (WrK.of (Below.refl _ _).drew)).trans (WrK.of hb1))
    clear hK__ hb1
    try simp only [Act.put]
    refine wpAnyT_end (i := 6) rfl (by kernel_rfl) rfl (by kernel_rfl) fun K__ hK__ => ?_
    unfold Oper.wp
    go_simp
    refine (HST.out _ E2.out).mono ?_
    rintro e w2 ⟨rfl, E3, K3⟩
    refine hK__ _ _ ?_
    have EE := Lib.hid E3; have KK := Lib.hid (K2.out.trans K3)
    clear hK__ E3 K3
    try simp only [Act.put]
    refine wpAnyT_done (by kernel_rfl) ?_ _
    go_wp2
    go_ret
    exact ⟨ret_int (by go_num), EE.out, KK.out⟩
  by_cases h3 : k = 3 ∨ k = 4
  · have HR := Lib.hid (show valC g v a ⟨k, m, t, z, q⟩ = (jq (bsl t), a + 1) by unfold valC; simp only; rw [if_neg h1, if_neg h2, if_pos h3])
    rw [HR.out]
    have hJ := jq_len (bsl t)
    rw [bsl_len] at hJ
    have HWR := Lib.hid (fun (W' : World) (h : TabsB B W') => serve_quote t W' B (by omega) h)
    have HST := Lib.hid (fun (W' : World) (h : WE w0 W' B b l) => we_string h (mkS (jq (bsl t))) (jq (bsl t)) (bsl_mkS _) (by rw [mkS_size]; omega))
    have HS : Hid ((W.alloc (.cells #[.int .u8 k, .string m, .string t, .int .i64 z, .int .i64 q] TCell)).drew.cell? ⟨W.heap.size, 2, none⟩ = some (.string t) ∧ True) := Lib.hid ⟨BX.out.cell 2, trivial⟩
    generalize mkS (jq (bsl t)) = r at *
    generalize jq (bsl t) = it at *
    clear HR hkk hq hk hJ h1 h2
    rcases h3 with rfl | rfl
    all_goals
      go_enter Tryd.func13, Tryd.ntmps13
      go_wp2_with fail
      refine wp_region_T 5 (fun W' => W'.cell? ⟨W.heap.size, 2, none⟩ = some (.string t) ∧ True) (by kernel_rfl) ?_
      refine wpAnyT_takeW (i := 0) (v := ?_) rfl (by decide) (by kernel_rfl) (by kernel_rfl) (by kernel_rfl) (fun _ _ _ h => h) (.inl ⟨rfl, ?_⟩) (fun _ => HS.out) ?_
      rotate_left
      · intro W__ _
        go_simp
        (try with_reducible rfl)
      try simp only [Act.put]
      refine wpAnyT_takeW (i := 3) (v := ?_) rfl (by decide) (by kernel_rfl) (by kernel_rfl) (by kernel_rfl) (fun _ _ _ h => h) (.inl ⟨rfl, ?_⟩) (fun _ => HS.out) ?_
      rotate_left
      · intro W__ _
        go_simp
        (try with_reducible rfl)
      try simp only [Act.put]
      refine wpAnyT_takeW (i := 1) (v := ?_) rfl (by decide) (by kernel_rfl) (by kernel_rfl) (by kernel_rfl) (fun _ _ _ h => h) (.inl ⟨rfl, ?_⟩) (fun _ => HS.out) ?_
      rotate_left
      · intro W__ _
        go_simp
        (try with_reducible rfl)
      try simp only [Act.put]
      refine wpAnyT_takeW (i := 2) (v := ?_) rfl (by decide) (by kernel_rfl) (by kernel_rfl) (by kernel_rfl) (fun _ _ _ h => h) (.inl ⟨rfl, ?_⟩) (fun _ => HS.out) ?_
      rotate_left
      · intro W__ _
        go_simp
        (try with_reducible rfl)
      try simp only [Act.put]
      refine wpAnyT_take (i := 4) (v := ?_) rfl (by kernel_rfl) (by kernel_rfl) (by kernel_rfl) (by kernel_rfl) (by kernel_rfl) (fun _ _ _ h => h) (.inl ⟨rfl, ?_⟩) HS.out ?_
      rotate_left
      · intro W__ hW__
        obtain ⟨g1, g2⟩ := hW__
        go_simp
        (try with_reducible rfl)
      try simp only [Act.put]
      refine wpAnyT_end (i := 5) rfl (by kernel_rfl) rfl (by kernel_rfl) fun K__ hK__ => ?_
      unfold Oper.wp
      go_simp
      refine (HWR.out _ (E1.out.next (Below.refl _ _).drew).tb).mono ?_
      rintro e w1 ⟨rfl, hb1⟩
      refine hK__ _ _ ?_
      have E2 := Lib.hid ((E1.out.next (Below.refl _ _).drew).next hb1)
      have K2 := Lib.hid ((K1.out.trans (WrK.of (Below.refl _ _).drew)).trans (WrK.of hb1))
      clear hK__ hb1
      try simp only [Act.put]
      refine wpAnyT_end (i := 6) rfl (by kernel_rfl) rfl (by kernel_rfl) fun K__ hK__ => ?_
      unfold Oper.wp
      go_simp
      refine (HST.out _ E2.out).mono ?_
      rintro e w2 ⟨rfl, E3, K3⟩
      refine hK__ _ _ ?_
      have EE := Lib.hid E3; have KK := Lib.hid (K2.out.trans K3)
      clear hK__ E3 K3
      try simp only [Act.put]
      refine wpAnyT_done (by kernel_rfl) ?_ _
      go_wp2
      go_ret
      exact ⟨ret_int (by go_num), EE.out, KK.out⟩
  · have h6 : k ≠ 6 := by omega
    have h7 : k ≠ 7 := by omega
    have HR := Lib.hid (show valC g v a ⟨k, m, t, z, q⟩ = ([110, 117, 108, 108], a + 1) by unfold valC; simp only; rw [if_neg h1, if_neg h2, if_neg h3, if_neg h6, if_neg h7])
    rw [HR.out]
    have HWS := Lib.hid (we_string E1.out { data := #[110, 117, 108, 108] } [110, 117, 108, 108] rfl (by show l.length + 4 ≤ _; omega))
    have q1 : (k == 1) = false := by simpa using h1
    have q2 : (k == 2) = false := by simpa using h2
    have q3 : (k == 3) = false := by simp; omega
    have q4 : (k == 4) = false := by simp; omega
    have q6 : (k == 6) = false := by simpa using h6
    have q7 : (k == 7) = false := by simpa using h7
    clear HR hkk hq hk hz h1 h2 h3 h6 h7
    go_enter Tryd.func13, Tryd.ntmps13
    go_wp2_with fail
    refine HWS.out.mono ?_
    rintro e w1 ⟨rfl, E2, K2⟩
    have EE := Lib.hid E2; have KK := Lib.hid (K1.out.trans K2)
    clear E2 K2
    go_wp2
    go_ret
    exact ⟨ret_int (by go_num), EE.out, KK.out⟩
end Go.Proofs.YtjbfkceficokbaaDoor
