/- Walks: a response's text (the program's). PUT1 -/
import Derived.Test.YtjbfkceficokbaaDoorNd
import Derived.StillTailTactics
namespace Pv
open Go Go.RowKit
abbrev AtFt (w : World) (A : Option Addr) (l : List Ft) : Prop := AtK w 6 A (RFt w) l
theorem AtFt.keep {w w' : World} {A : Option Addr} {l : List Ft} (h : AtFt w A l) (k : Keep w w') : AtFt w' A l := AtK.keepR h k fun _ _ h => h.keep k
theorem AtFt.gt {w : World} {A : Option Addr} {l : List Ft} {n i : Nat} (h : AtFt w A l) (HL : Hid (l.length = n)) (hi : i < n) :
    ∃ b off co pA pn pc p di ru li cl, A = some ⟨b, off, none⟩ ∧ b < w.heap.size ∧ (w.cell? ⟨b, off + i * 6, none⟩ = some (.string co) ∧ w.cell? ⟨b, off + i * 6 + 1, none⟩ = some (.slice pA pn pc) ∧ w.cell? ⟨b, off + i * 6 + 2, none⟩ = some (.string di) ∧
      w.cell? ⟨b, off + i * 6 + 3, none⟩ = some (.int .i64 ru) ∧ w.cell? ⟨b, off + i * 6 + 4, none⟩ = some (.int .i64 li) ∧ w.cell? ⟨b, off + i * 6 + 5, none⟩ = some (.int .i64 cl)) ∧ AtK w 2 pA RSt p ∧ Hid (p.length = pn) ∧ pn ≤ pc ∧ Hid (l[i]? = some ⟨co, p, di, ru, li, cl⟩) := by
  obtain ⟨b, off, f, ⟨co, p, di, ru, li, cl⟩, e, hb, hc, ⟨h0, ⟨pA, pc, h1, hp, hpc⟩, h2, ⟨h3, _⟩, ⟨h4, _⟩, ⟨h5, _⟩⟩, hx⟩ := AtK.gt h HL hi
  have c0 := hc 0 (by omega); have c1 := hc 1 (by omega); have c2 := hc 2 (by omega); have c3 := hc 3 (by omega); have c4 := hc 4 (by omega); have c5 := hc 5 (by omega)
  rw [h0] at c0; rw [h1] at c1; rw [h2] at c2; rw [h3] at c3; rw [h4] at c4; rw [h5] at c5
  exact ⟨b, off, co, pA, p.length, pc, p, di, ru, li, cl, e, hb, ⟨c0, c1, c2, c3, c4, c5⟩, hp, rfl, hpc, hx⟩
end Pv
namespace Go.Proofs.YtjbfkceficokbaaDoor
open Go.RowKit Pv

abbrev TFs : TypeId := 23
abbrev TPW : TypeId := 35

set_option maxHeartbeats 2000000 in
set_option maxRecDepth 100000 in
theorem write_part (w0 W : World) (B b vb fb : Nat) (l : List UInt8) (lA : Option Addr) (n c : Nat) (fs : List Ft) (i : Nat) (hfs : AtFt w0 lA fs) (HL : Hid (fs.length = n)) (hi : i < n) (hok : ∀ (i : Nat) x, fs[i]? = some x → FtOk x) (hE : WE w0 W B b l) (hl : l.length ≤ 500000000)
    (hv : Blk W vb TPW #[.pointer (some ⟨b, 0, none⟩)]) (hf : Blk W fb TFs #[.slice lA n c]) :
    Calls Tryd.prog 11 #[.int .i64 i, .pointer (some ⟨vb, 0, none⟩), .pointer (some ⟨fb, 0, none⟩)] W (WPost w0 W B b (l ++ faultsF fs i) (.bool true)) := by
  obtain ⟨lb, off, co, pA, pn, pc, p, di, ru, li, cl, rfl, hlb, ⟨x0, x1, x2, x3, x4, x5⟩, hp, HP, hpc, HX⟩ := AtFt.gt hfs HL hi
  have y0 := (hE.kp.cell _ _ hlb).trans x0
  have y1 := (hE.kp.cell _ _ hlb).trans x1
  have y2 := (hE.kp.cell _ _ hlb).trans x2
  have y3 := (hE.kp.cell _ _ hlb).trans x3
  have y4 := (hE.kp.cell _ _ hlb).trans x4
  have y5 := (hE.kp.cell _ _ hlb).trans x5
  have hlt := Nat.lt_of_lt_of_le hlb hE.kp.size
  have v0 := hv.cell 0; have f0 := hf.cell 0
  simp at v0 f0
  have hvl := hv.lt; have hfl := hf.lt
  have HF := Lib.hid (show faultsF fs i = faultS ⟨co, p, di, ru, li, cl⟩ by unfold faultsF; rw [HX.out])
  have HC := Lib.hid (fun (W' : World) (h : WE w0 W' B b l) => serve_fault w0 W' B b l co di pA pn pc p ru li cl hp HP (hok i _ HX.out) h hl)
  have EE := Lib.hid hE
  rw [HF.out]
  generalize faultS ⟨co, p, di, ru, li, cl⟩ = fo at *
  have i1 : (0 : Int) ≤ (i : Int) := by omega
  have i2 : (i : Int) < (n : Int) := by omega
  clear x0 x1 x2 x3 x4 x5 hp hE hv hf hfs hok HF
  go_enter Tryd.func11, Tryd.ntmps11
  go_wp2
  go_still_tail 5, (by kernel_rfl)
  change wpList _ _ _ _ _ W.drew
  have E1 := Lib.hid (EE.out.next (Below.refl _ _).drew)
  have K1 := Lib.hid (WrK.of (T := TW) (e := T8) (B := B) (b := b) (Below.refl W.heap.size W).drew)
  clear y0 y1 y2 y3 y4 y5 v0 f0
  generalize W.drew = W2 at *
  go_wp2_with fail
  refine (HC.out _ E1.out).mono ?_
  rintro e w2 ⟨rfl, E', K'⟩
  have E2 := Lib.hid E'; have K2 := Lib.hid (K1.out.trans K')
  clear E' K'
  go_wp2
  go_ret
  exact ⟨rfl, E2.out, K2.out⟩

set_option maxHeartbeats 2000000 in
set_option maxRecDepth 100000 in
theorem write_list (w0 W : World) (B b vb fb : Nat) (l : List UInt8) (lA : Option Addr) (n c : Nat) (fs : List Ft) (hfs : AtFt w0 lA fs) (HL : Hid (fs.length = n)) (hn : n ≤ 20) (hok : ∀ (i : Nat) x, fs[i]? = some x → FtOk x) (hE : WE w0 W B b l) (hl : l.length ≤ 1000000)
    (hv : Blk W vb TPW #[.pointer (some ⟨b, 0, none⟩)]) (hf : Blk W fb TFs #[.slice lA n c]) (hvb : vb ≠ b) (hfb : fb ≠ b) :
    Calls Tryd.prog 10 #[.pointer (some ⟨b, 0, none⟩), .string { data := #[91] }, .string { data := #[93] }, .int .i64 n, .func (.func 11) #[] #[.pointer (some ⟨vb, 0, none⟩), .pointer (some ⟨fb, 0, none⟩)]] W (WPost w0 W B b (l ++ ([91] ++ (commaN (faultsF fs) n ++ [93]))) (.tuple #[])) := by
  have EE := Lib.hid hE; have HV := Lib.hid hv; have HF := Lib.hid hf
  have HO := Lib.hid (we_stringV hE { data := #[91] } [91] rfl (by show l.length + 1 ≤ _; omega))
  have HCL := Lib.hid (fun k => commaN_len (faultsF_len hok) k)
  have HPT := Lib.hid (fun (i : Nat) (W' : World) (l' : List UInt8) (hi : i < n) (h : WE w0 W' B b l') (hl' : l'.length ≤ 500000000) (h1 : Blk W' vb TPW #[.pointer (some ⟨b, 0, none⟩)]) (h2 : Blk W' fb TFs #[.slice lA n c]) => write_part w0 W' B b vb fb l' lA n c fs i hfs HL hi hok h hl' h1 h2)
  clear hE hv hf hfs hok
  go_enter Tryd.func10, Tryd.ntmps10
  go_wp2_with fail
  refine HO.out.mono ?_
  rintro e w1 ⟨vv, rfl, E', K'⟩
  have E1 := Lib.hid E'; have K1 := Lib.hid K'; have V1 := Lib.hid (K'.blk HV.out (by decide) hvb); have F1 := Lib.hid (K'.blk HF.out (by decide) hfb)
  clear E' K'
  go_wp2
  go_loopw [17] (fun iv wr => ∃ k : Nat, iv = .int .i64 k ∧ k ≤ n ∧ WE w0 wr B b (l ++ [91] ++ commaN (faultsF fs) k) ∧ WrK TW T8 B b W wr ∧ Blk wr vb TPW #[.pointer (some ⟨b, 0, none⟩)] ∧ Blk wr fb TFs #[.slice lA n c]) (fun iv _ => n - (intOf iv).toNat)
  case atStart => exact ⟨0, rfl, by omega, by simpa [commaN] using E1.out, K1.out, V1.out, F1.out⟩
  case round =>
    obtain ⟨k, rfl, hk, hE, hK, hV, hF⟩ := hrel
    have E2 := Lib.hid hE; have K2 := Lib.hid hK; have V2 := Lib.hid hV; have F2 := Lib.hid hF
    have hlk : (l ++ [91] ++ commaN (faultsF fs) k).length ≤ 20000000 := by
      have h1 := HCL.out k
      have h2 := Nat.mul_le_mul_right (460000 + 1) (Nat.le_trans hk hn)
      simp only [List.length_append, List.length_cons, List.length_nil]; omega
    clear hE hK hV hF
    by_cases hlt : k < n
    · have HSN := Lib.hid (show commaN (faultsF fs) (k + 1) = commaN (faultsF fs) k ++ (sepL k ++ faultsF fs k) from rfl)
      rcases Nat.eq_zero_or_pos k with hk0 | hk0
      · have HSP := Lib.hid (show sepL k = [] by rw [hk0]; rfl)
        have t2 : decide (0 < k) = false := decide_eq_false (by omega)
        clear hk0
        go_wp2_with fail
        refine (HPT.out k _ _ hlt E2.out (by omega) V2.out F2.out).mono ?_
        rintro e w2 ⟨rfl, E', K'⟩
        have E3 := Lib.hid E'; have K3 := Lib.hid (K2.out.trans K'); have V3 := Lib.hid (K'.blk V2.out (by decide) hvb); have F3 := Lib.hid (K'.blk F2.out (by decide) hfb)
        clear E' K'
        go_wp2
        go_roundw
        case rel => exact ⟨k + 1, by go_num, by omega, by rw [HSN.out, HSP.out]; simpa [List.append_assoc] using E3.out, K3.out, V3.out, F3.out⟩
        case measure => simp [intOf]; omega
      · have HSP := Lib.hid (sepL_s hk0)
        have t2 : decide (0 < k) = true := decide_eq_true hk0
        have HB := Lib.hid (we_byte E2.out 44 (by omega))
        clear hk0
        go_wp2_with fail
        refine HB.out.mono ?_
        rintro e w2 ⟨rfl, E', K'⟩
        have E3 := Lib.hid E'; have K3 := Lib.hid (K2.out.trans K'); have V3 := Lib.hid (K'.blk V2.out (by decide) hvb); have F3 := Lib.hid (K'.blk F2.out (by decide) hfb)
        clear E' K'
        go_wp2_with fail
        refine (HPT.out k _ _ hlt E3.out (by rw [List.length_append]; simp only [List.length_cons, List.length_nil]; omega) V3.out F3.out).mono ?_
        rintro e w3 ⟨rfl, E', K'⟩
        have E4 := Lib.hid E'; have K4 := Lib.hid (K3.out.trans K'); have V4 := Lib.hid (K'.blk V3.out (by decide) hvb); have F4 := Lib.hid (K'.blk F3.out (by decide) hfb)
        clear E' K'
        go_wp2
        go_roundw
        case rel => exact ⟨k + 1, by go_num, by omega, by rw [HSN.out, HSP.out]; simpa [List.append_assoc] using E4.out, K4.out, V4.out, F4.out⟩
        case measure => simp [intOf]; omega
    · obtain rfl : k = n := by omega
      have HB := Lib.hid (we_stringV E2.out { data := #[93] } [93] rfl (by show _ + 1 ≤ _; omega))
      go_wp2_with fail
      refine HB.out.mono ?_
      rintro e w2 ⟨vv2, rfl, E', K'⟩
      have E3 := Lib.hid E'; have K3 := Lib.hid (K2.out.trans K')
      clear E' K'
      go_wp2
      go_end0
      exact ⟨rfl, by simpa [List.append_assoc] using E3.out, K3.out⟩
end Go.Proofs.YtjbfkceficokbaaDoor
