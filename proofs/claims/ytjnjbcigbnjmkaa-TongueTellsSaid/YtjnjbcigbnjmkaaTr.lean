/- Walks: through nodes side by side (the program's). -/
import Derived.Test.YtjnjbcigbnjmkaaTq
namespace Go.Proofs.Ytjnjbcigbnjmkaa
open Go.RowKit Go.ChangeMaps Pv

set_option maxHeartbeats 2000000 in
set_option maxRecDepth 100000 in
theorem thr_alt (w0 : World) (e0 e1 pm mb n : Nat) (tA EA pA : Option Addr) (nt ct ec cp : Nat) (t : List Rx) (pts : List Int) (i : Nat) (l : List Rng) (many least most : Int) (ks : List Tr) (hn : n ≤ 1000)
    (ht : AtRx w0 tA t) (HT : Hid (t.length = nt)) (hnt : nt ≤ 64) (HX : Hid (t[i]? = some ⟨3, l, many, least, most⟩))
    (HZ : Hid ((endsL t)[i]? = some ((i + 1 + sizes ks : Nat) : Int)))
    (HEND : Hid (∀ (j : Nat) (k : Tr), ks[j]? = some k → (endsL t)[i + 1 + sizes (ks.take j)]? = some ((i + 1 + sizes (ks.take (j + 1)) : Nat) : Int) ∧ i + 1 + sizes (ks.take j) < nt))
    (HLT : Hid (∀ j, j < ks.length → sizes (ks.take j) < sizes ks ∧ sizes (ks.take j) < sizes (ks.take (j + 1)) ∧ sizes (ks.take (j + 1)) ≤ sizes ks))
    (HIH : Hid (∀ j k, ks[j]? = some k → ThrC w0 e0 e1 pm mb n tA EA pA nt ct ec cp t pts k (i + 1 + sizes (ks.take j)))) (hzs : i + 1 + sizes ks ≤ 64) :
    ThrC w0 e0 e1 pm mb n tA EA pA nt ct ec cp t pts (.mk ⟨3, l, many, least, most⟩ ks) i := by
  intro W g o fc S X hE hS hA hX
  have hm1 := fun W : World => run_make_row' (P := Try.prog) 24 4 (.bool false) 1 Try.underlying24 info_bool rfl .i64 .i64 (n + 1) (by omega) (by omega) W
  simp only [Int.natCast_add, Int.cast_ofNat_Int] at hm1
  have hin : i < nt := by have := lt_of_get HX.out; rwa [HT.out] at this
  obtain ⟨b, off, kd, B, cs, m, l', many', least', most', rfl, H5, hset, HM, hmc, hkd, hma, hle, hmo, HX'⟩ := ht.g5 HT hin
  obtain ⟨rfl, rfl, rfl, rfl, rfl⟩ := Rx.mk.inj (Option.some.inj (HX'.out.symm.trans HX.out))
  obtain ⟨y0, y1, y2, y3, y4, y5⟩ := H5.next hE.kp
  obtain ⟨hpm, m0, m1, m2, m3⟩ := hE.cells
  have hW1 : Below W.heap.size W (W.alloc (.cells #[.int .u8 3, .slice B m cs, .int .i64 many', .int .i64 least', .int .i64 most'] 100)) := (Below.refl _ _).alloc (Nat.le_refl _) _
  have hW2 : Below (W.alloc (.cells #[.int .u8 3, .slice B m cs, .int .i64 many', .int .i64 least', .int .i64 most'] 100)).heap.size (W.alloc (.cells #[.int .u8 3, .slice B m cs, .int .i64 many', .int .i64 least', .int .i64 most'] 100)) ((W.alloc (.cells #[.int .u8 3, .slice B m cs, .int .i64 many', .int .i64 least', .int .i64 most'] 100)).alloc (.cells (madeCells #[.bool false] (n + 1)) 4)) := (Below.refl _ _).alloc (Nat.le_refl _) _
  have hW : Below W.heap.size W ((W.alloc (.cells #[.int .u8 3, .slice B m cs, .int .i64 many', .int .i64 least', .int .i64 most'] 100)).alloc (.cells (madeCells #[.bool false] (n + 1)) 4)) := hW1.alloc (by simp) _
  have hgl := At.lt hA
  have E1 := (hE.next hW1).more (b := W.heap.size + 1) (by simp) hW2 (by simp)
  have R0 := BRow.made (W.alloc (.cells #[.int .u8 3, .slice B m cs, .int .i64 many', .int .i64 least', .int .i64 most'] 100)) 4 n
  rw [show (W.alloc (.cells #[.int .u8 3, .slice B m cs, .int .i64 many', .int .i64 least', .int .i64 most'] 100)).heap.size = W.heap.size + 1 by simp] at R0
  have EE0 := Lib.hid E1
  have RR0 := Lib.hid (R0.congr (S' := im (spAlt pts []) S) (fun a _ => by simp [im, spAlt]))
  have A1 := Lib.hid (hA.keep (Keep.of hW))
  have F1 := Lib.hid (Fr.of (mb := mb) hW)
  have hmbW : W.heap.size + 1 ≠ mb := by have := hE.lm; have := hE.ge; omega
  have hgX : ¬ (X g ∨ g = W.heap.size + 1) := by rintro (h | h); exact hX h; omega
  have HNX := Lib.hid hgX; have HSS := Lib.hid hS
  have HXW := Lib.hid (fun x hx => hE.hi x hx)
  obtain ⟨RR, hRR⟩ : ∃ RR, im (spT pts (.mk ⟨3, l', many', least', most'⟩ ks)) S = RR := ⟨_, rfl⟩
  rw [hRR]
  have HR := Lib.hid (show im (spAlt pts ks) S = RR from by
    rw [← hRR]; funext a; apply propext
    constructor
    · rintro ⟨c, h1, h2⟩; exact ⟨c, h1, by rw [spT, if_neg (by simp), if_neg (by simp), if_neg (by simp), if_pos rfl]; exact h2⟩
    · rintro ⟨c, h1, h2⟩; rw [spT, if_neg (by simp), if_neg (by simp), if_neg (by simp), if_pos rfl] at h2; exact ⟨c, h1, h2⟩)
  clear hE hA H5 ht hset HX' hW hRR hX hS hW1 hW2 E1 R0 hgX
  go_enter Try.func72, Try.ntmps72
  go_wp2
  go_loopw [13] (fun kv wr => ∃ j : Nat, j ≤ ks.length ∧ kv = .int .i64 ((i + 1 + sizes (ks.take j) : Nat) : Int) ∧ BRow wr 4 (W.heap.size + 1) n (im (spAlt pts (ks.take j)) S) ∧ At wr (some ⟨g, o, none⟩) RB (lst n S) ∧ WkE w0 wr e0 e1 pm mb n (some ⟨b, off, none⟩) EA pA nt ct ec cp t pts (fun x => X x ∨ x = W.heap.size + 1) ∧ Fr mb W wr) (fun kv _ => (i + 1 + sizes ks) - (intOf kv).toNat)
  case atStart => exact ⟨0, by omega, by simp [sizes, flats], RR0.out, A1.out, EE0.out, F1.out⟩
  case round =>
    clear y0 y1 y2 y3 y4 y5 m0 m1 m2 m3
    obtain ⟨j, hj, rfl, hrow, hat, hwe, hfr⟩ := hrel
    have ROW := Lib.hid hrow; have AT := Lib.hid hat; have EE := Lib.hid hwe; have FF := Lib.hid hfr
    clear hrow hat hwe hfr
    obtain ⟨hpm2, m0, m1, m2, m3⟩ := EE.out.cells
    obtain ⟨eg, eE, egl, egc⟩ := own_get1 (k := i) (u := .int .i64 ((i + 1 + sizes ks : Nat) : Int)) EE.out.oe (by rw [List.getElem?_map, HZ.out]; rfl)
    subst eE
    obtain ⟨ze, hze⟩ : ∃ ze, i + 1 + sizes ks = ze := ⟨_, rfl⟩
    rw [hze] at egc
    by_cases hlt : j < ks.length
    · have hkk : ks[j]? = some (ks[j]) := List.getElem?_eq_getElem hlt
      obtain ⟨hps, hst, hst2⟩ := HLT.out j hlt
      generalize ks[j] = k0 at hkk
      obtain ⟨hen1, hen2⟩ := HEND.out j k0 hkk
      have HC := Lib.hid (HIH.out j k0 hkk wr g o fc S _ EE.out HSS.out AT.out HNX.out)
      have HSN := Lib.hid (show ∀ a, a ≤ n → ((im (spAlt pts (ks.take j)) S a ∨ im (spT pts k0) S a) ↔ im (spAlt pts (ks.take (j + 1))) S a) from fun a _ => by
        rw [take_snoc hkk]
        constructor
        · rintro (⟨c, h1, h2⟩ | ⟨c, h1, h2⟩)
          · exact ⟨c, h1, (spAlt_snoc pts k0 _ c a).2 (.inl h2)⟩
          · exact ⟨c, h1, (spAlt_snoc pts k0 _ c a).2 (.inr h2)⟩
        · rintro ⟨c, h1, h2⟩
          rcases (spAlt_snoc pts k0 _ c a).1 h2 with h3 | h3
          · exact .inl ⟨c, h1, h3⟩
          · exact .inr ⟨c, h1, h3⟩)
      have HEN1 := Lib.hid hen1
      generalize hp : i + 1 + sizes (ks.take j) = p at *
      have HPP := Lib.hid hp
      have hpz : p < ze := by omega
      have HZE2 := Lib.hid hze
      clear hkk hen1 hp hze
      go_wp2_with fail
      refine HC.out.mono ?_
      rintro e w1 ⟨g3, o3, c3, rfl, at3, nx3, we3, fr3⟩
      have R3 := Lib.hid (BRow.fr ROW.out fr3 hmbW)
      have A3 := Lib.hid (AT.out.keep fr3.1); have E3 := Lib.hid we3; have F3 := Lib.hid (FF.out.trans fr3)
      have HAD := Lib.hid (tongue_add (W.heap.size + 1) n (n + 1) c3 (some ⟨g3, o3, none⟩) _ _ w1 hn R3.out at3 (fun g' o' e => by
        injection e with e; injection e with e1 _
        subst e1
        exact fun h => nx3 (.inr h)))
      clear at3 we3 fr3 m0 m1 m2 m3 egc
      go_wp2_with fail
      refine HAD.out.mono ?_
      rintro e w2 ⟨rfl, r4, o4⟩
      have R4 := Lib.hid (r4.congr HSN.out)
      have A4 := Lib.hid (At.only A3.out o4 (fun h => HNX.out (.inr h)))
      have E4 := Lib.hid (E3.out.write o4 (.inr rfl))
      have F4 := Lib.hid (F3.out.write o4 (Nat.le_succ _))
      obtain ⟨_, m0', m1', m2', m3'⟩ := E4.out.cells
      obtain ⟨eg2, eE2, _, egc2⟩ := own_get1 (k := p) (u := .int .i64 ((i + 1 + sizes (ks.take (j + 1)) : Nat) : Int)) E4.out.oe (by rw [List.getElem?_map, HEN1.out]; rfl)
      simp only [Option.some.injEq, Addr.mk.injEq, and_true] at eE2
      subst eE2
      clear r4 o4
      go_wp2
      go_roundw
      case rel => exact ⟨j + 1, by omega, rfl, R4.out, A4.out, E4.out, F4.out⟩
      case measure => have := HZE2.out; have h2 := HPP.out; simp [intOf]; omega
    · have hjl : j = ks.length := by omega
      subst hjl
      have htk : ks.take ks.length = ks := List.take_of_length_le (by omega)
      rw [htk, HR.out] at ROW
      rw [htk]
      have hdz : ¬ ((i + 1 + sizes ks : Nat) : Int) < (ze : Int) := by omega
      rw [hze]
      have FIN := Lib.hid (show ¬ X (W.heap.size + 1) from fun h => by have := HXW.out _ h; omega)
      clear htk
      go_wp2
      go_ret
      exact ⟨W.heap.size + 1, 0, n + 1, rfl, ROW.out.reads hn, FIN.out, EE.out.weak (fun x hx => .inl hx), FF.out⟩

end Go.Proofs.Ytjnjbcigbnjmkaa
