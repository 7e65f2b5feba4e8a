/- Walks: through a node (the program's): nothing, a set, one behind the other, side by side. -/
import Derived.Test.YtjnjbcigbnjmkaaTp
namespace Go.Proofs.Ytjnjbcigbnjmkaa
open Go.RowKit Go.ChangeMaps Pv

theorem At.only {α : Type} {W W' : World} {b g o : Nat} {R : Value → α → Prop} {xs : List α} (h : At W (some ⟨g, o, none⟩) R xs) (k : Only b W W') (hne : g ≠ b) : At W' (some ⟨g, o, none⟩) R xs := by
  refine ⟨h.1, fun hp => ?_⟩
  obtain ⟨g', o', e, hg, hc⟩ := h.2 hp
  injection e with e; injection e with e1 e2
  subst e1; subst e2
  exact ⟨g, o, rfl, Nat.lt_of_lt_of_le hg k.size, fun i x hx => by
    obtain ⟨u, hu, hR⟩ := hc i x hx
    exact ⟨u, (World.cell?_of_block (a := ⟨g, o + i, none⟩) (k.block g hg hne)).trans hu, hR⟩⟩
theorem Fr.write {mb b : Nat} {W w1 w2 : World} (h : Fr mb W w1) (o : Only b w1 w2) (hb : W.heap.size ≤ b) : Fr mb W w2 :=
  ⟨h.1.trans' o.size fun x off hx => World.cell?_of_block (a := ⟨x, off, none⟩) (o.block x (Nat.lt_of_lt_of_le hx h.2.size) (by omega)),
   o.os.trans h.2.os, o.tape.trans h.2.tape, o.output.trans h.2.output, Nat.le_trans h.2.size o.size, fun k hk hne => (o.block k (Nat.lt_of_lt_of_le hk h.2.size) (by omega)).trans (h.2.block k hk hne)⟩
theorem At.lt {W : World} {g o n : Nat} {S : Nat → Prop} (h : At W (some ⟨g, o, none⟩) RB (lst n S)) : g < W.heap.size := by
  obtain ⟨g', o', e, hg, _⟩ := h.2 (by rw [lst_len]; omega)
  injection e with e; injection e with e1 _
  omega
/-- What comes of going through a tree. -/
def ThrP (w0 W : World) (e0 e1 pm mb n : Nat) (tA EA pA : Option Addr) (nt ct ec cp : Nat) (t : List Rx) (pts : List Int) (X : Nat → Prop) (S : Nat → Prop) (e : Ending) (w' : World) : Prop :=
  ∃ g o c, e = .returned (.slice (some ⟨g, o, none⟩) (n + 1) c) ∧ At w' (some ⟨g, o, none⟩) RB (lst n S) ∧ ¬ X g ∧ WkE w0 w' e0 e1 pm mb n tA EA pA nt ct ec cp t pts X ∧ Fr mb W w'
def ThrC (w0 : World) (e0 e1 pm mb n : Nat) (tA EA pA : Option Addr) (nt ct ec cp : Nat) (t : List Rx) (pts : List Int) (T : Tr) (i : Nat) : Prop :=
  ∀ (W : World) (g o fc : Nat) (S X : Nat → Prop), WkE w0 W e0 e1 pm mb n tA EA pA nt ct ec cp t pts X → (∀ a, S a → a ≤ n) → At W (some ⟨g, o, none⟩) RB (lst n S) → ¬ X g →
    Calls Try.prog 72 #[.pointer (some ⟨pm, 0, none⟩), .int .i64 i, .slice (some ⟨g, o, none⟩) (n + 1) fc] W (ThrP w0 W e0 e1 pm mb n tA EA pA nt ct ec cp t pts X (im (spT pts T) S))

set_option maxHeartbeats 1000000 in
set_option maxRecDepth 100000 in
theorem thr_empty (w0 : World) (e0 e1 pm mb n : Nat) (tA EA pA : Option Addr) (nt ct ec cp : Nat) (t : List Rx) (pts : List Int) (i : Nat) (l : List Rng) (many least most : Int) (ks : List Tr)
    (ht : AtRx w0 tA t) (HT : Hid (t.length = nt)) (HX : Hid (t[i]? = some ⟨0, l, many, least, most⟩)) : ThrC w0 e0 e1 pm mb n tA EA pA nt ct ec cp t pts (.mk ⟨0, l, many, least, most⟩ ks) i := by
  intro W g o fc S X hE hS hA hX
  have hin : i < nt := by have := lt_of_get HX.out; rwa [HT.out] at this
  obtain ⟨b, off, kd, B, cs, m, l', many', least', most', rfl, H5, hset, HM, hmc, hkd, hma, hle, hmo, HX'⟩ := ht.g5 HT hin
  obtain ⟨rfl, rfl, rfl, rfl, rfl⟩ := Rx.mk.inj (Option.some.inj (HX'.out.symm.trans HX.out))
  obtain ⟨y0, y1, y2, y3, y4, y5⟩ := H5.next hE.kp
  obtain ⟨hpm, m0, m1, m2, m3⟩ := hE.cells
  have hW : Below W.heap.size W (W.alloc (.cells #[.int .u8 0, .slice B m cs, .int .i64 many', .int .i64 least', .int .i64 most'] 100)) := (Below.refl _ _).alloc (Nat.le_refl _) _
  have FIN := Lib.hid (show ThrP w0 W e0 e1 pm mb n (some ⟨b, off, none⟩) EA pA nt ct ec cp t pts X (im (spT pts (.mk ⟨0, l', many', least', most'⟩ ks)) S) (.returned (.slice (some ⟨g, o, none⟩) (n + 1) fc)) (W.alloc (.cells #[.int .u8 0, .slice B m cs, .int .i64 many', .int .i64 least', .int .i64 most'] 100)) from ⟨g, o, fc, rfl, by
    rw [lst_ext (S' := S) (fun a ha => by
      constructor
      · rintro ⟨c, h1, h2⟩; rw [spT, if_pos rfl] at h2; subst h2; exact h1
      · intro h; exact ⟨a, h, by rw [spT, if_pos rfl]⟩)]
    exact hA.keep (Keep.of hW), hX, hE.next hW, Fr.of hW⟩)
  clear hE hA H5 ht hset HX' hW
  go_enter Try.func72, Try.ntmps72
  go_wp2
  go_ret
  exact FIN.out

set_option maxHeartbeats 1000000 in
set_option maxRecDepth 100000 in
theorem thr_set (w0 : World) (e0 e1 pm mb n : Nat) (tA EA pA : Option Addr) (nt ct ec cp : Nat) (t : List Rx) (pts : List Int) (i : Nat) (l : List Rng) (many least most : Int) (ks : List Tr) (hn : n ≤ 1000)
    (ht : AtRx w0 tA t) (hp : At w0 pA RI pts) (HP : Hid (pts.length = n)) (HT : Hid (t.length = nt)) (HX : Hid (t[i]? = some ⟨1, l, many, least, most⟩)) : ThrC w0 e0 e1 pm mb n tA EA pA nt ct ec cp t pts (.mk ⟨1, l, many, least, most⟩ ks) i := by
  intro W g o fc S X hE hS hA hX
  have hin : i < nt := by have := lt_of_get HX.out; rwa [HT.out] at this
  obtain ⟨b, off, kd, B, cs, m, l', many', least', most', rfl, H5, hset, HM, hmc, hkd, hma, hle, hmo, HX'⟩ := ht.g5 HT hin
  obtain ⟨rfl, rfl, rfl, rfl, rfl⟩ := Rx.mk.inj (Option.some.inj (HX'.out.symm.trans HX.out))
  obtain ⟨y0, y1, y2, y3, y4, y5⟩ := H5.next hE.kp
  obtain ⟨hpm, m0, m1, m2, m3⟩ := hE.cells
  have hW : Below W.heap.size W (W.alloc (.cells #[.int .u8 1, .slice B m cs, .int .i64 many', .int .i64 least', .int .i64 most'] 100)) := (Below.refl _ _).alloc (Nat.le_refl _) _
  have E1 := Lib.hid (hE.next hW)
  have HS := Lib.hid (tongue_step pm pA n cp pts B m cs l' (some ⟨g, o, none⟩) fc S _ hn E1.out.cells.1 E1.out.cells.2.2.2.1 (hp.keep E1.out.kp) HP (AtK.keep hset E1.out.kp) HM (hA.keep (Keep.of hW)))
  have HW := Lib.hid hW
  have HI := Lib.hid (show ∀ a, a ≤ n → ((∃ i p, S i ∧ pts[i]? = some p ∧ InSet l' p ∧ a = i + 1) ↔ im (spT pts (.mk ⟨1, l', many', least', most'⟩ ks)) S a) from fun a _ => by
    constructor
    · rintro ⟨c, p, h1, h2⟩; exact ⟨c, h1, by rw [spT, if_neg (by simp), if_pos rfl]; exact ⟨p, h2⟩⟩
    · rintro ⟨c, h1, h2⟩
      rw [spT, if_neg (by simp), if_pos rfl] at h2
      obtain ⟨p, h2⟩ := h2
      exact ⟨c, p, h1, h2⟩)
  clear hE hA H5 ht hset HX' hW hp
  go_enter Try.func72, Try.ntmps72
  go_wp2_with fail
  refine HS.out.mono ?_
  rintro e w1 ⟨b1, rfl, hb1, hrow, hb⟩
  have FIN := Lib.hid (show ThrP w0 W e0 e1 pm mb n (some ⟨b, off, none⟩) EA pA nt ct ec cp t pts X (im (spT pts (.mk ⟨1, l', many', least', most'⟩ ks)) S) (.returned (.slice (some ⟨b1, 0, none⟩) (n + 1) (n + 1))) w1 from
    ⟨b1, 0, n + 1, rfl, (hrow.congr HI.out).reads hn, fun h => by have := E1.out.hi b1 h; omega, E1.out.next hb, (Fr.of HW.out).trans (Fr.of hb)⟩)
  clear hrow hb
  go_wp2
  go_ret
  exact FIN.out

set_option maxHeartbeats 2000000 in
set_option maxRecDepth 100000 in
theorem thr_cat (w0 : World) (e0 e1 pm mb n : Nat) (tA EA pA : Option Addr) (nt ct ec cp : Nat) (t : List Rx) (pts : List Int) (i : Nat) (l : List Rng) (many least most : Int) (ks : List Tr) (hn : n ≤ 1000)
    (ht : AtRx w0 tA t) (HP : Hid (pts.length = n)) (HT : Hid (t.length = nt)) (hnt : nt ≤ 64) (HX : Hid (t[i]? = some ⟨2, l, many, least, most⟩))
    (HZ : Hid ((endsL t)[i]? = some ((i + 1 + sizes ks : Nat) : Int)))
    (HEND : Hid (∀ (j : Nat) (k : Tr), ks[j]? = some k → (endsL t)[i + 1 + sizes (ks.take j)]? = some ((i + 1 + sizes (ks.take (j + 1)) : Nat) : Int) ∧ i + 1 + sizes (ks.take j) < nt))
    (HLT : Hid (∀ j, j < ks.length → sizes (ks.take j) < sizes ks ∧ sizes (ks.take j) < sizes (ks.take (j + 1)) ∧ sizes (ks.take (j + 1)) ≤ sizes ks))
    (HIH : Hid (∀ j k, ks[j]? = some k → ThrC w0 e0 e1 pm mb n tA EA pA nt ct ec cp t pts k (i + 1 + sizes (ks.take j)))) (hzs : i + 1 + sizes ks ≤ 64) :
    ThrC w0 e0 e1 pm mb n tA EA pA nt ct ec cp t pts (.mk ⟨2, l, many, least, most⟩ ks) i := by
  intro W g o fc S X hE hS hA hX
  have hin : i < nt := by have := lt_of_get HX.out; rwa [HT.out] at this
  obtain ⟨b, off, kd, B, cs, m, l', many', least', most', rfl, H5, hset, HM, hmc, hkd, hma, hle, hmo, HX'⟩ := ht.g5 HT hin
  obtain ⟨rfl, rfl, rfl, rfl, rfl⟩ := Rx.mk.inj (Option.some.inj (HX'.out.symm.trans HX.out))
  obtain ⟨y0, y1, y2, y3, y4, y5⟩ := H5.next hE.kp
  obtain ⟨hpm, m0, m1, m2, m3⟩ := hE.cells
  have hW : Below W.heap.size W (W.alloc (.cells #[.int .u8 2, .slice B m cs, .int .i64 many', .int .i64 least', .int .i64 most'] 100)) := (Below.refl _ _).alloc (Nat.le_refl _) _
  have E1 := Lib.hid (hE.next hW)
  have A1 := Lib.hid (hA.keep (Keep.of hW))
  have F1 := Lib.hid (Fr.of (mb := mb) hW)
  have HNX := Lib.hid hX; have HSS := Lib.hid hS
  obtain ⟨RR, hRR⟩ : ∃ RR, im (spT pts (.mk ⟨2, l', many', least', most'⟩ ks)) S = RR := ⟨_, rfl⟩
  rw [hRR]
  have HR := Lib.hid (show im (spCat pts ks) S = RR from by
    rw [← hRR]; funext a; apply propext
    constructor
    · rintro ⟨c, h1, h2⟩; exact ⟨c, h1, by rw [spT, if_neg (by simp), if_neg (by simp), if_pos rfl]; exact h2⟩
    · rintro ⟨c, h1, h2⟩; rw [spT, if_neg (by simp), if_neg (by simp), if_pos rfl] at h2; exact ⟨c, h1, h2⟩)
  clear hE hA H5 ht hset HX' hW hRR hX hS
  go_enter Try.func72, Try.ntmps72
  go_wp2
  go_loopw [2, 11] (fun fv kv wr => ∃ (j g o fc : Nat), j ≤ ks.length ∧ kv = .int .i64 ((i + 1 + sizes (ks.take j) : Nat) : Int) ∧ fv = .slice (some ⟨g, o, none⟩) (n + 1) fc ∧ At wr (some ⟨g, o, none⟩) RB (lst n (im (spCat pts (ks.take j)) S)) ∧ ¬ X g ∧ WkE w0 wr e0 e1 pm mb n (some ⟨b, off, none⟩) EA pA nt ct ec cp t pts X ∧ Fr mb W wr) (fun _ kv _ => (i + 1 + sizes ks) - (intOf kv).toNat)
  case atStart => exact ⟨0, g, o, fc, by omega, by simp [sizes, flats], rfl, by
    rw [lst_ext (S' := S) (fun a _ => by
      constructor
      · rintro ⟨c, h1, h2⟩; simp only [List.take_zero, spCat] at h2; subst h2; exact h1
      · intro h; exact ⟨a, h, by simp [spCat]⟩)]
    exact A1.out, HNX.out, E1.out, F1.out⟩
  case round =>
    clear y0 y1 y2 y3 y4 y5 m0 m1 m2 m3
    obtain ⟨j, g2, o2, fc2, hj, rfl, rfl, hat, hx2, hwe, hfr⟩ := hrel
    have AT := Lib.hid hat; have NX := Lib.hid hx2; have EE := Lib.hid hwe; have FF := Lib.hid hfr
    clear hat hx2 hwe hfr
    obtain ⟨hpm2, m0, m1, m2, m3⟩ := EE.out.cells
    obtain ⟨eg, eE, egl, egc⟩ := own_get1 (k := i) (u := .int .i64 ((i + 1 + sizes ks : Nat) : Int)) EE.out.oe (by rw [List.getElem?_map, HZ.out]; rfl)
    subst eE
    obtain ⟨ze, hze⟩ : ∃ ze, i + 1 + sizes ks = ze := ⟨_, rfl⟩
    rw [hze] at egc
    by_cases hlt : j < ks.length
    · have hkk : ks[j]? = some (ks[j]) := List.getElem?_eq_getElem hlt
      obtain ⟨hps, hst, hst2⟩ := HLT.out j hlt
      generalize ks[j] = k0 at hkk
      obtain ⟨hen1, hen2⟩ := HEND.out j k0 hkk
      have HC := Lib.hid (HIH.out j k0 hkk wr g2 o2 fc2 _ X EE.out (fun a ⟨c, h1, h2⟩ => by have := spCat_in pts (ks.take j) c a (by rw [HP.out]; exact HSS.out c h1) h2; rwa [HP.out] at this) AT.out NX.out)
      have HSN := Lib.hid (show ∀ a, a ≤ n → (im (spT pts k0) (im (spCat pts (ks.take j)) S) a ↔ im (spCat pts (ks.take (j + 1))) S a) from fun a _ => by
        rw [take_snoc hkk]
        constructor
        · rintro ⟨c, ⟨d, h1, h2⟩, h3⟩; exact ⟨d, h1, (spCat_snoc pts k0 _ d a).2 ⟨c, h2, h3⟩⟩
        · rintro ⟨d, h1, h2⟩
          obtain ⟨c, h3, h4⟩ := (spCat_snoc pts k0 _ d a).1 h2
          exact ⟨c, ⟨d, h1, h3⟩, h4⟩)
      have HEN1 := Lib.hid hen1
      generalize hp : i + 1 + sizes (ks.take j) = p at *
      have HPP := Lib.hid hp
      have hpz : p < ze := by omega
      have HZE2 := Lib.hid hze
      clear hkk hen1 hp hze
      go_wp2_with fail
      refine HC.out.mono ?_
      rintro e w1 ⟨g3, o3, c3, rfl, at3, nx3, we3, fr3⟩
      have A3 := Lib.hid at3; have E3 := Lib.hid we3; have F3 := Lib.hid (FF.out.trans fr3)
      obtain ⟨_, m0', m1', m2', m3'⟩ := we3.cells
      obtain ⟨eg2, eE2, _, egc2⟩ := own_get1 (k := p) (u := .int .i64 ((i + 1 + sizes (ks.take (j + 1)) : Nat) : Int)) we3.oe (by rw [List.getElem?_map, HEN1.out]; rfl)
      simp only [Option.some.injEq, Addr.mk.injEq, and_true] at eE2
      subst eE2
      clear at3 we3 fr3 m0 m1 m2 m3 egc
      go_wp2
      go_roundw
      case rel => exact ⟨j + 1, g3, o3, c3, by omega, rfl, rfl, by rw [← lst_ext HSN.out]; exact A3.out, nx3, E3.out, F3.out⟩
      case measure => have := HZE2.out; have h2 := HPP.out; simp [intOf]; omega
    · have hjl : j = ks.length := by omega
      subst hjl
      have htk : ks.take ks.length = ks := List.take_of_length_le (by omega)
      rw [htk, HR.out] at AT
      rw [htk]
      have hdz : ¬ ((i + 1 + sizes ks : Nat) : Int) < (ze : Int) := by omega
      rw [hze]
      clear htk
      go_wp2
      go_ret
      exact ⟨g2, o2, fc2, rfl, AT.out, NX.out, EE.out, FF.out⟩

end Go.Proofs.Ytjnjbcigbnjmkaa
