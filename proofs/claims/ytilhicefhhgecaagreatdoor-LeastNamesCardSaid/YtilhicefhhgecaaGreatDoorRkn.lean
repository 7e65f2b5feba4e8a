/- Walks: the reader's atom. PUT1 -/
import Derived.Test.YtilhicefhhgecaaGreatDoorRjn
import Derived.Test.YtilhicefhhgecaaGreatDoorRcn
import Derived.Laws.EntriesVeiled
namespace Go.Proofs.YtilhicefhhgecaaGreatDoor
open Go.RowKit Pv

/-- What a method that is taken leaves, beyond what was there when the caller began. -/
theorem RdP.from {R : Nat} {w w1 : World} {t : List Rx} {l : Bs} {wd : Bool} {e : Ending} {w' : World} (h : RdP R w1 t l wd e w') (k : Only R w w1) : RdP R w t l wd e w' := by
  obtain ⟨A, n, c, he, h1, h2, h3⟩ := h
  exact ⟨A, n, c, he, h1, h2, k.step h3⟩
theorem rd_pointP (R : Nat) (r : Bs) (wd : Bool) (w : World) (h : RdS w R r wd) : Calls Tryz.prog 159 #[.pointer (some ⟨R, 0, none⟩)] w (RdP R w [setX [⟨0, 1114111⟩]] r wd) :=
  (rd_point R w).mono fun _ _ ⟨A, n, c, he, h1, h2⟩ => ⟨A, n, c, he, rx_lower h1 h.lt, h.below h2, Only.of h2⟩

/-- None of the first marks stands next. -/
def MissB (l : Bs) (k : Nat) : Prop := (1 ≤ k → isB 46 l = none) ∧ (2 ≤ k → isB 40 l = none) ∧ (3 ≤ k → isB 91 l = none)
theorem indexB_none : ∀ (l : Bs) (b : UInt8), l.contains b = false → Lib.indexByte l b = -1
  | [], _, _ => rfl
  | c :: l, b, h => by
    simp only [List.contains_cons, Bool.or_eq_false_iff] at h
    have h1 : (c == b) = false := by
      have := h.1
      simp only [beq_eq_false_iff_ne, ne_eq] at this ⊢
      exact fun e => this e.symm
    unfold Lib.indexByte
    rw [h1, indexB_none l b h.2]
    rfl
theorem own_self {W : World} {base n : Nat} {v : Value} {l : List Rng} (h : W.heap.size = n) (hb : base ≤ n) (hs : OwnSet W base v l) : OwnRx (W.alloc (.cells #[.int .u8 1, v, .int .i64 0, .int .i64 0, .int .i64 0] 52)) base (.slice (some ⟨n, 0, none⟩) 1 1) [setX l] := by
  subst h
  exact rx_one hb hs

set_option maxHeartbeats 4000000 in
set_option maxRecDepth 100000 in
theorem rd_atom {g : Bs → Bool → Option PR} {R : Nat} {l r : Bs} {wd w2 : Bool} {t : List Rx} {w : World} (h : RdS w R l wd) (hs : AtomS g l wd (t, r, w2)) (hl : l.length ≤ 1000) (hp : PlainB l)
    (hg : ∀ r1 t1 r2 w3 w1, l = 40 :: r1 → g r1 wd = some (t1, r2, w3) → RdS w1 R r1 wd → Calls Tryz.prog 38 #[.pointer (some ⟨R, 0, none⟩)] w1 (RdP R w1 t1 r2 w3)) :
    Calls Tryz.prog 114 #[.pointer (some ⟨R, 0, none⟩)] w (RdP R w t r w2) := by
  have HS := Lib.hid hs; have HG := Lib.hid hg; have HP := Lib.hid hp
  have HRD := Lib.hid (h.below ((Below.refl _ _).alloc (Nat.le_refl _) (.cells #[.string ⟨#[46]⟩, .func (.func 159) #[.pointer (some ⟨R, 0, none⟩)] #[], .string ⟨#[40]⟩, .func (.func 160) #[.pointer (some ⟨R, 0, none⟩)] #[], .string ⟨#[91]⟩, .func (.func 161) #[.pointer (some ⟨R, 0, none⟩)] #[], .string ⟨#[92]⟩, .func (.func 162) #[.pointer (some ⟨R, 0, none⟩)] #[]] 231)))
  have HO := Lib.hid (Only.alloc (Only.refl R w) (.cells #[.string ⟨#[46]⟩, .func (.func 159) #[.pointer (some ⟨R, 0, none⟩)] #[], .string ⟨#[40]⟩, .func (.func 160) #[.pointer (some ⟨R, 0, none⟩)] #[], .string ⟨#[91]⟩, .func (.func 161) #[.pointer (some ⟨R, 0, none⟩)] #[], .string ⟨#[92]⟩, .func (.func 162) #[.pointer (some ⟨R, 0, none⟩)] #[]] 231))
  clear h hs hg hp
  go_enter Tryz.func114, Tryz.ntmps114
  go_wp2
  go_loopw [21] (fun iv wr => ∃ k : Nat, iv = .int .i64 k ∧ k ≤ 4 ∧ Hid (MissB l k) ∧ Hid (RdS wr R l wd) ∧ Hid (Only R w wr)) (fun iv _ => 4 - (intOf iv).toNat)
  case atStart => exact ⟨0, rfl, by omega, Lib.hid ⟨by omega, by omega, by omega⟩, HRD, HO⟩
  case round =>
    clear HRD HO
    obtain ⟨k, rfl, hk, HK, HRD, HO⟩ := hrel
    rcases (show k = 0 ∨ k = 1 ∨ k = 2 ∨ k = 3 ∨ k = 4 by omega) with rfl | rfl | rfl | rfl | rfl
    · have ix : ∀ W : World, (Instr.index 231 (.agg #[.string ⟨#[46]⟩, .func (.func 159) #[.pointer (some ⟨R, 0, none⟩)] #[], .string ⟨#[40]⟩, .func (.func 160) #[.pointer (some ⟨R, 0, none⟩)] #[], .string ⟨#[91]⟩, .func (.func 161) #[.pointer (some ⟨R, 0, none⟩)] #[], .string ⟨#[92]⟩, .func (.func 162) #[.pointer (some ⟨R, 0, none⟩)] #[]]) (.int .i64 0)).run Tryz.prog W = .ok (.agg #[.string ⟨#[46]⟩, .func (.func 159) #[.pointer (some ⟨R, 0, none⟩)] #[]]) W := fun _ => by kernel_rfl
      have HI := Lib.hid (rd_is R l wd 46 _ (HRD.out.below ((Below.refl _ _).alloc (Nat.le_refl _) (.cells #[.string ⟨#[46]⟩, .func (.func 159) #[.pointer (some ⟨R, 0, none⟩)] #[]] 230))))
      have HO1 := Lib.hid (HO.out.alloc (.cells #[.string ⟨#[46]⟩, .func (.func 159) #[.pointer (some ⟨R, 0, none⟩)] #[]] 230))
      have hsz := HRD.out.lt
      cases hi : isB 46 l with
      | some r0 =>
        rw [hi] at HI
        have HIB := Lib.hid (isB_some hi)
        clear hi
        have HE : Hid (t = [setX [⟨0, 1114111⟩]] ∧ r = r0 ∧ w2 = wd) := Lib.hid (by
          have e1 := HIB.out
          cases HS.out with
          | point r1 e => rw [e1] at e; injection e with _ e; exact ⟨rfl, e.symm, rfl⟩
          | group r1 _ _ _ e _ => rw [e1] at e; injection e with e _; exact absurd e (by decide)
          | none _ e => rw [e1] at e; injection e with e _; exact absurd e (by decide)
          | self b _ e h1 _ _ _ _ => rw [e1] at e; injection e with e _; exact absurd e.symm h1)
        obtain ⟨e1, e2, e3⟩ := HE.out
        subst e1; subst e2; subst e3
        clear HE
        go_wp2_with fail
        refine HI.out.mono ?_
        rintro e w1 ⟨rfl, h2, h3⟩
        have H2 := Lib.hid h2; have H3 := Lib.hid (HO1.out.step h3)
        have HKB := Lib.hid (h3.blk (Blk.new wr 230 #[.string ⟨#[46]⟩, .func (.func 159) #[.pointer (some ⟨R, 0, none⟩)] #[]]) (by omega))
        have hlt1 := HKB.out.lt
        clear h2 h3
        simp only [Option.getD_some] at H2
        have HM := Lib.hid (rd_pointP R r w2 w1 H2.out)
        have k0 : w1.cell? ⟨wr.heap.size, 1, none⟩ = some (.func (.func 159) #[.pointer (some ⟨R, 0, none⟩)] #[]) := HKB.out.cell 1
        go_wp2_with fail
        refine HM.out.mono ?_
        rintro e w3 hP
        obtain ⟨A, n, c, rfl, k1, k2, k3⟩ := hP.from H3.out
        have K1 := Lib.hid k1; have K2 := Lib.hid k2; have K3 := Lib.hid k3
        clear k1 k2 k3
        go_wp2
        go_ret
        exact ⟨A, n, c, rfl, K1.out, K2.out, K3.out⟩
      | none =>
        rw [hi] at HI
        have HN := Lib.hid hi
        clear hi
        go_wp2_with fail
        refine HI.out.mono ?_
        rintro e w1 ⟨rfl, h2, h3⟩
        have H2 := Lib.hid h2; have H3 := Lib.hid (HO1.out.step h3)
        clear h2 h3
        simp only [Option.getD_none] at H2
        go_wp2
        go_roundw
        case rel => exact ⟨1, rfl, by omega, Lib.hid ⟨fun _ => HN.out, by omega, by omega⟩, H2, H3⟩
        case measure => simp [intOf]
    · have ix : ∀ W : World, (Instr.index 231 (.agg #[.string ⟨#[46]⟩, .func (.func 159) #[.pointer (some ⟨R, 0, none⟩)] #[], .string ⟨#[40]⟩, .func (.func 160) #[.pointer (some ⟨R, 0, none⟩)] #[], .string ⟨#[91]⟩, .func (.func 161) #[.pointer (some ⟨R, 0, none⟩)] #[], .string ⟨#[92]⟩, .func (.func 162) #[.pointer (some ⟨R, 0, none⟩)] #[]]) (.int .i64 1)).run Tryz.prog W = .ok (.agg #[.string ⟨#[40]⟩, .func (.func 160) #[.pointer (some ⟨R, 0, none⟩)] #[]]) W := fun _ => by kernel_rfl
      have HI := Lib.hid (rd_is R l wd 40 _ (HRD.out.below ((Below.refl _ _).alloc (Nat.le_refl _) (.cells #[.string ⟨#[40]⟩, .func (.func 160) #[.pointer (some ⟨R, 0, none⟩)] #[]] 230))))
      have HO1 := Lib.hid (HO.out.alloc (.cells #[.string ⟨#[40]⟩, .func (.func 160) #[.pointer (some ⟨R, 0, none⟩)] #[]] 230))
      have hsz := HRD.out.lt
      cases hi : isB 40 l with
      | some r0 =>
        rw [hi] at HI
        have HIB := Lib.hid (isB_some hi)
        clear hi
        have HE : Hid (∃ r2, isB 41 r2 = some r ∧ g r0 wd = some (t, r2, w2)) := Lib.hid (by
          have e1 := HIB.out
          cases HS.out with
          | point r1 e => rw [e1] at e; injection e with e _; exact absurd e (by decide)
          | group r1 _ _ _ e h => rw [e1] at e; injection e with _ e; subst e; exact ⟨_, isB_hit _ _, h⟩
          | none _ e => rw [e1] at e; injection e with e _; exact absurd e (by decide)
          | self b _ e _ h1 _ _ _ => rw [e1] at e; injection e with e _; exact absurd e.symm h1)
        obtain ⟨r2, HE1, HE2⟩ : ∃ r2, Hid (isB 41 r2 = some r) ∧ Hid (g r0 wd = some (t, r2, w2)) := HE.out.elim fun r2 h => ⟨r2, Lib.hid h.1, Lib.hid h.2⟩
        clear HE
        go_wp2_with fail
        refine HI.out.mono ?_
        rintro e w1 ⟨rfl, h2, h3⟩
        have H2 := Lib.hid h2; have H3 := Lib.hid (HO1.out.step h3)
        have HKB := Lib.hid (h3.blk (Blk.new wr 230 #[.string ⟨#[40]⟩, .func (.func 160) #[.pointer (some ⟨R, 0, none⟩)] #[]]) (by omega))
        have hlt1 := HKB.out.lt
        clear h2 h3
        simp only [Option.getD_some] at H2
        have HM := Lib.hid (rd_group R w1 t r2 r w2 (HG.out r0 t r2 w2 w1 HIB.out HE2.out H2.out) HE1.out)
        have k0 : w1.cell? ⟨wr.heap.size, 1, none⟩ = some (.func (.func 160) #[.pointer (some ⟨R, 0, none⟩)] #[]) := HKB.out.cell 1
        go_wp2_with fail
        refine HM.out.mono ?_
        rintro e w3 hP
        obtain ⟨A, n, c, rfl, k1, k2, k3⟩ := hP.from H3.out
        have K1 := Lib.hid k1; have K2 := Lib.hid k2; have K3 := Lib.hid k3
        clear k1 k2 k3
        go_wp2
        go_ret
        exact ⟨A, n, c, rfl, K1.out, K2.out, K3.out⟩
      | none =>
        rw [hi] at HI
        have HN := Lib.hid hi
        clear hi
        go_wp2_with fail
        refine HI.out.mono ?_
        rintro e w1 ⟨rfl, h2, h3⟩
        have H2 := Lib.hid h2; have H3 := Lib.hid (HO1.out.step h3)
        clear h2 h3
        simp only [Option.getD_none] at H2
        go_wp2
        go_roundw
        case rel => exact ⟨2, rfl, by omega, Lib.hid ⟨fun _ => HK.out.1 (by omega), fun _ => HN.out, by omega⟩, H2, H3⟩
        case measure => simp [intOf]
    · have ix : ∀ W : World, (Instr.index 231 (.agg #[.string ⟨#[46]⟩, .func (.func 159) #[.pointer (some ⟨R, 0, none⟩)] #[], .string ⟨#[40]⟩, .func (.func 160) #[.pointer (some ⟨R, 0, none⟩)] #[], .string ⟨#[91]⟩, .func (.func 161) #[.pointer (some ⟨R, 0, none⟩)] #[], .string ⟨#[92]⟩, .func (.func 162) #[.pointer (some ⟨R, 0, none⟩)] #[]]) (.int .i64 2)).run Tryz.prog W = .ok (.agg #[.string ⟨#[91]⟩, .func (.func 161) #[.pointer (some ⟨R, 0, none⟩)] #[]]) W := fun _ => by kernel_rfl
      have HI := Lib.hid (rd_is R l wd 91 _ (HRD.out.below ((Below.refl _ _).alloc (Nat.le_refl _) (.cells #[.string ⟨#[91]⟩, .func (.func 161) #[.pointer (some ⟨R, 0, none⟩)] #[]] 230))))
      have HO1 := Lib.hid (HO.out.alloc (.cells #[.string ⟨#[91]⟩, .func (.func 161) #[.pointer (some ⟨R, 0, none⟩)] #[]] 230))
      have hsz := HRD.out.lt
      cases hi : isB 91 l with
      | some r0 =>
        rw [hi] at HI
        have HIB := Lib.hid (isB_some hi)
        clear hi
        have HE : Hid (t = [setX []] ∧ r0 = 93 :: r ∧ w2 = wd) := Lib.hid (by
          have e1 := HIB.out
          cases HS.out with
          | point r1 e => rw [e1] at e; injection e with e _; exact absurd e (by decide)
          | group r1 _ _ _ e _ => rw [e1] at e; injection e with e _; exact absurd e (by decide)
          | none _ e => rw [e1] at e; injection e with _ e; exact ⟨rfl, e, rfl⟩
          | self b _ e _ _ h1 _ _ => rw [e1] at e; injection e with e _; exact absurd e.symm h1)
        obtain ⟨e1, e2, e3⟩ := HE.out
        subst e1; subst e2; subst e3
        clear HE
        go_wp2_with fail
        refine HI.out.mono ?_
        rintro e w1 ⟨rfl, h2, h3⟩
        have H2 := Lib.hid h2; have H3 := Lib.hid (HO1.out.step h3)
        have HKB := Lib.hid (h3.blk (Blk.new wr 230 #[.string ⟨#[91]⟩, .func (.func 161) #[.pointer (some ⟨R, 0, none⟩)] #[]]) (by omega))
        have hlt1 := HKB.out.lt
        clear h2 h3
        simp only [Option.getD_some] at H2
        have HM := Lib.hid (rd_class R r w2 w1 H2.out)
        have k0 : w1.cell? ⟨wr.heap.size, 1, none⟩ = some (.func (.func 161) #[.pointer (some ⟨R, 0, none⟩)] #[]) := HKB.out.cell 1
        go_wp2_with fail
        refine HM.out.mono ?_
        rintro e w3 hP
        obtain ⟨A, n, c, rfl, k1, k2, k3⟩ := hP.from H3.out
        have K1 := Lib.hid k1; have K2 := Lib.hid k2; have K3 := Lib.hid k3
        clear k1 k2 k3
        go_wp2
        go_ret
        exact ⟨A, n, c, rfl, K1.out, K2.out, K3.out⟩
      | none =>
        rw [hi] at HI
        have HN := Lib.hid hi
        clear hi
        go_wp2_with fail
        refine HI.out.mono ?_
        rintro e w1 ⟨rfl, h2, h3⟩
        have H2 := Lib.hid h2; have H3 := Lib.hid (HO1.out.step h3)
        clear h2 h3
        simp only [Option.getD_none] at H2
        go_wp2
        go_roundw
        case rel => exact ⟨3, rfl, by omega, Lib.hid ⟨fun _ => HK.out.1 (by omega), fun _ => HK.out.2.1 (by omega), fun _ => HN.out⟩, H2, H3⟩
        case measure => simp [intOf]
    · have ix : ∀ W : World, (Instr.index 231 (.agg #[.string ⟨#[46]⟩, .func (.func 159) #[.pointer (some ⟨R, 0, none⟩)] #[], .string ⟨#[40]⟩, .func (.func 160) #[.pointer (some ⟨R, 0, none⟩)] #[], .string ⟨#[91]⟩, .func (.func 161) #[.pointer (some ⟨R, 0, none⟩)] #[], .string ⟨#[92]⟩, .func (.func 162) #[.pointer (some ⟨R, 0, none⟩)] #[]]) (.int .i64 3)).run Tryz.prog W = .ok (.agg #[.string ⟨#[92]⟩, .func (.func 162) #[.pointer (some ⟨R, 0, none⟩)] #[]]) W := fun _ => by kernel_rfl
      have HI := Lib.hid (rd_is R l wd 92 _ (HRD.out.below ((Below.refl _ _).alloc (Nat.le_refl _) (.cells #[.string ⟨#[92]⟩, .func (.func 162) #[.pointer (some ⟨R, 0, none⟩)] #[]] 230))))
      have HO1 := Lib.hid (HO.out.alloc (.cells #[.string ⟨#[92]⟩, .func (.func 162) #[.pointer (some ⟨R, 0, none⟩)] #[]] 230))
      have hsz := HRD.out.lt
      cases hi : isB 92 l with
      | some r0 =>
        rw [hi] at HI
        have HIB := Lib.hid (isB_some hi)
        clear hi
        exact absurd rfl (HP.out.sfx (by rw [HIB.out]; exact List.suffix_refl _)).head.2.1
      | none =>
        rw [hi] at HI
        have HN := Lib.hid hi
        clear hi
        go_wp2_with fail
        refine HI.out.mono ?_
        rintro e w1 ⟨rfl, h2, h3⟩
        have H2 := Lib.hid h2; have H3 := Lib.hid (HO1.out.step h3)
        clear h2 h3
        simp only [Option.getD_none] at H2
        go_wp2
        go_roundw
        case rel => exact ⟨4, rfl, by omega, Lib.hid ⟨fun _ => HK.out.1 (by omega), fun _ => HK.out.2.1 (by omega), fun _ => HK.out.2.2 (by omega)⟩, H2, H3⟩
        case measure => simp [intOf]
    · have HE : Hid (∃ b, l = b :: r ∧ t = [setX (one1 b.toNat)] ∧ w2 = wd ∧ noneA.contains b = false) := Lib.hid (by
        have n1 := HK.out.1 (by omega)
        have n2 := HK.out.2.1 (by omega)
        have n3 := HK.out.2.2 (by omega)
        cases HS.out with
        | point r1 e => rw [e, isB_hit] at n1; cases n1
        | group r1 _ _ _ e _ => rw [e, isB_hit] at n2; cases n2
        | none _ e => rw [e, isB_hit] at n3; cases n3
        | self b _ e _ _ _ _ h5 => exact ⟨b, e, rfl, rfl, h5⟩)
      obtain ⟨b, e1, e2, e3, e4⟩ := HE.out
      subst e1; subst e2; subst e3
      have HNO := Lib.hid e4
      have hb := HP.out.head.1
      clear HE e4
      have HT := Lib.hid (rd_take R b r w2 ⟨#[41, 93, 42, 43, 63, 123, 125, 124]⟩ wr HRD.out hb (indexB_none _ _ HNO.out) (by simp only [List.length_cons] at hl; omega))
      have hb2 : (0 : Int) ≤ (b.toNat : Int) := by omega
      have hb3 : (b.toNat : Int) < 128 := by omega
      have HSP := Lib.hid (fun W => rd_span b.toNat b.toNat W (by omega) (by omega))
      clear hl
      go_wp2_with fail
      refine HT.out.mono ?_
      rintro e w1 ⟨rfl, h2, h3⟩
      have H2 := Lib.hid h2; have H3 := Lib.hid (HO.out.step h3)
      clear h2 h3
      go_wp2_with fail
      refine (HSP.out _).mono ?_
      rintro e w3 ⟨rfl, hset, hbl⟩
      have HX := Lib.hid hset; have HB := Lib.hid hbl
      clear hset hbl
      go_wp2
      go_ret
      have hz := HB.out.size
      have hz2 := H2.out.lt
      exact ⟨_, _, _, rfl, own_self rfl (by omega) (OwnK.lower HX.out (by omega)), (H2.out.below HB.out).below ((Below.refl _ _).alloc (Nat.le_refl _) _), (H3.out.then HB.out).alloc _⟩
end Go.Proofs.YtilhicefhhgecaaGreatDoor
