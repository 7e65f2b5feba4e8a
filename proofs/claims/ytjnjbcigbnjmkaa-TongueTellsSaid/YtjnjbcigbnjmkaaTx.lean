/- THE LAW TongueTells, walked. -/
import Derived.Test.YtjnjbcigbnjmkaaTw
namespace Pv
open Go Go.RowKit

theorem BIn.one {t : List Rx} {pts : List Int} {r r' : Bool × Int} (h : BIn t pts r) (h' : BIn t pts r') : r = r' := by
  rcases h with ⟨h1, rfl⟩ | ⟨h1, h2, rfl⟩ | ⟨h1, h2, T, hT, hf, rfl⟩ <;> rcases h' with ⟨k1, rfl⟩ | ⟨k1, k2, rfl⟩ | ⟨k1, k2, T', hT', hf', rfl⟩ <;> first | rfl | (exfalso; first | exact h1 k1 | exact k1 h1 | omega) | skip
  obtain rfl := flat_inj1 hT hT' (hf.symm.trans hf')
  rfl
theorem BEnds.one {t : List Rx} {pts : List Int} {a : Int} {r r' : List Int × Int} (h : BEnds t pts a r) (h' : BEnds t pts a r') : r = r' := by
  rcases h with ⟨h1, rfl⟩ | ⟨h1, h2, rfl⟩ | ⟨h1, h2, h3, rfl⟩ | ⟨h1, h2, T, b, rfl, h3, hT, hf, rfl⟩ <;> rcases h' with ⟨k1, rfl⟩ | ⟨k1, k2, rfl⟩ | ⟨k1, k2, k3, rfl⟩ | ⟨k1, k2, T', b', hb, k3, hT', hf', rfl⟩ <;> first | rfl | (exfalso; first | exact h1 k1 | exact k1 h1 | omega) | skip
  obtain rfl := flat_inj1 hT hT' (hf.symm.trans hf')
  have : b = b' := by omega
  subst this
  rfl
theorem BEnds.int {t : List Rx} {pts : List Int} {a : Int} {r : List Int × Int} (h : BEnds t pts a r) : (r.1.length ≤ 2000 ∧ ∀ z, z ∈ r.1 → 0 ≤ z ∧ z ≤ 2000) ∧ 0 ≤ r.2 ∧ r.2 ≤ 8 := by
  rcases h with ⟨h1, rfl⟩ | ⟨h1, h2, rfl⟩ | ⟨h1, h2, h3, rfl⟩ | ⟨h1, h2, T, b, rfl, h3, hT, hf, rfl⟩
  · simp
  · simp
  · simp
  · refine ⟨⟨by have := upTo_len (spT pts T b) (pts.length + 1); simp only; omega, fun z hz => ?_⟩, by simp, by simp⟩
    obtain ⟨i, h4, _, rfl⟩ := upTo_mem.1 hz
    omega
theorem ints_rel {l : List Int} (h : ∀ z, z ∈ l → 0 ≤ z ∧ z ≤ 2000) : Rel RI (l.map (Value.int .i64)) l := ⟨by simp, fun i u x hu hx => by
  rw [List.getElem?_map, hx] at hu
  obtain rfl := Option.some.inj hu
  have := h x (mem_of_get hx)
  exact ⟨rfl, by omega, by omega⟩⟩
/-- of the language just where a match ends at the end -/
theorem BEnds.in {t : List Rx} {pts : List Int} {r : List Int × Int} (h : BEnds t pts 0 r) : (r.2 ≠ 0 → BIn t pts (false, r.2)) ∧ (r.2 = 0 → BIn t pts (decide ((pts.length : Int) ∈ r.1), 0)) := by
  rcases h with ⟨h1, rfl⟩ | ⟨h1, h2, rfl⟩ | ⟨h1, h2, h3, rfl⟩ | ⟨h1, h2, T, b, hb, h3, hT, hf, rfl⟩
  · exact ⟨fun _ => .inl ⟨h1, rfl⟩, fun h => by simp at h⟩
  · exact ⟨fun _ => .inr (.inl ⟨h1, h2, rfl⟩), fun h => by simp at h⟩
  · omega
  · obtain rfl : b = 0 := by omega
    refine ⟨fun h => absurd rfl h, fun _ => .inr (.inr ⟨h1, h2, T, hT, hf, ?_⟩)⟩
    congr 1
    by_cases hS : spT pts T 0 pts.length
    · rw [yes_t hS]; exact decide_eq_true (upTo_mem.2 ⟨pts.length, by omega, hS, rfl⟩)
    · rw [yes_f hS]
      refine decide_eq_false fun h => ?_
      obtain ⟨i, h4, h5, h6⟩ := upTo_mem.1 h
      have : i = pts.length := by omega
      exact hS (this ▸ h5)
end Pv
namespace Go.Proofs.Ytjnjbcigbnjmkaa
open Go.RowKit Go.ChangeMaps Pv

theorem IntsPost.at' {w' : World} {t : List Rx} {pts : List Int} {a : Int} {r : List Int × Int} {LA : Option Addr} {lc b0 : Nat} (h : BEnds t pts a r) (own : w'.ownsRow b0 3 1 (.slice LA r.1.length lc) r.1.length (r.1.map (Value.int .i64))) : At w' LA RI r.1 :=
  (At.of_own own (ints_rel h.int.1.2) (by have := h.int.1.1; omega)).2.2

theorem OwnRx.at1 {w : World} {base n c : Nat} {B : Option Addr} {t : List Rx} (h : OwnRx w base (.slice B n c) t) (hl : t.length ≤ 140737488355328) (hs : ∀ (i : Nat) x, t[i]? = some x → x.set.length ≤ 60) : AtRx w B t := by
  obtain ⟨A', c', e, hat, _⟩ := OwnK.sl h hl
  injection e with e1 _ _
  subst e1
  refine ⟨hat.1, fun hp => ?_⟩
  obtain ⟨b, off, e, hb, hc⟩ := hat.2 hp
  exact ⟨b, off, e, hb, fun i x hx => by
    obtain ⟨f, hf, hR⟩ := hc i x hx
    exact ⟨f, hf, hR.rx (by have := hs i x hx; omega)⟩⟩

set_option maxHeartbeats 1000000 in
set_option maxRecDepth 100000 in
theorem tongue_In (tA : Option Addr) (nt ct : Nat) (t : List Rx) (pA : Option Addr) (np cp : Nat) (pts : List Int) (w : World) (ht : AtRx w tA t) (HT : Hid (t.length = nt)) (hp : At w pA RI pts) (HP : Hid (pts.length = np)) (hnp : np ≤ 1000 ∨ (1024 < np ∧ np ≤ 100000)) :
    Calls Try.prog 28 #[.slice tA nt ct, .slice pA np cp] w fun e w' => Below w.heap.size w w' ∧ ∃ r, BIn t pts r ∧ e = .returned (.tuple #[.bool r.1, .int .i64 r.2]) := by
  have HE := Lib.hid (tongue_Ends tA nt ct t pA np cp pts 0 w ht HT hp HP hnp)
  clear ht hp
  go_enter Try.func28, Try.ntmps28
  go_wp2_with fail
  refine HE.out.mono ?_
  rintro e w1 ⟨r, hr, hb, LA, lc, rfl, own⟩
  have HB := Lib.hid hb
  have hin := hr.in
  have hat := IntsPost.at' hr own
  have HC := Lib.hid (contains_int LA lc r.1.length r.1 (np : Int) w1 hat (Lib.hid rfl))
  obtain ⟨l, er⟩ := r
  simp only at hin HC hr
  by_cases h0 : er = 0
  · subst h0
    have HR := Lib.hid (hin.2 rfl)
    rw [HP.out] at HR
    generalize decide ((np : Int) ∈ l) = v at *
    clear hin hb own hr hat
    go_wp2_with fail
    refine HC.out.mono ?_
    rintro e w2 ⟨rfl, rfl⟩
    go_wp2
    go_ret2
    exact ⟨HB.out, (v, 0), HR.out, rfl⟩
  · have HR := Lib.hid (hin.1 h0)
    have t1 : (er != 0) = true := by simpa using h0
    clear hin hb own hr hat h0
    go_wp2
    go_ret2
    exact ⟨HB.out, (false, er), HR.out, rfl⟩

set_option maxHeartbeats 2000000 in
set_option maxRecDepth 100000 in
theorem law_TongueTells (tA : Option Addr) (nt ct : Nat) (t : List Rx) (pA : Option Addr) (np cp : Nat) (pts : List Int) (a : Int) (w : World) (ht : AtRx w tA t) (HT : Hid (t.length = nt)) (hp : At w pA RI pts) (HP : Hid (pts.length = np)) :
    Calls Try.prog 5 #[.slice tA nt ct, .slice pA np cp, .int .i64 a] w fun e w' => e = .returned (.bool true) ∧ Below w.heap.size w w' := by
  obtain ⟨i0, hi0, hz0, hs0, hb0⟩ := info_parts info_int
  have HG := Lib.hid (ref07_Great tA ct nt 80 t w ht HT (by omega))
  have HAT := Lib.hid ht; have HPT := Lib.hid hp
  have hl4 : np ≤ 140737488355328 := by have := hp.1; rwa [HP.out] at this
  clear ht hp
  go_enter Try.func5, Try.ntmps5
  go_wp2_with fail
  refine HG.out.mono ?_
  rintro e w' ⟨g, rfl, hg, rfl⟩
  have HQ := Lib.hid hg
  clear hg
  cases g
  case true =>
    go_wp2
    go_ret
    exact ⟨rfl, Below.refl _ _⟩
  by_cases h1 : 1100 < np
  · by_cases h2 : 8 < np
    · by_cases h3 : np ≤ 1024
      · omega
      · go_wp2
        go_ret
        exact ⟨rfl, Below.refl _ _⟩
    · omega
  by_cases h2 : 8 < np ∧ np ≤ 1024
  · obtain ⟨h2, h3⟩ := h2
    go_wp2
    go_ret
    exact ⟨rfl, Below.refl _ _⟩
  have hq := (HQ.out rfl).1
  rw [HT.out] at hq
  have HS := Lib.hid (HQ.out rfl).2
  have HTW := Lib.hid (ref07_Twin tA ct nt t w HAT.out HT (by omega) HS)
  have hnp : np ≤ 1000 ∨ (1024 < np ∧ np ≤ 100000) := by omega
  have HNP := Lib.hid hnp
  obtain ⟨us, hru, hsu⟩ := HPT.out.src (fun _ _ h => RI.one h)
  rw [HP.out] at hsu
  have SP := Lib.hid hsu; have RU := Lib.hid hru
  have hcase : (8 < np ∧ ¬ np ≤ 1024) ∨ ¬ 8 < np := by omega
  clear HQ HG hsu hru hnp h2
  rcases hcase with ⟨h3, h4⟩ | h3
  all_goals
    go_wp2_with fail
    refine HTW.out.mono ?_
    rintro e w1 ⟨B, cB, rfl, own, hb1⟩
    have OW1 := Lib.hid (OwnRx.at1 own (by rw [HT.out]; omega) HS.out)
    have B1 := Lib.hid hb1
    have hal : Below w1.heap.size w1 (w1.alloc (.cells #[] 3)) := (Below.refl _ _).alloc (Nat.le_refl _) _
    have HAL := Lib.hid hal
    have SP1 := Lib.hid (SP.out.keep (Keep.of (hb1.trans (hal.mono hb1.size))))
    have OW : Hid ((w1.alloc (.cells #[] 3)).ownsRow w.heap.size 3 1 (.slice (some ⟨w1.heap.size, 0, none⟩) 0 0) 0 []) := Lib.hid ⟨by simp, .inr ⟨w1.heap.size, 0, #[], rfl, hb1.size, by show (w1.heap.push _)[w1.heap.size]? = _; simp, Nat.le_refl _, by simp only [maxLen]; omega, by simp, by simp⟩⟩
    have Q1 : Hid (0 + np ≤ maxLen) := Lib.hid (by simp only [maxLen]; omega)
    have Q2 : Hid ((0 + np) * 8 ≤ 140737488355328) := Lib.hid (by omega)
    have Q3 : Hid (w.heap.size ≤ (w1.alloc (.cells #[] 3)).heap.size) := Lib.hid (Nat.le_trans hb1.size hal.size)
    clear own hb1 hal
    go_wp2_with (at_builtin
                 go_must (refine wpList_append_src _ rfl (.tmp 36) (.tmp 37) 22 rfl w.heap.size 3 i0 (.int .i64 0) 1 8 Try.underlying22 hi0 hz0 hs0 hb0 rfl (by decide) (some ⟨w1.heap.size, 0, none⟩) 0 0 [] rfl OW.out pA np cp us rfl SP1.out Q1.out Q2.out Q3.out ?_)
                 intro A5 c5 w2 own5 gr5 _
                 simp only [List.nil_append, Nat.zero_add] at own5
                 have hb12 : Below w1.heap.size w1 w2 := HAL.out.grown gr5 HAL.out.size (fun k hk => by simp [Value.ownBlock] at hk; omega)
                 have B12 := Lib.hid hb12
                 have B2 := Lib.hid (B1.out.trans (hb12.mono B1.out.size))
                 have P5 := Lib.hid (At.of_own own5 RU.out (by rw [HP.out]; omega)).2.2
                 have HIN := Lib.hid (tongue_In B nt cB t A5 np c5 pts w2 (AtRx.keep OW1.out (Keep.of hb12)) HT P5.out HP HNP.out)
                 clear own5 gr5 hb12)
    go_wp2_with fail
    refine HIN.out.mono ?_
    rintro e w3 ⟨hb3, r1, hr1, rfl⟩
    have B23 := Lib.hid hb3
    have B3 := Lib.hid (B2.out.trans (hb3.mono B2.out.size))
    have R1 := Lib.hid hr1
    have HRI := Lib.hid (ref08_In tA nt ct t pA np cp pts w3 (AtRx.keep HAT.out (Keep.of B3.out)) HT (HPT.out.keep (Keep.of B3.out)) HP HNP.out)
    clear hb3 hr1
    go_wp2_with fail
    refine HRI.out.mono ?_
    rintro e w4 ⟨hb4, r2, hr2, rfl⟩
    obtain rfl := R1.out.one hr2
    have B24 := Lib.hid (B23.out.trans (hb4.mono B23.out.size))
    have B4 := Lib.hid (B3.out.trans (hb4.mono B3.out.size))
    have HE1 := Lib.hid (tongue_Ends B nt cB t A5 np c5 pts a w4 (AtRx.keep OW1.out ((Keep.of B12.out).trans (Keep.of B24.out))) HT (P5.out.keep (Keep.of B24.out)) HP HNP.out)
    clear hb4 hr2
    go_wp2_with fail
    refine HE1.out.mono ?_
    rintro e w5 ⟨r3, hr3, hb5, LA, lc, rfl, own3⟩
    have R3 := Lib.hid hr3
    have B25 := Lib.hid (B24.out.trans (hb5.mono B24.out.size))
    have B5 := Lib.hid (B4.out.trans (hb5.mono B4.out.size))
    have AL := Lib.hid (IntsPost.at' hr3 own3)
    have HE2 := Lib.hid (ref08_Ends tA nt ct t pA np cp pts a w5 (AtRx.keep HAT.out (Keep.of B5.out)) HT (HPT.out.keep (Keep.of B5.out)) HP HNP.out)
    clear hb5 own3 hr3
    go_wp2_with fail
    refine HE2.out.mono ?_
    rintro e w6 ⟨r4, hr4, hb6, MA, mc, rfl, own4⟩
    obtain rfl := R3.out.one hr4
    have B26 := Lib.hid (B25.out.trans (hb6.mono B25.out.size))
    have B6 := Lib.hid (B5.out.trans (hb6.mono B5.out.size))
    have AL6 := Lib.hid (AL.out.keep (Keep.of hb6))
    have AM6 := Lib.hid (IntsPost.at' hr4 own4)
    have HSI := Lib.hid (ref06_SameInts LA MA lc mc r3.1.length r3.1.length r3.1 r3.1 w6 AL6.out AM6.out (Lib.hid rfl) (Lib.hid rfl))
    rw [decide_eq_true (p := r3.1 = r3.1) rfl] at HSI
    have e1 : (r1.1 == r1.1) = true := by simp
    have e2 : (r1.2 == r1.2) = true := by simp
    have e3 : (r3.2 == r3.2) = true := by simp
    clear hb6 own4 hr4
    go_wp2_with fail
    refine HSI.out.mono ?_
    rintro e w7 ⟨rfl, q, rfl⟩
    have hb7 : Below w6.heap.size w6 (w6.drewN q) := below_drewN (Below.refl _ _) q
    have B27 := Lib.hid (B26.out.trans (hb7.mono B26.out.size))
    have B7 := Lib.hid (B6.out.trans (hb7.mono B6.out.size))
    clear hb7
    have HSR := Lib.hid (ref07_Same B tA cB ct nt nt t t _ (AtRx.keep OW1.out ((Keep.of B12.out).trans (Keep.of B27.out))) (AtRx.keep HAT.out (Keep.of B7.out)) HT HT)
    rw [decide_eq_true (p := t = t) rfl] at HSR
    go_wp2_with fail
    refine HSR.out.mono ?_
    rintro e w8 ⟨rfl, hb8⟩
    have B28 := Lib.hid (B27.out.trans (hb8.mono B27.out.size))
    have B8 := Lib.hid (B7.out.trans (hb8.mono B7.out.size))
    clear hb8
    have HSP := Lib.hid (ref06_SameInts A5 pA c5 cp np np pts pts w8 (P5.out.keep (Keep.of B28.out)) (HPT.out.keep (Keep.of B8.out)) HP HP)
    rw [decide_eq_true (p := pts = pts) rfl] at HSP
    go_wp2_with fail
    refine HSP.out.mono ?_
    rintro e w9 ⟨rfl, q2, rfl⟩
    have B9 := Lib.hid (B8.out.trans ((below_drewN (Below.refl w8.heap.size w8) q2).mono B8.out.size))
    go_wp2
    go_ret
    exact ⟨rfl, B9.out⟩

end Go.Proofs.Ytjnjbcigbnjmkaa
