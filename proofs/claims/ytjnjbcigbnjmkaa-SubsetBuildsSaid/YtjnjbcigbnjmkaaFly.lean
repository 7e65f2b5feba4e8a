/- Walks: the document's Build. PUT1 -/
import Derived.Test.YtjnjbcigbnjmkaaFhy
import Derived.Test.YtjnjbcigbnjmkaaZfy
namespace Pv
open Go Go.RowKit
/-- How building ends without an automaton: 8, 4, 90. -/
inductive EndD (a : Au) (acc : Int) : Int → Prop where
  | bad (h : ¬ AuOk a acc) : EndD a acc 8
  | many (h : AuOk a acc) (m : 256 < (allSets a).length ∨ 256 < (plcL (allSets a)).length) : EndD a acc 4
  | states (h : AuOk a acc) (m : (allSets a).length ≤ 256) (k : (plcL (allSets a)).length ≤ 256) (g : madeM a acc (plcL (allSets a)) = none) : EndD a acc 90
structure FitD (a : Au) (acc : Int) : Prop where
  ok : AuOk a acc
  s : (allSets a).length ≤ 256
  p : (plcL (allSets a)).length ≤ 256
theorem EndD.one {a : Au} {acc x y : Int} (h : EndD a acc x) (k : EndD a acc y) : x = y := by
  cases h <;> cases k <;> first | rfl | (exfalso; first | contradiction | omega)
theorem EndD.not {a : Au} {acc x : Int} {r : List (List Int) × List Bool} (h : EndD a acc x) (k : FitD a acc) (g : madeM a acc (plcL (allSets a)) = some r) : False := by
  obtain ⟨k1, k2, k3⟩ := k
  cases h with
  | bad h => exact h k1
  | many _ m => omega
  | states _ _ _ g' => rw [g'] at g; cases g
end Pv
namespace Go.Proofs.Ytjnjbcigbnjmkaa
open Go.RowKit Pv

/-- How it ends. -/
def BuiltD (a : Au) (acc : Int) (w : World) (e : Ending) (w' : World) : Prop :=
  ((∃ code, EndD a acc code ∧ e = .returned (.tuple #[zDfa, .int .i64 code])) ∨
    ∃ rows accs v1 v2 v3, FitD a acc ∧ madeM a acc (plcL (allSets a)) = some (rows, accs) ∧ e = .returned (.tuple #[.agg #[v1, v2, v3], .int .i64 0]) ∧ OwnI w' w.heap.size v1 (plcL (allSets a)) ∧ Ls w' w.heap.size none v2 rows ∧ Own w' w.heap.size 4 RB v3 accs) ∧ Below w.heap.size w w'
theorem Own.sets {w w0 : World} {base : Nat} {v : Value} {S : List (List Rng)} (h : Own w base 57 (IsSet w0) v S) (hl : S.length ≤ 140737488355328) (k : Keep w0 w) : ∃ A c, v = .slice A S.length c ∧ AtSets w A S := by
  obtain ⟨A, c, us, e, o, r⟩ := h
  have h1 : Own w base 57 (IsSet w) v S := Own.monoR ⟨A, c, us, e, o, r⟩ fun u x hu => SlK.keep hu k
  obtain ⟨A', c', e', h2, _⟩ := h1.sl hl
  exact ⟨A', c', e', h2⟩
theorem Own.lower {α : Type} {w : World} {base b : Nat} {e : TypeId} {R : Value → α → Prop} {v : Value} {xs : List α} (h : Own w base e R v xs) (hb : b ≤ base) : Own w b e R v xs := by
  obtain ⟨A, c, us, rfl, ⟨h0, h⟩, k⟩ := h
  refine ⟨A, c, us, rfl, ⟨h0, ?_⟩, k⟩
  rcases h with h2 | ⟨g, cap, cur, hv, hg, r⟩
  · exact .inl h2
  · exact .inr ⟨g, cap, cur, hv, Nat.le_trans hb hg, r⟩
theorem OwnI.far {w : World} {b g i : Nat} {v u : Value} {l : List Int} {t : TypeId} {cs : Array Value} (h : OwnI w b v l) (hb : Blk w g t cs) (hne : TLI ≠ t) : OwnI (w.setCell ⟨g, i, none⟩ u) b v l := by
  obtain ⟨A, c, rfl, h1⟩ := h
  exact ⟨A, c, rfl, ownsRow_setFar h1 hb hne _ _⟩
/-- Cuts, rows and what accepts, all of the call's own. -/
structure Res (w : World) (b : Nat) (v1 v2 v3 : Value) (cuts : List Int) (rows : List (List Int)) (accs : List Bool) : Prop where
  c : OwnI w b v1 cuts
  r : Ls w b none v2 rows
  t : Own w b 4 RB v3 accs
section
variable {w w' : World} {b g : Nat} {v1 v2 v3 : Value} {cuts : List Int} {rows : List (List Int)} {accs : List Bool} {cs : Array Value}
theorem Res.below (h : Res w b v1 v2 v3 cuts rows accs) (hb : Below w.heap.size w w') : Res w' b v1 v2 v3 cuts rows accs := ⟨OwnI.below h.c hb, h.r.below hb, h.t.below hb⟩
theorem Res.far {i : Nat} {u : Value} (h : Res w b v1 v2 v3 cuts rows accs) (hb : Blk w g TDfa cs) : Res (w.setCell ⟨g, i, none⟩ u) b v1 v2 v3 cuts rows accs := ⟨OwnI.far h.c hb (by decide), h.r.far hb (by decide) (by decide), h.t.setFar hb (by decide) _ _⟩
theorem Res.far3 {u0 u1 u2 : Value} (h : Res w b v1 v2 v3 cuts rows accs) (hb : Blk w g TDfa cs) : Res (((w.setCell ⟨g, 0, none⟩ u0).setCell ⟨g, 1, none⟩ u1).setCell ⟨g, 2, none⟩ u2) b v1 v2 v3 cuts rows accs :=
  ((h.far hb).far (hb.set 0 u0)).far ((hb.set 0 u0).set 1 u1)
theorem below3 {B : Nat} {u0 u1 u2 : Value} (h : Below B w w') (hg : B ≤ g) : Below B w (((w'.setCell ⟨g, 0, none⟩ u0).setCell ⟨g, 1, none⟩ u1).setCell ⟨g, 2, none⟩ u2) :=
  ((h.setCell (p := ⟨g, 0, none⟩) hg _).setCell (p := ⟨g, 1, none⟩) hg _).setCell (p := ⟨g, 2, none⟩) hg _
theorem Blk.set3 {a0 a1 a2 u0 u1 u2 : Value} {t : TypeId} (h : Blk w g t #[a0, a1, a2]) : Blk (((w.setCell ⟨g, 0, none⟩ u0).setCell ⟨g, 1, none⟩ u1).setCell ⟨g, 2, none⟩ u2) g t #[u0, u1, u2] := ((h.set 0 u0).set 1 u1).set 2 u2
end
theorem TDfa_ne : TLI ≠ TDfa := by decide

set_option maxHeartbeats 4000000 in
set_option maxRecDepth 100000 in
theorem ref10_Build (A : Option Addr) (c n : Nat) (acc : Int) (a : Au) (w : World) (ha : AtAu w A a) (HL : Hid (a.length = n)) :
    Calls Try.prog 44 #[.agg #[.slice A n c, .int .i64 acc]] w (BuiltD a acc w) := by
  have HA := Lib.hid ha
  have HB0 := Lib.hid (((Below.refl w.heap.size w).alloc (Nat.le_refl _) (.cells #[.slice A n c, .int .i64 acc] TAuto)).alloc (by simp) (.cells #[.slice none 0 0, .slice none 0 0, .slice none 0 0] TDfa))
  have KK := blk2 w #[.slice A n c, .int .i64 acc] #[.slice none 0 0, .slice none 0 0, .slice none 0 0] TAuto TDfa
  have KA := Lib.hid KK.1; have KO := Lib.hid KK.2
  have HMY := Lib.hid (ref09_May A c n acc a _ (ha.keep (Keep.of HB0.out)) HL)
  clear ha KK
  by_cases hok : AuOk a acc
  · rw [auB_yes hok] at HMY
    have HOK := Lib.hid hok
    clear hok
    go_enter Try.func44, Try.ntmps44
    go_wp2_with fail
    refine HMY.out.mono ?_
    rintro e w1 ⟨rfl, hb1⟩
    have HB1 := Lib.hid (HB0.out.trans (hb1.mono HB0.out.size))
    have KA1 := Lib.hid (KA.out.below hb1 KA.out.lt); have KO1 := Lib.hid (KO.out.below hb1 KO.out.lt)
    obtain ⟨p0, p1, _, _⟩ := Blk.two KA1.out
    have HST := Lib.hid (ref10_sets A c n acc a w1 (HA.out.keep (Keep.of HB1.out)) HL HOK.out)
    clear hb1 HMY HB0 KA KO
    go_wp2_with fail
    refine HST.out.mono ?_
    rintro e w2 ⟨⟨v2, rfl, hv2⟩, hb2⟩
    have hle := Nat.le_trans (allSets_len a) HOK.out.edges
    obtain ⟨S, sc, rfl, hat⟩ := Own.sets hv2 (by omega) (Keep.of hb2)
    obtain ⟨q, hq⟩ : ∃ q, (allSets a).length = q := ⟨_, rfl⟩
    have HQ := Lib.hid hq
    rw [hq] at hle ⊢
    have HB2 := Lib.hid (HB1.out.trans (hb2.mono HB1.out.size))
    have KA2 := Lib.hid (KA1.out.below hb2 KA1.out.lt); have KO2 := Lib.hid (KO1.out.below hb2 KO1.out.lt)
    have HSA := Lib.hid hat
    clear hv2 hb2 hat hq HST HB1 KA1 KO1 p0 p1
    by_cases h256 : 256 < q
    · have h1 : (256 : Int) < (q : Int) := by omega
      obtain ⟨t0, t1, t2, f0, f1, f2⟩ := Blk.three KO2.out
      have hN := KO2.out.lt
      have HE := Lib.hid (EndD.many HOK.out (.inl (by rw [HQ.out]; exact h256)))
      go_wp2
      obtain ⟨y0, y1, y2, _, _, _⟩ := Blk.three (Blk.set3 (u0 := .slice none 0 0) (u1 := .slice none 0 0) (u2 := .slice none 0 0) KO2.out)
      exact bodyPost_ret (v := .tuple #[zDfa, .int .i64 4]) (by simp [results, Try.results44, go_sem, y0, y1, y2]) rfl ⟨.inl ⟨4, HE.out, rfl⟩, below3 HB2.out (by simp)⟩
    · have h1 : decide ((256 : Int) < (q : Int)) = false := decide_eq_false (by omega)
      have HT := ref06_Turns S sc q (allSets a) w2 HSA.out HQ (by omega) (allSets_ok HOK.out)
      rw [turnsL_eq (allSets_ok HOK.out)] at HT
      have HT := Lib.hid HT
      have HPL := Lib.hid (plcL_len (allSets_ok HOK.out))
      have HPI := Lib.hid (fun x (hx : x ∈ plcL (allSets a)) => plcL_in (allSets_ok HOK.out) hx)
      go_wp2_with fail
      refine HT.out.mono ?_
      rintro e w3 ⟨⟨v3, rfl, hv3⟩, hb3⟩
      have hl3 := HPL.out
      rw [HQ.out] at hl3
      obtain ⟨C, cc, rfl, hat3, _⟩ := hv3.at' (fun x hx => by have := HPI.out x hx; omega) (by omega)
      obtain ⟨nc, hnc⟩ : ∃ nc, (plcL (allSets a)).length = nc := ⟨_, rfl⟩
      have HNC := Lib.hid hnc
      rw [hnc] at hv3 hl3 ⊢
      have HB3 := Lib.hid (HB2.out.trans (hb3.mono HB2.out.size))
      have KA3 := Lib.hid (KA2.out.below hb3 KA2.out.lt); have KO3 := Lib.hid (KO2.out.below hb3 KO2.out.lt)
      have HAC := Lib.hid hat3; have HVC := Lib.hid (hv3.lower HB2.out.size)
      clear hb3 hv3 hat3 hnc HT HB2 KA2 KO2
      by_cases h257 : 256 < nc
      · have h2 : (256 : Int) < (nc : Int) := by omega
        obtain ⟨t0, t1, t2, f0, f1, f2⟩ := Blk.three KO3.out
        have hN := KO3.out.lt
        have HE := Lib.hid (EndD.many HOK.out (.inr (by rw [HNC.out]; exact h257)))
        go_wp2
        obtain ⟨y0, y1, y2, _, _, _⟩ := Blk.three (Blk.set3 (u0 := .slice none 0 0) (u1 := .slice none 0 0) (u2 := .slice none 0 0) KO3.out)
        exact bodyPost_ret (v := .tuple #[zDfa, .int .i64 4]) (by simp [results, Try.results44, go_sem, y0, y1, y2]) rfl ⟨.inl ⟨4, HE.out, rfl⟩, below3 HB3.out (by simp)⟩
      · have h2 : decide ((256 : Int) < (nc : Int)) = false := decide_eq_false (by omega)
        obtain ⟨p0, p1, _, _⟩ := Blk.two KA3.out
        have hN := KO3.out.lt
        have HMD := Lib.hid (ref10_Made A C c n nc cc acc a (plcL (allSets a)) w3 (HA.out.keep (Keep.of HB3.out)) HL HAC.out HNC (by omega) HOK.out)
        have HFT := Lib.hid (show FitD a acc from ⟨HOK.out, by rw [HQ.out]; omega, by rw [HNC.out]; omega⟩)
        clear hl3 h256 h257
        go_wp2_with fail
        refine HMD.out.mono ?_
        rintro e w4 ⟨hr, hb4⟩
        have HB4 := Lib.hid (HB3.out.trans (hb4.mono HB3.out.size))
        have KO4 := Lib.hid (KO3.out.below hb4 KO3.out.lt)
        have HVC4 := Lib.hid (OwnI.below HVC.out hb4)
        have hsz := HB3.out.size
        have hN4 := KO4.out.lt
        rcases hr with ⟨hno, rfl⟩ | ⟨rows, accs, v5, v6, hyes, rfl, hv5, hv6⟩
        · have HE := Lib.hid (EndD.states HFT.out.ok HFT.out.s HFT.out.p hno)
          obtain ⟨t0, t1, t2, f0, f1, f2⟩ := Blk.three KO4.out
          clear hno hb4
          go_wp2
          obtain ⟨y0, y1, y2, _, _, _⟩ := Blk.three ((Blk.set3 (u0 := .slice none 0 0) (u1 := .slice none 0 0) (u2 := .slice none 0 0) KO4.out).alloc (.cells #[.slice none 0 0, .slice none 0 0, .slice none 0 0] TDfa))
          have HX := below3 (g := w.heap.size + 1) (u0 := .slice none 0 0) (u1 := .slice none 0 0) (u2 := .slice none 0 0) HB4.out (by simp)
          exact bodyPost_ret (v := .tuple #[zDfa, .int .i64 90]) (by simp [results, Try.results44, go_sem, y0, y1, y2]) rfl ⟨.inl ⟨90, HE.out, rfl⟩, HX.alloc HX.size _⟩
        · have HY := Lib.hid hyes
          have HRS := Lib.hid (show Res w4 w.heap.size (.slice C nc cc) v5 v6 (plcL (allSets a)) rows accs from ⟨HVC4.out, hv5.lower hsz, Own.lower hv6 hsz⟩)
          obtain ⟨t0, t1, t2, f0, f1, f2⟩ := Blk.three KO4.out
          clear hyes hb4 hv5 hv6
          obtain ⟨A5, c5, _, rfl, _⟩ := HRS.out.r
          obtain ⟨A6, c6, _, rfl, _⟩ := HRS.out.t
          go_wp2
          obtain ⟨y0, y1, y2, _, _, _⟩ := Blk.three ((Blk.set3 (u0 := .slice C nc cc) (u1 := (.slice A5 rows.length c5)) (u2 := (.slice A6 accs.length c6)) KO4.out).alloc (.cells #[.slice C nc cc, (.slice A5 rows.length c5), (.slice A6 accs.length c6)] TDfa))
          have HF := (HRS.out.far3 (u0 := .slice C nc cc) (u1 := (.slice A5 rows.length c5)) (u2 := (.slice A6 accs.length c6)) KO4.out).below ((Below.refl _ _).alloc (Nat.le_refl _) (.cells #[.slice C nc cc, (.slice A5 rows.length c5), (.slice A6 accs.length c6)] TDfa))
          have HX := below3 (g := w.heap.size + 1) (u0 := .slice C nc cc) (u1 := (.slice A5 rows.length c5)) (u2 := (.slice A6 accs.length c6)) HB4.out (by simp)
          exact bodyPost_ret (v := .tuple #[.agg #[.slice C nc cc, (.slice A5 rows.length c5), (.slice A6 accs.length c6)], .int .i64 0]) (by simp [results, Try.results44, go_sem, y0, y1, y2]) rfl ⟨.inr ⟨rows, accs, _, _, _, HFT.out, HY.out, rfl, HF.c, HF.r, HF.t⟩, HX.alloc HX.size _⟩
  · rw [auB_no hok] at HMY
    have HE := Lib.hid (EndD.bad hok)
    clear hok
    go_enter Try.func44, Try.ntmps44
    go_wp2_with fail
    refine HMY.out.mono ?_
    rintro e w1 ⟨rfl, hb1⟩
    have HB1 := Lib.hid (HB0.out.trans (hb1.mono HB0.out.size))
    have KO1 := Lib.hid (KO.out.below hb1 KO.out.lt)
    obtain ⟨t0, t1, t2, f0, f1, f2⟩ := Blk.three KO1.out
    have hN := KO1.out.lt
    clear hb1
    go_wp2
    obtain ⟨y0, y1, y2, _, _, _⟩ := Blk.three (Blk.set3 (u0 := .slice none 0 0) (u1 := .slice none 0 0) (u2 := .slice none 0 0) KO1.out)
    exact bodyPost_ret (v := .tuple #[zDfa, .int .i64 8]) (by simp [results, Try.results44, go_sem, y0, y1, y2]) rfl ⟨.inl ⟨8, HE.out, rfl⟩, below3 HB1.out (by simp)⟩
end Go.Proofs.Ytjnjbcigbnjmkaa
