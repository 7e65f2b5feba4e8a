/- Walks: the document's Build. PUT1 -/
import Derived.Test.YtjnjbcigbnjmkaaGreatFhy
import Derived.Test.YtjnjbcigbnjmkaaGreatZfy
import Derived.Test.YtjnjbcigbnjmkaaGreatGey
import Derived.Test.YtjnjbcigbnjmkaaGreatZey
import Derived.Test.YtjnjbcigbnjmkaaGreatWky
import Derived.Test.YtjnjbcigbnjmkaaGreatQvy
namespace Pv
open Go Go.RowKit
/-- How building ends without an automaton: 8, 4, 90. -/
inductive EndD (a : Au) (acc : Int) : Int → Prop where
  | bad (h : ¬ AuOk a acc) : EndD a acc 8
  | many (h : AuOk a acc) (m : 256 < (allSets a).length ∨ 256 < (plcL (allSets a)).length) : EndD a acc 4
  | states (h : AuOk a acc) (m : (allSets a).length ≤ 256) (k : (plcL (allSets a)).length ≤ 256) (g : madeM a acc (plcL (allSets a)) = none) : EndD a acc 90
structure FitD (a : Au) (acc : Int) : Prop where
  ok : AuOk a acc
  s : (allSets a).length ≤ 256
  p : (plcL (allSets a)).length ≤ 256
theorem EndD.one {a : Au} {acc x y : Int} (h : EndD a acc x) (k : EndD a acc y) : x = y := by
  cases h <;> cases k <;> first | rfl | (exfalso; first | contradiction | omega)
theorem EndD.not {a : Au} {acc x : Int} {r : List (List Int) × List Bool} (h : EndD a acc x) (k : FitD a acc) (g : madeM a acc (plcL (allSets a)) = some r) : False := by
  obtain ⟨k1, k2, k3⟩ := k
  cases h with
  | bad h => exact h k1
  | many _ m => omega
  | states _ _ _ g' => rw [g'] at g; cases g
end Pv
namespace Go.Proofs.YtjnjbcigbnjmkaaGreat
open Go.RowKit Pv

/-- How it ends. -/
def BuiltD (a : Au) (acc : Int) (w : World) (e : Ending) (w' : World) : Prop :=
  ((∃ code, EndD a acc code ∧ e = .returned (.tuple #[zDfa, .int .i64 code])) ∨
    ∃ rows accs v1 v2 v3, FitD a acc ∧ madeM a acc (plcL (allSets a)) = some (rows, accs) ∧ e = .returned (.tuple #[.agg #[v1, v2, v3], .int .i64 0]) ∧ OwnI w' w.heap.size v1 (plcL (allSets a)) ∧ Ls w' w.heap.size none v2 rows ∧ Own w' w.heap.size 4 RB v3 accs) ∧ Below w.heap.size w w'
theorem Own.sets {w w0 : World} {base : Nat} {v : Value} {S : List (List Rng)} (h : Own w base 23 (IsSet w0) v S) (hl : S.length ≤ 140737488355328) (k : Keep w0 w) : ∃ A c, v = .slice A S.length c ∧ AtSets w A S := by
  obtain ⟨A, c, us, e, o, r⟩ := h
  have h1 : Own w base 23 (IsSet w) v S := Own.monoR ⟨A, c, us, e, o, r⟩ fun u x hu => SlK.keep hu k
  obtain ⟨A', c', e', h2, _⟩ := h1.sl hl
  exact ⟨A', c', e', h2⟩
theorem Own.lower {α : Type} {w : World} {base b : Nat} {e : TypeId} {R : Value → α → Prop} {v : Value} {xs : List α} (h : Own w base e R v xs) (hb : b ≤ base) : Own w b e R v xs := by
  obtain ⟨A, c, us, rfl, ⟨h0, h⟩, k⟩ := h
  refine ⟨A, c, us, rfl, ⟨h0, ?_⟩, k⟩
  rcases h with h2 | ⟨g, cap, cur, hv, hg, r⟩
  · exact .inl h2
  · exact .inr ⟨g, cap, cur, hv, Nat.le_trans hb hg, r⟩
theorem OwnI.far {w : World} {b g i : Nat} {v u : Value} {l : List Int} {t : TypeId} {cs : Array Value} (h : OwnI w b v l) (hb : Blk w g t cs) (hne : TLI ≠ t) : OwnI (w.setCell ⟨g, i, none⟩ u) b v l := by
  obtain ⟨A, c, rfl, h1⟩ := h
  exact ⟨A, c, rfl, ownsRow_setFar h1 hb hne _ _⟩
/-- Cuts, rows and what accepts, all of the call's own. -/
structure Res (w : World) (b : Nat) (v1 v2 v3 : Value) (cuts : List Int) (rows : List (List Int)) (accs : List Bool) : Prop where
  c : OwnI w b v1 cuts
  r : Ls w b none v2 rows
  t : Own w b 4 RB v3 accs
section
variable {w w' : World} {b g : Nat} {v1 v2 v3 : Value} {cuts : List Int} {rows : List (List Int)} {accs : List Bool} {cs : Array Value}
theorem Res.below (h : Res w b v1 v2 v3 cuts rows accs) (hb : Below w.heap.size w w') : Res w' b v1 v2 v3 cuts rows accs := ⟨OwnI.below h.c hb, h.r.below hb, h.t.below hb⟩
theorem Res.far {i : Nat} {u : Value} (h : Res w b v1 v2 v3 cuts rows accs) (hb : Blk w g TDfa cs) : Res (w.setCell ⟨g, i, none⟩ u) b v1 v2 v3 cuts rows accs := ⟨OwnI.far h.c hb (by decide), h.r.far hb (by decide) (by decide), h.t.setFar hb (by decide) _ _⟩
theorem Res.far3 {u0 u1 u2 : Value} (h : Res w b v1 v2 v3 cuts rows accs) (hb : Blk w g TDfa cs) : Res (((w.setCell ⟨g, 0, none⟩ u0).setCell ⟨g, 1, none⟩ u1).setCell ⟨g, 2, none⟩ u2) b v1 v2 v3 cuts rows accs :=
  ((h.far hb).far (hb.set 0 u0)).far ((hb.set 0 u0).set 1 u1)
theorem below3 {B : Nat} {u0 u1 u2 : Value} (h : Below B w w') (hg : B ≤ g) : Below B w (((w'.setCell ⟨g, 0, none⟩ u0).setCell ⟨g, 1, none⟩ u1).setCell ⟨g, 2, none⟩ u2) :=
  ((h.setCell (p := ⟨g, 0, none⟩) hg _).setCell (p := ⟨g, 1, none⟩) hg _).setCell (p := ⟨g, 2, none⟩) hg _
theorem Blk.set3 {a0 a1 a2 u0 u1 u2 : Value} {t : TypeId} (h : Blk w g t #[a0, a1, a2]) : Blk (((w.setCell ⟨g, 0, none⟩ u0).setCell ⟨g, 1, none⟩ u1).setCell ⟨g, 2, none⟩ u2) g t #[u0, u1, u2] := ((h.set 0 u0).set 1 u1).set 2 u2
end
theorem TDfa_ne : TLI ≠ TDfa := by decide

set_option maxHeartbeats 4000000 in
set_option maxRecDepth 100000 in
theorem ref10_Build (A : Option Addr) (c n : Nat) (acc : Int) (a : Au) (w : World) (ha : AtAu w A a) (HL : Hid (a.length = n)) :
    Calls Tryz.prog 12 #[.agg #[.slice A n c, .int .i64 acc]] w (BuiltD a acc w) := by
  have HA := Lib.hid ha
  have HB0 := Lib.hid (((Below.refl w.heap.size w).alloc (Nat.le_refl _) (.cells #[.slice A n c, .int .i64 acc] TAuto)).alloc (by simp) (.cells #[.slice none 0 0, .slice none 0 0, .slice none 0 0] TDfa))
  have KK := blk2 w #[.slice A n c, .int .i64 acc] #[.slice none 0 0, .slice none 0 0, .slice none 0 0] TAuto TDfa
  have KA := Lib.hid KK.1; have KO := Lib.hid KK.2
  have HMY := Lib.hid (ref09_May A c n acc a _ (ha.keep (Keep.of HB0.out)) HL)
  clear ha KK
  by_cases hok : AuOk a acc
  · rw [auB_yes hok] at HMY
    have HOK := Lib.hid hok
    clear hok
    go_enter Tryz.func12, Tryz.ntmps12
    go_wp2_with fail
    refine HMY.out.mono ?_
    rintro e w1 ⟨rfl, hb1⟩
    have HB1 := Lib.hid (HB0.out.trans (hb1.mono HB0.out.size))
    have KA1 := Lib.hid (KA.out.below hb1 KA.out.lt); have KO1 := Lib.hid (KO.out.below hb1 KO.out.lt)
    obtain ⟨p0, p1, _, _⟩ := Blk.two KA1.out
    have HST := Lib.hid (ref10_sets A c n acc a w1 (HA.out.keep (Keep.of HB1.out)) HL HOK.out)
    clear hb1 HMY HB0 KA KO
    go_wp2_with fail
    refine HST.out.mono ?_
    rintro e w2 ⟨⟨v2, rfl, hv2⟩, hb2⟩
    have hle := Nat.le_trans (allSets_len a) HOK.out.edges
    obtain ⟨S, sc, rfl, hat⟩ := Own.sets hv2 (by omega) (Keep.of hb2)
    obtain ⟨q, hq⟩ : ∃ q, (allSets a).length = q := ⟨_, rfl⟩
    have HQ := Lib.hid hq
    rw [hq] at hle ⊢
    have HB2 := Lib.hid (HB1.out.trans (hb2.mono HB1.out.size))
    have KA2 := Lib.hid (KA1.out.below hb2 KA1.out.lt); have KO2 := Lib.hid (KO1.out.below hb2 KO1.out.lt)
    have HSA := Lib.hid hat
    clear hv2 hb2 hat hq HST HB1 KA1 KO1 p0 p1
    by_cases h256 : 256 < q
    · have h1 : (256 : Int) < (q : Int) := by omega
      obtain ⟨t0, t1, t2, f0, f1, f2⟩ := Blk.three KO2.out
      have hN := KO2.out.lt
      have HE := Lib.hid (EndD.many HOK.out (.inl (by rw [HQ.out]; exact h256)))
      go_wp2
      obtain ⟨y0, y1, y2, _, _, _⟩ := Blk.three (Blk.set3 (u0 := .slice none 0 0) (u1 := .slice none 0 0) (u2 := .slice none 0 0) KO2.out)
      exact bodyPost_ret (v := .tuple #[zDfa, .int .i64 4]) (by simp [results, Tryz.results12, go_sem, y0, y1, y2]) rfl ⟨.inl ⟨4, HE.out, rfl⟩, below3 HB2.out (by simp)⟩
    · have h1 : decide ((256 : Int) < (q : Int)) = false := decide_eq_false (by omega)
      have HT := ref06_Turns S sc q (allSets a) w2 HSA.out HQ (by omega) (allSets_ok HOK.out)
      rw [turnsL_eq (allSets_ok HOK.out)] at HT
      have HT := Lib.hid HT
      have HPL := Lib.hid (plcL_len (allSets_ok HOK.out))
      have HPI := Lib.hid (fun x (hx : x ∈ plcL (allSets a)) => plcL_in (allSets_ok HOK.out) hx)
      go_wp2_with fail
      refine HT.out.mono ?_
      rintro e w3 ⟨⟨v3, rfl, hv3⟩, hb3⟩
      have hl3 := HPL.out
      rw [HQ.out] at hl3
      obtain ⟨C, cc, rfl, hat3, _⟩ := hv3.at' (fun x hx => by have := HPI.out x hx; omega) (by omega)
      obtain ⟨nc, hnc⟩ : ∃ nc, (plcL (allSets a)).length = nc := ⟨_, rfl⟩
      have HNC := Lib.hid hnc
      rw [hnc] at hv3 hl3 ⊢
      have HB3 := Lib.hid (HB2.out.trans (hb3.mono HB2.out.size))
      have KA3 := Lib.hid (KA2.out.below hb3 KA2.out.lt); have KO3 := Lib.hid (KO2.out.below hb3 KO2.out.lt)
      have HAC := Lib.hid hat3; have HVC := Lib.hid (hv3.lower HB2.out.size)
      clear hb3 hv3 hat3 hnc HT HB2 KA2 KO2
      by_cases h257 : 256 < nc
      · have h2 : (256 : Int) < (nc : Int) := by omega
        obtain ⟨t0, t1, t2, f0, f1, f2⟩ := Blk.three KO3.out
        have hN := KO3.out.lt
        have HE := Lib.hid (EndD.many HOK.out (.inr (by rw [HNC.out]; exact h257)))
        go_wp2
        obtain ⟨y0, y1, y2, _, _, _⟩ := Blk.three (Blk.set3 (u0 := .slice none 0 0) (u1 := .slice none 0 0) (u2 := .slice none 0 0) KO3.out)
        exact bodyPost_ret (v := .tuple #[zDfa, .int .i64 4]) (by simp [results, Tryz.results12, go_sem, y0, y1, y2]) rfl ⟨.inl ⟨4, HE.out, rfl⟩, below3 HB3.out (by simp)⟩
      · have h2 : decide ((256 : Int) < (nc : Int)) = false := decide_eq_false (by omega)
        obtain ⟨p0, p1, _, _⟩ := Blk.two KA3.out
        have hN := KO3.out.lt
        have HMD := Lib.hid (ref10_Made A C c n nc cc acc a (plcL (allSets a)) w3 (HA.out.keep (Keep.of HB3.out)) HL HAC.out HNC (by omega) HOK.out)
        have HFT := Lib.hid (show FitD a acc from ⟨HOK.out, by rw [HQ.out]; omega, by rw [HNC.out]; omega⟩)
        clear hl3 h256 h257
        go_wp2_with fail
        refine HMD.out.mono ?_
        rintro e w4 ⟨hr, hb4⟩
        have HB4 := Lib.hid (HB3.out.trans (hb4.mono HB3.out.size))
        have KO4 := Lib.hid (KO3.out.below hb4 KO3.out.lt)
        have HVC4 := Lib.hid (OwnI.below HVC.out hb4)
        have hsz := HB3.out.size
        have hN4 := KO4.out.lt
        rcases hr with ⟨hno, rfl⟩ | ⟨rows, accs, v5, v6, hyes, rfl, hv5, hv6⟩
        · have HE := Lib.hid (EndD.states HFT.out.ok HFT.out.s HFT.out.p hno)
          obtain ⟨t0, t1, t2, f0, f1, f2⟩ := Blk.three KO4.out
          clear hno hb4
          go_wp2
          obtain ⟨y0, y1, y2, _, _, _⟩ := Blk.three ((Blk.set3 (u0 := .slice none 0 0) (u1 := .slice none 0 0) (u2 := .slice none 0 0) KO4.out).alloc (.cells #[.slice none 0 0, .slice none 0 0, .slice none 0 0] TDfa))
          have HX := below3 (g := w.heap.size + 1) (u0 := .slice none 0 0) (u1 := .slice none 0 0) (u2 := .slice none 0 0) HB4.out (by simp)
          exact bodyPost_ret (v := .tuple #[zDfa, .int .i64 90]) (by simp [results, Tryz.results12, go_sem, y0, y1, y2]) rfl ⟨.inl ⟨90, HE.out, rfl⟩, HX.alloc HX.size _⟩
        · have HY := Lib.hid hyes
          have HRS := Lib.hid (show Res w4 w.heap.size (.slice C nc cc) v5 v6 (plcL (allSets a)) rows accs from ⟨HVC4.out, hv5.lower hsz, Own.lower hv6 hsz⟩)
          obtain ⟨t0, t1, t2, f0, f1, f2⟩ := Blk.three KO4.out
          clear hyes hb4 hv5 hv6
          obtain ⟨A5, c5, _, rfl, _⟩ := HRS.out.r
          obtain ⟨A6, c6, _, rfl, _⟩ := HRS.out.t
          go_wp2
          obtain ⟨y0, y1, y2, _, _, _⟩ := Blk.three ((Blk.set3 (u0 := .slice C nc cc) (u1 := (.slice A5 rows.length c5)) (u2 := (.slice A6 accs.length c6)) KO4.out).alloc (.cells #[.slice C nc cc, (.slice A5 rows.length c5), (.slice A6 accs.length c6)] TDfa))
          have HF := (HRS.out.far3 (u0 := .slice C nc cc) (u1 := (.slice A5 rows.length c5)) (u2 := (.slice A6 accs.length c6)) KO4.out).below ((Below.refl _ _).alloc (Nat.le_refl _) (.cells #[.slice C nc cc, (.slice A5 rows.length c5), (.slice A6 accs.length c6)] TDfa))
          have HX := below3 (g := w.heap.size + 1) (u0 := .slice C nc cc) (u1 := (.slice A5 rows.length c5)) (u2 := (.slice A6 accs.length c6)) HB4.out (by simp)
          exact bodyPost_ret (v := .tuple #[.agg #[.slice C nc cc, (.slice A5 rows.length c5), (.slice A6 accs.length c6)], .int .i64 0]) (by simp [results, Tryz.results12, go_sem, y0, y1, y2]) rfl ⟨.inr ⟨rows, accs, _, _, _, HFT.out, HY.out, rfl, HF.c, HF.r, HF.t⟩, HX.alloc HX.size _⟩
  · rw [auB_no hok] at HMY
    have HE := Lib.hid (EndD.bad hok)
    clear hok
    go_enter Tryz.func12, Tryz.ntmps12
    go_wp2_with fail
    refine HMY.out.mono ?_
    rintro e w1 ⟨rfl, hb1⟩
    have HB1 := Lib.hid (HB0.out.trans (hb1.mono HB0.out.size))
    have KO1 := Lib.hid (KO.out.below hb1 KO.out.lt)
    obtain ⟨t0, t1, t2, f0, f1, f2⟩ := Blk.three KO1.out
    have hN := KO1.out.lt
    clear hb1
    go_wp2
    obtain ⟨y0, y1, y2, _, _, _⟩ := Blk.three (Blk.set3 (u0 := .slice none 0 0) (u1 := .slice none 0 0) (u2 := .slice none 0 0) KO1.out)
    exact bodyPost_ret (v := .tuple #[zDfa, .int .i64 8]) (by simp [results, Tryz.results12, go_sem, y0, y1, y2]) rfl ⟨.inl ⟨8, HE.out, rfl⟩, below3 HB1.out (by simp)⟩
end Go.Proofs.YtjnjbcigbnjmkaaGreat

namespace Pv
open Go Go.RowKit
theorem cntU_congr {n : Nat} {U V : Nat → Nat → Prop} (h : ∀ a b, U a b ↔ V a b) : cntU n U = cntU n V := by
  unfold cntU; congr 1; funext p; exact propext (h _ _)
/-- A pass: from U0 on, so far U; gb: has it told more? what has been looked at. -/
structure PassU (d : Dfa) (U0 U : Nat → Nat → Prop) (gb : Bool) (D : Nat → Nat → Nat → Prop) : Prop where
  ok : UnOk d U
  le : ∀ a b, U0 a b → U a b
  cl : gb = false → (∀ a b, U a b → U0 a b) ∧ ∀ s t c, D s t c → U (d.go s c) (d.go t c) → U s t
  up : gb = true → cntU d.next.length U0 < cntU d.next.length U
section
variable {d : Dfa} {U0 U : Nat → Nat → Prop} {gb : Bool} {D D' : Nat → Nat → Nat → Prop}
theorem PassU.start (h : UnOk d U) (hD : ∀ s t c, ¬ D s t c) : PassU d U U false D := ⟨h, fun _ _ h => h, fun _ => ⟨fun _ _ h => h, fun s t c h => (hD s t c h).elim⟩, fun h => by cases h⟩
theorem PassU.more (h : PassU d U0 U gb D) (hD : ∀ s t c, D' s t c → D s t c ∨ (U (d.go s c) (d.go t c) → U s t)) : PassU d U0 U gb D' :=
  ⟨h.ok, h.le, fun hg => ⟨(h.cl hg).1, fun s t c h1 h2 => (hD s t c h1).elim (fun h3 => (h.cl hg).2 s t c h3 h2) fun h3 => h3 h2⟩, h.up⟩
theorem PassU.add {i k c : Nat} (h : PassU d U0 U gb D) (hd : d.Ok) (hi : i < d.next.length) (hk : k < d.next.length) (hc : c < d.cuts.length) (h1 : d.go i c < d.next.length) (h2 : d.go k c < d.next.length) (hu : U (d.go i c) (d.go k c)) (hn : ¬ U i k) : PassU d U0 (fun a b => U a b ∨ (a = i ∧ b = k)) true D' :=
  ⟨h.ok.add hc h1 h2 hu, fun a b hab => .inl (h.le a b hab), fun h => (by cases h), fun _ => by
    have h3 : cntU d.next.length U < cntU d.next.length (fun a b => U a b ∨ (a = i ∧ b = k)) := cntU_lt (fun a b h => .inl h) hi hk (.inr ⟨rfl, rfl⟩) hn
    cases gb with
    | true => have := h.up rfl; omega
    | false =>
      have h4 : cntU d.next.length U0 = cntU d.next.length U := cntU_congr fun a b => ⟨h.le a b, (h.cl rfl).1 a b⟩
      omega⟩
end
/-- A Dfa that may be, in memory: its rows, where it goes, what accepts. -/
theorem DfaAt.rows {w : World} {A1 A2 A3 : Option Addr} {n1 n2 n3 : Nat} {d : Dfa} (h : DfaAt w A1 A2 A3 n1 n2 n3 d) (hok : d.Ok) : ∃ b2 o2 b3 o3, A2 = some ⟨b2, o2, none⟩ ∧ A3 = some ⟨b3, o3, none⟩ ∧ b2 < w.heap.size ∧ b3 < w.heap.size ∧ n3 = n2 ∧
    (∀ s, s < n2 → ∃ rb ro rc, rb < w.heap.size ∧ w.cell? ⟨b2, o2 + s, none⟩ = some (.slice (some ⟨rb, ro, none⟩) n1 rc) ∧ ∀ c, c < n1 → w.cell? ⟨rb, ro + c, none⟩ = some (.int .i64 (d.go s c)) ∧ d.go s c < n2) ∧
    ∀ s, s < n2 → w.cell? ⟨b3, o3 + s, none⟩ = some (.bool (d.acc s)) := by
  have hn := h.hn.out; have hc := h.hc.out; have ha := h.ha.out
  have h1 := hok.n1; have hc1 := hok.c1; have hal := hok.a
  obtain ⟨b2, o2, e2, hb2, hr⟩ := h.n.2 (by omega)
  obtain ⟨b3, o3, e3, hb3, hq⟩ := h.a.2 (by omega)
  refine ⟨b2, o2, b3, o3, e2, e3, hb2, hb3, by omega, fun s hs => ?_, fun s hs => ?_⟩
  · have hs2 : s < d.next.length := by omega
    obtain ⟨r, hr1, hr2, _, _⟩ := hok.cell hs2 (show 0 < d.cuts.length by omega)
    obtain ⟨u, hu, A, c, rfl, hat, _⟩ := hr s r hr1
    obtain ⟨rb, ro, e4, hrb, hcell⟩ := hat.2 (by omega)
    subst e4
    refine ⟨rb, ro, c, hrb, by rw [hu, hr2, hc], fun c hcn => ?_⟩
    obtain ⟨r', hr1', _, h3, h4⟩ := hok.cell hs2 (show c < d.cuts.length by omega)
    obtain rfl := Option.some.inj (hr1.symm.trans hr1')
    obtain ⟨u, hu, rfl, _⟩ := hcell c _ h3
    exact ⟨hu, by omega⟩
  · obtain ⟨u, hu, hb⟩ := hq s _ (hok.accAt (show s < d.next.length by omega))
    rw [hu, hb]
end Pv
namespace Go.Proofs.YtjnjbcigbnjmkaaGreat
open Go.RowKit Pv

abbrev TB1 : TypeId := 4
abbrev TB2 : TypeId := 28
theorem info_boolG : (Tryz.prog.info? 4).map (fun i => (i.zero, i.size, i.bytes)) = some (some (.bool false), 1, 1) := by kernel_rfl
theorem info_boolsG : (Tryz.prog.info? 28).map (fun i => (i.zero, i.size, i.bytes)) = some (some (.slice none 0 0), 1, 24) := by kernel_rfl
/-- A square table of which i rows are made. -/
structure TbN (w : World) (g n i : Nat) (R : Nat → Nat → Prop) : Prop where
  out : w.rowIs g TB2 n (fun k => if k < i then .slice (some ⟨g + 1 + k, 0, none⟩) n n else .slice none 0 0)
  row : ∀ k, k < i → w.rowIs (g + 1 + k) TB1 n (fun j => .bool (yes (R k j)))
section
variable {w w' : World} {g n i : Nat} {R R' : Nat → Nat → Prop}
theorem TbN.next (h : TbN w g n i R) (hb : Below w.heap.size w w') : TbN w' g n i R :=
  ⟨h.out.of_block (hb.block _ h.out.lt), fun k hk => (h.row k hk).of_block (hb.block _ (h.row k hk).lt)⟩
theorem TbN.congr (h : TbN w g n i R) (e : ∀ a b, a < i → b < n → (R a b ↔ R' a b)) : TbN w g n i R' :=
  ⟨h.out, fun k hk => (h.row k hk).congr fun j hj => by rw [show R k j = R' k j from propext (e k j hk hj)]⟩
theorem TbN.rowCell (h : TbN w g n i R) (hi : i ≤ n) {k : Nat} (hk : k < i) : w.cell? ⟨g, k, none⟩ = some (.slice (some ⟨g + 1 + k, 0, none⟩) n n) := by
  have := h.out.cell (i := k) (by omega)
  rwa [if_pos hk] at this
theorem TbN.cell (h : TbN w g n i R) {k j : Nat} (hk : k < i) (hj : j < n) : w.cell? ⟨g + 1 + k, j, none⟩ = some (.bool (yes (R k j))) := (h.row k hk).cell hj
theorem TbN.set {k j : Nat} {b : Bool} (h : TbN w g n i R) (hk : k < i) (h1 : R' k j ↔ b = true) (h2 : ∀ a c, a < i → c < n → ¬ (a = k ∧ c = j) → (R a c ↔ R' a c)) : TbN (w.setCell ⟨g + 1 + k, j, none⟩ (.bool b)) g n i R' := by
  refine ⟨h.out.setOther (by simp only; omega) _, fun a ha => ?_⟩
  by_cases e : a = k
  · subst e
    refine ((h.row a ha).set j (.bool b)).congr fun c hc => ?_
    by_cases e2 : c = j
    · subst e2
      simp only [if_true]
      congr 1
      cases b with
      | true => exact (yes_t (h1.2 rfl)).symm
      | false => exact (yes_f (fun h3 => by have := h1.1 h3; cases this)).symm
    · simp only [if_neg e2]
      rw [show R a c = R' a c from propext (h2 a c ha hc (fun h => e2 h.2))]
  · refine ((h.row a ha).setOther (by simp only; omega) _).congr fun c hc => ?_
    rw [show R a c = R' a c from propext (h2 a c ha hc (fun h => e h.1))]
theorem TbN.made (w : World) (n : Nat) : TbN (w.alloc (.cells (madeCells #[.slice none 0 0] n) TB2)) w.heap.size n 0 R :=
  ⟨(World.rowIs_made w (.slice none 0 0) n TB2).congr fun k _ => by simp, fun k hk => by omega⟩
/-- A row more, of nothing. -/
theorem TbN.step (h : TbN w g n i R) (hs : w.heap.size = g + 1 + i) (hR : ∀ j, ¬ R' i j) (hRR : ∀ a b, a < i → b < n → (R a b ↔ R' a b)) : TbN ((w.alloc (.cells (madeCells #[.bool false] n) TB1)).setCell ⟨g, i, none⟩ (.slice (some ⟨w.heap.size, 0, none⟩) n n)) g n (i + 1) R' := by
  refine ⟨((h.out.alloc _).set i _).congr fun k hk => ?_, fun k hk => ?_⟩
  · by_cases e : k = i
    · subst e; simp [hs]
    · simp only [if_neg e]
      by_cases e2 : k < i
      · simp [e2, show k < i + 1 by omega]
      · simp [e2, show ¬ k < i + 1 by omega]
  · by_cases e : k < i
    · exact (((h.row k e).alloc _).setOther (by simp only; omega) _).congr fun j hj => by rw [show R k j = R' k j from propext (hRR k j e hj)]
    · obtain rfl : k = i := by omega
      have := (World.rowIs_made w (.bool false) n TB1).setOther (a := ⟨g, k, none⟩) (by simp only; omega) (.slice (some ⟨w.heap.size, 0, none⟩) n n)
      rw [hs] at this ⊢
      exact this.congr fun j _ => by rw [yes_f (hR j)]
end
end Go.Proofs.YtjnjbcigbnjmkaaGreat

namespace Go.Proofs.YtjnjbcigbnjmkaaGreat
open Go.RowKit Pv

/-- What a pass has looked at. -/
def Dm (n n1 i k m s t c : Nat) : Prop := (s < i ∧ t < n ∧ c < n1) ∨ (s = i ∧ t < k ∧ c < n1) ∨ (s = i ∧ t = k ∧ c < m)
/-- The table of what is not alike. -/
def UnlikePost (d : Dfa) (n : Nat) (w : World) (e : Ending) (w' : World) : Prop :=
  ∃ g, e = .returned (.slice (some ⟨g, 0, none⟩) n n) ∧ w.heap.size ≤ g ∧ TbN w' g n n (fun s t => ¬ Lks d s t) ∧ Below w.heap.size w w'
/-- What is under way: the automaton's box, the table. -/
structure UnI (w wr : World) (n i : Nat) (v1 v2 v3 : Value) (R : Nat → Nat → Prop) : Prop where
  t : TbN wr (w.heap.size + 1) n i R
  d : Blk wr w.heap.size TDfa #[v1, v2, v3]
  b : Below w.heap.size w wr
section
variable {w wr w' : World} {n i : Nat} {v1 v2 v3 : Value} {R R' : Nat → Nat → Prop}
theorem UnI.next (h : UnI w wr n i v1 v2 v3 R) (hb : Below wr.heap.size wr w') : UnI w w' n i v1 v2 v3 R := ⟨h.t.next hb, h.d.below hb h.d.lt, h.b.trans (hb.mono h.b.size)⟩
theorem UnI.congr (h : UnI w wr n i v1 v2 v3 R) (e : ∀ a b, a < i → b < n → (R a b ↔ R' a b)) : UnI w wr n i v1 v2 v3 R' := ⟨h.t.congr e, h.d, h.b⟩
theorem UnI.set {k j : Nat} {b : Bool} (h : UnI w wr n i v1 v2 v3 R) (hk : k < i) (h1 : R' k j ↔ b = true) (h2 : ∀ a c, a < i → c < n → ¬ (a = k ∧ c = j) → (R a c ↔ R' a c)) : UnI w (wr.setCell ⟨w.heap.size + 1 + 1 + k, j, none⟩ (.bool b)) n i v1 v2 v3 R' :=
  ⟨h.t.set hk h1 h2, h.d.far (p := ⟨w.heap.size + 1 + 1 + k, j, none⟩) (by simp only; omega) _, h.b.setCell (p := ⟨w.heap.size + 1 + 1 + k, j, none⟩) (by simp only; omega) _⟩
end
/-- The passes. -/
def UnR (w : World) (d : Dfa) (n : Nat) (v1 v2 v3 : Value) (N : Nat) (gv : Value) (wr : World) : Prop :=
  ∃ (gb : Bool) (U : Nat → Nat → Prop), gv = .bool gb ∧ UnI w wr n n v1 v2 v3 U ∧ UnOk d U ∧ (gb = false → ∀ s t c, s < n → t < n → c < d.cuts.length → U (d.go s c) (d.go t c) → U s t) ∧ N = (if gb = true then n * n + 2 - cntU n U else 0)

set_option maxHeartbeats 4000000 in
set_option maxRecDepth 100000 in
theorem ref11_unlike (A1 A2 A3 : Option Addr) (c1 c2 c3 n1 n n3 : Nat) (d : Dfa) (w : World) (H : DfaAt w A1 A2 A3 n1 n n3 d) (hok : d.Ok) :
    Calls Tryz.prog 38 #[.agg #[.slice A1 n1 c1, .slice A2 n c2, .slice A3 n3 c3]] w (UnlikePost d n w) := by
  obtain ⟨b2, o2, b3, o3, e2, e3, hb2, hb3, e4, hrow, hacc⟩ := H.rows hok
  subst e2; subst e3
  obtain rfl := e4.symm
  have hn : n ≤ 64 := by have := hok.n2; have := H.hn.out; omega
  have hc : n1 ≤ 256 := by have := hok.c2; have := H.hc.out; omega
  have HNN := H.hn; have HNC := H.hc
  have HOK := Lib.hid hok; have HR := Lib.hid hrow; have HA := Lib.hid hacc
  have hm1 := fun W : World => run_make_row' (P := Tryz.prog) 86 28 (.slice none 0 0) 24 Tryz.underlying86 info_boolsG rfl .i64 .i64 n (by omega) (by omega) W
  have hm2 := fun W : World => run_make_row' (P := Tryz.prog) 28 4 (.bool false) 1 Tryz.underlying28 info_boolG rfl .i64 .i64 n (by omega) (by omega) W
  have HB0 := Lib.hid (((Below.refl w.heap.size w).alloc (Nat.le_refl _) (.cells #[.slice A1 n1 c1, .slice (some ⟨b2, o2, none⟩) n c2, .slice (some ⟨b3, o3, none⟩) n c3] TDfa)).alloc (by simp) (.cells (madeCells #[.slice none 0 0] n) TB2))
  have K0 := Lib.hid ((Blk.new w TDfa #[.slice A1 n1 c1, .slice (some ⟨b2, o2, none⟩) n c2, .slice (some ⟨b3, o3, none⟩) n c3]).alloc (.cells (madeCells #[.slice none 0 0] n) TB2))
  have T0 := TbN.made (R := fun a b => d.acc a ≠ d.acc b) (w.alloc (.cells #[.slice A1 n1 c1, .slice (some ⟨b2, o2, none⟩) n c2, .slice (some ⟨b3, o3, none⟩) n c3] TDfa)) n
  rw [show (w.alloc (.cells #[.slice A1 n1 c1, .slice (some ⟨b2, o2, none⟩) n c2, .slice (some ⟨b3, o3, none⟩) n c3] TDfa)).heap.size = w.heap.size + 1 by simp] at T0
  have I0 := Lib.hid (show UnI w _ n 0 _ _ _ _ from ⟨T0, K0.out, HB0.out⟩)
  clear hrow hacc H hok T0 HB0 K0
  go_enter Tryz.func38, Tryz.ntmps38
  go_wp2
  go_loopw [5] (fun iv wr => ∃ i : Nat, iv = .int .i64 i ∧ i ≤ n ∧ Hid (wr.heap.size = w.heap.size + 1 + 1 + i) ∧ Hid (UnI w wr n i (.slice A1 n1 c1) (.slice (some ⟨b2, o2, none⟩) n c2) (.slice (some ⟨b3, o3, none⟩) n c3) (fun a b => d.acc a ≠ d.acc b))) (fun iv _ => n - (intOf iv).toNat)
  case atStart => exact ⟨0, rfl, by omega, Lib.hid (by simp), I0⟩
  case round =>
    clear I0
    obtain ⟨i, rfl, hi, HSZ, HI⟩ := hrel
    have i1 : (0 : Int) ≤ (i : Int) := by omega
    by_cases hlt : i < n
    · have i2 : (i : Int) < (n : Int) := by omega
      have e0 : wr.cell? ⟨w.heap.size + 1, i, none⟩ = some (.slice none 0 0) := by have := HI.out.t.out.cell (i := i) hlt; simpa using this
      have f0 := HI.out.t.out.frozen i
      have hsz := HI.out.t.out.lt
      have hsz2 := HI.out.d.lt
      have ST := HI.out.t.step (R' := fun a b => d.acc a ≠ d.acc b ∧ (a < i ∨ b < 0)) (by rw [HSZ.out]) (by intro j h; omega) (fun a b ha _ => by constructor; exact fun h => ⟨h, .inl ha⟩; exact fun h => h.1)
      rw [World.setCell_alloc_past _ _ _ _ (by have := HSZ.out; omega)] at ST
      have IS := Lib.hid (show UnI w _ n (i + 1) _ _ _ _ from ⟨ST, (HI.out.d.far (p := ⟨w.heap.size + 1, i, none⟩) (by simp) _).alloc _, (HI.out.b.setCell (p := ⟨w.heap.size + 1, i, none⟩) (by simp) _).alloc (by have := HSZ.out; simp; omega) _⟩)
      have HS2 := Lib.hid (show ((wr.setCell ⟨w.heap.size + 1, i, none⟩ (.slice (some ⟨wr.heap.size, 0, none⟩) n n)).alloc (.cells (madeCells #[.bool false] n) TB1)).heap.size = w.heap.size + 1 + 1 + (i + 1) by have := HSZ.out; simp [World.setCell]; omega)
      have e1 := (HI.out.t.out.alloc (.cells (madeCells #[.bool false] n) TB1)).cell (i := i) hlt
      have f1 := (HI.out.t.out.alloc (.cells (madeCells #[.bool false] n) TB1)).frozen i
      simp only [Nat.lt_irrefl, if_false] at e1
      clear ST
      go_wp2
      go_loopw [6] (fun kv wr => ∃ k : Nat, kv = .int .i64 k ∧ k ≤ n ∧ Hid (wr.heap.size = w.heap.size + 1 + 1 + (i + 1)) ∧ Hid (UnI w wr n (i + 1) (.slice A1 n1 c1) (.slice (some ⟨b2, o2, none⟩) n c2) (.slice (some ⟨b3, o3, none⟩) n c3) (fun a b => d.acc a ≠ d.acc b ∧ (a < i ∨ b < k)))) (fun kv _ => n - (intOf kv).toNat)
      case atStart => exact ⟨0, rfl, by omega, HS2, IS⟩
      case round =>
        clear IS HS2 HI HSZ e0 f0 e1 f1 hsz hsz2
        obtain ⟨k, rfl, hk, HSZ, HI⟩ := hrel
        have i3 : (0 : Int) ≤ (k : Int) := by omega
        by_cases hkn : k < n
        · have i4 : (k : Int) < (n : Int) := by omega
          have r0 := HI.out.t.rowCell (by omega) (Nat.lt_succ_self i)
          have x0 := HI.out.t.cell (Nat.lt_succ_self i) hkn
          have fx := (HI.out.t.row i (Nat.lt_succ_self i)).frozen k
          obtain ⟨d0, d1, d2, _, _, _⟩ := Blk.three HI.out.d
          have kp := Keep.of HI.out.b
          have a0 := (kp.cell b3 (o3 + i) hb3).trans (HA.out i hlt)
          have a1 := (kp.cell b3 (o3 + k) hb3).trans (HA.out k hkn)
          have HNX := Lib.hid (fun (b : Bool) (hb : d.acc i ≠ d.acc k ↔ b = true) => show UnI w (wr.setCell ⟨w.heap.size + 1 + 1 + i, k, none⟩ (.bool b)).drew n (i + 1) _ _ _ (fun a c => d.acc a ≠ d.acc c ∧ (a < i ∨ c < k + 1)) from
            (HI.out.set (b := b) (Nat.lt_succ_self i) (by rw [← hb]; exact ⟨fun h => h.1, fun h => ⟨h, .inr (Nat.lt_succ_self k)⟩⟩) (fun a c ha hcn hne => by
              refine and_congr_right fun _ => ⟨fun h => by omega, fun h => ?_⟩
              rcases h with h | h
              · exact .inl h
              · rcases Nat.lt_or_ge c k with h2 | h2
                · exact .inr h2
                · exact .inl (by have : c = k := by omega
                                 have : a ≠ i := fun e => hne ⟨e, this⟩
                                 omega))).next (Below.refl _ _).drew)
          have HXC := Lib.hid x0
          obtain ⟨ai, hai⟩ : ∃ b, d.acc i = b := ⟨_, rfl⟩
          obtain ⟨ak, hak⟩ : ∃ b, d.acc k = b := ⟨_, rfl⟩
          rw [hai] at a0 HNX
          rw [hak] at a1 HNX
          have HS : Hid (wr.drew.cell? ⟨w.heap.size + 1, i, none⟩ = some (.slice (some ⟨w.heap.size + 1 + 1 + i, 0, none⟩) n n) ∧ wr.drew.cell? ⟨w.heap.size, 2, none⟩ = some (.slice (some ⟨b3, o3, none⟩) n c3) ∧ wr.drew.cell? ⟨b3, o3 + i, none⟩ = some (.bool ai) ∧ wr.drew.cell? ⟨b3, o3 + k, none⟩ = some (.bool ak)) := Lib.hid ⟨r0, d2, a0, a1⟩
          clear hai hak
          go_wp2
          refine wp_region_T 17 (fun W => W.cell? ⟨w.heap.size + 1, i, none⟩ = some (.slice (some ⟨w.heap.size + 1 + 1 + i, 0, none⟩) n n) ∧ W.cell? ⟨w.heap.size, 2, none⟩ = some (.slice (some ⟨b3, o3, none⟩) n c3) ∧ W.cell? ⟨b3, o3 + i, none⟩ = some (.bool ai) ∧ W.cell? ⟨b3, o3 + k, none⟩ = some (.bool ak)) (by kernel_rfl) ?_
          refine wpAnyT_take (i := 0) (v := ?_) rfl (by kernel_rfl) (by kernel_rfl) (by kernel_rfl) (by kernel_rfl) (by kernel_rfl) (fun _ _ _ h => h) (.inl ⟨rfl, ?_⟩) HS.out ?_
          rotate_left
          · intro W__ hW__
            obtain ⟨h1, h2, h3, h4⟩ := hW__
            go_simp
            (try with_reducible rfl)
          try simp only [Act.put]
          refine wpAnyT_take (i := 1) (v := ?_) rfl (by kernel_rfl) (by kernel_rfl) (by kernel_rfl) (by kernel_rfl) (by kernel_rfl) (fun _ _ _ h => h) (.inl ⟨rfl, ?_⟩) HS.out ?_
          rotate_left
          · intro W__ hW__
            obtain ⟨h1, h2, h3, h4⟩ := hW__
            go_simp
            (try with_reducible rfl)
          try simp only [Act.put]
          refine wpAnyT_take (i := 4) (v := ?_) rfl (by kernel_rfl) (by kernel_rfl) (by kernel_rfl) (by kernel_rfl) (by kernel_rfl) (fun _ _ _ h => h) (.inl ⟨rfl, ?_⟩) HS.out ?_
          rotate_left
          · intro W__ hW__
            obtain ⟨h1, h2, h3, h4⟩ := hW__
            go_simp
            (try with_reducible rfl)
          try simp only [Act.put]
          refine wpAnyT_take (i := 5) (v := ?_) rfl (by kernel_rfl) (by kernel_rfl) (by kernel_rfl) (by kernel_rfl) (by kernel_rfl) (fun _ _ _ h => h) (.inl ⟨rfl, ?_⟩) HS.out ?_
          rotate_left
          · intro W__ hW__
            obtain ⟨h1, h2, h3, h4⟩ := hW__
            go_simp
            (try with_reducible rfl)
          try simp only [Act.put]
          refine wpAnyT_take (i := 7) (v := ?_) rfl (by kernel_rfl) (by kernel_rfl) (by kernel_rfl) (by kernel_rfl) (by kernel_rfl) (fun _ _ _ h => h) (.inl ⟨rfl, ?_⟩) HS.out ?_
          rotate_left
          · intro W__ hW__
            obtain ⟨h1, h2, h3, h4⟩ := hW__
            go_simp
            (try with_reducible rfl)
          try simp only [Act.put]
          refine wpAnyT_take (i := 10) (v := ?_) rfl (by kernel_rfl) (by kernel_rfl) (by kernel_rfl) (by kernel_rfl) (by kernel_rfl) (fun _ _ _ h => h) (.inl ⟨rfl, ?_⟩) HS.out ?_
          rotate_left
          · intro W__ hW__
            obtain ⟨h1, h2, h3, h4⟩ := hW__
            go_simp
            (try with_reducible rfl)
          try simp only [Act.put]
          refine wpAnyT_take (i := 12) (v := ?_) rfl (by kernel_rfl) (by kernel_rfl) (by kernel_rfl) (by kernel_rfl) (by kernel_rfl) (fun _ _ _ h => h) (.inl ⟨rfl, ?_⟩) HS.out ?_
          rotate_left
          · intro W__ hW__
            obtain ⟨h1, h2, h3, h4⟩ := hW__
            go_simp
            (try with_reducible rfl)
          try simp only [Act.put]
          refine wpAnyT_take (i := 2) (v := ?_) rfl (by kernel_rfl) (by kernel_rfl) (by kernel_rfl) (by kernel_rfl) (by kernel_rfl) (fun _ _ _ h => h) (.inl ⟨rfl, ?_⟩) HS.out ?_
          rotate_left
          · intro W__ hW__
            obtain ⟨h1, h2, h3, h4⟩ := hW__
            go_simp
            (try with_reducible rfl)
          try simp only [Act.put]
          refine wpAnyT_take (i := 6) (v := ?_) rfl (by kernel_rfl) (by kernel_rfl) (by kernel_rfl) (by kernel_rfl) (by kernel_rfl) (fun _ _ _ h => h) (.inl ⟨rfl, ?_⟩) HS.out ?_
          rotate_left
          · intro W__ hW__
            obtain ⟨h1, h2, h3, h4⟩ := hW__
            go_simp
            (try with_reducible rfl)
          try simp only [Act.put]
          refine wpAnyT_take (i := 11) (v := ?_) rfl (by kernel_rfl) (by kernel_rfl) (by kernel_rfl) (by kernel_rfl) (by kernel_rfl) (fun _ _ _ h => h) (.inl ⟨rfl, ?_⟩) HS.out ?_
          rotate_left
          · intro W__ hW__
            obtain ⟨h1, h2, h3, h4⟩ := hW__
            go_simp
            (try with_reducible rfl)
          try simp only [Act.put]
          refine wpAnyT_take (i := 3) (v := ?_) rfl (by kernel_rfl) (by kernel_rfl) (by kernel_rfl) (by kernel_rfl) (by kernel_rfl) (fun _ _ _ h => h) (.inl ⟨rfl, ?_⟩) HS.out ?_
          rotate_left
          · intro W__ hW__
            obtain ⟨h1, h2, h3, h4⟩ := hW__
            go_simp
            (try with_reducible rfl)
          try simp only [Act.put]
          refine wpAnyT_take (i := 8) (v := ?_) rfl (by kernel_rfl) (by kernel_rfl) (by kernel_rfl) (by kernel_rfl) (by kernel_rfl) (fun _ _ _ h => h) (.inl ⟨rfl, ?_⟩) HS.out ?_
          rotate_left
          · intro W__ hW__
            obtain ⟨h1, h2, h3, h4⟩ := hW__
            go_simp
            (try with_reducible rfl)
          try simp only [Act.put]
          refine wpAnyT_take (i := 13) (v := ?_) rfl (by kernel_rfl) (by kernel_rfl) (by kernel_rfl) (by kernel_rfl) (by kernel_rfl) (fun _ _ _ h => h) (.inl ⟨rfl, ?_⟩) HS.out ?_
          rotate_left
          · intro W__ hW__
            obtain ⟨h1, h2, h3, h4⟩ := hW__
            go_simp
            (try with_reducible rfl)
          try simp only [Act.put]
          refine wpAnyT_take (i := 9) (v := ?_) rfl (by kernel_rfl) (by kernel_rfl) (by kernel_rfl) (by kernel_rfl) (by kernel_rfl) (fun _ _ _ h => h) (.inl ⟨rfl, ?_⟩) HS.out ?_
          rotate_left
          · intro W__ hW__
            obtain ⟨h1, h2, h3, h4⟩ := hW__
            go_simp
            (try with_reducible rfl)
          try simp only [Act.put]
          refine wpAnyT_take (i := 14) (v := ?_) rfl (by kernel_rfl) (by kernel_rfl) (by kernel_rfl) (by kernel_rfl) (by kernel_rfl) (fun _ _ _ h => h) (.inl ⟨rfl, ?_⟩) HS.out ?_
          rotate_left
          · intro W__ hW__
            obtain ⟨h1, h2, h3, h4⟩ := hW__
            go_simp
            (try with_reducible rfl)
          try simp only [Act.put]
          refine wpAnyT_take (i := 15) (v := ?_) rfl (by kernel_rfl) (by kernel_rfl) (by kernel_rfl) (by kernel_rfl) (by kernel_rfl) (fun _ _ _ h => h) (.inl ⟨rfl, ?_⟩) HS.out ?_
          rotate_left
          · intro W__ hW__
            obtain ⟨h1, h2, h3, h4⟩ := hW__
            go_simp
            (try with_reducible rfl)
          try simp only [Act.put]
          refine wpAnyT_take (i := 16) (v := ?_) rfl (by kernel_rfl) (by kernel_rfl) (by kernel_rfl) (by kernel_rfl) (by kernel_rfl) (fun _ _ _ h => h) (.inl ⟨rfl, ?_⟩) HS.out ?_
          rotate_left
          · intro W__ hW__
            obtain ⟨h1, h2, h3, h4⟩ := hW__
            go_simp
            (try with_reducible rfl)
          try simp only [Act.put]
          refine wpAnyT_end (i := 17) rfl (by kernel_rfl) rfl (by kernel_rfl) fun K__ hK__ => ?_
          unfold Oper.wp
          go_simp
          refine hK__ _ _ ?_
          clear hK__
          refine wpAnyT_done (by kernel_rfl) ?_ _
          go_wp2
          go_roundw
          case rel => exact ⟨k + 1, by go_num, by omega, Lib.hid (by have := HSZ.out; simp [World.setCell]; omega), Lib.hid (HNX.out _ (by cases ai <;> cases ak <;> simp))⟩
          case measure => simp [intOf]; omega
        · obtain rfl : n = k := by omega
          have HI2 := Lib.hid (HI.out.congr (R' := fun a b => d.acc a ≠ d.acc b) (fun a b _ hb => ⟨fun h => h.1, fun h => ⟨h, .inr hb⟩⟩))
          go_wp2
          go_roundw
          case rel => exact ⟨i + 1, by go_num, by omega, HSZ, HI2⟩
          case measure => simp [intOf]; omega
    · obtain rfl : n = i := by omega
      have HU0 : Hid (UnR w d n (.slice A1 n1 c1) (.slice (some ⟨b2, o2, none⟩) n c2) (.slice (some ⟨b3, o3, none⟩) n c3) (n * n + 2 - cntU n (fun a b => d.acc a ≠ d.acc b)) (.bool true) wr) := Lib.hid ⟨true, _, rfl, HI.out, UnOk.first d, (fun h => by cases h), (by rw [if_pos rfl])⟩
      clear HI HSZ
      go_wp2
      go_loopw [7] (fun gv wr => ∃ N, UnR w d n (.slice A1 n1 c1) (.slice (some ⟨b2, o2, none⟩) n c2) (.slice (some ⟨b3, o3, none⟩) n c3) N gv wr) (fun gv wr => leastN fun N => UnR w d n (.slice A1 n1 c1) (.slice (some ⟨b2, o2, none⟩) n c2) (.slice (some ⟨b3, o3, none⟩) n c3) N gv wr)
      case atStart => exact ⟨_, HU0.out⟩
      case round =>
        clear HU0 hlt hi
        obtain ⟨N0, hN0⟩ : ∃ N0, N0 = leastN fun N => UnR w d n (.slice A1 n1 c1) (.slice (some ⟨b2, o2, none⟩) n c2) (.slice (some ⟨b3, o3, none⟩) n c3) N u7 wr := ⟨_, rfl⟩
        have hR := leastN_spec hrel
        rw [← hN0] at hR
        have HN0 := Lib.hid hN0
        clear hrel hN0
        obtain ⟨gb, U, rfl, hi, hu, hcl, hN⟩ := hR
        cases gb
        case false =>
          have HFI := Lib.hid (hi.congr (R' := fun s t => ¬ Lks d s t) (fun a b ha hb => hu.all HOK.out (fun s t c hs ht hcc => hcl rfl s t c (by rw [← HNN.out]; exact hs) (by rw [← HNN.out]; exact ht) hcc) (by rw [HNN.out]; exact ha) (by rw [HNN.out]; exact hb)))
          clear hi hu hcl hN
          go_wp2
          go_ret
          exact ⟨w.heap.size + 1, rfl, Nat.le_succ _, HFI.out.t, HFI.out.b⟩
        case true =>
          have HP0 := Lib.hid (PassU.start (D := Dm n n1 0 0 0) hu (fun s t c h => by unfold Dm at h; omega))
          have HI0 := Lib.hid hi
          have HNU : Hid (N0 = n * n + 2 - cntU n U) := Lib.hid (by rw [hN, if_pos rfl])
          clear hi hu hcl hN
          go_wp2
          go_loopw [8, 7] (fun iv gv wr => ∃ (i : Nat) (gb : Bool) (V : Nat → Nat → Prop), iv = .int .i64 i ∧ gv = .bool gb ∧ i ≤ n ∧ Hid (UnI w wr n n (.slice A1 n1 c1) (.slice (some ⟨b2, o2, none⟩) n c2) (.slice (some ⟨b3, o3, none⟩) n c3) V) ∧ Hid (PassU d U V gb (Dm n n1 i 0 0))) (fun iv _ _ => n - (intOf iv).toNat)
          case atStart => exact ⟨0, false, U, rfl, rfl, by omega, HI0, HP0⟩
          case round =>
            clear HI0 HP0
            obtain ⟨i, gb, V, rfl, rfl, hi, HI, HP⟩ := hrel
            have i1 : (0 : Int) ≤ (i : Int) := by omega
            by_cases hlt : i < n
            · have i2 : (i : Int) < (n : Int) := by omega
              go_wp2
              go_loopw [9, 7] (fun kv gv wr => ∃ (k : Nat) (gb : Bool) (V : Nat → Nat → Prop), kv = .int .i64 k ∧ gv = .bool gb ∧ k ≤ n ∧ Hid (UnI w wr n n (.slice A1 n1 c1) (.slice (some ⟨b2, o2, none⟩) n c2) (.slice (some ⟨b3, o3, none⟩) n c3) V) ∧ Hid (PassU d U V gb (Dm n n1 i k 0))) (fun kv _ _ => n - (intOf kv).toNat)
              case atStart => exact ⟨0, gb, V, rfl, rfl, by omega, HI, HP⟩
              case round =>
                clear HI HP
                obtain ⟨k, gb, V, rfl, rfl, hk, HI, HP⟩ := hrel
                have i3 : (0 : Int) ≤ (k : Int) := by omega
                by_cases hkn : k < n
                · have i4 : (k : Int) < (n : Int) := by omega
                  go_wp2
                  go_loopw [10, 7] (fun mv gv wr => ∃ (m : Nat) (gb : Bool) (V : Nat → Nat → Prop), mv = .int .i64 m ∧ gv = .bool gb ∧ m ≤ n1 ∧ Hid (UnI w wr n n (.slice A1 n1 c1) (.slice (some ⟨b2, o2, none⟩) n c2) (.slice (some ⟨b3, o3, none⟩) n c3) V) ∧ Hid (PassU d U V gb (Dm n n1 i k m))) (fun mv _ _ => n1 - (intOf mv).toNat)
                  case atStart => exact ⟨0, gb, V, rfl, rfl, by omega, HI, HP⟩
                  case round =>
                    clear HI HP
                    obtain ⟨m, gb, V, rfl, rfl, hm, HI, HP⟩ := hrel
                    have i5 : (0 : Int) ≤ (m : Int) := by omega
                    obtain ⟨d0, d1, d2, _, _, _⟩ := Blk.three HI.out.d
                    by_cases hmn : m < n1
                    · have i6 : (m : Int) < (n1 : Int) := by omega
                      have r0 := HI.out.t.rowCell (Nat.le_refl _) hlt
                      have x0 := HI.out.t.cell hlt hkn
                      have fx := (HI.out.t.row i hlt).frozen k
                      by_cases hv : V i k
                      · rw [yes_t (p := V i k) hv] at x0
                        have HPN := Lib.hid (HP.out.more (D' := Dm n n1 i (k + 1) 0) (fun s t c h => by
                          by_cases e : s = i ∧ t = k
                          · obtain ⟨rfl, rfl⟩ := e; exact .inr fun _ => hv
                          · refine .inl ?_
                            unfold Dm at h ⊢
                            omega))
                        clear hv
                        go_wp2
                        go_roundw
                        case rel => exact ⟨k + 1, gb, V, by go_num, rfl, by omega, HI, HPN⟩
                        case measure => simp [intOf]; omega
                      · rw [yes_f (p := V i k) hv] at x0
                        obtain ⟨rb, ro, rc, hrb, k1, k2⟩ := HR.out i hlt
                        obtain ⟨sb, so, sc, hsb, l1, l2⟩ := HR.out k hkn
                        obtain ⟨k3, k4⟩ := k2 m hmn
                        obtain ⟨l3, l4⟩ := l2 m hmn
                        have kp := Keep.of HI.out.b
                        have k1 := (kp.cell _ _ hb2).trans k1
                        have k3 := (kp.cell _ _ hrb).trans k3
                        have l1 := (kp.cell _ _ hb2).trans l1
                        have l3 := (kp.cell _ _ hsb).trans l3
                        have HAD := Lib.hid (fun hvv => HP.out.add (D' := Dm n n1 i k (m + 1)) HOK.out (show i < d.next.length by rw [HNN.out]; exact hlt) (show k < d.next.length by rw [HNN.out]; exact hkn) (show m < d.cuts.length by rw [HNC.out]; exact hmn) (by rw [HNN.out]; exact k4) (by rw [HNN.out]; exact l4) hvv hv)
                        have HNV := Lib.hid (fun (hnv : ¬ V (d.go i m) (d.go k m)) => HP.out.more (D' := Dm n n1 i k (m + 1)) (fun s t c h => by
                          by_cases e : s = i ∧ t = k ∧ c = m
                          · obtain ⟨rfl, rfl, rfl⟩ := e; exact .inr fun h2 => absurd h2 hnv
                          · refine .inl ?_
                            unfold Dm at h ⊢
                            omega))
                        have y0 := HI.out.t.rowCell (Nat.le_refl _) k4
                        have z0 := HI.out.t.cell k4 l4
                        have HVV := Lib.hid (show V (d.go i m) (d.go k m) ∨ ¬ V (d.go i m) (d.go k m) from Classical.em _)
                        have HSET := Lib.hid (HI.out.set (b := true) (R' := fun a b => V a b ∨ (a = i ∧ b = k)) hlt (by simp) (fun a c _ _ hne => ⟨fun h => .inl h, fun h => h.elim id fun h => absurd h hne⟩))
                        obtain ⟨p, hp⟩ : ∃ p, d.go i m = p := ⟨_, rfl⟩
                        obtain ⟨q, hq⟩ : ∃ q, d.go k m = q := ⟨_, rfl⟩
                        rw [hp] at k3 k4 y0 z0 HVV HAD HNV
                        rw [hq] at l3 l4 z0 HVV HAD HNV
                        have j1 : (0 : Int) ≤ (p : Int) := by omega
                        have j2 : (p : Int) < (n : Int) := by omega
                        have j3 : (0 : Int) ≤ (q : Int) := by omega
                        have j4 : (q : Int) < (n : Int) := by omega
                        clear hv hp hq k2 l2
                        rcases HVV.out with hvv | hvv
                        · rw [yes_t (p := V p q) hvv] at z0
                          have HPN := Lib.hid (HAD.out hvv)
                          clear hvv HAD HNV HVV
                          go_wp2
                          go_quiet (fail)
                          rename_i nq
                          go_wp2
                          go_roundw
                          case rel => exact ⟨m + 1, true, _, by go_num, rfl, by omega, Lib.hid (HSET.out.next (below_drewN (Below.refl _ _) _)), HPN⟩
                          case measure => simp [intOf]; omega
                        · rw [yes_f (p := V p q) hvv] at z0
                          have HPN := Lib.hid (HNV.out hvv)
                          clear hvv HAD HNV HVV
                          go_wp2
                          go_quiet (fail)
                          rename_i nq
                          go_wp2
                          go_roundw
                          case rel => exact ⟨m + 1, gb, V, by go_num, rfl, by omega, Lib.hid (HI.out.next (below_drewN (Below.refl _ _) _)), HPN⟩
                          case measure => simp [intOf]; omega
                    · obtain rfl : n1 = m := by omega
                      have HPN := Lib.hid (HP.out.more (D' := Dm n n1 i (k + 1) 0) (fun s t c h => .inl (by unfold Dm at h ⊢; omega)))
                      go_wp2
                      go_roundw
                      case rel => exact ⟨k + 1, gb, V, by go_num, rfl, by omega, HI, HPN⟩
                      case measure => simp [intOf]; omega
                · obtain rfl : n = k := by omega
                  have HPN := Lib.hid (HP.out.more (D' := Dm n n1 (i + 1) 0 0) (fun s t c h => .inl (by unfold Dm at h ⊢; omega)))
                  go_wp2
                  go_roundw
                  case rel => exact ⟨i + 1, gb, V, by go_num, rfl, by omega, HI, HPN⟩
                  case measure => simp [intOf]; omega
            · obtain rfl : n = i := by omega
              have HFN : Hid (UnR w d n (.slice A1 n1 c1) (.slice (some ⟨b2, o2, none⟩) n c2) (.slice (some ⟨b3, o3, none⟩) n c3) (if gb = true then n * n + 2 - cntU n V else 0) (.bool gb) wr) := Lib.hid ⟨gb, V, rfl, HI.out, HP.out.ok, (fun hg s t c hs ht hcc => (HP.out.cl hg).2 s t c (by unfold Dm; rw [HNC.out] at hcc; omega)), rfl⟩
              have HLT := Lib.hid (show (if gb = true then n * n + 2 - cntU n V else 0) < N0 by
                have h1 := HNU.out
                have h2 := cntU_le n V
                have h3 := cntU_le n U
                cases gb with
                | true =>
                  have h4 := HP.out.up rfl
                  rw [HNN.out] at h4
                  rw [if_pos rfl]; omega
                | false => rw [if_neg (by simp)]; omega)
              generalize (if gb = true then n * n + 2 - cntU n V else 0) = N1 at *
              go_wp2
              go_roundw
              case rel => exact ⟨_, HFN.out⟩
              case measure => exact Nat.lt_of_le_of_lt (leastN_le HFN.out) (Nat.lt_of_lt_of_eq HLT.out HN0.out)
end Go.Proofs.YtjnjbcigbnjmkaaGreat

namespace Pv
open Go Go.RowKit
/-- States as numbers. -/
abbrev numI (l : List Nat) : List Int := l.map fun s : Nat => (s : Int)
/-- A state's place among some; -1: it is none of these. -/
noncomputable def placeI (l : List Nat) (s : Nat) : Int := if s ∈ l then (l.idxOf s : Int) else -1
theorem placeI_in {l : List Nat} {s : Nat} (h : s ∈ l) : placeI l s = (l.idxOf s : Int) := by unfold placeI; rw [if_pos h]
theorem placeI_out {l : List Nat} {s : Nat} (h : s ∉ l) : placeI l s = -1 := by unfold placeI; rw [if_neg h]
theorem idxN_at {s : Nat} : ∀ {l : List Nat} {k : Nat}, l[k]? = some s → s ∉ l.take k → l.idxOf s = k
  | [], k, h, _ => by simp at h
  | x :: xs, 0, h, _ => by simp at h; subst h; simp
  | x :: xs, k + 1, h, h2 => by
    simp only [List.take_succ_cons, List.mem_cons, not_or] at h2
    have h3 := idxN_at (l := xs) (k := k) (by simpa using h) h2.2
    rw [List.idxOf_cons]
    have : (x == s) = false := by simpa using fun e => h2.1 (Eq.symm e)
    rw [this, h3]; rfl
end Pv
namespace Go.Proofs.YtjnjbcigbnjmkaaGreat
open Go.RowKit Pv

set_option maxHeartbeats 1000000 in
set_option maxRecDepth 100000 in
theorem ref11_first (d : Dfa) (g n cap s : Nat) (w : World) (h : TbN w g n n (fun s t => ¬ Lks d s t)) (hs : s < n) (hn : n ≤ 1000000) :
    Calls Tryz.prog 39 #[.slice (some ⟨g, 0, none⟩) n cap, .int .i64 s] w fun e w' => e = .returned (.int .i64 (rep d s)) ∧ w' = w := by
  have HT := Lib.hid h
  have s0 : (0 : Int) ≤ (s : Int) := by omega
  have s1 : (s : Int) < (n : Int) := by omega
  obtain ⟨r, hr⟩ : ∃ r, rep d s = r := ⟨_, rfl⟩
  have HR := Lib.hid hr
  rw [hr]
  clear h hr
  go_enter Tryz.func39, Tryz.ntmps39
  go_wp2
  go_loop [5] (fun iv => ∃ i : Nat, iv = .int .i64 i ∧ i ≤ s ∧ Hid (∀ j, j < i → ¬ Lks d j s)) (fun iv => n - (intOf iv).toNat)
  case atStart => exact ⟨0, rfl, by omega, Lib.hid (fun j hj => by omega)⟩
  case round =>
    obtain ⟨i, rfl, hi, HNO⟩ := hrel
    have i0 : (0 : Int) ≤ (i : Int) := by omega
    have i1 : (i : Int) < (n : Int) := by omega
    have r0 := HT.out.rowCell (Nat.le_refl _) (show i < n by omega)
    have x0 := HT.out.cell (show i < n by omega) hs
    by_cases ha : Lks d i s
    · have HE : Hid (i = r) := Lib.hid (by
        rw [← HR.out]
        have h1 := rep_le ha
        by_cases e : rep d s = i
        · exact e.symm
        · exact absurd (rep_alike (d := d) s) (HNO.out _ (by omega)))
      rw [yes_f (p := ¬ Lks d i s) (fun h => h ha)] at x0
      clear ha
      go_wp2
      go_ret
      exact ⟨ret_int (by rw [HE.out]), rfl⟩
    · rw [yes_t (p := ¬ Lks d i s) ha] at x0
      have HNO2 := Lib.hid (fun j (hj : j < i + 1) => show ¬ Lks d j s by
        by_cases e : j = i
        · subst e; exact ha
        · exact HNO.out j (by omega))
      have his : i ≠ s := fun e => by subst e; exact ha (Lks.refl _)
      have his2 : i < s := by omega
      clear ha his
      go_wp2
      go_round
      case rel => exact ⟨i + 1, by go_num, by omega, HNO2⟩
      case measure => simp [intOf]; omega

set_option maxHeartbeats 1000000 in
set_option maxRecDepth 100000 in
theorem ref11_has (A : Option Addr) (c n : Nat) (l : List Nat) (s : Nat) (w : World) (h : At w A RI (numI l)) (HL : Hid (l.length = n)) :
    Calls Tryz.prog 40 #[.slice A n c, .int .i64 s] w fun e w' => e = .returned (.int .i64 (placeI l s)) ∧ w' = w := by
  have HLI : Hid ((numI l).length = n) := Lib.hid (by rw [List.length_map]; exact HL.out)
  have hl : n ≤ 140737488355328 := by have := h.1; rwa [HLI.out] at this
  have HA := Lib.hid h
  obtain ⟨r, hr⟩ : ∃ r, placeI l s = r := ⟨_, rfl⟩
  have HR := Lib.hid hr
  rw [hr]
  clear h hr
  go_enter Tryz.func40, Tryz.ntmps40
  go_wp2
  go_loop [5] (fun iv => ∃ i : Nat, iv = .int .i64 i ∧ i ≤ n ∧ Hid (s ∉ l.take i)) (fun iv => n - (intOf iv).toNat)
  case atStart => exact ⟨0, rfl, by omega, Lib.hid (by simp)⟩
  case round =>
    obtain ⟨i, rfl, hi, HNO⟩ := hrel
    have i0 : (0 : Int) ≤ (i : Int) := by omega
    by_cases hlt : i < n
    · obtain ⟨b, off, u, x, rfl, hbl, x0, ⟨rfl, _, _⟩, HX⟩ := HA.out.gt HLI hlt
      obtain ⟨y, hy, rfl⟩ : ∃ y : Nat, l[i]? = some y ∧ (y : Int) = x := by
        have h1 := HX.out
        rw [List.getElem?_map] at h1
        obtain ⟨y, h2, h3⟩ := Option.map_eq_some_iff.1 h1
        exact ⟨y, h2, h3⟩
      have HY := Lib.hid hy
      have i1 : (i : Int) < (n : Int) := by omega
      by_cases e : y = s
      · subst e
        have HE : Hid ((i : Int) = r) := Lib.hid (by rw [← HR.out, placeI_in (mem_of_get HY.out), idxN_at HY.out HNO.out])
        clear hy
        go_wp2
        go_ret
        exact ⟨ret_int HE.out, rfl⟩
      · have e2 : ((y : Int) == (s : Int)) = false := by simp; omega
        have HNO2 := Lib.hid (show s ∉ l.take (i + 1) by
          rw [take_snoc HY.out, List.mem_append, List.mem_singleton]
          rintro (h1 | h1)
          · exact HNO.out h1
          · exact e h1.symm)
        clear hy e
        go_wp2
        go_round
        case rel => exact ⟨i + 1, by go_num, by omega, HNO2⟩
        case measure => simp [intOf]; omega
    · have HE : Hid ((-1 : Int) = r) := Lib.hid (by rw [← HR.out, placeI_out (by have := HNO.out; rwa [List.take_of_length_le (by rw [HL.out]; omega)] at this)])
      go_wp2
      go_ret
      exact ⟨ret_int HE.out, rfl⟩
end Go.Proofs.YtjnjbcigbnjmkaaGreat
