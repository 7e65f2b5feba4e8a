/- THE LAW LeastFew, walked; what Least and Apart leave, read. PUT1 -/
import Derived.Test.YtilhicefhhgecaaGreatDoorO16n
import Derived.Test.YtilhicefhhgecaaGreatDoorL10en
import Derived.Test.YtilhicefhhgecaaGreatDoorLsn
import Derived.Defers
import Derived.Deep.RegionHeld3
import Derived.Test.YtilhicefhhgecaaGreatDoorHsn
import Derived.Test.YtilhicefhhgecaaGreatDoorWjn
import Derived.Test.YtilhicefhhgecaaGreatDoorGnn
import Derived.Test.YtilhicefhhgecaaGreatDoorO15n
import Derived.Test.YtilhicefhhgecaaGreatDoorTon
import Derived.WalkMore
import Derived.Test.YtilhicefhhgecaaGreatDoorTin
import Derived.Deep.RegionLaw
import Derived.Test.YtilhicefhhgecaaGreatDoorPgn
import Derived.Test.YtilhicefhhgecaaGreatDoorTbn
import Derived.Test.YtilhicefhhgecaaGreatDoorGcn
import Derived.Test.YtilhicefhhgecaaGreatDoorHdn
import Derived.Test.YtilhicefhhgecaaGreatDoorHan
import Derived.Test.YtilhicefhhgecaaGreatDoorWhn
import Derived.Test.YtilhicefhhgecaaGreatDoorDfan
import Derived.Test.YtilhicefhhgecaaGreatDoorHgn
namespace Pv
open Go Go.RowKit
theorem apart_ok {d o : Dfa} (h : d.Ok) (k : o.Ok) : apW d o = wordD d o ∧ apE d o = 0 := by
  unfold apW apE
  rw [yes_t ⟨h, k⟩]
  exact ⟨rfl, rfl⟩
end Pv
namespace Go.Proofs.YtilhicefhhgecaaGreatDoor
open Go.RowKit Pv
/-- What Least answers: an automaton, a code. -/
def LeastA (d D : Dfa) (code : Int) : Prop := (¬ d.Ok ∧ D = ⟨[], [], []⟩ ∧ code = 8) ∨ (d.Ok ∧ D = leastD d ∧ code = 0)
theorem LeastR.read {d : Dfa} {w w' : World} {e : Ending} (h : LeastR d w e w') :
    ∃ D code A1 n1 c1 A2 n2 c2 A3 n3 c3, e = .returned (.tuple #[.agg #[.slice A1 n1 c1, .slice A2 n2 c2, .slice A3 n3 c3], .int .i64 code]) ∧ DfaAt w' A1 A2 A3 n1 n2 n3 D ∧ LeastA d D code ∧ Below w.heap.size w w' := by
  obtain ⟨h, hb⟩ := h
  rcases h with ⟨hn, rfl⟩ | ⟨hok, v1, v2, v3, rfl, hres⟩
  · exact ⟨_, 8, none, 0, 0, none, 0, 0, none, 0, 0, rfl, DfaAt.none _, .inl ⟨hn, rfl, rfl⟩, hb⟩
  · obtain ⟨B1, d1, rfl, _⟩ := hres.c
    obtain ⟨B2, d2, _, rfl, _, _⟩ := hres.r
    obtain ⟨B3, d3, _, rfl, _, _⟩ := hres.t
    exact ⟨leastD d, 0, B1, _, d1, B2, _, d2, B3, _, d3, rfl, Res.atL hok hres, .inr ⟨hok, rfl, rfl⟩, hb⟩

end Go.Proofs.YtilhicefhhgecaaGreatDoor

namespace Go.Proofs.YtilhicefhhgecaaGreatDoor
open Go.RowKit Pv
theorem dTwo_lit (w : World) : DfaAt (((((w.alloc (.cells #[.int .i64 0, .int .i64 5] 3)).alloc (.cells #[.int .i64 1, .int .i64 0] 3)).alloc (.cells #[.int .i64 0, .int .i64 1] 3)).alloc (.cells #[.slice (some ⟨w.heap.size + 1, 0, none⟩) 2 2, .slice (some ⟨w.heap.size + 1 + 1, 0, none⟩) 2 2] 22)).alloc (.cells #[.bool true, .bool true] 4))
    (some ⟨w.heap.size, 0, none⟩) (some ⟨w.heap.size + 1 + 1 + 1, 0, none⟩) (some ⟨w.heap.size + 1 + 1 + 1 + 1, 0, none⟩) 2 2 2 dTwo := by
  have b0 := ((((blk_at (W := w) (n := w.heap.size) 3 #[.int .i64 0, .int .i64 5] (by simp)).alloc (.cells #[.int .i64 1, .int .i64 0] 3)).alloc (.cells #[.int .i64 0, .int .i64 1] 3)).alloc (.cells #[.slice (some ⟨w.heap.size + 1, 0, none⟩) 2 2, .slice (some ⟨w.heap.size + 1 + 1, 0, none⟩) 2 2] 22)).alloc (.cells #[.bool true, .bool true] 4)
  have b1 := (((blk_at (W := (w.alloc (.cells #[.int .i64 0, .int .i64 5] 3))) (n := w.heap.size + 1) 3 #[.int .i64 1, .int .i64 0] (by simp)).alloc (.cells #[.int .i64 0, .int .i64 1] 3)).alloc (.cells #[.slice (some ⟨w.heap.size + 1, 0, none⟩) 2 2, .slice (some ⟨w.heap.size + 1 + 1, 0, none⟩) 2 2] 22)).alloc (.cells #[.bool true, .bool true] 4)
  have b2 := ((blk_at (W := ((w.alloc (.cells #[.int .i64 0, .int .i64 5] 3)).alloc (.cells #[.int .i64 1, .int .i64 0] 3))) (n := w.heap.size + 1 + 1) 3 #[.int .i64 0, .int .i64 1] (by simp)).alloc (.cells #[.slice (some ⟨w.heap.size + 1, 0, none⟩) 2 2, .slice (some ⟨w.heap.size + 1 + 1, 0, none⟩) 2 2] 22)).alloc (.cells #[.bool true, .bool true] 4)
  have b3 := (blk_at (W := (((w.alloc (.cells #[.int .i64 0, .int .i64 5] 3)).alloc (.cells #[.int .i64 1, .int .i64 0] 3)).alloc (.cells #[.int .i64 0, .int .i64 1] 3))) (n := w.heap.size + 1 + 1 + 1) 22 #[.slice (some ⟨w.heap.size + 1, 0, none⟩) 2 2, .slice (some ⟨w.heap.size + 1 + 1, 0, none⟩) 2 2] (by simp)).alloc (.cells #[.bool true, .bool true] 4)
  have b4 := blk_at (W := ((((w.alloc (.cells #[.int .i64 0, .int .i64 5] 3)).alloc (.cells #[.int .i64 1, .int .i64 0] 3)).alloc (.cells #[.int .i64 0, .int .i64 1] 3)).alloc (.cells #[.slice (some ⟨w.heap.size + 1, 0, none⟩) 2 2, .slice (some ⟨w.heap.size + 1 + 1, 0, none⟩) 2 2] 22))) (n := w.heap.size + 1 + 1 + 1 + 1) 4 #[.bool true, .bool true] (by simp)
  refine ⟨(isInts_blk (n := 2) b0 rfl rfl (by decide) (by omega)).at, At.ofBlk b3 ((Rel.one (isInts_blk (n := 2) b1 rfl rfl (by decide) (by omega))).app (Rel.one (isInts_blk (n := 2) b2 rfl rfl (by decide) (by omega)))) (by decide), At.ofBlk b4 (rel_bools [true, true]) (by decide), Lib.hid rfl, Lib.hid rfl, Lib.hid rfl⟩
theorem dOne_lit (w : World) : DfaAt ((((w.alloc (.cells #[.int .i64 0] 3)).alloc (.cells #[.int .i64 0] 3)).alloc (.cells #[.slice (some ⟨w.heap.size + 1, 0, none⟩) 1 1] 22)).alloc (.cells #[.bool true] 4))
    (some ⟨w.heap.size, 0, none⟩) (some ⟨w.heap.size + 1 + 1, 0, none⟩) (some ⟨w.heap.size + 1 + 1 + 1, 0, none⟩) 1 1 1 dOne := by
  have b0 := (((blk_at (W := w) (n := w.heap.size) 3 #[.int .i64 0] (by simp)).alloc (.cells #[.int .i64 0] 3)).alloc (.cells #[.slice (some ⟨w.heap.size + 1, 0, none⟩) 1 1] 22)).alloc (.cells #[.bool true] 4)
  have b1 := ((blk_at (W := (w.alloc (.cells #[.int .i64 0] 3))) (n := w.heap.size + 1) 3 #[.int .i64 0] (by simp)).alloc (.cells #[.slice (some ⟨w.heap.size + 1, 0, none⟩) 1 1] 22)).alloc (.cells #[.bool true] 4)
  have b2 := (blk_at (W := ((w.alloc (.cells #[.int .i64 0] 3)).alloc (.cells #[.int .i64 0] 3))) (n := w.heap.size + 1 + 1) 22 #[.slice (some ⟨w.heap.size + 1, 0, none⟩) 1 1] (by simp)).alloc (.cells #[.bool true] 4)
  have b3 := blk_at (W := (((w.alloc (.cells #[.int .i64 0] 3)).alloc (.cells #[.int .i64 0] 3)).alloc (.cells #[.slice (some ⟨w.heap.size + 1, 0, none⟩) 1 1] 22))) (n := w.heap.size + 1 + 1 + 1) 4 #[.bool true] (by simp)
  refine ⟨(isInts_blk (n := 1) b0 rfl rfl (by decide) (by omega)).at, At.ofBlk b2 (Rel.one (isInts_blk (n := 1) b1 rfl rfl (by decide) (by omega))) (by decide), At.ofBlk b3 (rel_bools [true]) (by decide), Lib.hid rfl, Lib.hid rfl, Lib.hid rfl⟩

theorem ints_blk {w : World} {g n : Nat} {t : TypeId} {l : List Int} {cs : Array Value} (h : Blk w g t cs) (hc : cs.toList = l.map (Value.int .i64)) (hn : l.length = n) (hl : ∀ x, x ∈ l → -9223372036854775808 ≤ x ∧ x ≤ 9223372036854775807) (hz : n ≤ 1000) : At w (some ⟨g, 0, none⟩) RI l := (isInts_blk h hc hn hl hz).at
set_option maxHeartbeats 8000000 in
set_option maxRecDepth 100000 in
theorem law_LeastNames (w : World) (B : Nat) (hT : TabU B w) (hB : B ≤ w.heap.size) : Calls Tryz.prog 4 #[] w fun e w' => e = .returned (.bool true) ∧ Below w.heap.size w w' := by
  have HF6 := Lib.hid (fun W (hb : Below w.heap.size w W) => law11_of ⟨#[97, 42]⟩ t6 d6 W B tells6 d6_cr d6_ok (hT.then hb hB) (Nat.le_trans hB hb.size))
  have HF12 := Lib.hid (fun W (hb : Below w.heap.size w W) => law11_of ⟨#[97, 123, 48, 44, 50, 125]⟩ t12 d12 W B tells12 d12_cr d12_ok (hT.then hb hB) (Nat.le_trans hB hb.size))
  have HAL := Lib.hid (fun W (hb : Below w.heap.size w W) => law11_alive W B (hT.then hb hB) (Nat.le_trans hB hb.size))
  have hb0 : Below w.heap.size w (((((w.alloc (.cells #[.int .i64 0, .int .i64 5] 3)).alloc (.cells #[.int .i64 1, .int .i64 0] 3)).alloc (.cells #[.int .i64 0, .int .i64 1] 3)).alloc (.cells #[.slice (some ⟨w.heap.size + 1, 0, none⟩) 2 2, .slice (some ⟨w.heap.size + 1 + 1, 0, none⟩) 2 2] 22)).alloc (.cells #[.bool true, .bool true] 4)) := ((((((Below.refl _ _).alloc (Nat.le_refl _) _).alloc (by simp <;> omega) _).alloc (by simp <;> omega) _).alloc (by simp <;> omega) _).alloc (by simp <;> omega) _)
  have HB0 := Lib.hid hb0
  have HD0 := Lib.hid (dTwo_lit w)
  obtain ⟨W0, hW0⟩ : ∃ W0 : World, W0 = (((((w.alloc (.cells #[.int .i64 0, .int .i64 5] 3)).alloc (.cells #[.int .i64 1, .int .i64 0] 3)).alloc (.cells #[.int .i64 0, .int .i64 1] 3)).alloc (.cells #[.slice (some ⟨w.heap.size + 1, 0, none⟩) 2 2, .slice (some ⟨w.heap.size + 1 + 1, 0, none⟩) 2 2] 22)).alloc (.cells #[.bool true, .bool true] 4)) := ⟨_, rfl⟩
  rw [← hW0] at HB0 HD0
  have hb1 : Below W0.heap.size W0 (W0.alloc (.cells #[.slice (some ⟨w.heap.size, 0, none⟩) 2 2, .slice (some ⟨w.heap.size + 1 + 1 + 1, 0, none⟩) 2 2, .slice (some ⟨w.heap.size + 1 + 1 + 1 + 1, 0, none⟩) 2 2] TDfa)) := (Below.refl _ _).alloc (Nat.le_refl _) _
  have HB1 := Lib.hid (HB0.out.trans (hb1.mono HB0.out.size))
  have HLE := Lib.hid (least_Least _ _ _ 2 2 2 2 2 2 dTwo _ (DfaAt.keep HD0.out (Keep.of hb1)))
  rw [hW0] at HLE HB1
  clear hb0 HB0 HD0 hb1 hW0 hT hB
  go_enter Tryz.func4, Tryz.ntmps4
  go_wp2_with fail
  refine HLE.out.mono ?_
  intro e w2 hle
  obtain ⟨ED, ec, A1, n1, c1, A2, n2, c2, A3, n3, c3, rfl, hat, hla, k⟩ := hle.read
  have HX : Hid (ED = dOne ∧ ec = 0) := Lib.hid (hla.elim (fun h => absurd dTwo_ok h.1) (fun h => ⟨h.2.1.trans dTwo_least, h.2.2⟩))
  obtain ⟨x1, x2⟩ := HX.out
  subst x1; subst x2
  have HB2 := Lib.hid (HB1.out.trans (k.mono HB1.out.size))
  have hb3 : Below w2.heap.size w2 (w2.alloc (.cells #[.slice A1 n1 c1, .slice A2 n2 c2, .slice A3 n3 c3] TDfa)) := (Below.refl _ _).alloc (Nat.le_refl _) _
  have HB3 := Lib.hid (HB2.out.trans (hb3.mono HB2.out.size))
  have KA3 := Lib.hid (Blk.new w2 TDfa #[.slice A1 n1 c1, .slice A2 n2 c2, .slice A3 n3 c3])
  have HA3 := Lib.hid (DfaAt.keep hat (Keep.of hb3))
  clear hle hat hla k hb3 HX HLE
  go_wp2_with fail
  refine (HF6.out _ HB3.out).mono ?_
  rintro e w4 ⟨B1, m1, d1, B2, m2, d2, B3, m3, d3, rfl, hd, k⟩
  have hb5 : Below w4.heap.size w4 (w4.alloc (.cells #[.slice B1 m1 d1, .slice B2 m2 d2, .slice B3 m3 d3] TDfa)) := (Below.refl _ _).alloc (Nat.le_refl _) _
  have hk5 := k.trans (hb5.mono k.size)
  have HB5 := Lib.hid (HB3.out.trans (hk5.mono HB3.out.size))
  have KA5 := Lib.hid (KA3.out.below hk5 KA3.out.lt)
  have HA5 := Lib.hid (DfaAt.keep HA3.out (Keep.of hk5))
  have KB5 := Lib.hid (Blk.new w4 TDfa #[.slice B1 m1 d1, .slice B2 m2 d2, .slice B3 m3 d3])
  have HE5 := Lib.hid (DfaAt.keep hd (Keep.of hb5))
  clear hd k hb5 hk5
  go_wp2_with fail
  refine (HF12.out _ HB5.out).mono ?_
  rintro e w6 ⟨C1, q1, f1, C2, q2, f2, C3, q3, f3, rfl, hd, k⟩
  have hb7 : Below w6.heap.size w6 (w6.alloc (.cells #[.slice C1 q1 f1, .slice C2 q2 f2, .slice C3 q3 f3] TDfa)) := (Below.refl _ _).alloc (Nat.le_refl _) _
  have hk7 := k.trans (hb7.mono k.size)
  have HB7 := Lib.hid (HB5.out.trans (hk7.mono HB5.out.size))
  have KA7 := Lib.hid (KA5.out.below hk7 KA5.out.lt)
  have HA7 := Lib.hid (DfaAt.keep HA5.out (Keep.of hk7))
  have KB7 := Lib.hid (KB5.out.below hk7 KB5.out.lt)
  have HE7 := Lib.hid (DfaAt.keep HE5.out (Keep.of hk7))
  have KC7 := Lib.hid (Blk.new w6 TDfa #[.slice C1 q1 f1, .slice C2 q2 f2, .slice C3 q3 f3])
  have HG7 := Lib.hid (DfaAt.keep hd (Keep.of hb7))
  obtain ⟨p0, p1, p2, _, _, _⟩ := Blk.three KB7.out
  obtain ⟨z0, z1, z2, _, _, _⟩ := Blk.three KC7.out
  have HAP := Lib.hid (least_Apart B1 B2 B3 C1 C2 C3 d1 d2 d3 m1 m2 m3 f1 f2 f3 q1 q2 q3 d6 d12 _ HE7.out HG7.out)
  clear hd k hb7 hk7
  go_wp2_with fail
  refine HAP.out.mono ?_
  rintro e w8 ⟨v, rfl, hv, k⟩
  obtain ⟨a1, a2⟩ := apart_ok d6_ok d12_ok
  rw [a1, d612] at hv
  rw [a1, a2, d612]
  simp only [Option.getD_some, Option.isSome_some] at hv ⊢
  have HB8 := Lib.hid (HB7.out.trans (k.mono HB7.out.size))
  have KA8 := Lib.hid (KA7.out.below k KA7.out.lt)
  have HA8 := Lib.hid (DfaAt.keep HA7.out (Keep.of k))
  obtain ⟨V, vc, hvv, hva, _⟩ := hv.at' (fun x hx => by simp only [List.mem_cons, List.not_mem_nil, or_false, or_self] at hx; omega) (by simp)
  subst hvv
  have HV8 := Lib.hid hva
  have HL0 := Lib.hid (fun W => least_Least none none none 0 0 0 0 0 0 ⟨[], [], []⟩ W (DfaAt.none W))
  clear k p0 p1 p2 z0 z1 z2 hv hva a1 a2 HAP
  simp only [List.length_cons, List.length_nil]
  go_wp2_with fail
  refine (HL0.out _).mono ?_
  intro e wa hle
  obtain ⟨GD, gc, G1, g1, h1, G2, g2, h2, G3, g3, h3, rfl, hat, hla, k⟩ := hle.read
  have HX : Hid (gc = 8) := Lib.hid (hla.elim (fun h => h.2.2) (fun h => absurd h.1 none_bad))
  have hx := HX.out
  subst hx
  have hba : Below wa.heap.size wa (wa.alloc (.cells #[.slice G1 g1 h1, .slice G2 g2 h2, .slice G3 g3 h3] TDfa)) := (Below.refl _ _).alloc (Nat.le_refl _) _
  have hka := k.trans (hba.mono k.size)
  have HBa := Lib.hid (HB8.out.trans (hka.mono HB8.out.size))
  have KAa := Lib.hid (KA8.out.below hka KA8.out.lt)
  have HAa := Lib.hid (DfaAt.keep HA8.out (Keep.of hka))
  have HVa := Lib.hid (At.keep HV8.out (Keep.of hka))
  clear hle hat hla k hba hka HX
  go_wp2_with fail
  refine (HAL.out _ HBa.out).mono ?_
  rintro e w9 ⟨rfl, k⟩
  have HB9 := Lib.hid (HBa.out.trans (k.mono HBa.out.size))
  have KA9 := Lib.hid (KAa.out.below k KAa.out.lt)
  have HA9 := Lib.hid (DfaAt.keep HAa.out (Keep.of k))
  have HV9 := Lib.hid (At.keep HVa.out (Keep.of k))
  have hb10 : Below w9.heap.size w9 ((((w9.alloc (.cells #[.int .i64 0] 3)).alloc (.cells #[.int .i64 0] 3)).alloc (.cells #[.slice (some ⟨w9.heap.size + 1, 0, none⟩) 1 1] 22)).alloc (.cells #[.bool true] 4)) := (((((Below.refl _ _).alloc (Nat.le_refl _) _).alloc (by simp <;> omega) _).alloc (by simp <;> omega) _).alloc (by simp <;> omega) _)
  have HB10 := Lib.hid (HB9.out.trans (hb10.mono HB9.out.size))
  have HV10 := Lib.hid (At.keep HV9.out (Keep.of hb10))
  have HS := Lib.hid (ref10_Same A1 A2 A3 _ _ _ c1 c2 c3 n1 n2 n3 1 1 1 1 1 1 dOne dOne _ (DfaAt.keep HA9.out (Keep.of hb10)) (dOne_lit w9))
  rw [yes_t rfl] at HS
  obtain ⟨p0, p1, p2, _, _, _⟩ := Blk.three KA9.out
  have hlt := KA9.out.lt
  clear k hb10
  go_wp2_with fail
  refine HS.out.mono ?_
  rintro e wb ⟨rfl, k⟩
  have HBb := Lib.hid (HB10.out.trans (k.mono HB10.out.size))
  have HVb := Lib.hid (At.keep HV10.out (Keep.of k))
  have hbc : Below wb.heap.size wb (wb.alloc (.cells #[.int .i64 97, .int .i64 97, .int .i64 97] 3)) := (Below.refl _ _).alloc (Nat.le_refl _) _
  have HBc := Lib.hid (HBb.out.trans (hbc.mono HBb.out.size))
  have HSI := Lib.hid (ref11_SameInts V (some ⟨wb.heap.size, 0, none⟩) vc 3 3 3 [97, 97, 97] [97, 97, 97] _ (At.keep HVb.out (Keep.of hbc)) (ints_blk (n := 3) (Blk.new _ _ _) rfl rfl (by decide) (by omega)) (Lib.hid rfl) (Lib.hid rfl))
  rw [decide_eq_true (rfl : ([97, 97, 97] : List Int) = [97, 97, 97])] at HSI
  clear k hbc p0 p1 p2
  go_wp2_with fail
  refine HSI.out.mono ?_
  rintro e wd ⟨rfl, nd, rfl⟩
  go_wp2
  go_ret
  exact ⟨rfl, below_drewN HBc.out _⟩
end Go.Proofs.YtilhicefhhgecaaGreatDoor
