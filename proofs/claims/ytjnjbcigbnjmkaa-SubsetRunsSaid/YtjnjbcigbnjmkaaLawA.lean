/- The law SubsetRuns walked: whatever two automata, a state, a number and numbers: the program's answers are the document's. -/
import Derived.Test.YtjnjbcigbnjmkaaWf
import Derived.Test.YtjnjbcigbnjmkaaWg
import Derived.Test.YtjnjbcigbnjmkaaWj
import Derived.Test.YtjnjbcigbnjmkaaWk
namespace Go.Proofs.Ytjnjbcigbnjmkaa
open Go.RowKit Pv

theorem own_empty (w : World) (base : Nat) (e : TypeId) (n : Nat) (hn : n = w.heap.size) (hb : base ≤ n) : (w.alloc (.cells #[] e)).ownsRow base e 1 (.slice (some ⟨n, 0, none⟩) 0 0) 0 [] := by
  subst hn
  exact ⟨rfl, .inr ⟨w.heap.size, 0, #[], rfl, hb, by show (w.heap.push _)[w.heap.size]? = _; simp, Nat.le_refl _, by simp only [maxLen]; omega, rfl, rfl⟩⟩
/-- Three boxes of three cells each, as they stand in a world that has grown out of w. -/
structure Boxes (w W : World) (N M L : Nat) (a1 a2 a3 b1 b2 b3 o1 o2 o3 : Value) : Prop where
  a1 : W.cell? ⟨N, 0, none⟩ = some a1
  a2 : W.cell? ⟨N, 1, none⟩ = some a2
  a3 : W.cell? ⟨N, 2, none⟩ = some a3
  b1 : W.cell? ⟨M, 0, none⟩ = some b1
  b2 : W.cell? ⟨M, 1, none⟩ = some b2
  b3 : W.cell? ⟨M, 2, none⟩ = some b3
  o1 : W.cell? ⟨L, 0, none⟩ = some o1
  o2 : W.cell? ⟨L, 1, none⟩ = some o2
  o3 : W.cell? ⟨L, 2, none⟩ = some o3
  hN : N < W.heap.size
  hM : M < W.heap.size
  hL : L < W.heap.size
  be : Below w.heap.size w W
theorem Boxes.next {w W W' : World} {N M L : Nat} {a1 a2 a3 b1 b2 b3 o1 o2 o3 : Value} (h : Boxes w W N M L a1 a2 a3 b1 b2 b3 o1 o2 o3) (hb : Below W.heap.size W W') : Boxes w W' N M L a1 a2 a3 b1 b2 b3 o1 o2 o3 := by
  have s := hb.size
  exact ⟨(hb.cell h.hN).trans h.a1, (hb.cell h.hN).trans h.a2, (hb.cell h.hN).trans h.a3, (hb.cell h.hM).trans h.b1, (hb.cell h.hM).trans h.b2, (hb.cell h.hM).trans h.b3, (hb.cell h.hL).trans h.o1, (hb.cell h.hL).trans h.o2, (hb.cell h.hL).trans h.o3,
    Nat.lt_of_lt_of_le h.hN s, Nat.lt_of_lt_of_le h.hM s, Nat.lt_of_lt_of_le h.hL s, h.be.trans (hb.mono h.be.size)⟩

theorem Boxes.start (w : World) (a1 a2 a3 b1 b2 b3 : Value) (T : TypeId) :
    Boxes w ((w.alloc (.cells #[a1, a2, a3] T)).alloc (.cells #[b1, b2, b3] T)) w.heap.size (w.heap.size + 1) w.heap.size a1 a2 a3 b1 b2 b3 a1 a2 a3 :=
  ⟨by simp, by simp, by simp, by simp, by simp, by simp, by simp, by simp, by simp, by simp; omega, by simp, by simp; omega, ((Below.refl _ _).alloc (Nat.le_refl _) _).alloc (by simp) _⟩
theorem Boxes.three {w W : World} {N M L : Nat} {a1 a2 a3 b1 b2 b3 o1 o2 o3 : Value} (h : Boxes w W N M L a1 a2 a3 b1 b2 b3 o1 o2 o3) (v1 v2 v3 : Value) (T : TypeId) :
    Boxes w (W.alloc (.cells #[v1, v2, v3] T)) N M W.heap.size a1 a2 a3 b1 b2 b3 v1 v2 v3 := by
  have k : Keep W (W.alloc (.cells #[v1, v2, v3] T)) := Keep.alloc _ _
  exact ⟨(k.cell _ _ h.hN).trans h.a1, (k.cell _ _ h.hN).trans h.a2, (k.cell _ _ h.hN).trans h.a3, (k.cell _ _ h.hM).trans h.b1, (k.cell _ _ h.hM).trans h.b2, (k.cell _ _ h.hM).trans h.b3, by simp, by simp, by simp,
    by have := h.hN; simp; omega, by have := h.hM; simp; omega, by simp, h.be.alloc h.be.size _⟩

theorem S_of {w w4 W : World} {N M L : Nat} {a1 a2 a3 b1 b2 b3 o1 o2 o3 : Value} (h : Boxes w W N M L a1 a2 a3 b1 b2 b3 o1 o2 o3) (k : Keep w4 W) :
    W.cell? ⟨N, 0, none⟩ = some a1 ∧ W.cell? ⟨N, 1, none⟩ = some a2 ∧ W.cell? ⟨N, 2, none⟩ = some a3 ∧ W.cell? ⟨M, 0, none⟩ = some b1 ∧ W.cell? ⟨M, 1, none⟩ = some b2 ∧ W.cell? ⟨M, 2, none⟩ = some b3 ∧ W.cell? ⟨L, 0, none⟩ = some o1 ∧ W.cell? ⟨L, 1, none⟩ = some o2 ∧ W.cell? ⟨L, 2, none⟩ = some o3 ∧ Boxes w W N M L a1 a2 a3 b1 b2 b3 o1 o2 o3 ∧ Keep w4 W :=
  ⟨h.a1, h.a2, h.a3, h.b1, h.b2, h.b3, h.o1, h.o2, h.o3, h, k⟩
theorem S_box {p1 p2 p3 p4 p5 p6 p7 p8 p9 B K : Prop} (h : p1 ∧ p2 ∧ p3 ∧ p4 ∧ p5 ∧ p6 ∧ p7 ∧ p8 ∧ p9 ∧ B ∧ K) : B := h.2.2.2.2.2.2.2.2.2.1
theorem S_keep {p1 p2 p3 p4 p5 p6 p7 p8 p9 B K : Prop} (h : p1 ∧ p2 ∧ p3 ∧ p4 ∧ p5 ∧ p6 ∧ p7 ∧ p8 ∧ p9 ∧ B ∧ K) : K := h.2.2.2.2.2.2.2.2.2.2
theorem S_kw {p1 p2 p3 p4 p5 p6 p7 p8 p9 : Prop} {w w4 W : World} {N M L : Nat} {a1 a2 a3 b1 b2 b3 o1 o2 o3 : Value} (h : p1 ∧ p2 ∧ p3 ∧ p4 ∧ p5 ∧ p6 ∧ p7 ∧ p8 ∧ p9 ∧ Boxes w W N M L a1 a2 a3 b1 b2 b3 o1 o2 o3 ∧ Keep w4 W) : Keep w W := Keep.of (S_box h).be
theorem S_more {p1 p2 p3 p4 p5 p6 p7 p8 p9 : Prop} {w w4 W W' : World} {N M L : Nat} {a1 a2 a3 b1 b2 b3 o1 o2 o3 : Value} (h : p1 ∧ p2 ∧ p3 ∧ p4 ∧ p5 ∧ p6 ∧ p7 ∧ p8 ∧ p9 ∧ Boxes w W N M L a1 a2 a3 b1 b2 b3 o1 o2 o3 ∧ Keep w4 W) (hb : Below W.heap.size W W') :
    W'.cell? ⟨N, 0, none⟩ = some a1 ∧ W'.cell? ⟨N, 1, none⟩ = some a2 ∧ W'.cell? ⟨N, 2, none⟩ = some a3 ∧ W'.cell? ⟨M, 0, none⟩ = some b1 ∧ W'.cell? ⟨M, 1, none⟩ = some b2 ∧ W'.cell? ⟨M, 2, none⟩ = some b3 ∧ W'.cell? ⟨L, 0, none⟩ = some o1 ∧ W'.cell? ⟨L, 1, none⟩ = some o2 ∧ W'.cell? ⟨L, 2, none⟩ = some o3 ∧ Boxes w W' N M L a1 a2 a3 b1 b2 b3 o1 o2 o3 ∧ Keep w4 W' :=
  S_of ((S_box h).next hb) ((S_keep h).trans (Keep.of hb))

set_option maxHeartbeats 4000000 in
set_option maxRecDepth 100000 in
theorem law_SubsetRuns (A1 A2 A3 B1 B2 B3 A4 : Option Addr) (c1 c2 c3 n1 n2 n3 d1 d2 d3 m1 m2 m3 c4 n4 : Nat) (d o : Dfa) (s n : Int) (pts : List Int) (w : World) (H : DfaAt w A1 A2 A3 n1 n2 n3 d) (K : DfaAt w B1 B2 B3 m1 m2 m3 o) (hp : At w A4 RI pts) (HP : Hid (pts.length = n4)) :
    Calls Try.prog 3 #[.agg #[.slice A1 n1 c1, .slice A2 n2 c2, .slice A3 n3 c3], .agg #[.slice B1 m1 d1, .slice B2 m2 d2, .slice B3 m3 d3], .int .i64 s, .int .i64 n, .slice A4 n4 c4] w fun e w' => e = .returned (.bool true) ∧ Below w.heap.size w w' := by
  have hl4 : n4 ≤ 140737488355328 := by have := hp.1; rwa [HP.out] at this
  have HG1 := Lib.hid (fun (W : World) (k : Keep w W) => show Calls Try.prog 9 #[.agg #[.slice A1 n1 c1, .slice A2 n2 c2, .slice A3 n3 c3], .int .i64 70, .int .i64 300] W (GreatPost d 70 300 W) from ref10_Great A1 A2 A3 c1 c2 c3 n1 n2 n3 d 70 300 W (H.keep k) (by omega) (by omega))
  have HG2 := Lib.hid (fun (W : World) (k : Keep w W) => show Calls Try.prog 9 #[.agg #[.slice B1 m1 d1, .slice B2 m2 d2, .slice B3 m3 d3], .int .i64 40, .int .i64 40] W (GreatPost o 40 40 W) from ref10_Great B1 B2 B3 d1 d2 d3 m1 m2 m3 o 40 40 W (K.keep k) (by omega) (by omega))
  have HH := Lib.hid H; have HK := Lib.hid K; have HPP := Lib.hid hp
  clear H K hp
  go_enter Try.func3, Try.ntmps3
  have BX := Lib.hid (Boxes.start w (.slice A1 n1 c1) (.slice A2 n2 c2) (.slice A3 n3 c3) (.slice B1 m1 d1) (.slice B2 m2 d2) (.slice B3 m3 d3) 26)
  go_wp2_with fail
  refine (HG1.out _ (Keep.of BX.out.be)).mono ?_
  rintro e w1 ⟨g1, rfl, hg1, hb⟩
  replace BX := Lib.hid (BX.out.next hb)
  have HQ1 := Lib.hid hg1
  clear hb hg1
  obtain ⟨x1, x2, x3, y1, y2, y3, z1, z2, z3, _, _, _, _⟩ := BX.out
  cases g1
  case true =>
    go_wp2
    go_ret
    exact ⟨rfl, BX.out.be⟩
  go_wp2_with fail
  refine (HG2.out _ (Keep.of BX.out.be)).mono ?_
  rintro e w2 ⟨g2, rfl, hg2, hb⟩
  clear x1 x2 x3 y1 y2 y3 z1 z2 z3
  replace BX := Lib.hid (BX.out.next hb)
  have HQ2 := Lib.hid hg2
  clear hb hg2
  obtain ⟨x1, x2, x3, y1, y2, y3, z1, z2, z3, _, _, _, _⟩ := BX.out
  cases g2
  case true =>
    go_wp2
    go_ret
    exact ⟨rfl, BX.out.be⟩
  by_cases h1 : 1100 < n4
  · by_cases h2 : 30 < n4
    · by_cases h3 : n4 ≤ 1024
      · omega
      · go_wp2
        go_ret
        exact ⟨rfl, BX.out.be⟩
    · omega
  by_cases h2 : 30 < n4 ∧ n4 ≤ 1024
  · obtain ⟨h2, h3⟩ := h2
    go_wp2
    go_ret
    exact ⟨rfl, BX.out.be⟩
  have hT : Hid (n1 ≤ 1000000 ∧ n2 ≤ 1000000 ∧ n3 ≤ 1000000 ∧ ∀ (i : Nat) r, d.next[i]? = some r → r.length ≤ 1000000) := Lib.hid (by
    obtain ⟨q1, q2, q3, q4⟩ := HQ1.out (by trivial)
    exact ⟨by rw [← HH.out.hc.out]; omega, by rw [← HH.out.hn.out]; omega, by rw [← HH.out.ha.out]; omega, fun i r hr => by have := q4 i r hr; omega⟩)
  clear HQ1 HQ2 HG1 HG2
  obtain ⟨i0, hi0, hz0, hs0, hb0⟩ := info_parts info_int
  obtain ⟨us, hru, hsu⟩ := HPP.out.src (fun _ _ h => RI.one h)
  rw [HP.out] at hsu
  have SP := Lib.hid hsu; have RU := Lib.hid hru
  clear hsu hru
  have HTW := Lib.hid (fun (W : World) (k : Keep w W) => ref10_Twin A1 A2 A3 c1 c2 c3 n1 n2 n3 d W (HH.out.keep k) hT.out)
  by_cases h3 : 30 < n4
  all_goals
    go_wp2_with fail
    refine (HTW.out _ (Keep.of BX.out.be)).mono ?_
    rintro e w3 ⟨v1, v2, v3, rfl, hown, hb⟩
    clear x1 x2 x3 y1 y2 y3 z1 z2 z3
    replace BX := Lib.hid (BX.out.next hb)
    obtain ⟨O1, O2, O3, k1, k2, k3, e1, e2, e3, rfl, rfl, rfl, hO⟩ := hown.opens
    have HO := Lib.hid hO
    clear hb hown hO
    obtain ⟨x1, x2, x3, y1, y2, y3, z1, z2, z3, _, _, _, _⟩ := BX.out
    have BX0 := Lib.hid BX.out
    replace BX := Lib.hid (BX.out.three (.slice O1 k1 e1) (.slice O2 k2 e2) (.slice O3 k3 e3) 26)
    go_wp2_with (at_builtin
                 go_must (refine wpList_append_src _ rfl (.tmp 49) (.tmp 50) 22 rfl w.heap.size 3 i0 (.int .i64 0) 1 8 Try.underlying22 hi0 hz0 hs0 hb0 rfl (by decide) (some ⟨w3.heap.size + 1, 0, none⟩) 0 0 [] rfl (own_empty _ _ _ _ (by simp) (by have := BX0.out.be.size; simp; omega)) A4 n4 c4 us rfl (SP.out.keep ((Keep.of BX.out.be).trans (Keep.alloc _ _))) (by simp only [maxLen]; omega) (by omega) (by have := BX0.out.be.size; simp; omega) ?_)
                 intro A5 c5 w4 own4 gr4 _
                 simp only [List.nil_append, Nat.zero_add] at own4
                 have hb4 : Below (w3.alloc (.cells #[.slice O1 k1 e1, .slice O2 k2 e2, .slice O3 k3 e3] 26)).heap.size (w3.alloc (.cells #[.slice O1 k1 e1, .slice O2 k2 e2, .slice O3 k3 e3] 26)) w4 := ((Below.refl _ _).alloc (Nat.le_refl _) _).grown gr4 (by simp) (fun k hk => by simp [Value.ownBlock] at hk; simp; omega)
                 clear x1 x2 x3 y1 y2 y3 z1 z2 z3
                 replace BX := Lib.hid (BX.out.next hb4)
                 have HO4 := Lib.hid (HO.out.keep ((Keep.alloc _ _).trans (Keep.of hb4)))
                 have P5 := Lib.hid (At.of_own own4 RU.out (by rw [HP.out]; omega)).2.2
                 have KW := Lib.hid (Keep.refl w4)
                 clear hb4 own4 gr4
                 obtain ⟨x1, x2, x3, y1, y2, y3, z1, z2, z3, _, _, _, _⟩ := BX.out
                 have HCa := Lib.hid (fun (W : World) (k : Keep w4 W) => subset_Class O1 O2 O3 e1 e2 e3 k1 k2 k3 d n W (HO4.out.keep k))
                 have HCb := Lib.hid (fun (W : World) (k : Keep w W) => ref10_Class A1 A2 A3 c1 c2 c3 n1 n2 n3 d n W (HH.out.keep k))
                 have HWa := Lib.hid (fun (W : World) (k : Keep w4 W) => subset_Walk O1 O2 O3 A5 e1 e2 e3 c5 k1 k2 k3 n4 d s pts W (HO4.out.keep k) (P5.out.keep k) HP)
                 have HWb := Lib.hid (fun (W : World) (k : Keep w W) => ref10_Walk A1 A2 A3 A4 c1 c2 c3 c4 n1 n2 n3 n4 d s pts W (HH.out.keep k) (HPP.out.keep k) HP)
                 have HRa := Lib.hid (fun (W : World) (k : Keep w4 W) => subset_Run O1 O2 O3 A5 e1 e2 e3 c5 k1 k2 k3 n4 d pts W (HO4.out.keep k) (P5.out.keep k) HP)
                 have HRb := Lib.hid (fun (W : World) (k : Keep w W) => ref10_Run A1 A2 A3 A4 c1 c2 c3 c4 n1 n2 n3 n4 d pts W (HH.out.keep k) (HPP.out.keep k) HP)
                 have HKa := Lib.hid (fun (W : World) (k : Keep w4 W) => subset_Check O1 O2 O3 e1 e2 e3 k1 k2 k3 d W (HO4.out.keep k))
                 have HKb := Lib.hid (fun (W : World) (k : Keep w W) => ref10_Check A1 A2 A3 c1 c2 c3 n1 n2 n3 d W (HH.out.keep k))
                 have HSa := Lib.hid (fun (W : World) (k : Keep w4 W) (k' : Keep w W) => subset_Same O1 O2 O3 B1 B2 B3 e1 e2 e3 k1 k2 k3 d1 d2 d3 m1 m2 m3 d o W (HO4.out.keep k) (HK.out.keep k'))
                 have HSb := Lib.hid (fun (W : World) (k' : Keep w W) => ref10_Same A1 A2 A3 B1 B2 B3 c1 c2 c3 n1 n2 n3 d1 d2 d3 m1 m2 m3 d o W (HH.out.keep k') (HK.out.keep k'))
                 have HTa := Lib.hid (fun (W : World) (k : Keep w4 W) (k' : Keep w W) => subset_Same O1 O2 O3 A1 A2 A3 e1 e2 e3 k1 k2 k3 c1 c2 c3 n1 n2 n3 d d W (HO4.out.keep k) (HH.out.keep k'))
                 have HTb := Lib.hid (fun (W : World) (k : Keep w4 W) (k' : Keep w W) => ref10_Same O1 O2 O3 A1 A2 A3 e1 e2 e3 k1 k2 k3 c1 c2 c3 n1 n2 n3 d d W (HO4.out.keep k) (HH.out.keep k'))
                 rw [yes_t (p := d = d) rfl] at HTa HTb
                 have HI : Hid (∀ (W : World) (k : Keep w4 W) (k' : Keep w W), Calls Try.prog 21 #[.slice A5 n4 c5, .slice A4 n4 c4] W fun e w' => e = .returned (.bool true) ∧ Below W.heap.size W w') := Lib.hid (fun W k k' => (ref06_SameInts A5 A4 c5 c4 n4 n4 pts pts W (P5.out.keep k) (HPP.out.keep k') HP HP).mono fun e w' ⟨he, m, hm⟩ => ⟨by rw [he, decide_eq_true rfl], by rw [hm]; exact below_drewN (Below.refl _ _) m⟩)
                 generalize (d.classE n).1 = q1 at HCa HCb
                 generalize (d.classE n).2 = q2 at HCa HCb
                 generalize (d.walkE s pts).1 = q3 at HWa HWb
                 generalize (d.walkE s pts).2 = q4 at HWa HWb
                 generalize (d.runE pts).1 = q5 at HRa HRb
                 generalize (d.runE pts).2 = q6 at HRa HRb
                 generalize d.checkE = q7 at HKa HKb
                 generalize yes (d = o) = q8 at HSa HSb
                 clear HO)
    go_wp2_with fail
    refine (HCa.out _ KW.out).mono ?_
    rintro e w5 ⟨rfl, hb⟩
    clear x1 x2 x3 y1 y2 y3 z1 z2 z3
    replace BX := Lib.hid (BX.out.next hb)
    replace KW := Lib.hid (KW.out.trans (Keep.of hb))
    clear hb
    obtain ⟨x1, x2, x3, y1, y2, y3, z1, z2, z3, _, _, _, _⟩ := BX.out
    go_wp2_with fail
    refine (HCb.out _ (Keep.of BX.out.be)).mono ?_
    rintro e w6 ⟨rfl, hb⟩
    clear x1 x2 x3 y1 y2 y3 z1 z2 z3
    replace BX := Lib.hid (BX.out.next hb)
    replace KW := Lib.hid (KW.out.trans (Keep.of hb))
    clear hb
    obtain ⟨x1, x2, x3, y1, y2, y3, z1, z2, z3, _, _, _, _⟩ := BX.out
    go_wp2_with fail
    refine (HWa.out _ KW.out).mono ?_
    rintro e w7 ⟨rfl, hb⟩
    clear x1 x2 x3 y1 y2 y3 z1 z2 z3
    replace BX := Lib.hid (BX.out.next hb)
    replace KW := Lib.hid (KW.out.trans (Keep.of hb))
    clear hb
    obtain ⟨x1, x2, x3, y1, y2, y3, z1, z2, z3, _, _, _, _⟩ := BX.out
    go_wp2_with fail
    refine (HWb.out _ (Keep.of BX.out.be)).mono ?_
    rintro e w8 ⟨rfl, hb⟩
    clear x1 x2 x3 y1 y2 y3 z1 z2 z3
    replace BX := Lib.hid (BX.out.next hb)
    replace KW := Lib.hid (KW.out.trans (Keep.of hb))
    clear hb
    obtain ⟨x1, x2, x3, y1, y2, y3, z1, z2, z3, _, _, _, _⟩ := BX.out
    go_wp2_with fail
    refine (HRa.out _ KW.out).mono ?_
    rintro e w9 ⟨rfl, hb⟩
    clear x1 x2 x3 y1 y2 y3 z1 z2 z3
    replace BX := Lib.hid (BX.out.next hb)
    replace KW := Lib.hid (KW.out.trans (Keep.of hb))
    clear hb
    obtain ⟨x1, x2, x3, y1, y2, y3, z1, z2, z3, _, _, _, _⟩ := BX.out
    go_wp2_with fail
    refine (HRb.out _ (Keep.of BX.out.be)).mono ?_
    rintro e w10 ⟨rfl, hb⟩
    clear x1 x2 x3 y1 y2 y3 z1 z2 z3
    replace BX := Lib.hid (BX.out.next hb)
    replace KW := Lib.hid (KW.out.trans (Keep.of hb))
    clear hb
    obtain ⟨x1, x2, x3, y1, y2, y3, z1, z2, z3, _, _, _, _⟩ := BX.out
    go_wp2_with fail
    go_region_held3 (fun W => W.cell? ⟨w.heap.size, 0, none⟩ = some (.slice A1 n1 c1) ∧ W.cell? ⟨w.heap.size, 1, none⟩ = some (.slice A2 n2 c2) ∧ W.cell? ⟨w.heap.size, 2, none⟩ = some (.slice A3 n3 c3) ∧ W.cell? ⟨w.heap.size + 1, 0, none⟩ = some (.slice B1 m1 d1) ∧ W.cell? ⟨w.heap.size + 1, 1, none⟩ = some (.slice B2 m2 d2) ∧ W.cell? ⟨w.heap.size + 1, 2, none⟩ = some (.slice B3 m3 d3) ∧ W.cell? ⟨w3.heap.size, 0, none⟩ = some (.slice O1 k1 e1) ∧ W.cell? ⟨w3.heap.size, 1, none⟩ = some (.slice O2 k2 e2) ∧ W.cell? ⟨w3.heap.size, 2, none⟩ = some (.slice O3 k3 e3) ∧ Boxes w W w.heap.size (w.heap.size + 1) w3.heap.size (.slice A1 n1 c1) (.slice A2 n2 c2) (.slice A3 n3 c3) (.slice B1 m1 d1) (.slice B2 m2 d2) (.slice B3 m3 d3) (.slice O1 k1 e1) (.slice O2 k2 e2) (.slice O3 k3 e3) ∧ Keep w4 W)
      (first | exact S_of (BX.out.next (Below.refl _ _).drew) (KW.out.trans (Keep.drew _)) | exact S_of ((BX.out.next (Below.refl _ _).drew).next hb) ((KW.out.trans (Keep.drew _)).trans (Keep.of hb)) | exact S_more (by assumption) hb)
      (first | (go_at_call 17; with_reducible refine (HKa.out _ ?_).mono ?_; (first | exact KW.out.trans (Keep.drew _) | exact S_keep (by assumption)); rintro e w' ⟨rfl, hb⟩) | (go_at_call 18; with_reducible refine (HKb.out _ ?_).mono ?_; (first | exact Keep.of (BX.out.next (Below.refl _ _).drew).be | exact S_kw (by assumption)); rintro e w' ⟨rfl, hb⟩))
    go_wp2_with fail
    have hS := ‹w'.cell? ⟨w.heap.size, 0, none⟩ = _ ∧ _›
    clear x1 x2 x3 y1 y2 y3 z1 z2 z3
    replace BX := Lib.hid (S_box hS)
    replace KW := Lib.hid (S_keep hS)
    clear hS hb
    obtain ⟨x1, x2, x3, y1, y2, y3, z1, z2, z3, _, _, _, _⟩ := BX.out
    go_region_held3 (fun W => W.cell? ⟨w.heap.size, 0, none⟩ = some (.slice A1 n1 c1) ∧ W.cell? ⟨w.heap.size, 1, none⟩ = some (.slice A2 n2 c2) ∧ W.cell? ⟨w.heap.size, 2, none⟩ = some (.slice A3 n3 c3) ∧ W.cell? ⟨w.heap.size + 1, 0, none⟩ = some (.slice B1 m1 d1) ∧ W.cell? ⟨w.heap.size + 1, 1, none⟩ = some (.slice B2 m2 d2) ∧ W.cell? ⟨w.heap.size + 1, 2, none⟩ = some (.slice B3 m3 d3) ∧ W.cell? ⟨w3.heap.size, 0, none⟩ = some (.slice O1 k1 e1) ∧ W.cell? ⟨w3.heap.size, 1, none⟩ = some (.slice O2 k2 e2) ∧ W.cell? ⟨w3.heap.size, 2, none⟩ = some (.slice O3 k3 e3) ∧ Boxes w W w.heap.size (w.heap.size + 1) w3.heap.size (.slice A1 n1 c1) (.slice A2 n2 c2) (.slice A3 n3 c3) (.slice B1 m1 d1) (.slice B2 m2 d2) (.slice B3 m3 d3) (.slice O1 k1 e1) (.slice O2 k2 e2) (.slice O3 k3 e3) ∧ Keep w4 W)
      (first | exact S_of (BX.out.next (Below.refl _ _).drew) (KW.out.trans (Keep.drew _)) | exact S_of ((BX.out.next (Below.refl _ _).drew).next hb) ((KW.out.trans (Keep.drew _)).trans (Keep.of hb)) | exact S_more (by assumption) hb)
      (first | (go_at_call 19; with_reducible refine (HSa.out _ ?_ ?_).mono ?_; (first | exact KW.out.trans (Keep.drew _) | exact S_keep (by assumption)); (first | exact Keep.of (BX.out.next (Below.refl _ _).drew).be | exact S_kw (by assumption)); rintro e w' ⟨rfl, hb⟩) | (go_at_call 19; with_reducible refine (HTa.out _ ?_ ?_).mono ?_; (first | exact KW.out.trans (Keep.drew _) | exact S_keep (by assumption)); (first | exact Keep.of (BX.out.next (Below.refl _ _).drew).be | exact S_kw (by assumption)); rintro e w' ⟨rfl, hb⟩) | (go_at_call 20; with_reducible refine (HSb.out _ ?_).mono ?_; (first | exact Keep.of (BX.out.next (Below.refl _ _).drew).be | exact S_kw (by assumption)); rintro e w' ⟨rfl, hb⟩) | (go_at_call 20; with_reducible refine (HTb.out _ ?_ ?_).mono ?_; (first | exact KW.out.trans (Keep.drew _) | exact S_keep (by assumption)); (first | exact Keep.of (BX.out.next (Below.refl _ _).drew).be | exact S_kw (by assumption)); rintro e w' ⟨rfl, hb⟩) | (go_at_call 21; with_reducible refine (HI.out _ ?_ ?_).mono ?_; (first | exact KW.out.trans (Keep.drew _) | exact S_keep (by assumption)); (first | exact Keep.of (BX.out.next (Below.refl _ _).drew).be | exact S_kw (by assumption)); rintro e w' ⟨rfl, hb⟩))
    go_wp2
    go_ret
    have hS := ‹_ ∧ _ ∧ _ ∧ _ ∧ _ ∧ _ ∧ _ ∧ _ ∧ _ ∧ Boxes w _ _ _ _ _ _ _ _ _ _ _ _ _ ∧ _›
    exact ⟨rfl, (S_box hS).be⟩

end Go.Proofs.Ytjnjbcigbnjmkaa
