/- Walks: the cuts of both, merged (the document's). PUT1 -/
import Derived.Test.YtjnjbcigbnjmkaaGiy
import Derived.Test.YtjnjbcigbnjmkaaFjy
import Derived.Test.YtjnjbcigbnjmkaaGky
namespace Pv
open Go Go.RowKit
theorem drop_get {l : List Int} {i : Nat} {x : Int} (h : l[i]? = some x) : l.drop i = x :: l.drop (i + 1) := by
  have h1 := lt_of_get h
  rw [List.getElem?_eq_getElem h1] at h
  rw [List.drop_eq_getElem_cons h1, Option.some.inj h]
theorem mergeD_a {a b : List Int} {i k : Nat} {x : Int} (h : a[i]? = some x) (h2 : ∀ y, b[k]? = some y → x < y) : mergeL (a.drop i) (b.drop k) = x :: mergeL (a.drop (i + 1)) (b.drop k) := by
  rw [drop_get h]
  cases hb : b[k]? with
  | none =>
    have : b.drop k = [] := List.drop_eq_nil_of_le (by simpa using hb)
    rw [this, mergeL_nil, mergeL_nil]
  | some y => rw [drop_get hb, mergeL_lt _ _ (h2 y hb)]
theorem mergeD_b {a b : List Int} {i k : Nat} {y : Int} (h : b[k]? = some y) (h2 : ∀ x, a[i]? = some x → y < x) : mergeL (a.drop i) (b.drop k) = y :: mergeL (a.drop i) (b.drop (k + 1)) := by
  rw [drop_get h]
  cases ha : a[i]? with
  | none =>
    have : a.drop i = [] := List.drop_eq_nil_of_le (by simpa using ha)
    rw [this]
    simp [mergeL]
  | some x => rw [drop_get ha, mergeL_gt _ _ (h2 x ha)]
theorem mergeD_e {a b : List Int} {i k : Nat} {y : Int} (h : b[k]? = some y) (h2 : a[i]? = some y) : mergeL (a.drop i) (b.drop k) = y :: mergeL (a.drop (i + 1)) (b.drop (k + 1)) := by
  rw [drop_get h, drop_get h2, mergeL_eq]
theorem mergeD_0 {a b : List Int} {i k : Nat} (h : a.length ≤ i) (h2 : b.length ≤ k) : mergeL (a.drop i) (b.drop k) = [] := by
  rw [List.drop_eq_nil_of_le h, List.drop_eq_nil_of_le h2, mergeL_nil]
end Pv
namespace Go.Proofs.Ytjnjbcigbnjmkaa
open Go.RowKit Pv

/-- Numbers in new memory. -/
def IntsP (l : List Int) (w : World) (e : Ending) (w' : World) : Prop := ∃ v, e = .returned v ∧ OwnI w' w.heap.size v l ∧ Below w.heap.size w w'
/-- Two automata's boxes. -/
structure Two (w W : World) (a b : Array Value) : Prop where
  a : Blk W w.heap.size TDfa a
  b : Blk W (w.heap.size + 1) TDfa b
  be : Below w.heap.size w W
theorem Two.next {w W W' : World} {a b : Array Value} (h : Two w W a b) (hb : Below W.heap.size W W') : Two w W' a b := ⟨h.a.below hb h.a.lt, h.b.below hb h.b.lt, h.be.trans (hb.mono h.be.size)⟩
theorem Two.grown {w W W' : World} {a b : Array Value} {base s n : Nat} {e : TypeId} {v : Value} {us : List Value} (h : Two w W a b) (hr : W.ownsRow base e s v n us) (he : e ≠ TDfa) (hg : W.grownBy W' v.ownBlock) (hb : w.heap.size ≤ base) : Two w W' a b :=
  ⟨h.a.grown hg (own_blk_ne hr h.a he), h.b.grown hg (own_blk_ne hr h.b he), h.be.grown hg h.be.size (fun g hgg => Nat.le_trans hb (hr.lt g hgg).1)⟩

set_option maxHeartbeats 4000000 in
set_option maxRecDepth 100000 in
theorem ref11_numbers (A1 A2 A3 B1 B2 B3 : Option Addr) (c1 c2 c3 n1 n2 n3 d1 d2 d3 m1 m2 m3 : Nat) (d o : Dfa) (w : World) (H : DfaAt w A1 A2 A3 n1 n2 n3 d) (K : DfaAt w B1 B2 B3 m1 m2 m3 o) (hn : n1 ≤ 256) (hm : m1 ≤ 256) :
    Calls Try.prog 147 #[.agg #[.slice A1 n1 c1, .slice A2 n2 c2, .slice A3 n3 c3], .agg #[.slice B1 m1 d1, .slice B2 m2 d2, .slice B3 m3 d3]] w (IntsP (mergeL d.cuts o.cuts) w) := by
  have HD := Lib.hid H; have HO := Lib.hid K
  have HNC := H.hc; have HMC := K.hc
  obtain ⟨i0, hi0, hz0, hs0, hb0⟩ := info_parts info_int9
  have KK := blk2 w #[.slice A1 n1 c1, .slice A2 n2 c2, .slice A3 n3 c3] #[.slice B1 m1 d1, .slice B2 m2 d2, .slice B3 m3 d3] TDfa TDfa
  have HT0 := Lib.hid (show Two w _ _ _ from ⟨KK.1, KK.2, ((Below.refl w.heap.size w).alloc (Nat.le_refl _) (.cells #[.slice A1 n1 c1, .slice A2 n2 c2, .slice A3 n3 c3] TDfa)).alloc (by simp) (.cells #[.slice B1 m1 d1, .slice B2 m2 d2, .slice B3 m3 d3] TDfa)⟩)
  obtain ⟨L, hL⟩ : ∃ L, mergeL d.cuts o.cuts = L := ⟨_, rfl⟩
  have HL := Lib.hid hL
  rw [hL]
  clear H K KK hL
  go_enter Try.func147, Try.ntmps147
  go_wp2
  go_loopw [5, 6, 7] (fun ov iv kv W => ∃ (i k q : Nat) (R : Option Addr) (rc : Nat) (out : List Int), ov = .slice R q rc ∧ iv = .int .i64 i ∧ kv = .int .i64 k ∧ i ≤ n1 ∧ k ≤ m1 ∧ q ≤ i + k ∧ Hid (out.length = q) ∧ Hid (W.ownsRow w.heap.size TLI 1 (.slice R q rc) q (out.map (Value.int .i64))) ∧
    Hid (out ++ mergeL (d.cuts.drop i) (o.cuts.drop k) = L) ∧ Hid (Two w W #[.slice A1 n1 c1, .slice A2 n2 c2, .slice A3 n3 c3] #[.slice B1 m1 d1, .slice B2 m2 d2, .slice B3 m3 d3])) (fun _ iv kv _ => n1 + m1 - (intOf iv).toNat - (intOf kv).toNat)
  case atStart => exact ⟨0, 0, 0, none, 0, [], rfl, rfl, rfl, by omega, by omega, by omega, Lib.hid rfl, Lib.hid (World.ownsRow_nil _ _ _ _), Lib.hid (by simpa using HL.out), HT0⟩
  case round =>
    clear HT0
    obtain ⟨i, k, q, R, rc, out, rfl, rfl, rfl, hi, hk, hq, HQ, HR, HRE, HT⟩ := hrel
    have i1 : (0 : Int) ≤ (i : Int) := by omega
    have i2 : (0 : Int) ≤ (k : Int) := by omega
    have Q1 : Hid (q + 1 ≤ maxLen) := Lib.hid (by simp only [maxLen]; omega)
    have Q2 : Hid ((q + 1) * 8 ≤ 140737488355328) := Lib.hid (by omega)
    obtain ⟨p0, p1, p2, _, _, _⟩ := Blk.three HT.out.a
    obtain ⟨q0, q1, q2, _, _, _⟩ := Blk.three HT.out.b
    have hNa := HT.out.a.lt; have hNb := HT.out.b.lt
    have HPA : ∀ nq, Hid (Two w (wr.drewN nq) #[.slice A1 n1 c1, .slice A2 n2 c2, .slice A3 n3 c3] #[.slice B1 m1 d1, .slice B2 m2 d2, .slice B3 m3 d3]) := fun nq => Lib.hid (HT.out.next (below_drewN (Below.refl _ _) nq))
    have HRD : ∀ nq, Hid ((wr.drewN nq).ownsRow w.heap.size TLI 1 (.slice R q rc) q (out.map (Value.int .i64))) := fun nq => Lib.hid (ownsRow_drewN HR.out nq)
    have HPA := Lib.hid HPA; have HRD := Lib.hid HRD
    have step : ∀ (W : World) (x : Int), Hid (Two w W #[.slice A1 n1 c1, .slice A2 n2 c2, .slice A3 n3 c3] #[.slice B1 m1 d1, .slice B2 m2 d2, .slice B3 m3 d3]) → Hid (w.heap.size ≤ (W.alloc (.cells #[.int .i64 x] TLI)).heap.size) := fun W x h => Lib.hid (by have := h.out.be.size; simp; omega)
    have STEP := Lib.hid step
    clear step
    by_cases hia : i < n1
    · have g1 : (i : Int) < (n1 : Int) := by omega
      obtain ⟨ba, oa, ua, x, rfl, hba, cca, ⟨rfl, _, _⟩, HX⟩ := HD.out.c.gt HNC hia
      have ca := ((Keep.of HT.out.be).cell _ _ hba).trans cca
      clear cca hba
      by_cases hkb : k < m1
      · have g2 : (k : Int) < (m1 : Int) := by omega
        have g3 : ((k : Int) == (m1 : Int)) = false := by simp; omega
        obtain ⟨bb, ob, ub, y, rfl, hbb, ccb, ⟨rfl, _, _⟩, HY⟩ := HO.out.c.gt HMC hkb
        have cb := ((Keep.of HT.out.be).cell _ _ hbb).trans ccb
        clear ccb hbb
        rcases Int.lt_trichotomy x y with h | h | h
        · have HST := Lib.hid (mergeD_a HX.out (k := k) (b := o.cuts) (fun z hz => by rw [HY.out] at hz; cases hz; exact h))
          go_wp2
          go_quiet (fail)
          obtain ⟨n0, rfl⟩ : ∃ n0, n0 = nq := ⟨_, rfl⟩
          have OWA := Lib.hid ((HRD.out n0).out.alloc (.cells #[.int .i64 x] TLI))
          have SRA := Lib.hid (Src.one (w := (wr.drewN n0)) (x := .int .i64 x) (t := TLI) rfl)
          have TWA := Lib.hid ((HPA.out n0).out.next ((Below.refl _ _).alloc (Nat.le_refl _) (.cells #[.int .i64 x] TLI)))
          have Z1 : Hid (w.heap.size ≤ ((wr.drewN n0).alloc (.cells #[.int .i64 x] TLI)).heap.size) := Lib.hid TWA.out.be.size
          go_wp2_with (first
          | (at_builtin
             go_must (refine wpList_append_src _ rfl (.tmp 45) (.tmp 51) 22 rfl w.heap.size TLI i0 (.int .i64 0) 1 8 Try.underlying22 hi0 hz0 hs0 hb0 rfl (by decide) R rc q _ rfl OWA.out _ 1 1 _ rfl SRA.out Q1.out Q2.out Z1.out ?_)
             intro A9 c9 w9 own9 gr9 _
             have HT9 := Lib.hid (TWA.out.grown OWA.out (by decide) gr9 (Nat.le_refl _))
             have HO9 := Lib.hid own9
             clear own9 gr9))
          go_roundw
          case rel => exact ⟨i + 1, k, q + 1, A9, c9, out ++ [x], rfl, by go_num, by go_num, by omega, by omega, by omega, Lib.hid (by rw [List.length_append, HQ.out]; rfl), Lib.hid (by rw [List.map_append]; exact HO9.out), Lib.hid (by rw [List.append_assoc, ← HRE.out, HST.out]; rfl), HT9⟩
          case measure => simp [intOf]; omega
        · subst h
          have HST := Lib.hid (mergeD_e HY.out HX.out)
          have g4 : ¬ x < x := by omega
          go_wp2
          go_quiet (fail)
          obtain ⟨n0, rfl⟩ : ∃ n0, n0 = nq := ⟨_, rfl⟩
          go_wp2
          go_quiet (fail)
          have OWA := Lib.hid ((HRD.out (n0 + nq)).out.alloc (.cells #[.int .i64 x] TLI))
          have SRA := Lib.hid (Src.one (w := (wr.drewN (n0 + nq))) (x := .int .i64 x) (t := TLI) rfl)
          have TWA := Lib.hid ((HPA.out (n0 + nq)).out.next ((Below.refl _ _).alloc (Nat.le_refl _) (.cells #[.int .i64 x] TLI)))
          have Z1 : Hid (w.heap.size ≤ ((wr.drewN (n0 + nq)).alloc (.cells #[.int .i64 x] TLI)).heap.size) := Lib.hid TWA.out.be.size
          go_wp2_with (first
          | (at_builtin
             go_must (refine wpList_append_src _ rfl (.tmp 75) (.tmp 81) 22 rfl w.heap.size TLI i0 (.int .i64 0) 1 8 Try.underlying22 hi0 hz0 hs0 hb0 rfl (by decide) R rc q _ rfl OWA.out _ 1 1 _ rfl SRA.out Q1.out Q2.out Z1.out ?_)
             intro A9 c9 w9 own9 gr9 _
             have HT9 := Lib.hid (TWA.out.grown OWA.out (by decide) gr9 (Nat.le_refl _))
             have HO9 := Lib.hid own9
             clear own9 gr9))
          go_roundw
          case rel => exact ⟨i + 1, k + 1, q + 1, A9, c9, out ++ [x], rfl, by go_num, by go_num, by omega, by omega, by omega, Lib.hid (by rw [List.length_append, HQ.out]; rfl), Lib.hid (by rw [List.map_append]; exact HO9.out), Lib.hid (by rw [List.append_assoc, ← HRE.out, HST.out]; rfl), HT9⟩
          case measure => simp [intOf]; omega
        · have HST := Lib.hid (mergeD_b HY.out (i := i) (a := d.cuts) (fun z hz => by rw [HX.out] at hz; cases hz; exact h))
          have g4 : ¬ x < y := by omega
          have g5 : (x == y) = false := by simp; omega
          clear h
          go_wp2
          go_quiet (fail)
          obtain ⟨n0, rfl⟩ : ∃ n0, n0 = nq := ⟨_, rfl⟩
          go_wp2
          go_quiet (fail)
          have OWA := Lib.hid ((HRD.out (n0 + nq)).out.alloc (.cells #[.int .i64 y] TLI))
          have SRA := Lib.hid (Src.one (w := (wr.drewN (n0 + nq))) (x := .int .i64 y) (t := TLI) rfl)
          have TWA := Lib.hid ((HPA.out (n0 + nq)).out.next ((Below.refl _ _).alloc (Nat.le_refl _) (.cells #[.int .i64 y] TLI)))
          have Z1 : Hid (w.heap.size ≤ ((wr.drewN (n0 + nq)).alloc (.cells #[.int .i64 y] TLI)).heap.size) := Lib.hid TWA.out.be.size
          go_wp2_with (first
          | (at_builtin
             go_must (refine wpList_append_src _ rfl (.tmp 75) (.tmp 81) 22 rfl w.heap.size TLI i0 (.int .i64 0) 1 8 Try.underlying22 hi0 hz0 hs0 hb0 rfl (by decide) R rc q _ rfl OWA.out _ 1 1 _ rfl SRA.out Q1.out Q2.out Z1.out ?_)
             intro A9 c9 w9 own9 gr9 _
             have HT9 := Lib.hid (TWA.out.grown OWA.out (by decide) gr9 (Nat.le_refl _))
             have HO9 := Lib.hid own9
             clear own9 gr9))
          go_roundw
          case rel => exact ⟨i, k + 1, q + 1, A9, c9, out ++ [y], rfl, by go_num, by go_num, by omega, by omega, by omega, Lib.hid (by rw [List.length_append, HQ.out]; rfl), Lib.hid (by rw [List.map_append]; exact HO9.out), Lib.hid (by rw [List.append_assoc, ← HRE.out, HST.out]; rfl), HT9⟩
          case measure => simp [intOf]; omega
      · have g2 : ¬ (k : Int) < (m1 : Int) := by omega
        have hkm : k = m1 := by omega
        have g3 : ((k : Int) == (m1 : Int)) = true := by simp; omega
        have HST := Lib.hid (mergeD_a HX.out (k := k) (b := o.cuts) (fun z hz => by rw [List.getElem?_eq_none (by rw [HMC.out]; omega)] at hz; cases hz))
        clear hkm
        go_wp2
        go_quiet (fail)
        obtain ⟨n0, rfl⟩ : ∃ n0, n0 = nq := ⟨_, rfl⟩
        have OWA := Lib.hid ((HRD.out n0).out.alloc (.cells #[.int .i64 x] TLI))
        have SRA := Lib.hid (Src.one (w := (wr.drewN n0)) (x := .int .i64 x) (t := TLI) rfl)
        have TWA := Lib.hid ((HPA.out n0).out.next ((Below.refl _ _).alloc (Nat.le_refl _) (.cells #[.int .i64 x] TLI)))
        have Z1 : Hid (w.heap.size ≤ ((wr.drewN n0).alloc (.cells #[.int .i64 x] TLI)).heap.size) := Lib.hid TWA.out.be.size
        go_wp2_with (first
        | (at_builtin
           go_must (refine wpList_append_src _ rfl (.tmp 45) (.tmp 51) 22 rfl w.heap.size TLI i0 (.int .i64 0) 1 8 Try.underlying22 hi0 hz0 hs0 hb0 rfl (by decide) R rc q _ rfl OWA.out _ 1 1 _ rfl SRA.out Q1.out Q2.out Z1.out ?_)
           intro A9 c9 w9 own9 gr9 _
           have HT9 := Lib.hid (TWA.out.grown OWA.out (by decide) gr9 (Nat.le_refl _))
           have HO9 := Lib.hid own9
           clear own9 gr9))
        go_roundw
        case rel => exact ⟨i + 1, k, q + 1, A9, c9, out ++ [x], rfl, by go_num, by go_num, by omega, by omega, by omega, Lib.hid (by rw [List.length_append, HQ.out]; rfl), Lib.hid (by rw [List.map_append]; exact HO9.out), Lib.hid (by rw [List.append_assoc, ← HRE.out, HST.out]; rfl), HT9⟩
        case measure => simp [intOf]; omega
    · have g1 : ¬ (i : Int) < (n1 : Int) := by omega
      by_cases hkb : k < m1
      · have g2 : (k : Int) < (m1 : Int) := by omega
        have g3 : ((k : Int) == (m1 : Int)) = false := by simp; omega
        obtain ⟨bb, ob, ub, y, rfl, hbb, ccb, ⟨rfl, _, _⟩, HY⟩ := HO.out.c.gt HMC hkb
        have cb := ((Keep.of HT.out.be).cell _ _ hbb).trans ccb
        clear ccb hbb
        have HST := Lib.hid (mergeD_b HY.out (i := i) (a := d.cuts) (fun z hz => by rw [List.getElem?_eq_none (by rw [HNC.out]; omega)] at hz; cases hz))
        go_wp2
        go_quiet (fail)
        obtain ⟨n0, rfl⟩ : ∃ n0, n0 = nq := ⟨_, rfl⟩
        go_wp2
        go_quiet (fail)
        have OWA := Lib.hid ((HRD.out (n0 + nq)).out.alloc (.cells #[.int .i64 y] TLI))
        have SRA := Lib.hid (Src.one (w := (wr.drewN (n0 + nq))) (x := .int .i64 y) (t := TLI) rfl)
        have TWA := Lib.hid ((HPA.out (n0 + nq)).out.next ((Below.refl _ _).alloc (Nat.le_refl _) (.cells #[.int .i64 y] TLI)))
        have Z1 : Hid (w.heap.size ≤ ((wr.drewN (n0 + nq)).alloc (.cells #[.int .i64 y] TLI)).heap.size) := Lib.hid TWA.out.be.size
        go_wp2_with (first
        | (at_builtin
           go_must (refine wpList_append_src _ rfl (.tmp 75) (.tmp 81) 22 rfl w.heap.size TLI i0 (.int .i64 0) 1 8 Try.underlying22 hi0 hz0 hs0 hb0 rfl (by decide) R rc q _ rfl OWA.out _ 1 1 _ rfl SRA.out Q1.out Q2.out Z1.out ?_)
           intro A9 c9 w9 own9 gr9 _
           have HT9 := Lib.hid (TWA.out.grown OWA.out (by decide) gr9 (Nat.le_refl _))
           have HO9 := Lib.hid own9
           clear own9 gr9))
        go_roundw
        case rel => exact ⟨i, k + 1, q + 1, A9, c9, out ++ [y], rfl, by go_num, by go_num, by omega, by omega, by omega, Lib.hid (by rw [List.length_append, HQ.out]; rfl), Lib.hid (by rw [List.map_append]; exact HO9.out), Lib.hid (by rw [List.append_assoc, ← HRE.out, HST.out]; rfl), HT9⟩
        case measure => simp [intOf]; omega
      · have g2 : ¬ (k : Int) < (m1 : Int) := by omega
        have HE : Hid (out = L) := Lib.hid (by rw [← HRE.out, mergeD_0 (by rw [HNC.out]; omega) (by rw [HMC.out]; omega), List.append_nil])
        go_wp2
        go_ret
        exact ⟨.slice R q rc, rfl, ⟨R, rc, by rw [← HE.out, HQ.out], by rw [← HE.out, HQ.out]; exact HR.out⟩, HT.out.be⟩
end Go.Proofs.Ytjnjbcigbnjmkaa
