/- Walks: the document's union and complement of sets. PUT1 -/
import Derived.Test.YtilhicefhhgecaaGreatDoorQ3q
import Derived.Test.YtilhicefhhgecaaGreatDoorHsq
import Derived.Test.YtilhicefhhgecaaGreatDoorL9aq
import Derived.Test.YtilhicefhhgecaaGreatDoorMkq
namespace Pv
open Go Go.RowKit
theorem plc1_len (l : List Int) (r : Rng) : (plc1 l r).length ≤ l.length + 2 := by
  unfold plc1
  have h1 := withL_len l r.lo
  have h2 := withL_len (withL l r.lo) (r.hi + 1)
  omega
theorem plcf_len : ∀ (s : List Rng) (l : List Int), (s.foldl plc1 l).length ≤ l.length + 2 * s.length
  | [], l => by simp
  | r :: s, l => by
    have h1 := plcf_len s (plc1 l r)
    have h2 := plc1_len l r
    rw [List.foldl_cons, List.length_cons]
    omega
theorem plcL_two (a b : List Rng) : (plcL [a, b]).length ≤ 1 + 2 * a.length + 2 * b.length := by
  have h1 := plcf_len a [0]
  have h2 := plcf_len b (a.foldl plc1 [0])
  show (b.foldl plc1 (a.foldl plc1 [0])).length ≤ _
  simp only [List.length_singleton] at h1
  omega
end Pv
namespace Go.Proofs.YtilhicefhhgecaaGreatDoor
open Go.RowKit Pv
/-- A table of bools under way. -/
def Bws (w : World) (G n i : Nat) (l : List Int) (f : Int → Bool) : Prop := ∃ cs, Blk w G 4 cs ∧ cs.size = n ∧ ∀ (j : Nat) p, j < i → l[j]? = some p → cs[j]? = some (.bool (f p))
theorem Bws.set {w : World} {G n i : Nat} {l : List Int} {f : Int → Bool} {p : Int} {b : Bool} (h : Bws w G n i l f) (hp : l[i]? = some p) (hb : f p = b) (hi : i < n) : Bws (w.setCell ⟨G, i, none⟩ (.bool b)) G n (i + 1) l f := by
  obtain ⟨cs, h1, h2, h3⟩ := h
  refine ⟨_, h1.set i (.bool b), by simpa using h2, fun j q hj hq => ?_⟩
  by_cases hji : j = i
  · subst hji
    rw [hp] at hq
    obtain rfl := Option.some.inj hq
    rw [hb]
    simp [h2, hi]
  · rw [Array.getElem?_setIfInBounds_ne (by omega)]
    exact h3 j q (by omega) hq
theorem Bws.at' {w : World} {G n : Nat} {l : List Int} {f : Int → Bool} (h : Bws w G n n l f) (hl : l.length = n) (hn : n ≤ 100000000) : At w (some ⟨G, 0, none⟩) RB (l.map f) := by
  obtain ⟨cs, h1, h2, h3⟩ := h
  refine ⟨by rw [List.length_map]; omega, fun _ => ⟨G, 0, rfl, h1.lt, fun i x hx => ?_⟩⟩
  rw [List.getElem?_map, Option.map_eq_some_iff] at hx
  obtain ⟨p, hp, rfl⟩ := hx
  have hi := lt_of_get hp
  refine ⟨_, ?_, rfl⟩
  rw [h1.cell (0 + i), Nat.zero_add]
  exact h3 i p (by omega) hp
def tabG (t0 t1 t2 t3 x y : Bool) : Bool := if x then (if y then t3 else t1) else (if y then t2 else t0)
theorem info_boolQ : (Tryz.prog.info? 4).map (fun i => (i.zero, i.size, i.bytes)) = some (some (.bool false), 1, 1) := by kernel_rfl
set_option maxHeartbeats 4000000 in
set_option maxRecDepth 100000 in
theorem ref06_made (A B : Option Addr) (c d n m : Nat) (a b : List Rng) (t0 t1 t2 t3 : Bool) (w : World) (hA : AtSet w A a) (HL : Hid (a.length = n)) (hc : n ≤ c) (hB : AtSet w B b) (HM : Hid (b.length = m)) (hd : m ≤ d) (ha : RngsOk a) (hb : RngsOk b) (hn : n ≤ 40000) (hm : m ≤ 40000) :
    Calls Tryz.prog 232 #[.slice A n c, .slice B m d, .agg #[.bool t0, .bool t1, .bool t2, .bool t3]] w fun e w' => ∃ A' n' c', e = .returned (.slice A' n' c') ∧ OwnSet w' w.heap.size (.slice A' n' c') (madeR a b (tabG t0 t1 t2 t3)) ∧ Below w.heap.size w w' := by
  have hW := (Below.refl w.heap.size w).alloc (Nat.le_refl _) (.cells #[.bool t0, .bool t1, .bool t2, .bool t3] 286)
  have hW2 := hW.alloc (by simp) (.cells #[.slice A n c, .slice B m d] 50)
  have HT := Lib.hid ((Blk.new w 286 #[.bool t0, .bool t1, .bool t2, .bool t3]).alloc (.cells #[.slice A n c, .slice B m d] 50))
  have hsa : IsSet w (.slice A n c) a := ⟨A, c, by rw [HL.out], hA, by rw [HL.out]; exact hc⟩
  have hsb : IsSet w (.slice B m d) b := ⟨B, d, by rw [HM.out], hB, by rw [HM.out]; exact hd⟩
  have HSS := Lib.hid (show AtSets ((w.alloc (.cells #[.bool t0, .bool t1, .bool t2, .bool t3] 286)).alloc (.cells #[.slice A n c, .slice B m d] 50)) (some ⟨w.heap.size + 1, 0, none⟩) [a, b] from
    At.ofBlk (blk_new2 w _ _ _ _) ((Rel.one (SlK.keep hsa (Keep.of hW2))).app (Rel.one (SlK.keep hsb (Keep.of hW2)))) (by simp))
  have HA := Lib.hid hA; have HB := Lib.hid hB
  have HPL := Lib.hid (ref06_placesW (some ⟨w.heap.size + 1, 0, none⟩) 2 2 [a, b] _ HSS.out (Lib.hid rfl) (by omega) (fun s hs => by
    rcases List.mem_cons.1 hs with rfl | hs
    · exact ⟨by rw [HL.out]; omega, ha⟩
    · obtain rfl : s = b := by simpa using hs
      exact ⟨by rw [HM.out]; omega, hb⟩))
  have HW2 := Lib.hid hW2
  obtain ⟨l, hl⟩ : ∃ l, plcL [a, b] = l := ⟨_, rfl⟩
  have hll := plcL_two a b
  rw [hl, HL.out, HM.out] at hll
  have hrise := plcL_rise [a, b]
  have hmem : ∀ p, p ∈ l → 0 ≤ p ∧ p ≤ 1114111 := fun p hp => by
    rw [← hl] at hp
    obtain ⟨h1, h2⟩ := plcL_mem.1 hp
    refine ⟨?_, h2⟩
    rcases h1 with rfl | ⟨s, hs, r, hr, h⟩
    · omega
    · have : 0 ≤ r.lo ∧ r.lo ≤ r.hi := by
        rcases List.mem_cons.1 hs with rfl | hs
        · exact ⟨(ha r hr).1, (ha r hr).2.1⟩
        · obtain rfl : s = b := by simpa using hs
          exact ⟨(hb r hr).1, (hb r hr).2.1⟩
      omega
  have HR : madeR a b (tabG t0 t1 t2 t3) = setF (fun p => tabG t0 t1 t2 t3 (hasB a p) (hasB b p)) l := by unfold madeR; rw [hl]
  rw [hl] at HPL hrise
  rw [HR]
  have HRS := Lib.hid hrise; have HMM := Lib.hid hmem
  clear hA hB hsa hsb hW hW2 HR ha hb hrise hmem hl HSS
  obtain ⟨k, hk⟩ : ∃ k, l.length = k := ⟨_, rfl⟩
  have HK := Lib.hid hk
  rw [hk] at hll
  clear hk
  obtain ⟨j0, hj0, hjz, hjs, hjb⟩ := info_parts info_boolQ
  obtain ⟨cs0, hcs0, hcz0, hmk⟩ := run_mk (P := Tryz.prog) (t := 24) Tryz.underlying24 hj0 hjz hjs hjb rfl k (by omega) (by omega)
  go_enter Tryz.func232, Tryz.ntmps232
  go_wp2_with fail
  refine HPL.out.mono ?_
  rintro e w1 ⟨⟨v, rfl, hv⟩, h1⟩
  obtain ⟨PA, pc, rfl, hat, _⟩ := hv.at' (fun x hx => by have := HMM.out x hx; omega) (by rw [HK.out]; omega)
  rw [HK.out]
  have HP := Lib.hid hat
  have HB1 := Lib.hid (HW2.out.trans (h1.mono HW2.out.size))
  have hz := h1.size
  have hz2 : w.heap.size + 2 ≤ w1.heap.size := by simp at hz; omega
  have HT1 := Lib.hid (HT.out.below h1 HT.out.lt)
  have HB2 := Lib.hid (HB1.out.alloc HB1.out.size (.cells cs0 4))
  have HT2 := Lib.hid (HT1.out.alloc (.cells cs0 4))
  have HG : Hid (Bws (w1.alloc (.cells cs0 4)) w1.heap.size k 0 l (fun p => tabG t0 t1 t2 t3 (hasB a p) (hasB b p))) := Lib.hid ⟨_, Blk.new w1 4 _, hcs0, fun j p hj => by omega⟩
  clear hat hv h1
  go_wp2
  go_loopw [9] (fun iv W => ∃ i : Nat, iv = .int .i64 i ∧ i ≤ k ∧ Hid (Bws W w1.heap.size k i l (fun p => tabG t0 t1 t2 t3 (hasB a p) (hasB b p))) ∧ Hid (Blk W w.heap.size 286 #[.bool t0, .bool t1, .bool t2, .bool t3]) ∧ Hid (Keep w1 W) ∧ Hid (Below w.heap.size w W)) (fun iv _ => k - (intOf iv).toNat)
  case atStart => exact ⟨0, rfl, by omega, HG, HT2, Lib.hid (Keep.alloc w1 _), HB2⟩
  case round =>
    clear HG HT2 HB2

    obtain ⟨i, rfl, hi, HG, HT2, HK1, HB2⟩ := hrel
    by_cases hlt : i < k
    · obtain ⟨b1, o1, u1, p, rfl, hb1, c1, hp1, HX⟩ := At.gt HP.out HK hlt
      obtain ⟨rfl, hp2, hp3⟩ := hp1
      have k1 := (HK1.out.cell _ _ hb1).trans c1
      have HHA := Lib.hid (ref06_Has A c n a p wr (AtK.keep HA.out (Keep.of HB2.out)) HL)
      have HHB := Lib.hid (ref06_Has B d m b p wr (AtK.keep HB.out (Keep.of HB2.out)) HM)
      obtain ⟨x, hx⟩ : ∃ x, hasB a p = x := ⟨_, rfl⟩
      obtain ⟨y, hy⟩ : ∃ y, hasB b p = y := ⟨_, rfl⟩
      rw [show yes (InSet a p) = x from hx] at HHA
      rw [show yes (InSet b p) = y from hy] at HHB
      have HF : Hid ((fun p => tabG t0 t1 t2 t3 (hasB a p) (hasB b p)) p = tabG t0 t1 t2 t3 x y) := Lib.hid (by simp only [hx, hy])
      have i1 : (i : Int) < (k : Int) := by omega
      have hG : w1.heap.size < wr.heap.size := by obtain ⟨cs, h1, _⟩ := HG.out; exact h1.lt
      have q0 := HT2.out.cell 0
      have q1 := HT2.out.cell 1
      have q2 := HT2.out.cell 2
      have q3 := HT2.out.cell 3
      have f0 : wr.frozen? ⟨w1.heap.size, i, none⟩ = false := by obtain ⟨cs, h1, _⟩ := HG.out; exact h1.frozen i
      have g0 : ∃ v, wr.cell? ⟨w1.heap.size, i, none⟩ = some v := by
        obtain ⟨cs, h1, h2, _⟩ := HG.out
        exact ⟨_, (h1.cell i).trans (Array.getElem?_eq_getElem (by omega))⟩
      obtain ⟨gv, hgv⟩ := g0
      have HNX := Lib.hid (fun (v : Bool) (hv : tabG t0 t1 t2 t3 x y = v) => HG.out.set HX.out (HF.out.trans hv) hlt)
      have HKX := Lib.hid (fun (v : Value) => HK1.out.trans' (show wr.heap.size ≤ (wr.setCell ⟨w1.heap.size, i, none⟩ v).heap.size by simp) (fun x o hx => World.cell?_of_block (a := ⟨x, o, none⟩) (Below.heap_setCell wr ⟨w1.heap.size, i, none⟩ v x (by simp only; omega))))
      have HTX := Lib.hid (fun (v : Value) => HT2.out.far (p := ⟨w1.heap.size, i, none⟩) (by simp only; omega) v)
      have HBX := Lib.hid (fun (v : Value) => HB2.out.setCell (p := ⟨w1.heap.size, i, none⟩) (by simp only; omega) v)
      clear c1 hx hy
      cases x
      all_goals cases y
      all_goals
        go_wp2_with fail
        refine HHA.out.mono ?_
        rintro e W' ⟨rfl, rfl⟩
        go_wp2_with fail
        refine HHB.out.mono ?_
        rintro e W' ⟨rfl, rfl⟩
        go_wp2
        refine ⟨⟨i + 1, by first | rfl | (congr 1; omega), by omega, Lib.hid (HNX.out _ rfl), Lib.hid (HTX.out _), Lib.hid (HKX.out _), Lib.hid (HBX.out _)⟩, by simp [intOf]; omega⟩
    · obtain rfl : i = k := by omega
      have HST := Lib.hid (ref06_Set PA (some ⟨w1.heap.size, 0, none⟩) pc i i l _ wr (HP.out.keepR HK1.out (fun _ _ h => h)) HK (HG.out.at' HK.out (by omega)) HRS.out HMM.out (by omega))
      clear HG
      go_wp2_with fail
      refine HST.out.mono ?_
      rintro e w3 ⟨A', n', c', rfl, h1, h2⟩
      have H1 := Lib.hid h1
      have HB3 := Lib.hid (HB2.out.trans (h2.mono HB2.out.size))
      clear h1 h2
      go_wp2
      go_ret
      exact ⟨A', n', c', rfl, OwnK.lower H1.out HB2.out.size, HB3.out⟩
set_option maxHeartbeats 1000000 in
set_option maxRecDepth 100000 in
theorem ref06_Union (A B : Option Addr) (c d n m : Nat) (a b : List Rng) (w : World) (hA : AtSet w A (joinS a)) (HL : Hid ((joinS a).length = n)) (hc : n ≤ c) (hB : AtSet w B b) (HM : Hid (b.length = m)) (hd : m ≤ d) (ha : RngsOk a) (hb : RngsOk b) (hn : n ≤ 40000) (hm : m ≤ 40000) :
    Calls Tryz.prog 208 #[.slice A n c, .slice B m d] w fun e w' => ∃ A' n' c', e = .returned (.slice A' n' c') ∧ OwnSet w' w.heap.size (.slice A' n' c') (joinS (a ++ b)) ∧ Below w.heap.size w w' := by
  have HC := ref06_made A B c d n m (joinS a) b false true true true w hA HL hc hB HM hd (joinS_rngs ha) hb hn hm
  have e : madeR (joinS a) b (tabG false true true true) = joinS (a ++ b) := by
    rw [← union_join ha hb]
    congr 1
    funext x y
    cases x <;> cases y <;> rfl
  rw [e] at HC
  have HC := Lib.hid HC
  clear hA hB ha hb e
  go_enter Tryz.func208, Tryz.ntmps208
  go_wp2_with fail
  refine HC.out.mono ?_
  rintro e w1 ⟨A', n', c', rfl, h1, h2⟩
  have H1 := Lib.hid h1; have H2 := Lib.hid h2
  clear h1 h2
  go_wp2
  go_ret
  exact ⟨A', n', c', rfl, H1.out, H2.out⟩
set_option maxHeartbeats 1000000 in
set_option maxRecDepth 100000 in
theorem ref06_Other (A : Option Addr) (c n : Nat) (a : List Rng) (w : World) (hA : AtSet w A (joinS a)) (HL : Hid ((joinS a).length = n)) (hc : n ≤ c) (ha : RngsOk a) (hn : n ≤ 40000) :
    Calls Tryz.prog 209 #[.slice A n c] w fun e w' => ∃ A' n' c', e = .returned (.slice A' n' c') ∧ OwnSet w' w.heap.size (.slice A' n' c') (othR (joinS a)) ∧ Below w.heap.size w w' := by
  have HC := ref06_made A none c 0 n 0 (joinS a) [] true false true false w hA HL hc AtK.nil (Lib.hid rfl) (by omega) (joinS_rngs ha) (fun x hx => by cases hx) hn (by omega)
  have e : madeR (joinS a) [] (tabG true false true false) = othR (joinS a) := by
    rw [← other_join ha]
    congr 1
    funext x y
    cases x <;> cases y <;> rfl
  rw [e] at HC
  have HC := Lib.hid HC
  clear hA ha e
  go_enter Tryz.func209, Tryz.ntmps209
  go_wp2_with fail
  refine HC.out.mono ?_
  rintro e w1 ⟨A', n', c', rfl, h1, h2⟩
  have H1 := Lib.hid h1; have H2 := Lib.hid h2
  clear h1 h2
  go_wp2
  go_ret
  exact ⟨A', n', c', rfl, H1.out, H2.out⟩
end Go.Proofs.YtilhicefhhgecaaGreatDoor
