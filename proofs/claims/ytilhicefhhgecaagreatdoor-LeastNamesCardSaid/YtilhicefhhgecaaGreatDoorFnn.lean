/- Walks: the program's cuts of an automaton. PUT1 -/
import Derived.Test.YtilhicefhhgecaaGreatDoorFkn
import Derived.Test.YtilhicefhhgecaaGreatDoorGin
namespace Pv
open Go Go.RowKit
def ManyC (a : Au) : Prop := 256 < (allSets a).length ∨ 256 < (plcL (allSets a)).length
end Pv
namespace Go.Proofs.YtilhicefhhgecaaGreatDoor
open Go.RowKit Pv

set_option maxHeartbeats 2000000 in
set_option maxRecDepth 100000 in
theorem subset_cuts (A : Option Addr) (c n : Nat) (acc : Int) (a : Au) (w : World) (ha : AtAu w A a) (HL : Hid (a.length = n)) (hok : AuOk a acc) :
    Calls Tryz.prog 45 #[.agg #[.slice A n c, .int .i64 acc]] w fun e w' => ((ManyC a ∧ e = .returned (.tuple #[.slice none 0 0, .int .i64 4])) ∨ (¬ ManyC a ∧ ∃ v, e = .returned (.tuple #[v, .int .i64 0]) ∧ OwnI w' w.heap.size v (plcL (allSets a)))) ∧ Below w.heap.size w w' := by
  have hn : n ≤ 256 := by have := hok.few; rwa [HL.out] at this
  have HA := Lib.hid ha; have HOK := Lib.hid hok
  obtain ⟨i0, hi0, hz0, hs0, hb0⟩ := info_parts info_set
  have HB0 := Lib.hid ((Below.refl w.heap.size w).alloc (Nat.le_refl _) (.cells #[.slice A n c, .int .i64 acc] TAuto))
  clear ha hok
  go_enter Tryz.func45, Tryz.ntmps45
  go_wp2
  go_loopw [14, 4] (fun iv lv wr => ∃ (i m : Nat) (B : Option Addr) (bc : Nat) (us : List Value), iv = .int .i64 i ∧ i ≤ n ∧ lv = .slice B m bc ∧ m ≤ 1024 ∧ Hid (m = (allSets (a.take i)).length) ∧ Hid (wr.ownsRow w.heap.size TSet 1 (.slice B m bc) m us) ∧ Hid (Rel (IsSet w) us (allSets (a.take i))) ∧ Hid (Below w.heap.size w wr)) (fun iv _ _ => n - (intOf iv).toNat)
  case atStart => exact ⟨0, 0, none, 0, [], rfl, by omega, rfl, by omega, Lib.hid rfl, Lib.hid (World.ownsRow_nil _ _ _ _), Lib.hid Rel.nil, HB0⟩
  case round =>
    clear HB0
    obtain ⟨i, m, B, bc, us, rfl, hi, rfl, hm, HM, HO, HR, HB⟩ := hrel
    have i1 : (0 : Int) ≤ (i : Int) := by omega
    by_cases hlt : i < n
    · have i2 : (i : Int) < (n : Int) := by omega
      obtain ⟨b1, o1, S, q, cs, es, rfl, hb1, c0, hes, HQ, hqc, HX⟩ := AtAu.gt HA.out HL hlt
      have c1 := ((Keep.of HB.out).cell _ _ hb1).trans c0
      have HES := Lib.hid hes
      have HSN := Lib.hid (allSets_snoc HX.out)
      have hq : q ≤ 1024 := by have h1 := le_edgesS (mem_of_get HX.out); have h2 := HOK.out.edges; rw [HQ.out] at h1; omega
      have HPL := Lib.hid (fun k => Nat.le_trans (part_len HX.out k) HOK.out.edges)
      clear hes c0
      go_wp2
      go_loopw [20, 4] (fun kv lv wr2 => ∃ (k m : Nat) (B : Option Addr) (bc : Nat) (us : List Value), kv = .int .i64 k ∧ k ≤ q ∧ lv = .slice B m bc ∧ m ≤ 1024 ∧ Hid (m = (allSets (a.take i) ++ rowSets (es.take k)).length) ∧ Hid (wr2.ownsRow w.heap.size TSet 1 (.slice B m bc) m us) ∧ Hid (Rel (IsSet w) us (allSets (a.take i) ++ rowSets (es.take k))) ∧ Hid (Below w.heap.size w wr2)) (fun kv _ _ => q - (intOf kv).toNat)
      case atStart => exact ⟨0, m, B, bc, us, rfl, by omega, rfl, hm, Lib.hid (by simp [rowSets, HM.out]), HO, Lib.hid (by simpa [rowSets] using HR.out), HB⟩
      case round =>
        clear c1 HM HO HR HB hm
        obtain ⟨k, m, B, bc, us, rfl, hk, rfl, hm, HM, HO, HR, HB⟩ := hrel
        have i3 : (0 : Int) ≤ (k : Int) := by omega
        by_cases hkt : k < q
        · have i4 : (k : Int) < (q : Int) := by omega
          obtain ⟨b3, o3, tto, fr, T, tq, tc, sl, rfl, hb3, ⟨d0, d1, d2⟩, hset, HTQ, htc, _, HZ⟩ := AtEd.gt HES.out HQ hkt
          have d0' := ((Keep.of HB.out).cell _ _ hb3).trans d0
          have d1' := ((Keep.of HB.out).cell _ _ hb3).trans d1
          have d2' := ((Keep.of HB.out).cell _ _ hb3).trans d2
          have HRS := Lib.hid (rowSets_snoc HZ.out)
          have hm1 := HPL.out (k + 1)
          have HB1 := Lib.hid (HB.out.alloc HB.out.size (.cells #[.int .i64 tto, .bool fr, .slice T tq tc] TEdge))
          have HO1 := Lib.hid (HO.out.alloc (.cells #[.int .i64 tto, .bool fr, .slice T tq tc] TEdge))
          clear d0 d1 d2
          cases fr
          case true =>
            have HE : Hid (rowSets (es.take (k + 1)) = rowSets (es.take k)) := Lib.hid HRS.out
            clear hm1
            go_wp2
            go_roundw
            case rel => exact ⟨k + 1, m, B, bc, us, by go_num, by omega, rfl, hm, Lib.hid (by rw [HE.out]; exact HM.out), HO1, Lib.hid (by rw [HE.out]; exact HR.out), HB1⟩
            case measure => simp [intOf]; omega
          case false =>
            have HE : Hid (allSets (a.take i) ++ rowSets (es.take (k + 1)) = (allSets (a.take i) ++ rowSets (es.take k)) ++ [sl]) := Lib.hid (by rw [HRS.out, if_neg (by simp), List.append_assoc])
            have hm2 : m + 1 ≤ 1024 := by rw [HE.out, List.length_append, ← HM.out] at hm1; simpa using hm1
            have RS := Lib.hid (show IsSet w (.slice T tq tc) sl from ⟨T, tc, by rw [HTQ.out], hset, by rw [HTQ.out]; exact htc⟩)
            have Q1 : Hid (m + 1 ≤ maxLen) := Lib.hid (by simp only [maxLen]; omega)
            have Q2 : Hid ((m + 1) * 24 ≤ 140737488355328) := Lib.hid (by omega)
            have O1 := Lib.hid (HO1.out.alloc (.cells #[.slice T tq tc] TSet))
            have SR1 := Pv.Src.one (w := wr.alloc (.cells #[.int .i64 tto, .bool false, .slice T tq tc] TEdge)) (x := .slice T tq tc) (t := TSet) rfl
            rw [show (wr.alloc (.cells #[.int .i64 tto, .bool false, .slice T tq tc] TEdge)).heap.size = wr.heap.size + 1 by simp] at SR1
            have SR1 := Lib.hid SR1
            have B1 := Lib.hid (HB1.out.alloc HB1.out.size (.cells #[.slice T tq tc] TSet))
            clear hm1 hset
            go_wp2_with (first
              | (at_builtin
                 go_must (refine wpList_append_src _ rfl (.tmp 27) (.tmp 30) TSets rfl w.heap.size TSet i0 (.slice none 0 0) 1 24 Tryz.underlying137 hi0 hz0 hs0 hb0 rfl (by decide) B bc m us rfl O1.out _ 1 1 _ rfl SR1.out Q1.out Q2.out B1.out.size ?_)
                 intro A2 c2 w2 own2 gr2 _
                 have B2 := Lib.hid (B1.out.grown gr2 B1.out.size (fun g hg => (O1.out.lt g hg).1))
                 have O2 := Lib.hid own2
                 clear own2 gr2))
            go_roundw
            case rel => exact ⟨k + 1, m + 1, A2, c2, us ++ [.slice T tq tc], by go_num, by omega, rfl, hm2, Lib.hid (by rw [HE.out, List.length_append, ← HM.out]; rfl), O2, Lib.hid (by rw [HE.out]; exact HR.out.app (Rel.one RS.out)), B2⟩
            case measure => simp [intOf]; omega
        · obtain rfl : k = q := by omega
          have HTK := Lib.hid (show es.take k = es from List.take_of_length_le (by rw [HQ.out]; omega))
          rw [HTK.out, ← HSN.out] at HM HR
          go_wp2
          go_roundw
          case rel => exact ⟨i + 1, m, B, bc, us, by go_num, by omega, rfl, hm, HM, HO, HR, HB⟩
          case measure => simp [intOf]; omega
    · obtain rfl : i = n := by omega
      have HTK := Lib.hid (show a.take i = a from List.take_of_length_le (by rw [HL.out]; omega))
      rw [HTK.out] at HM HR
      obtain ⟨h1, h2, h3⟩ := At.of_own HO.out HR.out (by have := HM.out; omega)
      have HSA := Lib.hid (show AtSets wr B (allSets a) from h3.keepR (Keep.refl wr) fun _ _ hu => SlK.keep hu (Keep.of HB.out))
      have HCU := Lib.hid (ranges_Cuts B bc m (allSets a) wr HSA.out (Lib.hid HM.out.symm) (allSets_ok HOK.out))
      clear h1 h2 h3
      go_wp2_with fail
      refine HCU.out.mono ?_
      rintro e w2 ⟨hr, hb2⟩
      have HB2 := Lib.hid (HB.out.trans (hb2.mono HB.out.size))
      have hsz := HB.out.size
      clear hb2
      rcases hr with ⟨h256, rfl⟩ | ⟨h256, v, rfl, hv⟩
      · have HMC := Lib.hid (show ManyC a from .inl (by rw [← HM.out]; exact h256))
        go_wp2
        go_ret2
        exact ⟨.inl ⟨HMC.out, rfl⟩, HB2.out⟩
      · have HV := Lib.hid (hv.lower hsz)
        obtain ⟨C, cc, rfl, _⟩ := hv
        obtain ⟨nc, hnc⟩ : ∃ nc, (plcL (allSets a)).length = nc := ⟨_, rfl⟩
        have HNC := Lib.hid hnc
        rw [hnc] at HV ⊢
        clear hnc
        by_cases h257 : 256 < nc
        · have HMC := Lib.hid (show ManyC a from .inr (by rw [HNC.out]; exact h257))
          have h2 : (256 : Int) < (nc : Int) := by omega
          go_wp2
          go_ret2
          exact ⟨.inl ⟨HMC.out, rfl⟩, HB2.out⟩
        · have HMC := Lib.hid (show ¬ ManyC a from fun h => by
            unfold ManyC at h
            rw [← HM.out, HNC.out] at h
            omega)
          have h2 : decide ((256 : Int) < (nc : Int)) = false := decide_eq_false (by omega)
          go_wp2
          go_ret2
          exact ⟨.inr ⟨HMC.out, _, rfl, HV.out⟩, HB2.out⟩
end Go.Proofs.YtilhicefhhgecaaGreatDoor
