/- Walks: whether an automaton may be, by the document and by the program (genzf.py prints this). PUT1 -/
import Derived.Test.YtilhicefhhgecaaGreatDoorZcn
import Derived.Test.YtilhicefhhgecaaGreatDoorPdn
import Derived.Test.YtilhicefhhgecaaGreatDoorTbn
import Derived.Test.YtilhicefhhgecaaGreatDoorWhn
namespace Pv
open Go Go.RowKit
def EdgeOk (n : Nat) (x : Ed) : Prop := 0 ≤ x.to ∧ x.to < (n : Int) ∧ SetOk x.set ∧ (x.free = true → x.set = [])
inductive ECase (n : Nat) (tto : Int) (fr : Bool) (sl : List Rng) : Prop where
  | low (h : tto < 0)
  | high (h : 0 ≤ tto) (h2 : (n : Int) ≤ tto)
  | set (h : 0 ≤ tto) (h2 : tto < (n : Int)) (h3 : setB sl = false)
  | full (h : 0 ≤ tto) (h2 : tto < (n : Int)) (h3 : setB sl = true) (h4 : fr = true) (h5 : 0 < sl.length)
  | free (h : 0 ≤ tto) (h2 : tto < (n : Int)) (h3 : setB sl = true) (h4 : fr = true) (h5 : sl.length = 0)
  | num (h : 0 ≤ tto) (h2 : tto < (n : Int)) (h3 : setB sl = true) (h4 : fr = false)
theorem ecase (n : Nat) (tto : Int) (fr : Bool) (sl : List Rng) : ECase n tto fr sl := by
  by_cases h : tto < 0
  · exact .low h
  by_cases h2 : (n : Int) ≤ tto
  · exact .high (by omega) h2
  cases h3 : setB sl with
  | false => exact .set (by omega) (by omega) h3
  | true =>
    cases fr with
    | false => exact .num (by omega) (by omega) h3 rfl
    | true =>
      by_cases h5 : sl.length = 0
      · exact .free (by omega) (by omega) h3 rfl h5
      · exact .full (by omega) (by omega) h3 rfl (by omega)
theorem edgesS_snoc (a : Au) (es : List Ed) : edgesS (a ++ [es]) = edgesS a + es.length := by simp [edgesS]
theorem edgesS_take (a : Au) (k : Nat) : edgesS (a.take k) ≤ edgesS a := by
  have h : edgesS a = edgesS (a.take k) + edgesS (a.drop k) := by
    unfold edgesS
    rw [← List.sum_append, ← List.map_append, List.take_append_drop]
  omega
theorem auOk_of {a : Au} {acc : Int} {n : Nat} (hn : a.length = n) (h1 : 1 ≤ n) (h2 : n ≤ 256) (h3 : 0 ≤ acc) (h4 : acc < (n : Int)) (h5 : edgesS a ≤ 1024) (h6 : ∀ es, es ∈ a → ∀ x, x ∈ es → EdgeOk n x) : AuOk a acc := by
  subst hn
  exact ⟨h1, h2, h3, h4, h5, h6⟩
theorem auOk_edge {a : Au} {acc : Int} {n : Nat} (h : AuOk a acc) (hn : a.length = n) {es : List Ed} (he : es ∈ a) {x : Ed} (hx : x ∈ es) : EdgeOk n x := by subst hn; exact h.each es he x hx
end Pv
namespace Go.Proofs.YtilhicefhhgecaaGreatDoor
open Go.RowKit Pv

theorem auto_in (s : Int) (A : Option Addr) (c n b : Nat) (w : World) (hc : w.cell? ⟨b, 0, none⟩ = some (.slice A n c)) :
    Calls Tryz.prog 83 #[.int .i64 s, .pointer (some ⟨b, 0, none⟩)] w fun e w' => e = .returned (.bool (decide (0 ≤ s) && decide (s < (n : Int)))) ∧ w' = w := by
  by_cases h0 : 0 ≤ s
  · by_cases h1 : s < (n : Int)
    · have HA := Lib.hid (show true = (decide (0 ≤ s) && decide (s < (n : Int))) by simp [h0, h1])
      generalize (decide (0 ≤ s) && decide (s < (n : Int))) = ans at *
      go_enter Tryz.func83, Tryz.ntmps83
      go_wp2
      go_ret
      exact ⟨ret_bool HA.out, rfl⟩
    · have HA := Lib.hid (show false = (decide (0 ≤ s) && decide (s < (n : Int))) by simp [h1])
      have h2 : (n : Int) ≤ s := by omega
      generalize (decide (0 ≤ s) && decide (s < (n : Int))) = ans at *
      go_enter Tryz.func83, Tryz.ntmps83
      go_wp2
      go_ret
      exact ⟨ret_bool HA.out, rfl⟩
  · have HA := Lib.hid (show false = (decide (0 ≤ s) && decide (s < (n : Int))) by simp [h0])
    generalize (decide (0 ≤ s) && decide (s < (n : Int))) = ans at *
    go_enter Tryz.func83, Tryz.ntmps83
    go_wp2
    go_ret
    exact ⟨ret_bool HA.out, rfl⟩

set_option maxHeartbeats 4000000 in
set_option maxRecDepth 100000 in
theorem auto_Check (A : Option Addr) (c n : Nat) (acc : Int) (a : Au) (w : World) (ha : AtAu w A a) (HL : Hid (a.length = n)) :
    Calls Tryz.prog 44 #[.agg #[.slice A n c, .int .i64 acc]] w fun e w' => e = .returned (.int .i64 (auE a acc)) ∧ Below w.heap.size w w' := by
  have hl : n ≤ 140737488355328 := by have := ha.1; rwa [HL.out] at this
  have HA := Lib.hid ha
  obtain ⟨ans, hans⟩ : ∃ ans : Int, auE a acc = ans := ⟨_, rfl⟩
  rw [hans]
  have HNO := Lib.hid (fun h : ¬ AuOk a acc => ((auE_no h).symm.trans hans : (8 : Int) = ans))
  have HYES := Lib.hid (fun h : AuOk a acc => ((auE_yes h).symm.trans hans : (0 : Int) = ans))
  have HB0 := Lib.hid ((Below.refl w.heap.size w).alloc (Nat.le_refl _) (.cells #[.slice A n c, .int .i64 acc] TAuto))
  have K0 := Lib.hid (Blk.new w TAuto #[.slice A n c, .int .i64 acc])
  obtain ⟨q0, q1, _, _⟩ := Blk.two K0.out
  have HACC := Lib.hid (auto_in acc A c n w.heap.size _ q0)
  clear q0 q1
  clear ha hans
  by_cases h2 : (256 : Int) < (n : Int)
  · have HX := Lib.hid (HNO.out fun h => by have := h.few; rw [HL.out] at this; omega)
    go_enter Tryz.func44, Tryz.ntmps44
    go_wp2
    go_ret
    exact ⟨ret_int HX.out, HB0.out⟩
  by_cases h3 : 0 ≤ acc ∧ acc < (n : Int)
  case neg =>
    have HX := Lib.hid (HNO.out fun h => h3 ⟨h.acc0, by have := h.acc1; rwa [HL.out] at this⟩)
    rw [show (decide (0 ≤ acc) && decide (acc < (n : Int))) = false by
      by_cases h4 : 0 ≤ acc
      · rw [decide_eq_false (p := acc < (n : Int)) (fun h5 => h3 ⟨h4, h5⟩)]; simp
      · simp [h4]] at HACC
    clear h3
    go_enter Tryz.func44, Tryz.ntmps44
    go_wp2_with (go_at_call 83; refine HACC.out.mono ?_; rintro e w2 ⟨rfl, rfl⟩)
    go_ret
    exact ⟨ret_int HX.out, HB0.out⟩
  obtain ⟨h3, h4⟩ := h3
  have h1 : (1 : Int) ≤ (n : Int) := by omega
  rw [show (decide (0 ≤ acc) && decide (acc < (n : Int))) = true by simp [h3, h4]] at HACC
  go_enter Tryz.func44, Tryz.ntmps44
  go_wp2_with ((go_at_call 83; refine HACC.out.mono ?_; rintro e w2 ⟨rfl, rfl⟩))
  go_loopw [24, 4] (fun iv sv wr => ∃ (i s : Nat), iv = .int .i64 i ∧ i ≤ n ∧ sv = .int .i64 s ∧ s ≤ 1024 ∧ Hid (s = edgesS (a.take i)) ∧ Hid (∀ es, es ∈ a.take i → ∀ x, x ∈ es → EdgeOk n x) ∧ Hid (Below (w.heap.size + 1) (w.alloc (.cells #[.slice A n c, .int .i64 acc] TAuto)) wr)) (fun iv _ _ => n - (intOf iv).toNat)
  case atStart => exact ⟨0, 0, rfl, by omega, rfl, by omega, Lib.hid rfl, Lib.hid (by simp), Lib.hid (Below.refl _ _)⟩
  case round =>
    obtain ⟨i, s, rfl, hi, rfl, hs, HS, HE, HB⟩ := hrel
    have HBB := Lib.hid (HB0.out.trans (HB.out.mono (by omega)))
    have HK := Lib.hid (K0.out.below HB.out (by omega))
    obtain ⟨p0, p1, _, _⟩ := Blk.two HK.out
    have hN := HK.out.lt
    by_cases hlt : i < n
    · obtain ⟨b2, o2, S, q, cs, es, rfl, hb2, c2, hS, HQ, hqc, HY⟩ := AtAu.gt HA.out HL hlt
      have HES := Lib.hid hS
      have hq : q ≤ 140737488355328 := by have := hS.1; rwa [HQ.out] at this
      have HC2 := Lib.hid c2; have HH2 := Lib.hid hb2
      have c2 := ((Keep.of HBB.out).cell _ _ hb2).trans c2
      have hb2 := Nat.lt_of_lt_of_le hb2 HBB.out.size
      have HSN := Lib.hid (take_snoc HY.out)
      have HS2 := Lib.hid (show edgesS (a.take (i + 1)) = s + q by rw [HSN.out, edgesS_snoc, HS.out, HQ.out])
      have i1 : (0 : Int) ≤ (i : Int) := by omega
      have i2 : (i : Int) < (n : Int) := by omega
      clear hS
      by_cases hq2 : (1024 : Int) < (s : Int) + (q : Int)
      · have HX := Lib.hid (HNO.out fun h => by have h5 := h.edges; have h6 := edgesS_take a (i + 1); rw [HS2.out] at h6; omega)
        go_wp2
        go_ret
        exact ⟨ret_int HX.out, HBB.out⟩
      · have hq3 : s + q ≤ 1024 := by omega
        clear hq2
        go_wp2
        go_loopw [36] (fun kv wr => ∃ k : Nat, kv = .int .i64 k ∧ k ≤ q ∧ Hid (∀ x, x ∈ es.take k → EdgeOk n x) ∧ Hid (Below (w.heap.size + 1) (w.alloc (.cells #[.slice (some ⟨b2, o2, none⟩) n c, .int .i64 acc] TAuto)) wr)) (fun kv _ => q - (intOf kv).toNat)
        case atStart => exact ⟨0, rfl, by omega, Lib.hid (by simp), HB⟩
        case round =>
          clear HB HBB HK p0 p1 hN c2 hb2
          obtain ⟨k, rfl, hk, HE2, HB⟩ := hrel
          have HBB := Lib.hid (HB0.out.trans (HB.out.mono (by omega)))
          have HK := Lib.hid (K0.out.below HB.out (by omega))
          obtain ⟨p0, p1, _, _⟩ := Blk.two HK.out
          have hN := HK.out.lt
          have c2 := ((Keep.of HBB.out).cell _ _ HH2.out).trans HC2.out
          have hb2 := Nat.lt_of_lt_of_le HH2.out HBB.out.size
          by_cases hkt : k < q
          · obtain ⟨b3, o3, tto, fr, U, tq, tc, sl, rfl, hb3, ⟨d0, d1, d2⟩, hset, HTQ, htc, hto, HZ⟩ := AtEd.gt (AtEd.keep HES.out (Keep.of HBB.out)) HQ hkt
            have HEC := ecase n tto fr sl
            have HSET := Lib.hid hset
            have HSN2 := Lib.hid (take_snoc HZ.out)
            have htq : tq ≤ 140737488355328 := by have := hset.1; rwa [HTQ.out] at this
            have HBX := Lib.hid (HB.out.alloc (by have := HB.out.size; simpa using this) (.cells #[.int .i64 tto, .bool fr, .slice U tq tc] TEdge))
            have HBN := Lib.hid ((Below.refl wr.heap.size wr).alloc (Nat.le_refl _) (.cells #[.int .i64 tto, .bool fr, .slice U tq tc] TEdge))
            have HMAY := Lib.hid (fun W (k : Below wr.heap.size wr W) => ranges_Check U tc tq sl W (hset.keep (Keep.of k)) HTQ)
            have HBAD := Lib.hid (fun h : ¬ EdgeOk n ⟨tto, fr, sl⟩ => HNO.out fun hh => h (auOk_edge hh HL.out (mem_of_get HY.out) (mem_of_get HZ.out)))
            have HGOOD := Lib.hid (fun (h : EdgeOk n ⟨tto, fr, sl⟩) (x : Ed) (hx : x ∈ es.take (k + 1)) => show EdgeOk n x by
              rw [HSN2.out] at hx
              rcases List.mem_append.1 hx with hx | hx
              · exact HE2.out x hx
              · simp only [List.mem_singleton] at hx; subst hx; exact h)
            have i5 : (0 : Int) ≤ (k : Int) := by omega
            have i6 : (k : Int) < (q : Int) := by omega
            have X0 := Lib.hid (fun W (hW : Below (wr.alloc (.cells #[.int .i64 tto, .bool fr, .slice U tq tc] TEdge)).heap.size (wr.alloc (.cells #[.int .i64 tto, .bool fr, .slice U tq tc] TEdge)) W) => show W.cell? ⟨wr.heap.size, 0, none⟩ = some (.int .i64 tto) ∧ W.cell? ⟨wr.heap.size, 1, none⟩ = some (.bool fr) ∧ W.cell? ⟨wr.heap.size, 2, none⟩ = some (.slice U tq tc) from ⟨(hW.cell (p := ⟨wr.heap.size, 0, none⟩) (by simp)).trans (World.cell?_alloc_new ..), (hW.cell (p := ⟨wr.heap.size, 1, none⟩) (by simp)).trans (World.cell?_alloc_new ..), (hW.cell (p := ⟨wr.heap.size, 2, none⟩) (by simp)).trans (World.cell?_alloc_new ..)⟩)
            have HIN := Lib.hid (fun (bb : Bool) (h : (decide (0 ≤ tto) && decide (tto < (n : Int))) = bb) => show Calls Tryz.prog 83 #[.int .i64 tto, .pointer (some ⟨w.heap.size, 0, none⟩)] (wr.alloc (.cells #[.int .i64 tto, .bool fr, .slice U tq tc] TEdge)) fun e w2 => e = .returned (.bool bb) ∧ w2 = (wr.alloc (.cells #[.int .i64 tto, .bool fr, .slice U tq tc] TEdge)) from h ▸ auto_in tto _ c n w.heap.size _ (by rw [World.cell?_alloc_lt _ _ _ hN]; exact p0))
            clear hset
            cases HEC
            case low h =>
              have HI := Lib.hid (HIN.out false (by simp; omega))
              have HX := Lib.hid (HBAD.out (fun hh => by have := hh.1; simp only at this; omega))
              go_wp2_with (first | (go_at_call 83; refine HI.out.mono ?_; rintro e w2 ⟨rfl, rfl⟩))
              go_ret
              exact ⟨ret_int HX.out, HB0.out.trans (HBX.out.mono (by omega))⟩
            case high h h2 =>
              have HI := Lib.hid (HIN.out false (by simp; omega))
              have HX := Lib.hid (HBAD.out (fun hh => by have := hh.2.1; simp only at this; omega))
              go_wp2_with (first | (go_at_call 83; refine HI.out.mono ?_; rintro e w2 ⟨rfl, rfl⟩))
              go_ret
              exact ⟨ret_int HX.out, HB0.out.trans (HBX.out.mono (by omega))⟩
            case set h h2 h3 =>
              have HI := Lib.hid (HIN.out true (by simp [h, h2]))
              have HM := HMAY
              rw [setE_no h3] at HM
              have HX := Lib.hid (HBAD.out (fun hh => by have := setB_yes hh.2.2.1; simp only at this; rw [h3] at this; cases this))
              clear h3
              go_wp2_with (first | (go_at_call 84; refine (HM.out _ HBN.out).mono ?_; rintro e w2 ⟨rfl, hb2⟩; obtain ⟨z0, z1, z2⟩ := X0.out _ hb2; have HB3 := Lib.hid (HBX.out.trans (hb2.mono (by have := HB.out.size; simp at this ⊢; omega))); clear hb2) | (go_at_call 83; refine HI.out.mono ?_; rintro e w2 ⟨rfl, rfl⟩))
              go_ret
              exact ⟨ret_int HX.out, HB0.out.trans (HB3.out.mono (by omega))⟩
            case full h h2 h3 h4 h5 =>
              subst h4
              have HI := Lib.hid (HIN.out true (by simp [h, h2]))
              have HM := HMAY
              rw [setE_yes h3] at HM
              have HX := Lib.hid (HBAD.out (fun hh => by have := hh.2.2.2 rfl; simp only at this; subst this; simp at h5))
              have h6 : 0 < tq := by rw [← HTQ.out]; exact h5
              clear h3
              clear h5
              go_wp2_with (first | (go_at_call 84; refine (HM.out _ HBN.out).mono ?_; rintro e w2 ⟨rfl, hb2⟩; obtain ⟨z0, z1, z2⟩ := X0.out _ hb2; have HB3 := Lib.hid (HBX.out.trans (hb2.mono (by have := HB.out.size; simp at this ⊢; omega))); clear hb2) | (go_at_call 83; refine HI.out.mono ?_; rintro e w2 ⟨rfl, rfl⟩))
              go_ret
              exact ⟨ret_int HX.out, HB0.out.trans (HB3.out.mono (by omega))⟩
            case free h h2 h3 h4 h5 =>
              subst h4
              have HI := Lib.hid (HIN.out true (by simp [h, h2]))
              have HM := HMAY
              rw [setE_yes h3] at HM
              have HX := Lib.hid (HGOOD.out ⟨h, h2, SetOk.of h3, fun _ => List.eq_nil_of_length_eq_zero h5⟩)
              obtain rfl : tq = 0 := by rw [← HTQ.out]; exact h5
              clear h3
              clear h5
              go_wp2_with (first | (go_at_call 84; refine (HM.out _ HBN.out).mono ?_; rintro e w2 ⟨rfl, hb2⟩; obtain ⟨z0, z1, z2⟩ := X0.out _ hb2; have HB3 := Lib.hid (HBX.out.trans (hb2.mono (by have := HB.out.size; simp at this ⊢; omega))); clear hb2) | (go_at_call 83; refine HI.out.mono ?_; rintro e w2 ⟨rfl, rfl⟩))
              go_roundw
              case rel => exact ⟨k + 1, by go_num, by omega, HX, HB3⟩
              case measure => simp [intOf]; omega
            case num h h2 h3 h4 =>
              subst h4
              have HI := Lib.hid (HIN.out true (by simp [h, h2]))
              have HM := HMAY
              rw [setE_yes h3] at HM
              have HX := Lib.hid (HGOOD.out ⟨h, h2, SetOk.of h3, fun hh => by cases hh⟩)
              clear h3
              go_wp2_with (first | (go_at_call 84; refine (HM.out _ HBN.out).mono ?_; rintro e w2 ⟨rfl, hb2⟩; obtain ⟨z0, z1, z2⟩ := X0.out _ hb2; have HB3 := Lib.hid (HBX.out.trans (hb2.mono (by have := HB.out.size; simp at this ⊢; omega))); clear hb2) | (go_at_call 83; refine HI.out.mono ?_; rintro e w2 ⟨rfl, rfl⟩))
              go_roundw
              case rel => exact ⟨k + 1, by go_num, by omega, HX, HB3⟩
              case measure => simp [intOf]; omega
          · obtain rfl : k = q := by omega
            have HFE := Lib.hid (fun es' (h : es' ∈ a.take (i + 1)) => show ∀ x, x ∈ es' → EdgeOk n x by
              rw [HSN.out] at h
              rcases List.mem_append.1 h with h | h
              · exact HE.out es' h
              · simp only [List.mem_singleton] at h
                subst h
                have h2 := HE2.out
                rwa [List.take_of_length_le (by rw [HQ.out]; omega)] at h2)
            go_wp2
            go_roundw
            case rel => exact ⟨i + 1, s + k, by go_num, by omega, by go_num, hq3, Lib.hid HS2.out.symm, HFE, HB⟩
            case measure => simp [intOf]; omega
    · obtain rfl : i = n := by omega
      have HX := Lib.hid (HYES.out (auOk_of HL.out (by omega) (by omega) (by omega) (by omega) (by have h1 := HS.out; rw [List.take_of_length_le (by rw [HL.out]; omega)] at h1; omega) (by have h1 := HE.out; rwa [List.take_of_length_le (by rw [HL.out]; omega)] at h1)))
      go_wp2
      go_ret
      exact ⟨ret_int HX.out, HBB.out⟩

end Go.Proofs.YtilhicefhhgecaaGreatDoor

namespace Pv
open Go Go.RowKit
noncomputable def reachL (a : Au) (acc : Int) (l : List Int) : List Int := if askE a acc l = 0 then stL a.length (Clo a (Of l)) else []
noncomputable def stepL (a : Au) (acc : Int) (l : List Int) (p : Int) : List Int := if askE a acc l = 0 then stL a.length (Stp a p (Of l)) else []
inductive ACase (a : Au) (acc : Int) (l : List Int) : Prop where
  | bad (h : ¬ AuOk a acc) (e : askE a acc l = 8)
  | out (h : AuOk a acc) (h2 : ¬ InAu a.length l) (e : askE a acc l = 2)
  | ok (h : AuOk a acc) (h2 : InAu a.length l) (e : askE a acc l = 0)
theorem acase (a : Au) (acc : Int) (l : List Int) : ACase a acc l := by
  by_cases h : AuOk a acc
  · by_cases h2 : InAu a.length l
    · exact .ok h h2 (askE_yes h h2)
    · exact .out h h2 (askE_out h h2)
  · exact .bad h (askE_no h)
theorem reachL_yes {a : Au} {acc : Int} {l : List Int} (h : askE a acc l = 0) : reachL a acc l = stL a.length (Clo a (Of l)) := by unfold reachL; rw [if_pos h]
theorem reachL_no {a : Au} {acc : Int} {l : List Int} {e : Int} (h : askE a acc l = e) (h2 : e ≠ 0) : reachL a acc l = [] := by unfold reachL; rw [if_neg (by rw [h]; exact h2)]
theorem stepL_yes {a : Au} {acc : Int} {l : List Int} {p : Int} (h : askE a acc l = 0) : stepL a acc l p = stL a.length (Stp a p (Of l)) := by unfold stepL; rw [if_pos h]
theorem stepL_no {a : Au} {acc : Int} {l : List Int} {p : Int} {e : Int} (h : askE a acc l = e) (h2 : e ≠ 0) : stepL a acc l p = [] := by unfold stepL; rw [if_neg (by rw [h]; exact h2)]
end Pv
namespace Go.Proofs.YtilhicefhhgecaaGreatDoor
open Go.RowKit Pv

theorem OwnI.nil (w : World) (b : Nat) : OwnI w b (.slice none 0 0) [] := ⟨none, 0, rfl, World.ownsRow_nil _ _ _ _⟩
theorem OwnI.lower {w : World} {b b' : Nat} {v : Value} {l : List Int} (h : OwnI w b v l) (hb : b' ≤ b) : OwnI w b' v l := by
  obtain ⟨A, c, e, ho⟩ := h
  exact ⟨A, c, e, ⟨ho.1, ho.2.imp_right fun ⟨g, cap, cur, h1, h2, r⟩ => ⟨g, cap, cur, h1, Nat.le_trans hb h2, r⟩⟩⟩
theorem OwnI.below {w w' : World} {b : Nat} {v : Value} {l : List Int} (h : OwnI w b v l) (hb : Below w.heap.size w w') : OwnI w' b v l := by
  obtain ⟨A, c, e, ho⟩ := h
  exact ⟨A, c, e, ownsRow_below ho hb⟩
theorem OwnI.at' {w : World} {b : Nat} {v : Value} {l : List Int} (h : OwnI w b v l) (hr : ∀ x, x ∈ l → -9223372036854775808 ≤ x ∧ x ≤ 9223372036854775807) (hl : l.length ≤ 140737488355328) : ∃ A c, v = .slice A l.length c ∧ At w A RI l ∧ l.length ≤ c := by
  obtain ⟨A, c, e, ho⟩ := h
  obtain ⟨_, h2, h3⟩ := At.of_own (R := RI) (xs := l) ho ⟨by simp, fun i u x hu hx => by
    rw [List.getElem?_map, hx] at hu
    simp only [Option.map_some, Option.some.injEq] at hu
    subst hu
    exact ⟨rfl, (hr x (mem_of_get hx)).1, (hr x (mem_of_get hx)).2⟩⟩ hl
  exact ⟨A, c, e, h3, h2⟩
theorem stL_bd {n : Nat} {S : Nat → Prop} (hn : n ≤ 100000) : ∀ x, x ∈ stL n S → -9223372036854775808 ≤ x ∧ x ≤ 9223372036854775807 := fun x hx => by have := stL_in x hx; omega

end Go.Proofs.YtilhicefhhgecaaGreatDoor

namespace Go.Proofs.YtilhicefhhgecaaGreatDoor
open Go.RowKit Pv

set_option maxHeartbeats 1000000 in
set_option maxRecDepth 100000 in
theorem asked_one (s : Int) (A : Option Addr) (c n b : Nat) (w : World) (hc : w.cell? ⟨b, 0, none⟩ = some (.slice A n c)) :
    Calls Tryz.prog 125 #[.int .i64 s, .pointer (some ⟨b, 0, none⟩)] w fun e w' => e = .returned (.bool (decide (s < 0) || decide ((n : Int) ≤ s))) ∧ w' = w := by
  by_cases h0 : s < 0
  · have HA := Lib.hid (show true = (decide (s < 0) || decide ((n : Int) ≤ s)) by simp [h0])
    generalize (decide (s < 0) || decide ((n : Int) ≤ s)) = ans at *
    go_enter Tryz.func125, Tryz.ntmps125
    go_wp2
    go_ret
    exact ⟨ret_bool HA.out, rfl⟩
  · by_cases h1 : (n : Int) ≤ s
    · have HA := Lib.hid (show true = (decide (s < 0) || decide ((n : Int) ≤ s)) by simp [h1])
      generalize (decide (s < 0) || decide ((n : Int) ≤ s)) = ans at *
      go_enter Tryz.func125, Tryz.ntmps125
      go_wp2
      go_ret
      exact ⟨ret_bool HA.out, rfl⟩
    · have HA := Lib.hid (show false = (decide (s < 0) || decide ((n : Int) ≤ s)) by simp [h0]; omega)
      generalize (decide (s < 0) || decide ((n : Int) ≤ s)) = ans at *
      go_enter Tryz.func125, Tryz.ntmps125
      go_wp2
      go_ret
      exact ⟨ret_bool HA.out, rfl⟩

set_option maxHeartbeats 1000000 in
set_option maxRecDepth 100000 in
theorem asked_index (lA : Option Addr) (lc m : Nat) (l : List Int) (A : Option Addr) (c n b : Nat) (w : World) (hl : At w lA RI l) (HM : Hid (l.length = m)) (hc : w.cell? ⟨b, 0, none⟩ = some (.slice A n c)) :
    Calls Tryz.prog 132 #[.slice lA m lc, .func (.func 125) #[] #[.pointer (some ⟨b, 0, none⟩)]] w fun e w' => (∃ r : Int, e = .returned (.int .i64 r) ∧ decide (0 ≤ r) = yes (¬ InAu n l)) ∧ w' = w := by
  have hml : m ≤ 140737488355328 := by have := hl.1; rwa [HM.out] at this
  have HC := Lib.hid (fun s => asked_one s A c n b w hc)
  obtain ⟨ans, hans⟩ : ∃ ans, yes (¬ InAu n l) = ans := ⟨_, rfl⟩
  rw [hans]
  have HANS := Lib.hid hans
  clear hans hc
  go_enter Tryz.func132, Tryz.ntmps132
  go_wp2
  go_loopw [8] (fun i wr => ∃ k : Nat, i = .int .i64 k ∧ k ≤ m ∧ wr = w ∧ Hid (∀ (j : Nat) s, j < k → l[j]? = some s → 0 ≤ s ∧ s < (n : Int))) (fun i _ => m - (intOf i).toNat)
  case atStart => exact ⟨0, rfl, by omega, rfl, Lib.hid (by intros; omega)⟩
  case round =>
    obtain ⟨k, rfl, hk, rfl, HJ⟩ := hrel
    by_cases hlt : k < m
    · obtain ⟨b1, o1, u, s, rfl, hb1, c1, ⟨rfl, _, _⟩, HX⟩ := hl.gt HM hlt
      have HCS := Lib.hid (HC.out s)
      have i1 : (0 : Int) ≤ (k : Int) := by omega
      have i2 : (k : Int) < (m : Int) := by omega
      by_cases h0 : 0 ≤ s ∧ s < (n : Int)
      · rw [show (decide (s < 0) || decide ((n : Int) ≤ s)) = false by simp; omega] at HCS
        have HJ2 := Lib.hid (fun (j : Nat) (t : Int) (hj : j < k + 1) (ht : l[j]? = some t) => show 0 ≤ t ∧ t < (n : Int) by
          by_cases e : j = k
          · subst e; obtain rfl := Option.some.inj (ht.symm.trans HX.out); exact h0
          · exact HJ.out j t (by omega) ht)
        clear h0
        go_wp2_with (go_at_call 125; refine HCS.out.mono ?_; rintro e w2 ⟨rfl, rfl⟩)
        go_roundw
        case rel => exact ⟨k + 1, by go_num, by omega, by first | rfl | trivial, HJ2⟩
        case measure => simp [intOf]; omega
      · rw [show (decide (s < 0) || decide ((n : Int) ≤ s)) = true by simp; omega] at HCS
        have HN := Lib.hid (show true = ans by rw [← HANS.out, yes_t]; intro hh; exact h0 (hh s (mem_of_get HX.out)))
        clear h0
        go_wp2_with (go_at_call 125; refine HCS.out.mono ?_; rintro e w2 ⟨rfl, rfl⟩)
        go_ret
        exact ⟨⟨_, rfl, by rw [← HN.out]; simp⟩, rfl⟩
    · have HN := Lib.hid (show false = ans by
        rw [← HANS.out, yes_f]
        intro hh
        exact hh fun x hx => by obtain ⟨j, hj⟩ := List.getElem?_of_mem hx; exact HJ.out j x (by have := lt_of_get hj; rw [HM.out] at this; omega) hj)
      go_wp2
      go_ret
      exact ⟨⟨_, rfl, by rw [← HN.out]; simp⟩, rfl⟩

set_option maxHeartbeats 1000000 in
set_option maxRecDepth 100000 in
theorem asked_contains (lA : Option Addr) (lc m : Nat) (l : List Int) (A : Option Addr) (c n b : Nat) (w : World) (hl : At w lA RI l) (HM : Hid (l.length = m)) (hc : w.cell? ⟨b, 0, none⟩ = some (.slice A n c)) :
    Calls Tryz.prog 94 #[.slice lA m lc, .func (.func 125) #[] #[.pointer (some ⟨b, 0, none⟩)]] w fun e w' => e = .returned (.bool (yes (¬ InAu n l))) ∧ w' = w := by
  have HC := Lib.hid (asked_index lA lc m l A c n b w hl HM hc)
  generalize yes (¬ InAu n l) = ans at *
  clear hl hc
  go_enter Tryz.func94, Tryz.ntmps94
  go_wp2_with (go_at_call 132; refine HC.out.mono ?_; rintro e w2 ⟨⟨r, rfl, hr⟩, rfl⟩; have HR := Lib.hid hr; clear hr)
  go_ret
  exact ⟨ret_bool HR.out, rfl⟩

set_option maxHeartbeats 1000000 in
set_option maxRecDepth 100000 in
theorem auto_asked (A : Option Addr) (c n : Nat) (acc : Int) (a : Au) (lA : Option Addr) (lc m : Nat) (l : List Int) (w : World) (ha : AtAu w A a) (HL : Hid (a.length = n)) (hl : At w lA RI l) (HM : Hid (l.length = m)) :
    Calls Tryz.prog 86 #[.agg #[.slice A n c, .int .i64 acc], .slice lA m lc] w fun e w' => e = .returned (.int .i64 (askE a acc l)) ∧ Below w.heap.size w w' := by
  have HB0 := Lib.hid ((Below.refl w.heap.size w).alloc (Nat.le_refl _) (.cells #[.slice A n c, .int .i64 acc] TAuto))
  have K0 := Lib.hid (Blk.new w TAuto #[.slice A n c, .int .i64 acc])
  have HCH := Lib.hid (auto_Check A c n acc a _ (ha.keep (Keep.of HB0.out)) HL)
  have HLL := Lib.hid hl
  have hc := acase a acc l
  clear ha hl
  cases hc
  case bad h e =>
    rw [auE_no h] at HCH
    rw [e]
    clear h e
    go_enter Tryz.func86, Tryz.ntmps86
    go_wp2_with (go_at_call 44; refine HCH.out.mono ?_; rintro e w1 ⟨rfl, hb1⟩; have HB1 := Lib.hid (HB0.out.trans (hb1.mono (by simp))); clear hb1)
    go_ret
    exact ⟨rfl, HB1.out⟩
  case out h h2 e =>
    rw [auE_yes h] at HCH
    rw [e]
    have HCT := Lib.hid (fun W (hb : Below w.heap.size w W) (hc : W.cell? ⟨w.heap.size, 0, none⟩ = some (.slice A n c)) => asked_contains lA lc m l A c n w.heap.size W (HLL.out.keep (Keep.of hb)) HM hc)
    rw [HL.out] at h2
    rw [yes_t h2] at HCT
    clear h e h2
    go_enter Tryz.func86, Tryz.ntmps86
    go_wp2_with (first | (go_at_call 44; refine HCH.out.mono ?_; rintro e w1 ⟨rfl, hb1⟩; have HB1 := Lib.hid (HB0.out.trans (hb1.mono (by simp))); obtain ⟨p0, p1, _, _⟩ := Blk.two (K0.out.below hb1 (by simp)); clear hb1) | (go_at_call 94; refine (HCT.out _ HB1.out p0).mono ?_; rintro e w2 ⟨rfl, rfl⟩))
    go_ret
    exact ⟨rfl, HB1.out⟩
  case ok h h2 e =>
    rw [auE_yes h] at HCH
    rw [e]
    have HCT := Lib.hid (fun W (hb : Below w.heap.size w W) (hc : W.cell? ⟨w.heap.size, 0, none⟩ = some (.slice A n c)) => asked_contains lA lc m l A c n w.heap.size W (HLL.out.keep (Keep.of hb)) HM hc)
    rw [HL.out] at h2
    rw [yes_f (fun hh => hh h2)] at HCT
    clear h e h2
    go_enter Tryz.func86, Tryz.ntmps86
    go_wp2_with (first | (go_at_call 44; refine HCH.out.mono ?_; rintro e w1 ⟨rfl, hb1⟩; have HB1 := Lib.hid (HB0.out.trans (hb1.mono (by simp))); obtain ⟨p0, p1, _, _⟩ := Blk.two (K0.out.below hb1 (by simp)); clear hb1) | (go_at_call 94; refine (HCT.out _ HB1.out p0).mono ?_; rintro e w2 ⟨rfl, rfl⟩))
    go_ret
    exact ⟨rfl, HB1.out⟩

set_option maxHeartbeats 1000000 in
set_option maxRecDepth 100000 in
theorem clone_int (A : Option Addr) (n c : Nat) (l : List Int) (w : World) (hn : n ≤ 1000000) (h : At w A RI l) (HL : Hid (l.length = n)) :
    Calls Tryz.prog 126 #[.slice A n c] w fun e w' => ∃ A' c', e = .returned (.slice A' n c') ∧ w'.ownsRow w.heap.size 3 1 (.slice A' n c') n (l.map (Value.int .i64)) ∧ Below w.heap.size w w' := by
  have hnil := fun (W : World) (a : Option Addr) (n c : Nat) => Lib.run_eql_slice_nil (P := Tryz.prog) W 22 3 a n c 0 0 Tryz.underlying22
  obtain ⟨i0, hi0, hz0, hs0, hb0⟩ := info_parts info_int9
  obtain ⟨us, hr, src⟩ := h.src (fun u x hux => RI.one hux)
  rw [HL.out] at src
  have hus : us = l.map (Value.int .i64) := by
    apply List.ext_getElem?
    intro i
    rw [List.getElem?_map]
    cases hi : l[i]? with
    | none => rw [List.getElem?_eq_none (by rw [hr.1]; exact Nat.le_of_not_lt fun hh => by rw [List.getElem?_eq_getElem hh] at hi; cases hi)]; rfl
    | some x =>
      have hlt : i < us.length := by rw [hr.1]; exact lt_of_get hi
      have hu := List.getElem?_eq_getElem hlt
      rw [hu]
      have := (hr.2 i _ x hu hi).1
      rw [this]; rfl
  subst hus
  have hba : Below w.heap.size w (w.alloc (.cells #[] 3)) := (Below.refl _ _).alloc (Nat.le_refl _) _
  have S1 := Lib.hid (src.keep (Keep.of hba))
  have OW : Hid ((w.alloc (.cells #[] 3)).ownsRow w.heap.size 3 1 (.slice (some ⟨w.heap.size, 0, none⟩) 0 0) 0 []) := Lib.hid ⟨by simp, .inr ⟨w.heap.size, 0, #[], rfl, Nat.le_refl _, by show (w.heap.push _)[w.heap.size]? = _; simp, Nat.le_refl _, by simp only [maxLen]; omega, by simp, by simp⟩⟩
  have HB := Lib.hid hba
  have Q1 : Hid (0 + n ≤ maxLen) := Lib.hid (by simp only [maxLen]; omega)
  have Q2 : Hid ((0 + n) * 8 ≤ 140737488355328) := Lib.hid (by omega)
  have hcase : A = none ∨ ∃ ad, A = some ad := by cases A with | none => exact .inl rfl | some ad => exact .inr ⟨ad, rfl⟩
  rcases hcase with rfl | ⟨ad, rfl⟩
  · have h0 : n = 0 := by
      rcases Nat.eq_zero_or_pos n with h0 | h0
      · exact h0
      · obtain ⟨b, off, e, _⟩ := h.2 (by rw [HL.out]; exact h0)
        cases e
    subst h0
    have hl0 : l = [] := List.eq_nil_of_length_eq_zero HL.out
    subst hl0
    clear src hr h hba
    go_enter Tryz.func126, Tryz.ntmps126
    go_wp2
    go_ret
    exact ⟨none, 0, rfl, World.ownsRow_nil _ _ _ _, Below.refl _ _⟩
  · clear src hr h hba
    go_enter Tryz.func126, Tryz.ntmps126
    go_wp2_with (at_builtin
                 go_must (refine wpList_append_src _ rfl (.tmp 5) (.tmp 6) 22 rfl w.heap.size 3 i0 (.int .i64 0) 1 8 Tryz.underlying22 hi0 hz0 hs0 hb0 rfl (by decide) (some ⟨w.heap.size, 0, none⟩) 0 0 [] rfl OW.out (some ad) n c _ rfl S1.out Q1.out Q2.out HB.out.size ?_)
                 intro A1 c1 w1 own1 gr1 _
                 simp only [List.nil_append, Nat.zero_add] at own1
                 have G1 := Lib.hid (HB.out.grown gr1 HB.out.size (fun g hg => (OW.out.lt g hg).1)); have O1 := Lib.hid own1
                 clear own1 gr1)
    go_ret
    exact ⟨A1, c1, by simp, O1.out, G1.out⟩
end Go.Proofs.YtilhicefhhgecaaGreatDoor

namespace Pv
open Go Go.RowKit Go.Maps
theorem le_edgesS {es : List Ed} : ∀ {a : Au}, es ∈ a → es.length ≤ edgesS a
  | x :: a, h => by
    rcases List.mem_cons.1 h with rfl | h
    · simp [edgesS]
    · have := le_edgesS h
      simp only [edgesS, List.map_cons, List.sum_cons] at this ⊢
      omega
/-- A map of the call's own that holds a set of states. -/
def MapS (P : Program) (k : TypeId) (w : World) (b cnt n : Nat) (S : Nat → Prop) : Prop := ∃ L : List Int, w.ownsMap P k unitElem b cnt (setM L) ∧ L.length ≤ cnt ∧ ∀ x, x ∈ L ↔ x ∈ stL n S
section
variable {P : Program} {k : TypeId} {w w' : World} {b cnt n : Nat} {S S' : Nat → Prop}
theorem ownsMap_block {D : DataW Unit} (h : w.ownsMap P k unitElem b cnt D) (e : w'.heap[b]? = w.heap[b]?) : w'.ownsMap P k unitElem b cnt D := by
  obtain ⟨es, clock, hb, r⟩ := h
  exact ⟨es, clock, e.trans hb, r⟩
theorem MapS.lt (h : MapS P k w b cnt n S) : b < w.heap.size := by obtain ⟨L, h1, _⟩ := h; exact h1.lt
theorem MapS.below (h : MapS P k w b cnt n S) (hb : Below w.heap.size w w') : MapS P k w' b cnt n S := by
  have hl := h.lt
  obtain ⟨L, h1, h2⟩ := h
  exact ⟨L, ownsMap_block h1 (hb.block b hl), h2⟩
theorem MapS.alloc (h : MapS P k w b cnt n S) (o : Obj) : MapS P k (w.alloc o) b cnt n S := h.below ((Below.refl _ _).alloc (Nat.le_refl _) o)
theorem MapS.mono {cnt' : Nat} (h : MapS P k w b cnt n S) (hc : cnt ≤ cnt') : MapS P k w b cnt' n S := by
  obtain ⟨L, h1, h2, h3⟩ := h
  exact ⟨L, h1.mono hc, Nat.le_trans h2 hc, h3⟩
theorem MapS.congr (h : MapS P k w b cnt n S) (e : ∀ i, i < n → (S i ↔ S' i)) : MapS P k w b cnt n S' := by
  obtain ⟨L, h1, h2, h3⟩ := h
  exact ⟨L, h1, h2, fun x => by rw [h3 x, stL_ext e]⟩
/-- behind a store -/
theorem MapS.put {L : List Int} {s : Nat} (h2 : L.length ≤ cnt) (h3 : ∀ x, x ∈ L ↔ x ∈ stL n S) (hs : s < n) (h : w'.ownsMap P k unitElem b (cnt + 1) ((setM L).put (litI s) (.agg []))) (e : ∀ j, S' j ↔ (S j ∨ j = s)) : MapS P k w' b (cnt + 1) n S' := by
  rw [setM_put] at h
  refine ⟨_, h, by simp; omega, fun x => ?_⟩
  rw [List.mem_append, h3 x, stL_mem, stL_mem, List.mem_singleton]
  constructor
  · rintro (⟨t, h1, h2, h3⟩ | rfl)
    · exact ⟨t, h1, (e t).2 (.inl h2), h3⟩
    · exact ⟨s, hs, (e s).2 (.inr rfl), rfl⟩
  · rintro ⟨t, h1, h2, rfl⟩
    rcases (e t).1 h2 with h2 | rfl
    · exact .inl ⟨t, h1, h2, rfl⟩
    · exact .inr rfl
end
end Pv
namespace Go.Proofs.YtilhicefhhgecaaGreatDoor
open Go.RowKit Go.Maps Pv

theorem law_int : Keyed Tryz.prog 3 := int_keyed Tryz.underlying3
theorem zero_unit (w : World) : (zeroValue 187).run Tryz.prog w = .ok (.agg #[]) w := by kernel_rfl
theorem key_int (s : Nat) (h : s ≤ 1000000) : keyOf Tryz.prog 3 (.int .i64 (s : Int)) = some (litI s) := keyOf_int_mk Tryz.underlying3 (by simp [Lit.wf, IntKind.min, IntKind.max, IntKind.signed, IntKind.bits]; omega)

set_option maxHeartbeats 2000000 in
set_option maxRecDepth 100000 in
theorem auto_step (A : Option Addr) (c n : Nat) (acc : Int) (a : Au) (lA : Option Addr) (lc m : Nat) (l : List Int) (p : Int) (w : World) (ha : AtAu w A a) (HL : Hid (a.length = n)) (hl : At w lA RI l) (HM : Hid (l.length = m)) (hok : AuOk a acc) (hin : InAu n l) (hm : m ≤ 1000000) :
    Calls Tryz.prog 88 #[.agg #[.slice A n c, .int .i64 acc], .slice lA m lc, .int .i64 p] w fun e w' => ∃ v, e = .returned v ∧ OwnI w' w.heap.size v (stL n (Stp a p (Of l))) ∧ Below w.heap.size w w' := by
  have hmm := @run_makeMap Tryz.prog
  have hn : n ≤ 256 := by have := hok.few; rwa [HL.out] at this
  have HA := Lib.hid ha; have HLL := Lib.hid hl; have HOK := Lib.hid hok; have HIN := Lib.hid hin
  have HB0 := Lib.hid (((Below.refl w.heap.size w).alloc (Nat.le_refl _) (.cells #[.slice A n c, .int .i64 acc] TAuto)).alloc (by simp) (.map #[] 0))
  have e1 : (w.alloc (.cells #[.slice A n c, .int .i64 acc] TAuto)).heap.size = w.heap.size + 1 := by simp
  have M0 : Hid (MapS Tryz.prog 3 ((w.alloc (.cells #[.slice A n c, .int .i64 acc] TAuto)).alloc (.map #[] 0)) (w.heap.size + 1) 0 n (Stp a p (Of ([] : List Int)))) := Lib.hid ⟨[], by
    have := World.ownsMap_made (H := Unit) (w.alloc (.cells #[.slice A n c, .int .i64 acc] TAuto)) Tryz.prog 3 unitElem
    rw [e1] at this
    exact this, by simp, fun x => by
    rw [stL_mem]
    constructor
    · intro h; simp at h
    · rintro ⟨s, _, h, _⟩; exact absurd ((stp_nil s).1 h) id⟩
  have K0 := Lib.hid ((Blk.new w TAuto #[.slice A n c, .int .i64 acc]).alloc (.map #[] 0))
  clear ha hl hok hin e1
  go_enter Tryz.func88, Tryz.ntmps88
  go_wp2
  go_loopw [15] (fun iv wr => ∃ i : Nat, iv = .int .i64 i ∧ i ≤ m ∧ Hid (MapS Tryz.prog 3 wr (w.heap.size + 1) (i * 1024) n (Stp a p (Of (l.take i)))) ∧ Hid (Blk wr w.heap.size TAuto #[.slice A n c, .int .i64 acc]) ∧ Hid (Below w.heap.size w wr)) (fun iv _ => m - (intOf iv).toNat)
  case atStart => exact ⟨0, rfl, by omega, M0, K0, HB0⟩
  case round =>
    obtain ⟨i, rfl, hi, HT, HK, HB⟩ := hrel
    obtain ⟨p0, p1, _, _⟩ := Blk.two HK.out
    have hN := HK.out.lt
    by_cases hlt : i < m
    · obtain ⟨b1, o1, u, s, rfl, hb1, c1, ⟨rfl, _, _⟩, HX⟩ := (HLL.out.keep (Keep.of HB.out)).gt HM hlt
      have hsr := HIN.out s (mem_of_get HX.out)
      obtain ⟨s, rfl⟩ := Int.eq_ofNat_of_zero_le hsr.1
      have hsn : s < n := by omega
      obtain ⟨b2, o2, S, q, cs, es, rfl, hb2, c2, hS, HQ, hqc, HY⟩ := AtAu.gt HA.out HL hsn
      have HES := Lib.hid hS
      have hq : q ≤ 1024 := by have h1 := le_edgesS (mem_of_get HY.out); have h2 := HOK.out.edges; rw [HQ.out] at h1; omega
      have HEX := Lib.hid (HOK.out.each es (mem_of_get HY.out))
      have c2 := ((Keep.of HB.out).cell _ _ hb2).trans c2
      have hb2 := Nat.lt_of_lt_of_le hb2 HB.out.size
      have i1 : (0 : Int) ≤ (i : Int) := by omega
      have i2 : (i : Int) < (m : Int) := by omega
      have i3 : (0 : Int) ≤ (s : Int) := by omega
      have i4 : (s : Int) < (n : Int) := by omega
      clear hS hsr
      go_wp2
      go_loopw [25] (fun kv wr => ∃ k : Nat, kv = .int .i64 k ∧ k ≤ q ∧ Hid (MapS Tryz.prog 3 wr (w.heap.size + 1) (i * 1024 + k) n (StpE a p (Of (l.take i)) (es.take k))) ∧ Hid (Blk wr w.heap.size TAuto #[.slice (some ⟨b2, o2, none⟩) n c, .int .i64 acc]) ∧ Hid (Below w.heap.size w wr)) (fun kv _ => q - (intOf kv).toNat)
      case atStart => exact ⟨0, rfl, by omega, Lib.hid (HT.out.congr fun i _ => (stpE_nil i).symm), HK, HB⟩
      case round =>
        clear p0 p1 c1 c2 hb1 hb2 HT HK HB hN
        obtain ⟨k, rfl, hk, HT, HK, HB⟩ := hrel
        by_cases hkt : k < q
        · obtain ⟨b3, o3, tto, fr, T, tq, tc, sl, rfl, hb3, ⟨d0, d1, d2⟩, hset, HTQ, htc, hto, HZ⟩ := AtEd.gt (AtEd.keep HES.out (Keep.of HB.out)) HQ hkt
          have hx := HEX.out _ (mem_of_get HZ.out)
          simp only at hx
          obtain ⟨x0, x1, x2, x3⟩ := hx
          obtain ⟨tto, rfl⟩ := Int.eq_ofNat_of_zero_le x0
          rw [HL.out] at x1
          have hton : tto < n := by omega
          have HSN := Lib.hid (take_snoc HZ.out)
          have i5 : (0 : Int) ≤ (k : Int) := by omega
          have i6 : (k : Int) < (q : Int) := by omega
          have HSE := Lib.hid hset
          have HBN := Lib.hid (HB.out.alloc HB.out.size (.cells #[.int .i64 tto, .bool fr, .slice T tq tc] TEdge))
          have HKN := Lib.hid (HK.out.alloc (.cells #[.int .i64 tto, .bool fr, .slice T tq tc] TEdge))
          have HTN := Lib.hid (HT.out.alloc (.cells #[.int .i64 tto, .bool fr, .slice T tq tc] TEdge))
          have HC := Lib.hid (fun W (hb : Below wr.heap.size wr W) => ranges_Has T tc tq sl p W (hset.keep (Keep.of hb)) HTQ)
          have HNEW := Lib.hid ((Below.refl wr.heap.size wr).alloc (Nat.le_refl _) (.cells #[.int .i64 tto, .bool fr, .slice T tq tc] TEdge))
          have X0 := Lib.hid (fun W (hW : Below (wr.alloc (.cells #[.int .i64 tto, .bool fr, .slice T tq tc] TEdge)).heap.size (wr.alloc (.cells #[.int .i64 tto, .bool fr, .slice T tq tc] TEdge)) W) => show W.cell? ⟨wr.heap.size, 0, none⟩ = some (.int .i64 tto) from (hW.cell (p := ⟨wr.heap.size, 0, none⟩) (by simp)).trans (World.cell?_alloc_new ..))
          clear hset x2 x3
          cases fr
          case true =>
            have HNO := Lib.hid (fun t => stpE_no (a := a) (p := p) (S := Of (l.take i)) (es := es.take k) (x := ⟨tto, true, sl⟩) (fun h => by cases h.1) t)
            go_wp2
            go_roundw
            case rel => exact ⟨k + 1, by go_num, by omega, Lib.hid (by rw [HSN.out]; exact (HTN.out.congr fun i _ => (HNO.out i).symm).mono (by omega)), HKN, HBN⟩
            case measure => simp [intOf]; omega
          case false =>
            by_cases hyy : InSet sl p
            · rw [yes_t hyy] at HC
              have HYES := Lib.hid (fun t => stpE_yes (a := a) (p := p) (S := Of (l.take i)) (es := es.take k) (x := ⟨tto, false, sl⟩) rfl hyy rfl t)
              have hkey := key_int tto (by omega)
              have MX : Hid (i * 1024 + k < maxLen) := Lib.hid (by simp only [maxLen]; omega)
              clear hyy
              go_wp2_with (first
                | (go_at_call 128
                   refine (HC.out _ HNEW.out).mono ?_
                   rintro e w2 ⟨rfl, hb2⟩
                   have z0 := X0.out _ hb2
                   have B3 := Lib.hid (HBN.out.trans (hb2.mono HBN.out.size)); have K3 := Lib.hid (HKN.out.below hb2 HKN.out.lt); have T3 := Lib.hid (HTN.out.below hb2)
                   clear hb2
                   obtain ⟨L, hL, hLl, hLm⟩ := T3.out
                   have LL := Lib.hid hLl; have LM := Lib.hid hLm; have OM := Lib.hid hL
                   clear hLl hLm hL)
                | (at_mapUpdate
                   go_must (refine wpList_mapUpdate_own _ rfl _ _ _ 186 rfl 3 187 law_int Tryz.underlying186 (unitElem (H := Unit)) (w.heap.size + 1) (i * 1024 + k) _ rfl OM.out MX.out _ _ _ rfl rfl hkey _ [] unitElem_mk ?_)
                   intro w4 hown4 hgrow4
                   have OW4 := Lib.hid hown4; have GW4 := Lib.hid hgrow4
                   clear hown4 hgrow4))
              have hown4 := OW4.out; have hgrow4 := GW4.out
              have T4 := Lib.hid (MapS.put (S' := StpE a p (Of (l.take i)) (es.take (k + 1))) LL.out LM.out hton hown4 (fun j => by rw [HSN.out]; exact HYES.out j))
              have B4 := Lib.hid (B3.out.grown hgrow4 B3.out.size (fun g hg => by cases hg; omega))
              have K4 := Lib.hid (K3.out.grown hgrow4 (by simp))
              clear hown4 hgrow4
              go_roundw
              case rel => exact ⟨k + 1, by go_num, by omega, T4, K4, B4⟩
              case measure => simp [intOf]; omega
            · rw [yes_f hyy] at HC
              have HNO := Lib.hid (fun t => stpE_no (a := a) (p := p) (S := Of (l.take i)) (es := es.take k) (x := ⟨tto, false, sl⟩) (fun h => hyy h.2) t)
              clear hyy
              go_wp2_with (go_at_call 128; refine (HC.out _ HNEW.out).mono ?_; rintro e w2 ⟨rfl, hb2⟩; have B3 := Lib.hid (HBN.out.trans (hb2.mono HBN.out.size)); have K3 := Lib.hid (HKN.out.below hb2 HKN.out.lt); have T3 := Lib.hid (HTN.out.below hb2); clear hb2)
              go_roundw
              case rel => exact ⟨k + 1, by go_num, by omega, Lib.hid (by rw [HSN.out]; exact (T3.out.congr fun i _ => (HNO.out i).symm).mono (by omega)), K3, B3⟩
              case measure => simp [intOf]; omega
        · obtain rfl : k = q := by omega
          have HST := Lib.hid (fun t => stp_snoc (p := p) (l := l.take i) HY.out t)
          have HSN := Lib.hid (take_snoc HX.out)
          go_wp2
          go_roundw
          case rel => exact ⟨i + 1, by go_num, by omega, Lib.hid (by rw [HSN.out]; have := HT.out; rw [show es.take k = es from List.take_of_length_le (by rw [HQ.out]; omega)] at this; exact (this.congr fun i _ => HST.out i).mono (by omega)), HK, HB⟩
          case measure => simp [intOf]; omega
    · obtain rfl : i = m := by omega
      have HTT := Lib.hid (show MapS Tryz.prog 3 wr (w.heap.size + 1) (i * 1024) n (Stp a p (Of l)) by have := HT.out; rwa [List.take_of_length_le (by rw [HM.out]; omega)] at this)
      obtain ⟨L, hL, hLl, hLm⟩ := HTT.out
      have HC := Lib.hid (auto_list (w.heap.size + 1) (i * 1024) L wr hL (by omega) hLm)
      clear hL hLl hLm
      go_wp2_with (go_at_call 127; refine HC.out.mono ?_; rintro e w2 ⟨v, rfl, hv, hb2⟩; have HV := Lib.hid (hv.lower HB.out.size); have HB3 := Lib.hid (HB.out.trans (hb2.mono HB.out.size)); clear hv hb2)
      go_ret
      exact ⟨v, rfl, HV.out, HB3.out⟩
end Go.Proofs.YtilhicefhhgecaaGreatDoor

namespace Pv
open Go Go.RowKit
/-- The edges of states that are not yet met. -/
def unm (a : Au) (L : List Int) : Nat := ((List.range a.length).map fun s : Nat => if (s : Int) ∈ L then 0 else (a.getD s []).length).sum
theorem unm_sum {f : Nat → Nat} {L : List Int} {s : Nat} (hs : (s : Int) ∉ L) : ∀ xs : List Nat, xs.Nodup →
    (xs.map fun x : Nat => if (x : Int) ∈ L then 0 else f x).sum = (xs.map fun x : Nat => if (x : Int) ∈ L ++ [(s : Int)] then 0 else f x).sum + if s ∈ xs then f s else 0
  | [], _ => by simp
  | x :: xs, h => by
    have ih := unm_sum (f := f) hs xs (List.nodup_cons.1 h).2
    simp only [List.map_cons, List.sum_cons]
    by_cases e : x = s
    · subst e
      have hx := (List.nodup_cons.1 h).1
      rw [if_neg hx] at ih
      rw [if_neg hs, if_pos (by simp), if_pos (by simp)]
      omega
    · have h1 : ((x : Int) ∈ L ++ [(s : Int)]) ↔ ((x : Int) ∈ L) := by
        rw [List.mem_append, List.mem_singleton]
        exact ⟨fun h => h.resolve_right (by omega), .inl⟩
      have h2 : (s ∈ x :: xs) ↔ (s ∈ xs) := by rw [List.mem_cons]; exact ⟨fun h => h.resolve_left (fun h => e h.symm), .inr⟩
      by_cases h3 : (x : Int) ∈ L
      · rw [if_pos h3, if_pos (h1.2 h3)]
        simp only [h2]
        omega
      · rw [if_neg h3, if_neg (fun h => h3 (h1.1 h))]
        simp only [h2]
        omega
theorem unm_snoc {a : Au} {L : List Int} {s : Nat} {es : List Ed} (hs : (s : Int) ∉ L) (he : a[s]? = some es) : unm a L = unm a (L ++ [(s : Int)]) + es.length := by
  unfold unm
  rw [unm_sum (f := fun s => (a.getD s []).length) hs _ List.nodup_range, if_pos (by simpa using lt_of_get he)]
  simp [List.getD, he]
theorem unm_nil (a : Au) : unm a [] = edgesS a := by
  have h : ∀ a : Au, ((List.range a.length).map fun s => (a.getD s []).length).sum = edgesS a := by
    intro a
    unfold edgesS
    congr 1
    apply List.ext_getElem?
    intro i
    rw [List.getElem?_map, List.getElem?_map]
    by_cases hi : i < a.length
    · rw [List.getElem?_range hi, List.getElem?_eq_getElem hi]; simp [List.getD, hi]
    · rw [List.getElem?_eq_none (by simpa using Nat.le_of_not_lt hi), List.getElem?_eq_none (Nat.le_of_not_lt hi)]; rfl
  rw [← h a]
  unfold unm
  simp
/-- States that wait, states that are met; D: edges that have been looked at. -/
structure RchR (a : Au) (S : Nat → Prop) (n : Nat) (W L : List Int) (D : Nat → Ed → Prop) : Prop where
  win : ∀ x, x ∈ W → ∃ s : Nat, s < n ∧ x = (s : Int) ∧ Clo a S s
  lin : ∀ x, x ∈ L → ∃ s : Nat, s < n ∧ x = (s : Int) ∧ Clo a S s
  base : ∀ s, S s → (s : Int) ∈ L ∨ (s : Int) ∈ W
  clos : ∀ (s : Nat) x (t : Nat), (s : Int) ∈ L → D s x → x.free = true → x.to = (t : Int) → (t : Int) ∈ L ∨ (t : Int) ∈ W
abbrev DAll (a : Au) : Nat → Ed → Prop := fun s x => ∃ es, a[s]? = some es ∧ x ∈ es
abbrev DOne (a : Au) (s : Nat) (es : List Ed) (k : Nat) : Nat → Ed → Prop := fun s' x => (s' ≠ s ∧ ∃ es, a[s']? = some es ∧ x ∈ es) ∨ (s' = s ∧ x ∈ es.take k)
section
variable {a : Au} {S : Nat → Prop} {n : Nat} {W L : List Int} {D : Nat → Ed → Prop}
theorem RchR.old {x : Int} (h : RchR a S n (W ++ [x]) L D) (hx : x ∈ L) : RchR a S n W L D := by
  have hm : ∀ y, y ∈ L ∨ y ∈ W ++ [x] → y ∈ L ∨ y ∈ W := fun y hy => by
    rcases hy with hy | hy
    · exact .inl hy
    · rcases List.mem_append.1 hy with hy | hy
      · exact .inr hy
      · rw [List.mem_singleton] at hy; subst hy; exact .inl hx
  exact ⟨fun y hy => h.win y (by simp [hy]), h.lin, fun s hs => hm _ (h.base s hs), fun s y t h1 h2 h3 h4 => hm _ (h.clos s y t h1 h2 h3 h4)⟩
theorem RchR.new {s : Nat} {es : List Ed} (h : RchR a S n (W ++ [(s : Int)]) L (DAll a)) : RchR a S n W (L ++ [(s : Int)]) (DOne a s es 0) := by
  have hm : ∀ y, y ∈ L ∨ y ∈ W ++ [(s : Int)] → y ∈ L ++ [(s : Int)] ∨ y ∈ W := fun y hy => by
    rcases hy with hy | hy
    · exact .inl (by simp [hy])
    · rcases List.mem_append.1 hy with hy | hy
      · exact .inr hy
      · exact .inl (by simp at hy; simp [hy])
  refine ⟨fun y hy => h.win y (by simp [hy]), fun y hy => ?_, fun t ht => hm _ (h.base t ht), fun t y u h1 h2 h3 h4 => ?_⟩
  · rcases List.mem_append.1 hy with hy | hy
    · exact h.lin y hy
    · exact h.win y (by simp at hy; simp [hy])
  · rcases h2 with ⟨h2, h5⟩ | ⟨_, h2⟩
    · refine hm _ (h.clos t y u ?_ h5 h3 h4)
      rcases List.mem_append.1 h1 with h1 | h1
      · exact h1
      · rw [List.mem_singleton] at h1; omega
    · simp at h2
theorem RchR.skip {s k : Nat} {es : List Ed} {x : Ed} (h : RchR a S n W L (DOne a s es k)) (hx : es[k]? = some x) (hf : x.free = false) : RchR a S n W L (DOne a s es (k + 1)) :=
  ⟨h.win, h.lin, h.base, fun t y u h1 h2 h3 h4 => by
    rcases h2 with h2 | ⟨h2, h5⟩
    · exact h.clos t y u h1 (.inl h2) h3 h4
    · rw [take_snoc hx] at h5
      rcases List.mem_append.1 h5 with h5 | h5
      · exact h.clos t y u h1 (.inr ⟨h2, h5⟩) h3 h4
      · rw [List.mem_singleton] at h5; subst h5; rw [hf] at h3; cases h3⟩
theorem RchR.push {s k q : Nat} {es : List Ed} {x : Ed} (h : RchR a S n W L (DOne a s es k)) (hx : es[k]? = some x) (hf : x.free = true) (hs : Clo a S s) (he : a[s]? = some es) (hq : x.to = (q : Int)) (hqn : q < n) : RchR a S n (W ++ [(q : Int)]) L (DOne a s es (k + 1)) :=
  ⟨fun y hy => by
    rcases List.mem_append.1 hy with hy | hy
    · exact h.win y hy
    · rw [List.mem_singleton] at hy; exact ⟨q, hqn, hy, .step hs ⟨es, x, he, mem_of_get hx, hf, hq⟩⟩,
   h.lin, fun t ht => (h.base t ht).imp_right fun h => by simp [h], fun t y u h1 h2 h3 h4 => by
    rcases h2 with h2 | ⟨h2, h5⟩
    · exact (h.clos t y u h1 (.inl h2) h3 h4).imp_right fun h => by simp [h]
    · rw [take_snoc hx] at h5
      rcases List.mem_append.1 h5 with h5 | h5
      · exact (h.clos t y u h1 (.inr ⟨h2, h5⟩) h3 h4).imp_right fun h => by simp [h]
      · rw [List.mem_singleton] at h5; subst h5
        exact .inr (by rw [hq] at h4; simp [h4])⟩
theorem RchR.all {s k : Nat} {es : List Ed} (h : RchR a S n W L (DOne a s es k)) (he : a[s]? = some es) (hk : es.length ≤ k) : RchR a S n W L (DAll a) :=
  ⟨h.win, h.lin, h.base, fun t y u h1 h2 h3 h4 => by
    refine h.clos t y u h1 ?_ h3 h4
    obtain ⟨es', h5, h6⟩ := h2
    by_cases e : t = s
    · subst e
      obtain rfl := Option.some.inj (h5.symm.trans he)
      exact .inr ⟨rfl, by rw [List.take_of_length_le hk]; exact h6⟩
    · exact .inl ⟨e, es', h5, h6⟩⟩
theorem RchR.start {l : List Int} (h : InAu n l) : RchR a (Of l) n l [] D :=
  ⟨fun x hx => ⟨x.toNat, by have := h x hx; omega, by have := h x hx; omega, .base (by show ((x.toNat : Nat) : Int) ∈ l; rw [Int.toNat_of_nonneg (h x hx).1]; exact hx)⟩, fun x hx => by simp at hx, fun s hs => .inr hs, fun s x t h1 => by simp at h1⟩
theorem RchR.fin (h : RchR a S n [] L (DAll a)) (x : Int) : x ∈ L ↔ x ∈ stL n (Clo a S) := by
  rw [stL_mem]
  constructor
  · intro hx; obtain ⟨s, h1, h2, h3⟩ := h.lin x hx; exact ⟨s, h1, h3, h2⟩
  · rintro ⟨s, h1, h2, rfl⟩
    refine Clo.least (T := fun s => (s : Int) ∈ L) (fun s hs => (h.base s hs).resolve_right (by simp)) (fun s t hs ⟨es, y, h3, h4, h5, h6⟩ => ?_) h2
    exact (h.clos s y t hs ⟨es, h3, h4⟩ h5 h6).resolve_right (by simp)
end
/-- What the call owns, without its last element. -/
theorem ownsRow_less {w : World} {b e n c : Nat} {A : Option Addr} {us : List Value} {u : Value} (h : w.ownsRow b e 1 (.slice A (n + 1) c) (n + 1) (us ++ [u])) : w.ownsRow b e 1 (.slice A n c) n us := by
  refine ⟨by have := h.1; simp at this ⊢; exact this, ?_⟩
  rcases h.2 with ⟨hv, h0⟩ | ⟨g, cap, cur, hv, hg, hh, hnc, hcm, hcs, htk⟩
  · omega
  · injection hv with e1 e2 e3
    subst e1; subst e3
    refine .inr ⟨g, c, cur, rfl, hg, hh, by omega, hcm, hcs, ?_⟩
    have hl : us.length = n := by have := h.1; simp at this; exact this
    have := congrArg (List.take n) htk
    rw [List.take_take, List.take_left' hl] at this
    rw [← this]
    congr 1
    omega
end Pv
namespace Go.Proofs.YtilhicefhhgecaaGreatDoor
open Go.RowKit Go.Maps Pv

/-- Where the program's reach stands: N: how much is still to do. -/
def RchN (w : World) (A : Option Addr) (n c : Nat) (acc : Int) (a : Au) (S : Nat → Prop) (m : Nat) (N : Nat) (wv : Value) (wr : World) : Prop :=
  ∃ (W L : List Int) (lA : Option Addr) (j lc : Nat), wv = .slice lA j lc ∧ j = W.length ∧ wr.ownsRow (w.heap.size + 2) 3 1 (.slice lA j lc) j (W.map (Value.int .i64)) ∧ wr.ownsMap Tryz.prog 3 unitElem (w.heap.size + 1) L.length (setM L) ∧
    RchR a S n W L (DAll a) ∧ j + unm a L = N ∧ L.length + N ≤ m + 1024 ∧ Blk wr w.heap.size TAuto #[.slice A n c, .int .i64 acc] ∧ Below w.heap.size w wr

set_option maxHeartbeats 4000000 in
set_option maxRecDepth 100000 in
theorem auto_reach (A : Option Addr) (c n : Nat) (acc : Int) (a : Au) (lA : Option Addr) (lc m : Nat) (l : List Int) (w : World) (ha : AtAu w A a) (HL : Hid (a.length = n)) (hl : At w lA RI l) (HM : Hid (l.length = m)) (hok : AuOk a acc) (hin : InAu n l) (hm : m ≤ 1000000) :
    Calls Tryz.prog 87 #[.agg #[.slice A n c, .int .i64 acc], .slice lA m lc] w fun e w' => ∃ v, e = .returned v ∧ OwnI w' w.heap.size v (stL n (Clo a (Of l))) ∧ Below w.heap.size w w' := by
  have hmm := @run_makeMap Tryz.prog
  obtain ⟨i0, hi0, hz0, hs0, hb0⟩ := info_parts info_int9
  have hn : n ≤ 256 := by have := hok.few; rwa [HL.out] at this
  have HA := Lib.hid ha; have HOK := Lib.hid hok
  have HB0 := Lib.hid (((Below.refl w.heap.size w).alloc (Nat.le_refl _) (.cells #[.slice A n c, .int .i64 acc] TAuto)).alloc (by simp) (.map #[] 0))
  have e1 : (w.alloc (.cells #[.slice A n c, .int .i64 acc] TAuto)).heap.size = w.heap.size + 1 := by simp
  have e2 : ((w.alloc (.cells #[.slice A n c, .int .i64 acc] TAuto)).alloc (.map #[] 0)).heap.size = w.heap.size + 2 := by simp
  have HCL := clone_int lA m lc l ((w.alloc (.cells #[.slice A n c, .int .i64 acc] TAuto)).alloc (.map #[] 0)) hm (hl.keep (Keep.of HB0.out)) HM
  rw [e2] at HCL
  have HCL := Lib.hid HCL
  have M0 := Lib.hid (World.ownsMap_made (H := Unit) (w.alloc (.cells #[.slice A n c, .int .i64 acc] TAuto)) Tryz.prog 3 unitElem)
  rw [e1] at M0
  have K0 := Lib.hid ((Blk.new w TAuto #[.slice A n c, .int .i64 acc]).alloc (.map #[] 0))
  have HS0 := Lib.hid (RchR.start (a := a) (D := DAll a) hin)
  have HU0 := Lib.hid (show m + unm a [] ≤ m + 1024 by have := hok.edges; rw [unm_nil]; omega)
  clear ha hl hok hin e1
  go_enter Tryz.func87, Tryz.ntmps87
  go_wp2_with (go_at_call 126; refine HCL.out.mono ?_; rintro e w1 ⟨A1, c1, rfl, how, hb1⟩; have HOW := Lib.hid how; have HBX := Lib.hid hb1; clear how hb1)
  have HR0 : Hid (RchN w A n c acc a (Of l) m (m + unm a []) (.slice A1 m c1) w1) := Lib.hid ⟨l, [], A1, m, c1, rfl, HM.out.symm, HOW.out, ownsMap_block M0.out (HBX.out.block _ (by simp)), HS0.out, rfl, by have := HU0.out; simp; omega, K0.out.below HBX.out (by simp), HB0.out.trans (HBX.out.mono (by simp))⟩
  clear e2
  go_loopw [6] (fun wv wr => ∃ N, RchN w A n c acc a (Of l) m N wv wr) (fun wv wr => leastN fun N => RchN w A n c acc a (Of l) m N wv wr)
  case atStart => exact ⟨_, HR0.out⟩
  case round =>
    clear HR0 HOW HBX
    obtain ⟨N0, hN0⟩ : ∃ N0, N0 = leastN fun N => RchN w A n c acc a (Of l) m N u6 wr := ⟨_, rfl⟩
    have hR := leastN_spec hrel
    rw [← hN0] at hR
    clear hrel
    have HN0 := Lib.hid hN0
    clear hN0
    obtain ⟨W, L, lA, j, lc, rfl, hj, how, hmap, hrch, hN, hLN, hK, hB⟩ := hR
    have HW := Lib.hid how; have HMP := Lib.hid hmap; have HRC := Lib.hid hrch; have HK := Lib.hid hK; have HB := Lib.hid hB
    have HJ := Lib.hid hj; have HNN := Lib.hid hN
    have hjl : j ≤ m + 1024 := by omega
    have hLl : L.length ≤ m + 1024 := by omega
    have HLN := Lib.hid hLN
    clear how hmap hrch hK hB hj hN hLN
    by_cases hj0 : j = 0
    · subst hj0
      have hW0 : W = [] := List.eq_nil_of_length_eq_zero HJ.out.symm
      subst hW0
      have HC := Lib.hid (auto_list (w.heap.size + 1) L.length L wr HMP.out (by omega) HRC.out.fin)
      go_wp2_with (go_at_call 127; refine HC.out.mono ?_; rintro e w2 ⟨v, rfl, hv, hb2⟩; have HV := Lib.hid (hv.lower HB.out.size); have HB3 := Lib.hid (HB.out.trans (hb2.mono HB.out.size)); clear hv hb2)
      go_ret
      exact ⟨v, rfl, HV.out, HB3.out⟩
    · obtain ⟨q, rfl⟩ : ∃ q, j = q + 1 := ⟨j - 1, by omega⟩
      obtain ⟨W0, x, hWx⟩ : ∃ W0 x, W = W0 ++ [x] := ⟨W.dropLast, W.getLast (by intro h; rw [h] at HJ; have := HJ.out; simp at this), (List.dropLast_concat_getLast _).symm⟩
      subst hWx
      have HQ : Hid (q = W0.length) := Lib.hid (by have := HJ.out; simp at this; exact this)
      obtain ⟨s, hsn, rfl, hclo⟩ := HRC.out.win x (by simp)
      obtain ⟨g, rfl, hgl, hgc⟩ := own_get1 (k := q) (u := .int .i64 (s : Int)) HW.out (by rw [List.map_append, List.getElem?_append_right (by rw [List.length_map, ← HQ.out]; exact Nat.le_refl _), List.length_map, ← HQ.out]; simp)
      have HPOP : Hid (wr.ownsRow (w.heap.size + 2) 3 1 (.slice (some ⟨g, 0, none⟩) q lc) q (W0.map (Value.int .i64))) := Lib.hid (ownsRow_less (u := .int .i64 (s : Int)) (by have := HW.out; rwa [List.map_append] at this))
      have hcap : q + 1 ≤ lc := by
        rcases HW.out.2 with ⟨hv, h0⟩ | ⟨g', cap, cur, hv, hg', hh, hnc, _⟩
        · omega
        · injection hv with e1 e2 e3
          omega
      have hkey := key_int s (by omega)
      have HCLO := Lib.hid hclo
      obtain ⟨p0, p1, _, _⟩ := Blk.two HK.out
      have hN := HK.out.lt
      have hml := HMP.out.lt
      have i1 : (0 : Int) ≤ (q : Int) := by omega
      have i2 : ((q : Int) + 1 - 1) = (q : Int) := by omega
      have i3 : (0 : Int) ≤ (s : Int) := by omega
      have i4 : (s : Int) < (n : Int) := by omega
      have HLK := Lib.hid (setM_has L (s : Int))
      clear hclo hj0 i2
      by_cases hmem : (s : Int) ∈ L
      · have hh : Maps.has (setM L) (litI (s : Int)) = true := by rw [HLK.out]; exact decide_eq_true hmem
        have HRO := Lib.hid (HRC.out.old hmem)
        clear hmem
        go_wp2_with (first
          | (at_lookup; go_must (refine wpList_lookup_own_unit _ rfl _ _ 186 rfl 3 187 law_int Tryz.underlying186 (zero_unit _) (w.heap.size + 1) L.length (setM L) rfl HMP.out _ _ rfl hkey ?_)))
        have HFN : Hid (RchN w A n c acc a (Of l) m (q + unm a L) (.slice (some ⟨g, 0, none⟩) q lc) (wr.alloc (.cells #[] 187))) := Lib.hid ⟨W0, L, _, q, lc, rfl, HQ.out, HPOP.out.alloc _, ownsMap_block HMP.out (Below.heap_alloc _ _ _ hml), HRO.out, rfl, by have h1 := HNN.out; have h2 := HLN.out; omega, HK.out.alloc _, HB.out.alloc HB.out.size _⟩
        go_roundw
        case rel => exact ⟨_, HFN.out⟩
        case measure => exact Nat.lt_of_le_of_lt (leastN_le HFN.out) (Nat.lt_of_lt_of_eq (by have h1 := HNN.out; omega : q + unm a L < N0) HN0.out)
      · have hh : Maps.has (setM L) (litI (s : Int)) = false := by rw [HLK.out]; exact decide_eq_false hmem
        obtain ⟨b2, o2, S, e, cs, es, rfl, hb2, c2, hS, HE, hec, HY⟩ := AtAu.gt HA.out HL hsn
        have HES := Lib.hid hS
        have he : e ≤ 1024 := by have h1 := le_edgesS (mem_of_get HY.out); have h2 := HOK.out.edges; rw [HE.out] at h1; omega
        have HEX := Lib.hid (HOK.out.each es (mem_of_get HY.out))
        have HC2 := Lib.hid c2; have HH2 := Lib.hid hb2
        have HRN := Lib.hid (HRC.out.new (es := es))
        have HUN := Lib.hid (show unm a L = unm a (L ++ [(s : Int)]) + e by rw [unm_snoc hmem HY.out, HE.out])
        have MX : Hid (L.length < maxLen) := Lib.hid (by simp only [maxLen]; omega)
        clear hmem hS
        have c2 := ((Keep.of HB.out).cell _ _ hb2).trans c2
        have hb2 := Nat.lt_of_lt_of_le hb2 HB.out.size
        have MA := Lib.hid (ownsMap_block (w' := wr.alloc (.cells #[] 187)) HMP.out (Below.heap_alloc _ _ _ hml))
        go_wp2_with (first
          | (at_lookup; go_must (refine wpList_lookup_own_unit _ rfl _ _ 186 rfl 3 187 law_int Tryz.underlying186 (zero_unit _) (w.heap.size + 1) L.length (setM L) rfl HMP.out _ _ rfl hkey ?_))
          | (at_mapUpdate
             go_must (refine wpList_mapUpdate_own _ rfl _ _ _ 186 rfl 3 187 law_int Tryz.underlying186 (unitElem (H := Unit)) (w.heap.size + 1) L.length _ rfl MA.out MX.out _ _ _ rfl rfl hkey _ [] unitElem_mk ?_)
             intro w4 hown4 hgrow4
             have OW4 := Lib.hid hown4; have GW4 := Lib.hid hgrow4
             have B4 := Lib.hid ((HB.out.alloc HB.out.size (.cells #[] 187)).grown hgrow4 (by have := HB.out.size; simp; omega) (fun g hg => by cases hg; omega))
             have K4 := Lib.hid ((HK.out.alloc (.cells #[] 187)).grown hgrow4 (by simp))
             obtain ⟨p0, p1, _, _⟩ := Blk.two K4.out
             have hN := K4.out.lt
             have c2 := ((Keep.of B4.out).cell _ _ HH2.out).trans HC2.out
             have hb2 := Nat.lt_of_lt_of_le HH2.out B4.out.size
             clear hown4 hgrow4))
        have O4 := Lib.hid ((HPOP.out.alloc (.cells #[] 187)).kept GW4.out (.inr (fun h => by have := own_ge HPOP.out _ h; omega)))
        have M4 := Lib.hid (show w4.ownsMap Tryz.prog 3 unitElem (w.heap.size + 1) (L.length + 1) (setM (L ++ [(s : Int)])) by have := OW4.out; rwa [setM_put] at this)
        have HJ0 := Lib.hid (show q + unm a (L ++ [(s : Int)]) + (e - 0) + 1 ≤ N0 by have h1 := HNN.out; have h2 := HUN.out; omega)
        have HN0L := Lib.hid (show N0 ≤ m + 1024 by have := HLN.out; omega)
        clear OW4 GW4
        go_loopw [45, 6] (fun kv wv wr => ∃ (k j : Nat) (W : List Int) (lA : Option Addr) (lc : Nat), kv = .int .i64 k ∧ k ≤ e ∧ wv = .slice lA j lc ∧ j ≤ m + 1024 ∧ Hid (j = W.length) ∧ Hid (wr.ownsRow (w.heap.size + 2) 3 1 (.slice lA j lc) j (W.map (Value.int .i64))) ∧ Hid (wr.ownsMap Tryz.prog 3 unitElem (w.heap.size + 1) (L.length + 1) (setM (L ++ [(s : Int)]))) ∧ Hid (RchR a (Of l) n W (L ++ [(s : Int)]) (DOne a s es k)) ∧ Hid (j + unm a (L ++ [(s : Int)]) + (e - k) + 1 ≤ N0) ∧ Hid (Blk wr w.heap.size TAuto #[.slice (some ⟨b2, o2, none⟩) n c, .int .i64 acc]) ∧ Hid (Below w.heap.size w wr)) (fun kv _ _ => e - (intOf kv).toNat)
        case atStart => exact ⟨0, q, W0, _, lc, rfl, by omega, rfl, by omega, HQ, O4, M4, HRN, HJ0, K4, B4⟩
        case round =>
          clear p0 p1 c2 hb2 O4 M4 HJ0 K4 B4
          obtain ⟨k, j, W, lA, lc, rfl, hk, rfl, hjm, HJ, HW, HMP, HRC, HJN, HK, HB⟩ := hrel
          by_cases hkt : k < e
          · obtain ⟨b3, o3, tto, fr, T, tq, tc, sl, rfl, hb3, ⟨d0, d1, d2⟩, hset, HTQ, htc, hto, HZ⟩ := AtEd.gt (AtEd.keep HES.out (Keep.of HB.out)) HE hkt
            have hx := HEX.out _ (mem_of_get HZ.out)
            simp only at hx
            obtain ⟨x0, x1, x2, x3⟩ := hx
            obtain ⟨tto, rfl⟩ := Int.eq_ofNat_of_zero_le x0
            rw [HL.out] at x1
            have hton : tto < n := by omega
            have i5 : (0 : Int) ≤ (k : Int) := by omega
            have i6 : (k : Int) < (e : Int) := by omega
            have hml := HMP.out.lt
            have HBN := Lib.hid (HB.out.alloc HB.out.size (.cells #[.int .i64 tto, .bool fr, .slice T tq tc] TEdge))
            have HKN := Lib.hid (HK.out.alloc (.cells #[.int .i64 tto, .bool fr, .slice T tq tc] TEdge))
            have HWN := Lib.hid (HW.out.alloc (.cells #[.int .i64 tto, .bool fr, .slice T tq tc] TEdge))
            have HMN := Lib.hid (ownsMap_block (w' := wr.alloc (.cells #[.int .i64 tto, .bool fr, .slice T tq tc] TEdge)) HMP.out (Below.heap_alloc _ _ _ hml))
            clear hset x2 x3
            cases fr
            case false =>
              have HRS := Lib.hid (HRC.out.skip HZ.out rfl)
              have HJ2 := Lib.hid (show j + unm a (L ++ [(s : Int)]) + (e - (k + 1)) + 1 ≤ N0 by have := HJN.out; omega)
              go_wp2
              go_roundw
              case rel => exact ⟨k + 1, j, W, lA, lc, by go_num, by omega, rfl, hjm, HJ, HWN, HMN, HRS, HJ2, HKN, HBN⟩
              case measure => simp [intOf]; omega
            case true =>
              have HRS := Lib.hid (HRC.out.push HZ.out rfl HCLO.out HY.out rfl hton)
              have HJ2 := Lib.hid (show (j + 1) + unm a (L ++ [(s : Int)]) + (e - (k + 1)) + 1 ≤ N0 by have := HJN.out; omega)
              have hjm2 : j + 1 ≤ m + 1024 := by have h1 := HJ2.out; have h2 := HN0L.out; omega
              have Q1 : Hid (j + 1 ≤ maxLen) := Lib.hid (by simp only [maxLen]; omega)
              have Q2 : Hid ((j + 1) * 8 ≤ 140737488355328) := Lib.hid (by omega)
              have BN2 := Lib.hid (HBN.out.alloc HBN.out.size (.cells #[.int .i64 tto] 3))
              have KN2 := Lib.hid (HKN.out.alloc (.cells #[.int .i64 tto] 3))
              have MN2 := Lib.hid (ownsMap_block (w' := (wr.alloc (.cells #[.int .i64 tto, .bool true, .slice T tq tc] TEdge)).alloc (.cells #[.int .i64 tto] 3)) HMN.out (Below.heap_alloc _ _ _ HMN.out.lt))
              have Q3 : Hid (w.heap.size + 2 ≤ ((wr.alloc (.cells #[.int .i64 tto, .bool true, .slice T tq tc] TEdge)).alloc (.cells #[.int .i64 tto] 3)).heap.size) := Lib.hid (by simp; omega)
              have Q4 : Hid (w.heap.size ≤ ((wr.alloc (.cells #[.int .i64 tto, .bool true, .slice T tq tc] TEdge)).alloc (.cells #[.int .i64 tto] 3)).heap.size) := Lib.hid (by have := Q3.out; omega)
              have SRC := Pv.Src.one (w := wr.alloc (.cells #[.int .i64 tto, .bool true, .slice T tq tc] TEdge)) (x := .int .i64 tto) (t := 3) rfl
              rw [show (wr.alloc (.cells #[.int .i64 tto, .bool true, .slice T tq tc] TEdge)).heap.size = wr.heap.size + 1 by simp] at SRC
              have SRC := Lib.hid SRC
              have OW := Lib.hid (HWN.out.alloc (.cells #[.int .i64 tto] 3))
              go_wp2_with (first
                | (at_builtin
                   go_must (refine wpList_append_src _ rfl (.tmp 51) (.tmp 54) 22 rfl (w.heap.size + 2) 3 i0 (.int .i64 0) 1 8 Tryz.underlying22 hi0 hz0 hs0 hb0 rfl (by decide) lA lc j _ rfl OW.out _ 1 1 _ rfl SRC.out Q1.out Q2.out Q3.out ?_)
                   intro A5 c5 w5 own5 gr5 _
                   have hge : ∀ g, (Value.slice lA j lc).ownBlock = some g → w.heap.size + 2 ≤ g := fun g hg => (OW.out.lt g hg).1
                   have B5 := Lib.hid (BN2.out.grown gr5 Q4.out (fun g hg => by have := hge g hg; omega))
                   have K5 := Lib.hid (KN2.out.grown gr5 (fun h => by have := hge _ h.symm; omega))
                   have M5 := Lib.hid (World.ownsMap.kept MN2.out gr5 (fun h => by have := hge _ h.symm; omega))
                   have O5 := Lib.hid own5
                   clear own5 gr5 hge))
              go_roundw
              case rel => exact ⟨k + 1, j + 1, W ++ [(tto : Int)], A5, c5, by go_num, by omega, rfl, hjm2, Lib.hid (by rw [List.length_append, ← HJ.out]; rfl), Lib.hid (by rw [List.map_append]; exact O5.out), M5, HRS, HJ2, K5, B5⟩
              case measure => simp [intOf]; omega
          · obtain rfl : k = e := by omega
            have HFN : Hid (RchN w (some ⟨b2, o2, none⟩) n c acc a (Of l) m (j + unm a (L ++ [(s : Int)])) (.slice lA j lc) wr) := Lib.hid ⟨W, L ++ [(s : Int)], lA, j, lc, rfl, HJ.out, HW.out, by rw [List.length_append]; exact HMP.out, HRC.out.all HY.out (by rw [HE.out]; exact Nat.le_refl _), rfl, by have h1 := HJN.out; have h2 := HLN.out; rw [List.length_append, List.length_singleton]; omega, HK.out, HB.out⟩
            go_wp2
            go_roundw
            case rel => exact ⟨_, HFN.out⟩
            case measure => exact Nat.lt_of_le_of_lt (leastN_le HFN.out) (Nat.lt_of_lt_of_eq (by have h1 := HJN.out; omega : j + unm a (L ++ [(s : Int)]) < N0) HN0.out)
end Go.Proofs.YtilhicefhhgecaaGreatDoor

namespace Pv
open Go Go.RowKit Go.Proofs.YtilhicefhhgecaaGreatDoor
theorem of_stL {n : Nat} {S : Nat → Prop} (h : ∀ s, S s → s < n) : Of (stL n S) = S := by
  funext s
  refine propext ⟨fun hs => ?_, fun hs => (stL_of (h s hs)).2 hs⟩
  obtain ⟨t, h1, h2, h3⟩ := stL_mem.1 (show (s : Int) ∈ stL n S from hs)
  obtain rfl : s = t := by omega
  exact h2
theorem of_zero : Of [(0 : Int)] = fun s => s = 0 := by
  funext s
  refine propext ?_
  simp only [Of, List.mem_singleton]
  omega
theorem stp_in {a : Au} {acc : Int} {p : Int} {S : Nat → Prop} (h : AuOk a acc) {t : Nat} (ht : Stp a p S t) : t < a.length := by
  obtain ⟨s, _, es, x, h1, h2, h3, h4, h5⟩ := ht
  have := (h.each es (mem_of_get h1) x h2).2.1
  omega
end Pv
namespace Go.Proofs.YtilhicefhhgecaaGreatDoor
open Go.RowKit Go.Maps Pv

set_option maxHeartbeats 1000000 in
set_option maxRecDepth 100000 in
theorem auto_Reach (A : Option Addr) (c n : Nat) (acc : Int) (a : Au) (lA : Option Addr) (lc m : Nat) (l : List Int) (w : World) (ha : AtAu w A a) (HL : Hid (a.length = n)) (hl : At w lA RI l) (HM : Hid (l.length = m)) (hm : m ≤ 1000000) :
    Calls Tryz.prog 48 #[.agg #[.slice A n c, .int .i64 acc], .slice lA m lc] w fun e w' => (∃ v, e = .returned (.tuple #[v, .int .i64 (askE a acc l)]) ∧ OwnI w' w.heap.size v (reachL a acc l)) ∧ Below w.heap.size w w' := by
  have HB0 := Lib.hid ((Below.refl w.heap.size w).alloc (Nat.le_refl _) (.cells #[.slice A n c, .int .i64 acc] TAuto))
  have K0 := Lib.hid (Blk.new w TAuto #[.slice A n c, .int .i64 acc])
  have HAK := Lib.hid (auto_asked A c n acc a lA lc m l _ (ha.keep (Keep.of HB0.out)) HL (hl.keep (Keep.of HB0.out)) HM)
  have HA := Lib.hid ha; have HLL := Lib.hid hl
  have hc := acase a acc l
  clear ha hl
  cases hc
  case ok h h2 e =>
    have HLE := Lib.hid (reachL_yes e)
    rw [e] at HAK
    rw [e, HLE.out]
    rw [HL.out] at h2 HLE ⊢
    have HC := Lib.hid (fun W (hb : Below w.heap.size w W) => auto_reach A c n acc a lA lc m l W (HA.out.keep (Keep.of hb)) HL (HLL.out.keep (Keep.of hb)) HM h h2 hm)
    clear e h h2
    go_enter Tryz.func48, Tryz.ntmps48
    go_wp2_with (go_at_call 86; refine HAK.out.mono ?_; rintro e w1 ⟨rfl, hb1⟩; have HB1 := Lib.hid (HB0.out.trans (hb1.mono (by simp))); obtain ⟨p0, p1, _, _⟩ := Blk.two (K0.out.below hb1 (by simp)); clear hb1)
    refine (HC.out _ HB1.out).mono ?_
    rintro e w2 ⟨v, rfl, hv, hb2⟩
    have HV := Lib.hid (hv.lower HB1.out.size)
    have HB2 := Lib.hid (HB1.out.trans (hb2.mono HB1.out.size))
    clear hv hb2
    go_wp2
    go_ret2
    exact ⟨⟨v, rfl, HV.out⟩, HB2.out⟩
  all_goals
    rename_i e
    have HLE := Lib.hid (reachL_no e (by omega))
    rw [e] at HAK
    rw [e, HLE.out]
    clear e
    go_enter Tryz.func48, Tryz.ntmps48
    go_wp2_with (go_at_call 86; refine HAK.out.mono ?_; rintro e w1 ⟨rfl, hb1⟩; have HB1 := Lib.hid (HB0.out.trans (hb1.mono (by simp))); clear hb1)
    go_ret2
    exact ⟨⟨_, rfl, OwnI.nil _ _⟩, HB1.out⟩

set_option maxHeartbeats 1000000 in
set_option maxRecDepth 100000 in
theorem auto_Step (A : Option Addr) (c n : Nat) (acc : Int) (a : Au) (lA : Option Addr) (lc m : Nat) (l : List Int) (p : Int) (w : World) (ha : AtAu w A a) (HL : Hid (a.length = n)) (hl : At w lA RI l) (HM : Hid (l.length = m)) (hm : m ≤ 1000000) :
    Calls Tryz.prog 49 #[.agg #[.slice A n c, .int .i64 acc], .slice lA m lc, .int .i64 p] w fun e w' => (∃ v, e = .returned (.tuple #[v, .int .i64 (askE a acc l)]) ∧ OwnI w' w.heap.size v (stepL a acc l p)) ∧ Below w.heap.size w w' := by
  have HB0 := Lib.hid ((Below.refl w.heap.size w).alloc (Nat.le_refl _) (.cells #[.slice A n c, .int .i64 acc] TAuto))
  have K0 := Lib.hid (Blk.new w TAuto #[.slice A n c, .int .i64 acc])
  have HAK := Lib.hid (auto_asked A c n acc a lA lc m l _ (ha.keep (Keep.of HB0.out)) HL (hl.keep (Keep.of HB0.out)) HM)
  have HA := Lib.hid ha; have HLL := Lib.hid hl
  have hc := acase a acc l
  clear ha hl
  cases hc
  case ok h h2 e =>
    have HLE := Lib.hid (stepL_yes (p := p) e)
    rw [e] at HAK
    rw [e, HLE.out]
    rw [HL.out] at h2 HLE ⊢
    have HC := Lib.hid (fun W (hb : Below w.heap.size w W) => auto_step A c n acc a lA lc m l p W (HA.out.keep (Keep.of hb)) HL (HLL.out.keep (Keep.of hb)) HM h h2 hm)
    clear e h h2
    go_enter Tryz.func49, Tryz.ntmps49
    go_wp2_with (go_at_call 86; refine HAK.out.mono ?_; rintro e w1 ⟨rfl, hb1⟩; have HB1 := Lib.hid (HB0.out.trans (hb1.mono (by simp))); obtain ⟨p0, p1, _, _⟩ := Blk.two (K0.out.below hb1 (by simp)); clear hb1)
    refine (HC.out _ HB1.out).mono ?_
    rintro e w2 ⟨v, rfl, hv, hb2⟩
    have HV := Lib.hid (hv.lower HB1.out.size)
    have HB2 := Lib.hid (HB1.out.trans (hb2.mono HB1.out.size))
    clear hv hb2
    go_wp2
    go_ret2
    exact ⟨⟨v, rfl, HV.out⟩, HB2.out⟩
  all_goals
    rename_i e
    have HLE := Lib.hid (stepL_no (p := p) e (by omega))
    rw [e] at HAK
    rw [e, HLE.out]
    clear e
    go_enter Tryz.func49, Tryz.ntmps49
    go_wp2_with (go_at_call 86; refine HAK.out.mono ?_; rintro e w1 ⟨rfl, hb1⟩; have HB1 := Lib.hid (HB0.out.trans (hb1.mono (by simp))); clear hb1)
    go_ret2
    exact ⟨⟨_, rfl, OwnI.nil _ _⟩, HB1.out⟩

end Go.Proofs.YtilhicefhhgecaaGreatDoor

namespace Go.Proofs.YtilhicefhhgecaaGreatDoor
open Go.RowKit Pv

abbrev TLI : TypeId := 3
abbrev TLL : TypeId := 22
theorem OwnI.grown {w w' : World} {b : Nat} {u : Value} {l : List Int} {r : Option Nat} (h : OwnI w b u l) (hg : w.grownBy w' r) (hn : u.ownBlock = none ∨ u.ownBlock ≠ r) : OwnI w' b u l := by
  obtain ⟨A, c, rfl, h1⟩ := h
  exact ⟨A, c, rfl, h1.kept hg hn⟩
theorem OwnI.lt {w : World} {b g : Nat} {u : Value} {l : List Int} (h : OwnI w b u l) (hg : u.ownBlock = some g) : b ≤ g ∧ g < w.heap.size := by
  obtain ⟨A, c, rfl, h1⟩ := h
  exact h1.lt g hg
/-- A list of lists of the call's own; none of these lies in block x. -/
def Ls (w : World) (base : Nat) (x : Option Nat) (v : Value) (ll : List (List Int)) : Prop :=
  ∃ A c us, v = .slice A ll.length c ∧ w.ownsRow base TLL 1 (.slice A ll.length c) ll.length us ∧ Rel (fun u l => OwnI w base u l ∧ (u.ownBlock = none ∨ u.ownBlock ≠ x)) us ll
section
variable {w w' : World} {base : Nat} {x : Option Nat} {v : Value} {ll : List (List Int)}
theorem Ls.nil (w : World) (base : Nat) (x : Option Nat) : Ls w base x (.slice none 0 0) [] := ⟨none, 0, [], rfl, World.ownsRow_nil _ _ _ _, Rel.nil⟩
theorem Ls.below (h : Ls w base x v ll) (hb : Below w.heap.size w w') : Ls w' base x v ll := by
  obtain ⟨A, c, us, rfl, h1, h2⟩ := h
  exact ⟨A, c, us, rfl, ownsRow_below h1 hb, h2.mono fun u l h => ⟨OwnI.below h.1 hb, h.2⟩⟩
theorem Ls.bare (h : Ls w base x v ll) : Ls w base none v ll := by
  obtain ⟨A, c, us, rfl, h1, h2⟩ := h
  exact ⟨A, c, us, rfl, h1, h2.mono fun u l h => ⟨h.1, by cases hu : u.ownBlock with | none => exact .inl rfl | some g => exact .inr (by simp)⟩⟩
/-- A block beyond all that is there. -/
theorem Ls.fresh {g : Nat} (h : Ls w base x v ll) (hg : w.heap.size ≤ g) : Ls w base (some g) v ll := by
  obtain ⟨A, c, us, rfl, h1, h2⟩ := h
  exact ⟨A, c, us, rfl, h1, h2.mono fun u l h => ⟨h.1, by
    cases hu : u.ownBlock with
    | none => exact .inl rfl
    | some k => have := (h.1.lt hu).2; exact .inr (by simp; omega)⟩⟩
theorem Ls.lower {b : Nat} (h : Ls w base x v ll) (hb : b ≤ base) : Ls w b x v ll := by
  obtain ⟨A, c, us, rfl, ⟨h0, h1⟩, h2⟩ := h
  refine ⟨A, c, us, rfl, ⟨h0, ?_⟩, h2.mono fun u l h => ⟨OwnI.lower h.1 hb, h.2⟩⟩
  rcases h1 with h1 | ⟨g, cap, cur, hv, hg, r⟩
  · exact .inl h1
  · exact .inr ⟨g, cap, cur, hv, Nat.le_trans hb hg, r⟩
/-- Behind an append onto a row of other elements. -/
theorem Ls.other {b s n : Nat} {e : TypeId} {rv : Value} {us' : List Value} (h : Ls w base x v ll) (hr : w.ownsRow b e s rv n us') (h1 : TLL ≠ e) (h2 : TLI ≠ e) (hg : w.grownBy w' rv.ownBlock) : Ls w' base x v ll := by
  obtain ⟨A, c, us, rfl, k1, k2⟩ := h
  refine ⟨A, c, us, rfl, k1.kept hg (own_ne k1 hr h1), k2.mono fun u l h => ⟨?_, h.2⟩⟩
  obtain ⟨B, d, rfl, h3⟩ := h.1
  exact OwnI.grown ⟨B, d, rfl, h3⟩ hg (own_ne h3 hr h2)
theorem Ls.far {g i : Nat} {t : TypeId} {cs : Array Value} {u : Value} (h : Ls w base x v ll) (hb : Blk w g t cs) (h1 : TLL ≠ t) (h2 : TLI ≠ t) : Ls (w.setCell ⟨g, i, none⟩ u) base x v ll := by
  obtain ⟨A, c, us, rfl, k1, k2⟩ := h
  refine ⟨A, c, us, rfl, ownsRow_setFar k1 hb h1 i u, k2.mono fun u l h => ⟨?_, h.2⟩⟩
  obtain ⟨B, d, rfl, h3⟩ := h.1
  exact ⟨B, d, rfl, ownsRow_setFar h3 hb h2 _ _⟩
/-- A number written into the row in block x. -/
theorem Ls.put {g i : Nat} {cs : Array Value} {u : Value} (h : Ls w base (some g) v ll) (hb : Blk w g TLI cs) : Ls (w.setCell ⟨g, i, none⟩ u) base (some g) v ll := by
  obtain ⟨A, c, us, rfl, k1, k2⟩ := h
  refine ⟨A, c, us, rfl, ownsRow_setFar k1 hb (by decide) i u, k2.mono fun q l h => ⟨?_, h.2⟩⟩
  obtain ⟨⟨B, d, rfl, h3⟩, h4⟩ := h
  refine ⟨B, d, rfl, h3.1, ?_⟩
  rcases h3.2 with h5 | ⟨g', cap, cur, hv, hg, hh, r⟩
  · exact .inl h5
  · have hne : g' ≠ g := fun e => by
      rcases h4 with h4 | h4
      · rw [hv] at h4; simp [Value.ownBlock] at h4
      · exact h4 (by rw [hv, e]; rfl)
    exact .inr ⟨g', cap, cur, hv, hg, by rw [Below.heap_setCell _ _ _ _ (by simpa using hne)]; exact hh, r⟩
/-- One list more. -/
theorem Ls.push {w2 : World} {A A' : Option Addr} {c c' k : Nat} {us : List Value} {u : Value} {l : List Int} (h1 : w.ownsRow base TLL 1 (.slice A k c) k us) (h2 : Rel (fun u l => OwnI w base u l ∧ (u.ownBlock = none ∨ u.ownBlock ≠ x)) us ll) (hk : ll.length = k)
    (hu : OwnI w base u l) (hx : u.ownBlock = none ∨ u.ownBlock ≠ x) (own : w2.ownsRow base TLL 1 (.slice A' (k + 1) c') (k + 1) (us ++ [u])) (gr : (w.alloc (.cells #[u] TLL)).grownBy w2 (Value.slice A k c).ownBlock) :
    Ls w2 base x (.slice A' (k + 1) c') (ll ++ [l]) := by
  have hb : Below w.heap.size w (w.alloc (.cells #[u] TLL)) := (Below.refl _ _).alloc (Nat.le_refl _) _
  have one : ∀ u l, OwnI w base u l → OwnI w2 base u l := fun u l h => by
    obtain ⟨B, d, rfl, h3⟩ := h
    exact OwnI.grown (OwnI.below ⟨B, d, rfl, h3⟩ hb) gr (own_ne (ownsRow_below h3 hb) (ownsRow_below h1 hb) (by decide))
  refine ⟨A', c', us ++ [u], by simp [hk], by rw [List.length_append, hk]; exact own, Rel.app (h2.mono fun u l h => ⟨one u l h.1, h.2⟩) (Rel.one ⟨one u l hu, hx⟩)⟩
theorem Ls.lists (h : Ls w base x v ll) (hr : ∀ l, l ∈ ll → (∀ y, y ∈ l → -9223372036854775808 ≤ y ∧ y ≤ 9223372036854775807) ∧ l.length ≤ 140737488355328) (hl : ll.length ≤ 140737488355328) :
    ∃ A c, v = .slice A ll.length c ∧ At w A (IsInts w) ll ∧ ll.length ≤ c := by
  obtain ⟨A, c, us, rfl, h1, h2⟩ := h
  obtain ⟨_, h3, h4⟩ := At.of_own h1 h2 hl
  refine ⟨A, c, rfl, ⟨h4.1, fun hp => ?_⟩, h3⟩
  obtain ⟨b, off, e, hb, hc⟩ := h4.2 hp
  refine ⟨b, off, e, hb, fun i l hi => ?_⟩
  obtain ⟨u, hu, ho, _⟩ := hc i l hi
  obtain ⟨k1, k2⟩ := hr l (mem_of_get hi)
  obtain ⟨B, d, rfl, hB, hd⟩ := ho.at' k1 k2
  exact ⟨_, hu, B, d, rfl, hB, hd⟩
end
end Go.Proofs.YtilhicefhhgecaaGreatDoor
