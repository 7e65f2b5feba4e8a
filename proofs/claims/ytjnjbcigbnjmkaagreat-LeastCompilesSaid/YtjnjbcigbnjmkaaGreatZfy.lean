/- Walks: whether an automaton may be, by the document and by the program (genzf.py prints this). PUT1 -/
import Derived.Test.YtjnjbcigbnjmkaaGreatZey
import Derived.Test.YtjnjbcigbnjmkaaGreatPay
namespace Pv
open Go Go.RowKit
def EdgeOk (n : Nat) (x : Ed) : Prop := 0 ≤ x.to ∧ x.to < (n : Int) ∧ SetOk x.set ∧ (x.free = true → x.set = [])
inductive ECase (n : Nat) (to : Int) (fr : Bool) (sl : List Rng) : Prop where
  | low (h : to < 0)
  | high (h : 0 ≤ to) (h2 : (n : Int) ≤ to)
  | set (h : 0 ≤ to) (h2 : to < (n : Int)) (h3 : setB sl = false)
  | full (h : 0 ≤ to) (h2 : to < (n : Int)) (h3 : setB sl = true) (h4 : fr = true) (h5 : 0 < sl.length)
  | free (h : 0 ≤ to) (h2 : to < (n : Int)) (h3 : setB sl = true) (h4 : fr = true) (h5 : sl.length = 0)
  | num (h : 0 ≤ to) (h2 : to < (n : Int)) (h3 : setB sl = true) (h4 : fr = false)
theorem ecase (n : Nat) (to : Int) (fr : Bool) (sl : List Rng) : ECase n to fr sl := by
  by_cases h : to < 0
  · exact .low h
  by_cases h2 : (n : Int) ≤ to
  · exact .high (by omega) h2
  cases h3 : setB sl with
  | false => exact .set (by omega) (by omega) h3
  | true =>
    cases fr with
    | false => exact .num (by omega) (by omega) h3 rfl
    | true =>
      by_cases h5 : sl.length = 0
      · exact .free (by omega) (by omega) h3 rfl h5
      · exact .full (by omega) (by omega) h3 rfl (by omega)
theorem edgesS_nil : edgesS [] = 0 := rfl
theorem edgesS_snoc (a : Au) (es : List Ed) : edgesS (a ++ [es]) = edgesS a + es.length := by simp [edgesS]
theorem edgesS_take (a : Au) (k : Nat) : edgesS (a.take k) ≤ edgesS a := by
  have h : edgesS a = edgesS (a.take k) + edgesS (a.drop k) := by
    unfold edgesS
    rw [← List.sum_append, ← List.map_append, List.take_append_drop]
  omega
theorem auOk_of {a : Au} {acc : Int} {n : Nat} (hn : a.length = n) (h1 : 1 ≤ n) (h2 : n ≤ 256) (h3 : 0 ≤ acc) (h4 : acc < (n : Int)) (h5 : edgesS a ≤ 1024) (h6 : ∀ es, es ∈ a → ∀ x, x ∈ es → EdgeOk n x) : AuOk a acc := by
  subst hn
  exact ⟨h1, h2, h3, h4, h5, h6⟩
theorem auOk_edge {a : Au} {acc : Int} {n : Nat} (h : AuOk a acc) (hn : a.length = n) {es : List Ed} (he : es ∈ a) {x : Ed} (hx : x ∈ es) : EdgeOk n x := by subst hn; exact h.each es he x hx
end Pv
namespace Go.Proofs.YtjnjbcigbnjmkaaGreat
open Go.RowKit Pv

theorem auto_in (s : Int) (A : Option Addr) (c n b : Nat) (w : World) (hc : w.cell? ⟨b, 0, none⟩ = some (.slice A n c)) :
    Calls Tryz.prog 49 #[.int .i64 s, .pointer (some ⟨b, 0, none⟩)] w fun e w' => e = .returned (.bool (decide (0 ≤ s) && decide (s < (n : Int)))) ∧ w' = w := by
  by_cases h0 : 0 ≤ s
  · by_cases h1 : s < (n : Int)
    · have HA := Lib.hid (show true = (decide (0 ≤ s) && decide (s < (n : Int))) by simp [h0, h1])
      generalize (decide (0 ≤ s) && decide (s < (n : Int))) = ans at *
      go_enter Tryz.func49, Tryz.ntmps49
      go_wp2
      go_ret
      exact ⟨ret_bool HA.out, rfl⟩
    · have HA := Lib.hid (show false = (decide (0 ≤ s) && decide (s < (n : Int))) by simp [h1])
      have h2 : (n : Int) ≤ s := by omega
      generalize (decide (0 ≤ s) && decide (s < (n : Int))) = ans at *
      go_enter Tryz.func49, Tryz.ntmps49
      go_wp2
      go_ret
      exact ⟨ret_bool HA.out, rfl⟩
  · have HA := Lib.hid (show false = (decide (0 ≤ s) && decide (s < (n : Int))) by simp [h0])
    generalize (decide (0 ≤ s) && decide (s < (n : Int))) = ans at *
    go_enter Tryz.func49, Tryz.ntmps49
    go_wp2
    go_ret
    exact ⟨ret_bool HA.out, rfl⟩

set_option maxHeartbeats 4000000 in
set_option maxRecDepth 100000 in
theorem ref09_May (A : Option Addr) (c n : Nat) (acc : Int) (a : Au) (w : World) (ha : AtAu w A a) (HL : Hid (a.length = n)) :
    Calls Tryz.prog 34 #[.agg #[.slice A n c, .int .i64 acc]] w fun e w' => e = .returned (.bool (auB a acc)) ∧ Below w.heap.size w w' := by
  have hl : n ≤ 140737488355328 := by have := ha.1; rwa [HL.out] at this
  have HA := Lib.hid ha
  obtain ⟨ans, hans⟩ : ∃ ans : Bool, auB a acc = ans := ⟨_, rfl⟩
  rw [hans]
  have HNO := Lib.hid (fun h : ¬ AuOk a acc => ((auB_no h).symm.trans hans : (false : Bool) = ans))
  have HYES := Lib.hid (fun h : AuOk a acc => ((auB_yes h).symm.trans hans : (true : Bool) = ans))
  have HB0 := Lib.hid ((Below.refl w.heap.size w).alloc (Nat.le_refl _) (.cells #[.slice A n c, .int .i64 acc] TAuto))
  have K0 := Lib.hid (Blk.new w TAuto #[.slice A n c, .int .i64 acc])
  obtain ⟨q0, q1, _, _⟩ := Blk.two K0.out
  clear ha hans
  by_cases h1 : (n : Int) < 1
  · have HX := Lib.hid (HNO.out fun h => by have := h.pos; rw [HL.out] at this; omega)
    go_enter Tryz.func34, Tryz.ntmps34
    go_wp2
    go_ret
    exact ⟨ret_bool HX.out, HB0.out⟩
  by_cases h2 : (256 : Int) < (n : Int)
  · have HX := Lib.hid (HNO.out fun h => by have := h.few; rw [HL.out] at this; omega)
    go_enter Tryz.func34, Tryz.ntmps34
    go_wp2
    go_ret
    exact ⟨ret_bool HX.out, HB0.out⟩
  by_cases h3 : acc < 0
  · have HX := Lib.hid (HNO.out fun h => by have := h.acc0; omega)
    go_enter Tryz.func34, Tryz.ntmps34
    go_wp2
    go_ret
    exact ⟨ret_bool HX.out, HB0.out⟩
  by_cases h4 : (n : Int) ≤ acc
  · have HX := Lib.hid (HNO.out fun h => by have := h.acc1; rw [HL.out] at this; omega)
    go_enter Tryz.func34, Tryz.ntmps34
    go_wp2
    go_ret
    exact ⟨ret_bool HX.out, HB0.out⟩
  go_enter Tryz.func34, Tryz.ntmps34
  go_wp2_with (fail)
  go_loopw [5, 4] (fun iv sv wr => ∃ (i s : Nat), iv = .int .i64 i ∧ i ≤ n ∧ sv = .int .i64 s ∧ s ≤ 1024 ∧ Hid (s = edgesS (a.take i)) ∧ Hid (∀ es, es ∈ a.take i → ∀ x, x ∈ es → EdgeOk n x) ∧ Hid (Below (w.heap.size + 1) (w.alloc (.cells #[.slice A n c, .int .i64 acc] TAuto)) wr)) (fun iv _ _ => n - (intOf iv).toNat)
  case atStart => exact ⟨0, 0, rfl, by omega, rfl, by omega, Lib.hid rfl, Lib.hid (by simp), Lib.hid (Below.refl _ _)⟩
  case round =>
    obtain ⟨i, s, rfl, hi, rfl, hs, HS, HE, HB⟩ := hrel
    have HBB := Lib.hid (HB0.out.trans (HB.out.mono (by omega)))
    have HK := Lib.hid (K0.out.below HB.out (by omega))
    obtain ⟨p0, p1, _, _⟩ := Blk.two HK.out
    have hN := HK.out.lt
    by_cases hlt : i < n
    · obtain ⟨b2, o2, S, q, cs, es, rfl, hb2, c2, hS, HQ, hqc, HY⟩ := AtAu.gt HA.out HL hlt
      have HES := Lib.hid hS
      have hq : q ≤ 140737488355328 := by have := hS.1; rwa [HQ.out] at this
      have HC2 := Lib.hid c2; have HH2 := Lib.hid hb2
      have c2 := ((Keep.of HBB.out).cell _ _ hb2).trans c2
      have hb2 := Nat.lt_of_lt_of_le hb2 HBB.out.size
      have HSN := Lib.hid (take_snoc HY.out)
      have HS2 := Lib.hid (show edgesS (a.take (i + 1)) = s + q by rw [HSN.out, edgesS_snoc, HS.out, HQ.out])
      have i1 : (0 : Int) ≤ (i : Int) := by omega
      have i2 : (i : Int) < (n : Int) := by omega
      clear hS
      by_cases hq2 : (1024 : Int) < (s : Int) + (q : Int)
      · have HX := Lib.hid (HNO.out fun h => by have h5 := h.edges; have h6 := edgesS_take a (i + 1); rw [HS2.out] at h6; omega)
        go_wp2
        go_ret
        exact ⟨ret_bool HX.out, HBB.out⟩
      · have hq3 : s + q ≤ 1024 := by omega
        clear hq2
        go_wp2
        go_loopw [6] (fun kv wr => ∃ k : Nat, kv = .int .i64 k ∧ k ≤ q ∧ Hid (∀ x, x ∈ es.take k → EdgeOk n x) ∧ Hid (Below (w.heap.size + 1) (w.alloc (.cells #[.slice (some ⟨b2, o2, none⟩) n c, .int .i64 acc] TAuto)) wr)) (fun kv _ => q - (intOf kv).toNat)
        case atStart => exact ⟨0, rfl, by omega, Lib.hid (by simp), HB⟩
        case round =>
          clear HB HBB HK p0 p1 hN c2 hb2
          obtain ⟨k, rfl, hk, HE2, HB⟩ := hrel
          have HBB := Lib.hid (HB0.out.trans (HB.out.mono (by omega)))
          have HK := Lib.hid (K0.out.below HB.out (by omega))
          obtain ⟨p0, p1, _, _⟩ := Blk.two HK.out
          have hN := HK.out.lt
          have c2 := ((Keep.of HBB.out).cell _ _ HH2.out).trans HC2.out
          have hb2 := Nat.lt_of_lt_of_le HH2.out HBB.out.size
          by_cases hkt : k < q
          · obtain ⟨b3, o3, to, fr, U, tq, tc, sl, rfl, hb3, ⟨d0, d1, d2⟩, hset, HTQ, htc, hto, HZ⟩ := AtEd.gt (AtEd.keep HES.out (Keep.of HBB.out)) HQ hkt
            have HEC := ecase n to fr sl
            have HSET := Lib.hid hset
            have HSN2 := Lib.hid (take_snoc HZ.out)
            have htq : tq ≤ 140737488355328 := by have := hset.1; rwa [HTQ.out] at this
            have HBX := Lib.hid (HB.out.alloc (by have := HB.out.size; simpa using this) (.cells #[.int .i64 to, .bool fr, .slice U tq tc] TEdge))
            have HBN := Lib.hid ((Below.refl wr.heap.size wr).alloc (Nat.le_refl _) (.cells #[.int .i64 to, .bool fr, .slice U tq tc] TEdge))
            have HMAY := Lib.hid (fun W (k : Below wr.heap.size wr W) => ref06_May U tc tq sl W (hset.keep (Keep.of k)) HTQ)
            have HBAD := Lib.hid (fun h : ¬ EdgeOk n ⟨to, fr, sl⟩ => HNO.out fun hh => h (auOk_edge hh HL.out (mem_of_get HY.out) (mem_of_get HZ.out)))
            have HGOOD := Lib.hid (fun (h : EdgeOk n ⟨to, fr, sl⟩) (x : Ed) (hx : x ∈ es.take (k + 1)) => show EdgeOk n x by
              rw [HSN2.out] at hx
              rcases List.mem_append.1 hx with hx | hx
              · exact HE2.out x hx
              · simp only [List.mem_singleton] at hx; subst hx; exact h)
            have i5 : (0 : Int) ≤ (k : Int) := by omega
            have i6 : (k : Int) < (q : Int) := by omega
            have X0 := Lib.hid (fun W (hW : Below (wr.alloc (.cells #[.int .i64 to, .bool fr, .slice U tq tc] TEdge)).heap.size (wr.alloc (.cells #[.int .i64 to, .bool fr, .slice U tq tc] TEdge)) W) => show W.cell? ⟨wr.heap.size, 0, none⟩ = some (.int .i64 to) ∧ W.cell? ⟨wr.heap.size, 1, none⟩ = some (.bool fr) ∧ W.cell? ⟨wr.heap.size, 2, none⟩ = some (.slice U tq tc) from ⟨(hW.cell (p := ⟨wr.heap.size, 0, none⟩) (by simp)).trans (World.cell?_alloc_new ..), (hW.cell (p := ⟨wr.heap.size, 1, none⟩) (by simp)).trans (World.cell?_alloc_new ..), (hW.cell (p := ⟨wr.heap.size, 2, none⟩) (by simp)).trans (World.cell?_alloc_new ..)⟩)
            skip
            clear hset
            cases HEC
            case low h =>
              have HX := Lib.hid (HBAD.out (fun hh => by have := hh.1; simp only at this; omega))
              go_wp2
              go_ret
              exact ⟨ret_bool HX.out, HB0.out.trans (HBX.out.mono (by omega))⟩
            case high h h2 =>
              have HX := Lib.hid (HBAD.out (fun hh => by have := hh.2.1; simp only at this; omega))
              go_wp2
              go_ret
              exact ⟨ret_bool HX.out, HB0.out.trans (HBX.out.mono (by omega))⟩
            case set h h2 h3 =>
              have HM := HMAY
              rw [h3] at HM
              have HX := Lib.hid (HBAD.out (fun hh => by have := setB_yes hh.2.2.1; simp only at this; rw [h3] at this; cases this))
              clear h3
              go_wp2_with (first | (go_at_call 59; refine (HM.out _ HBN.out).mono ?_; rintro e w2 ⟨rfl, hb2⟩; obtain ⟨z0, z1, z2⟩ := X0.out _ hb2; have HB3 := Lib.hid (HBX.out.trans (hb2.mono (by have := HB.out.size; simp at this ⊢; omega))); clear hb2))
              go_ret
              exact ⟨ret_bool HX.out, HB0.out.trans (HB3.out.mono (by omega))⟩
            case full h h2 h3 h4 h5 =>
              subst h4
              have HM := HMAY
              rw [h3] at HM
              have HX := Lib.hid (HBAD.out (fun hh => by have := hh.2.2.2 rfl; simp only at this; subst this; simp at h5))
              have h6 : 0 < tq := by rw [← HTQ.out]; exact h5
              clear h3
              clear h5
              go_wp2_with (first | (go_at_call 59; refine (HM.out _ HBN.out).mono ?_; rintro e w2 ⟨rfl, hb2⟩; obtain ⟨z0, z1, z2⟩ := X0.out _ hb2; have HB3 := Lib.hid (HBX.out.trans (hb2.mono (by have := HB.out.size; simp at this ⊢; omega))); clear hb2))
              go_ret
              exact ⟨ret_bool HX.out, HB0.out.trans (HB3.out.mono (by omega))⟩
            case free h h2 h3 h4 h5 =>
              subst h4
              have HM := HMAY
              rw [h3] at HM
              have HX := Lib.hid (HGOOD.out ⟨h, h2, SetOk.of h3, fun _ => List.eq_nil_of_length_eq_zero h5⟩)
              obtain rfl : tq = 0 := by rw [← HTQ.out]; exact h5
              clear h3
              clear h5
              go_wp2_with (first | (go_at_call 59; refine (HM.out _ HBN.out).mono ?_; rintro e w2 ⟨rfl, hb2⟩; obtain ⟨z0, z1, z2⟩ := X0.out _ hb2; have HB3 := Lib.hid (HBX.out.trans (hb2.mono (by have := HB.out.size; simp at this ⊢; omega))); clear hb2))
              go_roundw
              case rel => exact ⟨k + 1, by go_num, by omega, HX, HB3⟩
              case measure => simp [intOf]; omega
            case num h h2 h3 h4 =>
              subst h4
              have HM := HMAY
              rw [h3] at HM
              have HX := Lib.hid (HGOOD.out ⟨h, h2, SetOk.of h3, fun hh => by cases hh⟩)
              clear h3
              go_wp2_with (first | (go_at_call 59; refine (HM.out _ HBN.out).mono ?_; rintro e w2 ⟨rfl, hb2⟩; obtain ⟨z0, z1, z2⟩ := X0.out _ hb2; have HB3 := Lib.hid (HBX.out.trans (hb2.mono (by have := HB.out.size; simp at this ⊢; omega))); clear hb2))
              go_roundw
              case rel => exact ⟨k + 1, by go_num, by omega, HX, HB3⟩
              case measure => simp [intOf]; omega
          · obtain rfl : k = q := by omega
            have HFE := Lib.hid (fun es' (h : es' ∈ a.take (i + 1)) => show ∀ x, x ∈ es' → EdgeOk n x by
              rw [HSN.out] at h
              rcases List.mem_append.1 h with h | h
              · exact HE.out es' h
              · simp only [List.mem_singleton] at h
                subst h
                have h2 := HE2.out
                rwa [List.take_of_length_le (by rw [HQ.out]; omega)] at h2)
            go_wp2
            go_roundw
            case rel => exact ⟨i + 1, s + k, by go_num, by omega, by go_num, hq3, Lib.hid HS2.out.symm, HFE, HB⟩
            case measure => simp [intOf]; omega
    · obtain rfl : i = n := by omega
      have HX := Lib.hid (HYES.out (auOk_of HL.out (by omega) (by omega) (by omega) (by omega) (by have h1 := HS.out; rw [List.take_of_length_le (by rw [HL.out]; omega)] at h1; omega) (by have h1 := HE.out; rwa [List.take_of_length_le (by rw [HL.out]; omega)] at h1)))
      go_wp2
      go_ret
      exact ⟨ret_bool HX.out, HBB.out⟩


set_option maxHeartbeats 4000000 in
set_option maxRecDepth 100000 in
theorem auto_Check (A : Option Addr) (c n : Nat) (acc : Int) (a : Au) (w : World) (ha : AtAu w A a) (HL : Hid (a.length = n)) :
    Calls Tryz.prog 21 #[.agg #[.slice A n c, .int .i64 acc]] w fun e w' => e = .returned (.int .i64 (auE a acc)) ∧ Below w.heap.size w w' := by
  have hl : n ≤ 140737488355328 := by have := ha.1; rwa [HL.out] at this
  have HA := Lib.hid ha
  obtain ⟨ans, hans⟩ : ∃ ans : Int, auE a acc = ans := ⟨_, rfl⟩
  rw [hans]
  have HNO := Lib.hid (fun h : ¬ AuOk a acc => ((auE_no h).symm.trans hans : (8 : Int) = ans))
  have HYES := Lib.hid (fun h : AuOk a acc => ((auE_yes h).symm.trans hans : (0 : Int) = ans))
  have HB0 := Lib.hid ((Below.refl w.heap.size w).alloc (Nat.le_refl _) (.cells #[.slice A n c, .int .i64 acc] TAuto))
  have K0 := Lib.hid (Blk.new w TAuto #[.slice A n c, .int .i64 acc])
  obtain ⟨q0, q1, _, _⟩ := Blk.two K0.out
  have HACC := Lib.hid (auto_in acc A c n w.heap.size _ q0)
  clear q0 q1
  clear ha hans
  by_cases h2 : (256 : Int) < (n : Int)
  · have HX := Lib.hid (HNO.out fun h => by have := h.few; rw [HL.out] at this; omega)
    go_enter Tryz.func21, Tryz.ntmps21
    go_wp2
    go_ret
    exact ⟨ret_int HX.out, HB0.out⟩
  by_cases h3 : 0 ≤ acc ∧ acc < (n : Int)
  case neg =>
    have HX := Lib.hid (HNO.out fun h => h3 ⟨h.acc0, by have := h.acc1; rwa [HL.out] at this⟩)
    rw [show (decide (0 ≤ acc) && decide (acc < (n : Int))) = false by
      by_cases h4 : 0 ≤ acc
      · rw [decide_eq_false (p := acc < (n : Int)) (fun h5 => h3 ⟨h4, h5⟩)]; simp
      · simp [h4]] at HACC
    clear h3
    go_enter Tryz.func21, Tryz.ntmps21
    go_wp2_with (go_at_call 49; refine HACC.out.mono ?_; rintro e w2 ⟨rfl, rfl⟩)
    go_ret
    exact ⟨ret_int HX.out, HB0.out⟩
  obtain ⟨h3, h4⟩ := h3
  have h1 : (1 : Int) ≤ (n : Int) := by omega
  rw [show (decide (0 ≤ acc) && decide (acc < (n : Int))) = true by simp [h3, h4]] at HACC
  go_enter Tryz.func21, Tryz.ntmps21
  go_wp2_with ((go_at_call 49; refine HACC.out.mono ?_; rintro e w2 ⟨rfl, rfl⟩))
  go_loopw [24, 4] (fun iv sv wr => ∃ (i s : Nat), iv = .int .i64 i ∧ i ≤ n ∧ sv = .int .i64 s ∧ s ≤ 1024 ∧ Hid (s = edgesS (a.take i)) ∧ Hid (∀ es, es ∈ a.take i → ∀ x, x ∈ es → EdgeOk n x) ∧ Hid (Below (w.heap.size + 1) (w.alloc (.cells #[.slice A n c, .int .i64 acc] TAuto)) wr)) (fun iv _ _ => n - (intOf iv).toNat)
  case atStart => exact ⟨0, 0, rfl, by omega, rfl, by omega, Lib.hid rfl, Lib.hid (by simp), Lib.hid (Below.refl _ _)⟩
  case round =>
    obtain ⟨i, s, rfl, hi, rfl, hs, HS, HE, HB⟩ := hrel
    have HBB := Lib.hid (HB0.out.trans (HB.out.mono (by omega)))
    have HK := Lib.hid (K0.out.below HB.out (by omega))
    obtain ⟨p0, p1, _, _⟩ := Blk.two HK.out
    have hN := HK.out.lt
    by_cases hlt : i < n
    · obtain ⟨b2, o2, S, q, cs, es, rfl, hb2, c2, hS, HQ, hqc, HY⟩ := AtAu.gt HA.out HL hlt
      have HES := Lib.hid hS
      have hq : q ≤ 140737488355328 := by have := hS.1; rwa [HQ.out] at this
      have HC2 := Lib.hid c2; have HH2 := Lib.hid hb2
      have c2 := ((Keep.of HBB.out).cell _ _ hb2).trans c2
      have hb2 := Nat.lt_of_lt_of_le hb2 HBB.out.size
      have HSN := Lib.hid (take_snoc HY.out)
      have HS2 := Lib.hid (show edgesS (a.take (i + 1)) = s + q by rw [HSN.out, edgesS_snoc, HS.out, HQ.out])
      have i1 : (0 : Int) ≤ (i : Int) := by omega
      have i2 : (i : Int) < (n : Int) := by omega
      clear hS
      by_cases hq2 : (1024 : Int) < (s : Int) + (q : Int)
      · have HX := Lib.hid (HNO.out fun h => by have h5 := h.edges; have h6 := edgesS_take a (i + 1); rw [HS2.out] at h6; omega)
        go_wp2
        go_ret
        exact ⟨ret_int HX.out, HBB.out⟩
      · have hq3 : s + q ≤ 1024 := by omega
        clear hq2
        go_wp2
        go_loopw [36] (fun kv wr => ∃ k : Nat, kv = .int .i64 k ∧ k ≤ q ∧ Hid (∀ x, x ∈ es.take k → EdgeOk n x) ∧ Hid (Below (w.heap.size + 1) (w.alloc (.cells #[.slice (some ⟨b2, o2, none⟩) n c, .int .i64 acc] TAuto)) wr)) (fun kv _ => q - (intOf kv).toNat)
        case atStart => exact ⟨0, rfl, by omega, Lib.hid (by simp), HB⟩
        case round =>
          clear HB HBB HK p0 p1 hN c2 hb2
          obtain ⟨k, rfl, hk, HE2, HB⟩ := hrel
          have HBB := Lib.hid (HB0.out.trans (HB.out.mono (by omega)))
          have HK := Lib.hid (K0.out.below HB.out (by omega))
          obtain ⟨p0, p1, _, _⟩ := Blk.two HK.out
          have hN := HK.out.lt
          have c2 := ((Keep.of HBB.out).cell _ _ HH2.out).trans HC2.out
          have hb2 := Nat.lt_of_lt_of_le HH2.out HBB.out.size
          by_cases hkt : k < q
          · obtain ⟨b3, o3, to, fr, U, tq, tc, sl, rfl, hb3, ⟨d0, d1, d2⟩, hset, HTQ, htc, hto, HZ⟩ := AtEd.gt (AtEd.keep HES.out (Keep.of HBB.out)) HQ hkt
            have HEC := ecase n to fr sl
            have HSET := Lib.hid hset
            have HSN2 := Lib.hid (take_snoc HZ.out)
            have htq : tq ≤ 140737488355328 := by have := hset.1; rwa [HTQ.out] at this
            have HBX := Lib.hid (HB.out.alloc (by have := HB.out.size; simpa using this) (.cells #[.int .i64 to, .bool fr, .slice U tq tc] TEdge))
            have HBN := Lib.hid ((Below.refl wr.heap.size wr).alloc (Nat.le_refl _) (.cells #[.int .i64 to, .bool fr, .slice U tq tc] TEdge))
            have HMAY := Lib.hid (fun W (k : Below wr.heap.size wr W) => ranges_Check U tc tq sl W (hset.keep (Keep.of k)) HTQ)
            have HBAD := Lib.hid (fun h : ¬ EdgeOk n ⟨to, fr, sl⟩ => HNO.out fun hh => h (auOk_edge hh HL.out (mem_of_get HY.out) (mem_of_get HZ.out)))
            have HGOOD := Lib.hid (fun (h : EdgeOk n ⟨to, fr, sl⟩) (x : Ed) (hx : x ∈ es.take (k + 1)) => show EdgeOk n x by
              rw [HSN2.out] at hx
              rcases List.mem_append.1 hx with hx | hx
              · exact HE2.out x hx
              · simp only [List.mem_singleton] at hx; subst hx; exact h)
            have i5 : (0 : Int) ≤ (k : Int) := by omega
            have i6 : (k : Int) < (q : Int) := by omega
            have X0 := Lib.hid (fun W (hW : Below (wr.alloc (.cells #[.int .i64 to, .bool fr, .slice U tq tc] TEdge)).heap.size (wr.alloc (.cells #[.int .i64 to, .bool fr, .slice U tq tc] TEdge)) W) => show W.cell? ⟨wr.heap.size, 0, none⟩ = some (.int .i64 to) ∧ W.cell? ⟨wr.heap.size, 1, none⟩ = some (.bool fr) ∧ W.cell? ⟨wr.heap.size, 2, none⟩ = some (.slice U tq tc) from ⟨(hW.cell (p := ⟨wr.heap.size, 0, none⟩) (by simp)).trans (World.cell?_alloc_new ..), (hW.cell (p := ⟨wr.heap.size, 1, none⟩) (by simp)).trans (World.cell?_alloc_new ..), (hW.cell (p := ⟨wr.heap.size, 2, none⟩) (by simp)).trans (World.cell?_alloc_new ..)⟩)
            have HIN := Lib.hid (fun (bb : Bool) (h : (decide (0 ≤ to) && decide (to < (n : Int))) = bb) => show Calls Tryz.prog 49 #[.int .i64 to, .pointer (some ⟨w.heap.size, 0, none⟩)] (wr.alloc (.cells #[.int .i64 to, .bool fr, .slice U tq tc] TEdge)) fun e w2 => e = .returned (.bool bb) ∧ w2 = (wr.alloc (.cells #[.int .i64 to, .bool fr, .slice U tq tc] TEdge)) from h ▸ auto_in to _ c n w.heap.size _ (by rw [World.cell?_alloc_lt _ _ _ hN]; exact p0))
            clear hset
            cases HEC
            case low h =>
              have HI := Lib.hid (HIN.out false (by simp; omega))
              have HX := Lib.hid (HBAD.out (fun hh => by have := hh.1; simp only at this; omega))
              go_wp2_with (first | (go_at_call 49; refine HI.out.mono ?_; rintro e w2 ⟨rfl, rfl⟩))
              go_ret
              exact ⟨ret_int HX.out, HB0.out.trans (HBX.out.mono (by omega))⟩
            case high h h2 =>
              have HI := Lib.hid (HIN.out false (by simp; omega))
              have HX := Lib.hid (HBAD.out (fun hh => by have := hh.2.1; simp only at this; omega))
              go_wp2_with (first | (go_at_call 49; refine HI.out.mono ?_; rintro e w2 ⟨rfl, rfl⟩))
              go_ret
              exact ⟨ret_int HX.out, HB0.out.trans (HBX.out.mono (by omega))⟩
            case set h h2 h3 =>
              have HI := Lib.hid (HIN.out true (by simp [h, h2]))
              have HM := HMAY
              rw [setE_no h3] at HM
              have HX := Lib.hid (HBAD.out (fun hh => by have := setB_yes hh.2.2.1; simp only at this; rw [h3] at this; cases this))
              clear h3
              go_wp2_with (first | (go_at_call 50; refine (HM.out _ HBN.out).mono ?_; rintro e w2 ⟨rfl, hb2⟩; obtain ⟨z0, z1, z2⟩ := X0.out _ hb2; have HB3 := Lib.hid (HBX.out.trans (hb2.mono (by have := HB.out.size; simp at this ⊢; omega))); clear hb2) | (go_at_call 49; refine HI.out.mono ?_; rintro e w2 ⟨rfl, rfl⟩))
              go_ret
              exact ⟨ret_int HX.out, HB0.out.trans (HB3.out.mono (by omega))⟩
            case full h h2 h3 h4 h5 =>
              subst h4
              have HI := Lib.hid (HIN.out true (by simp [h, h2]))
              have HM := HMAY
              rw [setE_yes h3] at HM
              have HX := Lib.hid (HBAD.out (fun hh => by have := hh.2.2.2 rfl; simp only at this; subst this; simp at h5))
              have h6 : 0 < tq := by rw [← HTQ.out]; exact h5
              clear h3
              clear h5
              go_wp2_with (first | (go_at_call 50; refine (HM.out _ HBN.out).mono ?_; rintro e w2 ⟨rfl, hb2⟩; obtain ⟨z0, z1, z2⟩ := X0.out _ hb2; have HB3 := Lib.hid (HBX.out.trans (hb2.mono (by have := HB.out.size; simp at this ⊢; omega))); clear hb2) | (go_at_call 49; refine HI.out.mono ?_; rintro e w2 ⟨rfl, rfl⟩))
              go_ret
              exact ⟨ret_int HX.out, HB0.out.trans (HB3.out.mono (by omega))⟩
            case free h h2 h3 h4 h5 =>
              subst h4
              have HI := Lib.hid (HIN.out true (by simp [h, h2]))
              have HM := HMAY
              rw [setE_yes h3] at HM
              have HX := Lib.hid (HGOOD.out ⟨h, h2, SetOk.of h3, fun _ => List.eq_nil_of_length_eq_zero h5⟩)
              obtain rfl : tq = 0 := by rw [← HTQ.out]; exact h5
              clear h3
              clear h5
              go_wp2_with (first | (go_at_call 50; refine (HM.out _ HBN.out).mono ?_; rintro e w2 ⟨rfl, hb2⟩; obtain ⟨z0, z1, z2⟩ := X0.out _ hb2; have HB3 := Lib.hid (HBX.out.trans (hb2.mono (by have := HB.out.size; simp at this ⊢; omega))); clear hb2) | (go_at_call 49; refine HI.out.mono ?_; rintro e w2 ⟨rfl, rfl⟩))
              go_roundw
              case rel => exact ⟨k + 1, by go_num, by omega, HX, HB3⟩
              case measure => simp [intOf]; omega
            case num h h2 h3 h4 =>
              subst h4
              have HI := Lib.hid (HIN.out true (by simp [h, h2]))
              have HM := HMAY
              rw [setE_yes h3] at HM
              have HX := Lib.hid (HGOOD.out ⟨h, h2, SetOk.of h3, fun hh => by cases hh⟩)
              clear h3
              go_wp2_with (first | (go_at_call 50; refine (HM.out _ HBN.out).mono ?_; rintro e w2 ⟨rfl, hb2⟩; obtain ⟨z0, z1, z2⟩ := X0.out _ hb2; have HB3 := Lib.hid (HBX.out.trans (hb2.mono (by have := HB.out.size; simp at this ⊢; omega))); clear hb2) | (go_at_call 49; refine HI.out.mono ?_; rintro e w2 ⟨rfl, rfl⟩))
              go_roundw
              case rel => exact ⟨k + 1, by go_num, by omega, HX, HB3⟩
              case measure => simp [intOf]; omega
          · obtain rfl : k = q := by omega
            have HFE := Lib.hid (fun es' (h : es' ∈ a.take (i + 1)) => show ∀ x, x ∈ es' → EdgeOk n x by
              rw [HSN.out] at h
              rcases List.mem_append.1 h with h | h
              · exact HE.out es' h
              · simp only [List.mem_singleton] at h
                subst h
                have h2 := HE2.out
                rwa [List.take_of_length_le (by rw [HQ.out]; omega)] at h2)
            go_wp2
            go_roundw
            case rel => exact ⟨i + 1, s + k, by go_num, by omega, by go_num, hq3, Lib.hid HS2.out.symm, HFE, HB⟩
            case measure => simp [intOf]; omega
    · obtain rfl : i = n := by omega
      have HX := Lib.hid (HYES.out (auOk_of HL.out (by omega) (by omega) (by omega) (by omega) (by have h1 := HS.out; rw [List.take_of_length_le (by rw [HL.out]; omega)] at h1; omega) (by have h1 := HE.out; rwa [List.take_of_length_le (by rw [HL.out]; omega)] at h1)))
      go_wp2
      go_ret
      exact ⟨ret_int HX.out, HBB.out⟩

end Go.Proofs.YtjnjbcigbnjmkaaGreat
