/- Walks: what is asked of an automaton and states; Reach, Step, Check, by the document. PUT1 -/
import Derived.Test.YtjnjbcigbnjmkaaZfy
import Derived.Test.YtjnjbcigbnjmkaaTby
namespace Pv
open Go Go.RowKit
noncomputable def reachL (a : Au) (acc : Int) (l : List Int) : List Int := if askE a acc l = 0 then stL a.length (Clo a (Of l)) else []
noncomputable def stepL (a : Au) (acc : Int) (l : List Int) (p : Int) : List Int := if askE a acc l = 0 then stL a.length (Stp a p (Of l)) else []
inductive ACase (a : Au) (acc : Int) (l : List Int) : Prop where
  | bad (h : ¬ AuOk a acc) (e : askE a acc l = 8)
  | out (h : AuOk a acc) (h2 : ¬ InAu a.length l) (e : askE a acc l = 2)
  | ok (h : AuOk a acc) (h2 : InAu a.length l) (e : askE a acc l = 0)
theorem acase (a : Au) (acc : Int) (l : List Int) : ACase a acc l := by
  by_cases h : AuOk a acc
  · by_cases h2 : InAu a.length l
    · exact .ok h h2 (askE_yes h h2)
    · exact .out h h2 (askE_out h h2)
  · exact .bad h (askE_no h)
theorem reachL_yes {a : Au} {acc : Int} {l : List Int} (h : askE a acc l = 0) : reachL a acc l = stL a.length (Clo a (Of l)) := by unfold reachL; rw [if_pos h]
theorem reachL_no {a : Au} {acc : Int} {l : List Int} {e : Int} (h : askE a acc l = e) (h2 : e ≠ 0) : reachL a acc l = [] := by unfold reachL; rw [if_neg (by rw [h]; exact h2)]
theorem stepL_yes {a : Au} {acc : Int} {l : List Int} {p : Int} (h : askE a acc l = 0) : stepL a acc l p = stL a.length (Stp a p (Of l)) := by unfold stepL; rw [if_pos h]
theorem stepL_no {a : Au} {acc : Int} {l : List Int} {p : Int} {e : Int} (h : askE a acc l = e) (h2 : e ≠ 0) : stepL a acc l p = [] := by unfold stepL; rw [if_neg (by rw [h]; exact h2)]
end Pv
namespace Go.Proofs.Ytjnjbcigbnjmkaa
open Go.RowKit Pv

theorem OwnI.nil (w : World) (b : Nat) : OwnI w b (.slice none 0 0) [] := ⟨none, 0, rfl, World.ownsRow_nil _ _ _ _⟩
theorem OwnI.lower {w : World} {b b' : Nat} {v : Value} {l : List Int} (h : OwnI w b v l) (hb : b' ≤ b) : OwnI w b' v l := by
  obtain ⟨A, c, e, ho⟩ := h
  exact ⟨A, c, e, ⟨ho.1, ho.2.imp_right fun ⟨g, cap, cur, h1, h2, r⟩ => ⟨g, cap, cur, h1, Nat.le_trans hb h2, r⟩⟩⟩
theorem OwnI.below {w w' : World} {b : Nat} {v : Value} {l : List Int} (h : OwnI w b v l) (hb : Below w.heap.size w w') : OwnI w' b v l := by
  obtain ⟨A, c, e, ho⟩ := h
  exact ⟨A, c, e, ownsRow_below ho hb⟩
theorem OwnI.at' {w : World} {b : Nat} {v : Value} {l : List Int} (h : OwnI w b v l) (hr : ∀ x, x ∈ l → -9223372036854775808 ≤ x ∧ x ≤ 9223372036854775807) (hl : l.length ≤ 140737488355328) : ∃ A c, v = .slice A l.length c ∧ At w A RI l ∧ l.length ≤ c := by
  obtain ⟨A, c, e, ho⟩ := h
  obtain ⟨_, h2, h3⟩ := At.of_own (R := RI) (xs := l) ho ⟨by simp, fun i u x hu hx => by
    rw [List.getElem?_map, hx] at hu
    simp only [Option.map_some, Option.some.injEq] at hu
    subst hu
    exact ⟨rfl, (hr x (mem_of_get hx)).1, (hr x (mem_of_get hx)).2⟩⟩ hl
  exact ⟨A, c, e, h3, h2⟩
theorem stL_bd {n : Nat} {S : Nat → Prop} (hn : n ≤ 100000) : ∀ x, x ∈ stL n S → -9223372036854775808 ≤ x ∧ x ≤ 9223372036854775807 := fun x hx => by have := stL_in x hx; omega

set_option maxHeartbeats 1000000 in
set_option maxRecDepth 100000 in
theorem ref09_asked (A : Option Addr) (c n : Nat) (acc : Int) (a : Au) (lA : Option Addr) (lc m : Nat) (l : List Int) (w : World) (ha : AtAu w A a) (HL : Hid (a.length = n)) (hl : At w lA RI l) (HM : Hid (l.length = m)) :
    Calls Try.prog 76 #[.agg #[.slice A n c, .int .i64 acc], .slice lA m lc] w fun e w' => e = .returned (.int .i64 (askE a acc l)) ∧ Below w.heap.size w w' := by
  have hml : m ≤ 140737488355328 := by have := hl.1; rwa [HM.out] at this
  have hnl : n ≤ 140737488355328 := by have := ha.1; rwa [HL.out] at this
  have HB0 := Lib.hid ((Below.refl w.heap.size w).alloc (Nat.le_refl _) (.cells #[.slice A n c, .int .i64 acc] TAuto))
  have K0 := Lib.hid (Blk.new w TAuto #[.slice A n c, .int .i64 acc])
  have HMY := Lib.hid (ref09_May A c n acc a _ (ha.keep (Keep.of HB0.out)) HL)
  have HLL := Lib.hid hl
  have hc := acase a acc l
  clear ha hl
  by_cases hok : AuOk a acc
  case neg =>
    rw [auB_no hok] at HMY
    have HE := Lib.hid (askE_no (l := l) hok)
    clear hok hc
    go_enter Try.func76, Try.ntmps76
    go_wp2_with (go_at_call 81; refine HMY.out.mono ?_; rintro e w1 ⟨rfl, hb1⟩; have HB1 := Lib.hid (HB0.out.trans (hb1.mono (by simp))); clear hb1)
    go_ret
    exact ⟨ret_int HE.out.symm, HB1.out⟩
  rw [auB_yes hok] at HMY
  have HOUT := Lib.hid (fun h => askE_out (l := l) hok h)
  have HYES := Lib.hid (fun h => askE_yes (l := l) hok h)
  clear hc hok
  obtain ⟨ans, hans⟩ : ∃ ans, askE a acc l = ans := ⟨_, rfl⟩
  rw [hans] at HOUT HYES
  rw [hans]
  clear hans
  go_enter Try.func76, Try.ntmps76
  go_wp2_with (go_at_call 81; refine HMY.out.mono ?_; rintro e w1 ⟨rfl, hb1⟩; have HB1 := Lib.hid (HB0.out.trans (hb1.mono (by simp))); have HK1 := Lib.hid (K0.out.below hb1 (by simp)); clear hb1)
  go_loopw [5] (fun iv wr => ∃ i : Nat, iv = .int .i64 i ∧ i ≤ m ∧ Hid (∀ (j : Nat) s, j < i → l[j]? = some s → 0 ≤ s ∧ s < (n : Int)) ∧ Hid (Blk wr w.heap.size TAuto #[.slice A n c, .int .i64 acc]) ∧ Hid (Below w.heap.size w wr)) (fun iv _ => m - (intOf iv).toNat)
  case atStart => exact ⟨0, rfl, by omega, Lib.hid (by intros; omega), HK1, HB1⟩
  case round =>
    clear HK1 HB1
    obtain ⟨i, rfl, hi, HJ, HK, HB⟩ := hrel
    by_cases hlt : i < m
    · obtain ⟨p0, p1, _, _⟩ := Blk.two HK.out
      obtain ⟨b1, o1, u, s, rfl, hb1, c1, ⟨rfl, _, _⟩, HX⟩ := (HLL.out.keep (Keep.of HB.out)).gt HM hlt
      have i1 : (0 : Int) ≤ (i : Int) := by omega
      have i2 : (i : Int) < (m : Int) := by omega
      by_cases h0 : s < 0
      · have HX2 := Lib.hid (HOUT.out (fun h => by have := h s (mem_of_get HX.out); omega))
        go_wp2
        go_quiet (fail)
        go_wp2
        go_ret
        exact ⟨ret_int HX2.out.symm, below_drewN HB.out _⟩
      by_cases h1 : (n : Int) ≤ s
      · have HX2 := Lib.hid (HOUT.out (fun h => by have := h s (mem_of_get HX.out); rw [HL.out] at this; omega))
        go_wp2
        go_quiet (fail)
        go_wp2
        go_ret
        exact ⟨ret_int HX2.out.symm, below_drewN HB.out _⟩
      · have HJ2 := Lib.hid (fun (j : Nat) (t : Int) (hj : j < i + 1) (ht : l[j]? = some t) => show 0 ≤ t ∧ t < (n : Int) by
          by_cases e : j = i
          · subst e; obtain rfl := Option.some.inj (ht.symm.trans HX.out); omega
          · exact HJ.out j t (by omega) ht)
        go_wp2
        go_quiet (fail)
        go_wp2
        go_roundw
        case rel => exact ⟨i + 1, by go_num, by omega, HJ2, Lib.hid (Blk.drewN HK.out _), Lib.hid (below_drewN HB.out _)⟩
        case measure => simp [intOf]; omega
    · have HX2 := Lib.hid (HYES.out (fun x hx => by obtain ⟨j, hj⟩ := List.getElem?_of_mem hx; have := HJ.out j x (by have := lt_of_get hj; rw [HM.out] at this; omega) hj; rwa [HL.out]))
      go_wp2
      go_ret
      exact ⟨ret_int HX2.out.symm, HB.out⟩

set_option maxHeartbeats 1000000 in
set_option maxRecDepth 100000 in
theorem ref09_Check (A : Option Addr) (c n : Nat) (acc : Int) (a : Au) (w : World) (ha : AtAu w A a) (HL : Hid (a.length = n)) :
    Calls Try.prog 41 #[.agg #[.slice A n c, .int .i64 acc]] w fun e w' => e = .returned (.int .i64 (auE a acc)) ∧ Below w.heap.size w w' := by
  have HB0 := Lib.hid ((Below.refl w.heap.size w).alloc (Nat.le_refl _) (.cells #[.slice A n c, .int .i64 acc] TAuto))
  have HMY := Lib.hid (ref09_May A c n acc a _ (ha.keep (Keep.of HB0.out)) HL)
  clear ha
  by_cases hok : AuOk a acc
  · rw [auB_yes hok] at HMY
    have HE := Lib.hid (auE_yes hok)
    clear hok
    go_enter Try.func41, Try.ntmps41
    go_wp2_with (go_at_call 81; refine HMY.out.mono ?_; rintro e w1 ⟨rfl, hb1⟩; have HB1 := Lib.hid (HB0.out.trans (hb1.mono (by simp))); clear hb1)
    go_ret
    exact ⟨ret_int HE.out.symm, HB1.out⟩
  · rw [auB_no hok] at HMY
    have HE := Lib.hid (auE_no hok)
    clear hok
    go_enter Try.func41, Try.ntmps41
    go_wp2_with (go_at_call 81; refine HMY.out.mono ?_; rintro e w1 ⟨rfl, hb1⟩; have HB1 := Lib.hid (HB0.out.trans (hb1.mono (by simp))); clear hb1)
    go_ret
    exact ⟨ret_int HE.out.symm, HB1.out⟩

set_option maxHeartbeats 1000000 in
set_option maxRecDepth 100000 in
theorem ref09_Reach (A : Option Addr) (c n : Nat) (acc : Int) (a : Au) (lA : Option Addr) (lc m : Nat) (l : List Int) (w : World) (ha : AtAu w A a) (HL : Hid (a.length = n)) (hl : At w lA RI l) (HM : Hid (l.length = m)) :
    Calls Try.prog 35 #[.agg #[.slice A n c, .int .i64 acc], .slice lA m lc] w fun e w' => (∃ v, e = .returned (.tuple #[v, .int .i64 (askE a acc l)]) ∧ OwnI w' w.heap.size v (reachL a acc l)) ∧ Below w.heap.size w w' := by
  have HB0 := Lib.hid ((Below.refl w.heap.size w).alloc (Nat.le_refl _) (.cells #[.slice A n c, .int .i64 acc] TAuto))
  have K0 := Lib.hid (Blk.new w TAuto #[.slice A n c, .int .i64 acc])
  have HAK := Lib.hid (ref09_asked A c n acc a lA lc m l _ (ha.keep (Keep.of HB0.out)) HL (hl.keep (Keep.of HB0.out)) HM)
  have HA := Lib.hid ha; have HLL := Lib.hid hl
  have hc := acase a acc l
  clear ha hl
  cases hc
  case ok h h2 e =>
    have HLE := Lib.hid (reachL_yes e)
    rw [e] at HAK
    rw [e, HLE.out]
    rw [HL.out] at h2 HLE ⊢
    have HC := Lib.hid (fun W (hb : Below w.heap.size w W) => ref09_Closed A c n acc a lA lc m l W (HA.out.keep (Keep.of hb)) HL (HLL.out.keep (Keep.of hb)) HM h h2)
    clear e h h2
    go_enter Try.func35, Try.ntmps35
    go_wp2_with (go_at_call 76; refine HAK.out.mono ?_; rintro e w1 ⟨rfl, hb1⟩; have HB1 := Lib.hid (HB0.out.trans (hb1.mono (by simp))); obtain ⟨p0, p1, _, _⟩ := Blk.two (K0.out.below hb1 (by simp)); clear hb1)
    refine (HC.out _ HB1.out).mono ?_
    rintro e w2 ⟨v, rfl, hv, hb2⟩
    have HV := Lib.hid (hv.lower HB1.out.size)
    have HB2 := Lib.hid (HB1.out.trans (hb2.mono HB1.out.size))
    clear hv hb2
    go_wp2
    go_ret2
    exact ⟨⟨v, rfl, HV.out⟩, HB2.out⟩
  all_goals
    rename_i e
    have HLE := Lib.hid (reachL_no e (by omega))
    rw [e] at HAK
    rw [e, HLE.out]
    clear e
    go_enter Try.func35, Try.ntmps35
    go_wp2_with (go_at_call 76; refine HAK.out.mono ?_; rintro e w1 ⟨rfl, hb1⟩; have HB1 := Lib.hid (HB0.out.trans (hb1.mono (by simp))); clear hb1)
    go_ret2
    exact ⟨⟨_, rfl, OwnI.nil _ _⟩, HB1.out⟩

set_option maxHeartbeats 1000000 in
set_option maxRecDepth 100000 in
theorem ref09_Step (A : Option Addr) (c n : Nat) (acc : Int) (a : Au) (lA : Option Addr) (lc m : Nat) (l : List Int) (p : Int) (w : World) (ha : AtAu w A a) (HL : Hid (a.length = n)) (hl : At w lA RI l) (HM : Hid (l.length = m)) :
    Calls Try.prog 37 #[.agg #[.slice A n c, .int .i64 acc], .slice lA m lc, .int .i64 p] w fun e w' => (∃ v, e = .returned (.tuple #[v, .int .i64 (askE a acc l)]) ∧ OwnI w' w.heap.size v (stepL a acc l p)) ∧ Below w.heap.size w w' := by
  have HB0 := Lib.hid ((Below.refl w.heap.size w).alloc (Nat.le_refl _) (.cells #[.slice A n c, .int .i64 acc] TAuto))
  have K0 := Lib.hid (Blk.new w TAuto #[.slice A n c, .int .i64 acc])
  have HAK := Lib.hid (ref09_asked A c n acc a lA lc m l _ (ha.keep (Keep.of HB0.out)) HL (hl.keep (Keep.of HB0.out)) HM)
  have HA := Lib.hid ha; have HLL := Lib.hid hl
  have hc := acase a acc l
  clear ha hl
  cases hc
  case ok h h2 e =>
    have HLE := Lib.hid (stepL_yes (p := p) e)
    rw [e] at HAK
    rw [e, HLE.out]
    rw [HL.out] at h2 HLE ⊢
    have HC := Lib.hid (fun W (hb : Below w.heap.size w W) => ref09_Behind A c n acc a lA lc m l p W (HA.out.keep (Keep.of hb)) HL (HLL.out.keep (Keep.of hb)) HM h h2)
    clear e h h2
    go_enter Try.func37, Try.ntmps37
    go_wp2_with (go_at_call 76; refine HAK.out.mono ?_; rintro e w1 ⟨rfl, hb1⟩; have HB1 := Lib.hid (HB0.out.trans (hb1.mono (by simp))); obtain ⟨p0, p1, _, _⟩ := Blk.two (K0.out.below hb1 (by simp)); clear hb1)
    refine (HC.out _ HB1.out).mono ?_
    rintro e w2 ⟨v, rfl, hv, hb2⟩
    have HV := Lib.hid (hv.lower HB1.out.size)
    have HB2 := Lib.hid (HB1.out.trans (hb2.mono HB1.out.size))
    clear hv hb2
    go_wp2
    go_ret2
    exact ⟨⟨v, rfl, HV.out⟩, HB2.out⟩
  all_goals
    rename_i e
    have HLE := Lib.hid (stepL_no (p := p) e (by omega))
    rw [e] at HAK
    rw [e, HLE.out]
    clear e
    go_enter Try.func37, Try.ntmps37
    go_wp2_with (go_at_call 76; refine HAK.out.mono ?_; rintro e w1 ⟨rfl, hb1⟩; have HB1 := Lib.hid (HB0.out.trans (hb1.mono (by simp))); clear hb1)
    go_ret2
    exact ⟨⟨_, rfl, OwnI.nil _ _⟩, HB1.out⟩
end Go.Proofs.Ytjnjbcigbnjmkaa
