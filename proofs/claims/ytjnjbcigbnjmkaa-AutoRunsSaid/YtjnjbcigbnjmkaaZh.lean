/- Walks: what is asked of an automaton and states, by the program; a list copied. PUT1 -/
import Derived.Test.YtjnjbcigbnjmkaaZg
import Derived.Test.YtjnjbcigbnjmkaaCi
namespace Go.Proofs.Ytjnjbcigbnjmkaa
open Go.RowKit Pv

set_option maxHeartbeats 1000000 in
set_option maxRecDepth 100000 in
theorem asked_one (s : Int) (A : Option Addr) (c n b : Nat) (w : World) (hc : w.cell? ⟨b, 0, none⟩ = some (.slice A n c)) :
    Calls Try.prog 126 #[.int .i64 s, .pointer (some ⟨b, 0, none⟩)] w fun e w' => e = .returned (.bool (decide (s < 0) || decide ((n : Int) ≤ s))) ∧ w' = w := by
  by_cases h0 : s < 0
  · have HA := Lib.hid (show true = (decide (s < 0) || decide ((n : Int) ≤ s)) by simp [h0])
    generalize (decide (s < 0) || decide ((n : Int) ≤ s)) = ans at *
    go_enter Try.func126, Try.ntmps126
    go_wp2
    go_ret
    exact ⟨ret_bool HA.out, rfl⟩
  · by_cases h1 : (n : Int) ≤ s
    · have HA := Lib.hid (show true = (decide (s < 0) || decide ((n : Int) ≤ s)) by simp [h1])
      generalize (decide (s < 0) || decide ((n : Int) ≤ s)) = ans at *
      go_enter Try.func126, Try.ntmps126
      go_wp2
      go_ret
      exact ⟨ret_bool HA.out, rfl⟩
    · have HA := Lib.hid (show false = (decide (s < 0) || decide ((n : Int) ≤ s)) by simp [h0]; omega)
      generalize (decide (s < 0) || decide ((n : Int) ≤ s)) = ans at *
      go_enter Try.func126, Try.ntmps126
      go_wp2
      go_ret
      exact ⟨ret_bool HA.out, rfl⟩

set_option maxHeartbeats 1000000 in
set_option maxRecDepth 100000 in
theorem asked_index (lA : Option Addr) (lc m : Nat) (l : List Int) (A : Option Addr) (c n b : Nat) (w : World) (hl : At w lA RI l) (HM : Hid (l.length = m)) (hc : w.cell? ⟨b, 0, none⟩ = some (.slice A n c)) :
    Calls Try.prog 158 #[.slice lA m lc, .func (.func 126) #[] #[.pointer (some ⟨b, 0, none⟩)]] w fun e w' => (∃ r : Int, e = .returned (.int .i64 r) ∧ decide (0 ≤ r) = yes (¬ InAu n l)) ∧ w' = w := by
  have hml : m ≤ 140737488355328 := by have := hl.1; rwa [HM.out] at this
  have HC := Lib.hid (fun s => asked_one s A c n b w hc)
  obtain ⟨ans, hans⟩ : ∃ ans, yes (¬ InAu n l) = ans := ⟨_, rfl⟩
  rw [hans]
  have HANS := Lib.hid hans
  clear hans hc
  go_enter Try.func158, Try.ntmps158
  go_wp2
  go_loopw [8] (fun i wr => ∃ k : Nat, i = .int .i64 k ∧ k ≤ m ∧ wr = w ∧ Hid (∀ (j : Nat) s, j < k → l[j]? = some s → 0 ≤ s ∧ s < (n : Int))) (fun i _ => m - (intOf i).toNat)
  case atStart => exact ⟨0, rfl, by omega, rfl, Lib.hid (by intros; omega)⟩
  case round =>
    obtain ⟨k, rfl, hk, rfl, HJ⟩ := hrel
    by_cases hlt : k < m
    · obtain ⟨b1, o1, u, s, rfl, hb1, c1, ⟨rfl, _, _⟩, HX⟩ := hl.gt HM hlt
      have HCS := Lib.hid (HC.out s)
      have i1 : (0 : Int) ≤ (k : Int) := by omega
      have i2 : (k : Int) < (m : Int) := by omega
      by_cases h0 : 0 ≤ s ∧ s < (n : Int)
      · rw [show (decide (s < 0) || decide ((n : Int) ≤ s)) = false by simp; omega] at HCS
        have HJ2 := Lib.hid (fun (j : Nat) (t : Int) (hj : j < k + 1) (ht : l[j]? = some t) => show 0 ≤ t ∧ t < (n : Int) by
          by_cases e : j = k
          · subst e; obtain rfl := Option.some.inj (ht.symm.trans HX.out); exact h0
          · exact HJ.out j t (by omega) ht)
        clear h0
        go_wp2_with (go_at_call 126; refine HCS.out.mono ?_; rintro e w2 ⟨rfl, rfl⟩)
        go_roundw
        case rel => exact ⟨k + 1, by go_num, by omega, by first | rfl | trivial, HJ2⟩
        case measure => simp [intOf]; omega
      · rw [show (decide (s < 0) || decide ((n : Int) ≤ s)) = true by simp; omega] at HCS
        have HN := Lib.hid (show true = ans by rw [← HANS.out, yes_t]; intro hh; exact h0 (hh s (mem_of_get HX.out)))
        clear h0
        go_wp2_with (go_at_call 126; refine HCS.out.mono ?_; rintro e w2 ⟨rfl, rfl⟩)
        go_ret
        exact ⟨⟨_, rfl, by rw [← HN.out]; simp⟩, rfl⟩
    · have HN := Lib.hid (show false = ans by
        rw [← HANS.out, yes_f]
        intro hh
        exact hh fun x hx => by obtain ⟨j, hj⟩ := List.getElem?_of_mem hx; exact HJ.out j x (by have := lt_of_get hj; rw [HM.out] at this; omega) hj)
      go_wp2
      go_ret
      exact ⟨⟨_, rfl, by rw [← HN.out]; simp⟩, rfl⟩

set_option maxHeartbeats 1000000 in
set_option maxRecDepth 100000 in
theorem asked_contains (lA : Option Addr) (lc m : Nat) (l : List Int) (A : Option Addr) (c n b : Nat) (w : World) (hl : At w lA RI l) (HM : Hid (l.length = m)) (hc : w.cell? ⟨b, 0, none⟩ = some (.slice A n c)) :
    Calls Try.prog 125 #[.slice lA m lc, .func (.func 126) #[] #[.pointer (some ⟨b, 0, none⟩)]] w fun e w' => e = .returned (.bool (yes (¬ InAu n l))) ∧ w' = w := by
  have HC := Lib.hid (asked_index lA lc m l A c n b w hl HM hc)
  generalize yes (¬ InAu n l) = ans at *
  clear hl hc
  go_enter Try.func125, Try.ntmps125
  go_wp2_with (go_at_call 158; refine HC.out.mono ?_; rintro e w2 ⟨⟨r, rfl, hr⟩, rfl⟩; have HR := Lib.hid hr; clear hr)
  go_ret
  exact ⟨ret_bool HR.out, rfl⟩

set_option maxHeartbeats 1000000 in
set_option maxRecDepth 100000 in
theorem auto_asked (A : Option Addr) (c n : Nat) (acc : Int) (a : Au) (lA : Option Addr) (lc m : Nat) (l : List Int) (w : World) (ha : AtAu w A a) (HL : Hid (a.length = n)) (hl : At w lA RI l) (HM : Hid (l.length = m)) :
    Calls Try.prog 74 #[.agg #[.slice A n c, .int .i64 acc], .slice lA m lc] w fun e w' => e = .returned (.int .i64 (askE a acc l)) ∧ Below w.heap.size w w' := by
  have HB0 := Lib.hid ((Below.refl w.heap.size w).alloc (Nat.le_refl _) (.cells #[.slice A n c, .int .i64 acc] TAuto))
  have K0 := Lib.hid (Blk.new w TAuto #[.slice A n c, .int .i64 acc])
  have HCH := Lib.hid (auto_Check A c n acc a _ (ha.keep (Keep.of HB0.out)) HL)
  have HLL := Lib.hid hl
  have hc := acase a acc l
  clear ha hl
  cases hc
  case bad h e =>
    rw [auE_no h] at HCH
    rw [e]
    clear h e
    go_enter Try.func74, Try.ntmps74
    go_wp2_with (go_at_call 40; refine HCH.out.mono ?_; rintro e w1 ⟨rfl, hb1⟩; have HB1 := Lib.hid (HB0.out.trans (hb1.mono (by simp))); clear hb1)
    go_ret
    exact ⟨rfl, HB1.out⟩
  case out h h2 e =>
    rw [auE_yes h] at HCH
    rw [e]
    have HCT := Lib.hid (fun W (hb : Below w.heap.size w W) (hc : W.cell? ⟨w.heap.size, 0, none⟩ = some (.slice A n c)) => asked_contains lA lc m l A c n w.heap.size W (HLL.out.keep (Keep.of hb)) HM hc)
    rw [HL.out] at h2
    rw [yes_t h2] at HCT
    clear h e h2
    go_enter Try.func74, Try.ntmps74
    go_wp2_with (first | (go_at_call 40; refine HCH.out.mono ?_; rintro e w1 ⟨rfl, hb1⟩; have HB1 := Lib.hid (HB0.out.trans (hb1.mono (by simp))); obtain ⟨p0, p1, _, _⟩ := Blk.two (K0.out.below hb1 (by simp)); clear hb1) | (go_at_call 125; refine (HCT.out _ HB1.out p0).mono ?_; rintro e w2 ⟨rfl, rfl⟩))
    go_ret
    exact ⟨rfl, HB1.out⟩
  case ok h h2 e =>
    rw [auE_yes h] at HCH
    rw [e]
    have HCT := Lib.hid (fun W (hb : Below w.heap.size w W) (hc : W.cell? ⟨w.heap.size, 0, none⟩ = some (.slice A n c)) => asked_contains lA lc m l A c n w.heap.size W (HLL.out.keep (Keep.of hb)) HM hc)
    rw [HL.out] at h2
    rw [yes_f (fun hh => hh h2)] at HCT
    clear h e h2
    go_enter Try.func74, Try.ntmps74
    go_wp2_with (first | (go_at_call 40; refine HCH.out.mono ?_; rintro e w1 ⟨rfl, hb1⟩; have HB1 := Lib.hid (HB0.out.trans (hb1.mono (by simp))); obtain ⟨p0, p1, _, _⟩ := Blk.two (K0.out.below hb1 (by simp)); clear hb1) | (go_at_call 125; refine (HCT.out _ HB1.out p0).mono ?_; rintro e w2 ⟨rfl, rfl⟩))
    go_ret
    exact ⟨rfl, HB1.out⟩

set_option maxHeartbeats 1000000 in
set_option maxRecDepth 100000 in
theorem clone_int (A : Option Addr) (n c : Nat) (l : List Int) (w : World) (hn : n ≤ 1000000) (h : At w A RI l) (HL : Hid (l.length = n)) :
    Calls Try.prog 127 #[.slice A n c] w fun e w' => ∃ A' c', e = .returned (.slice A' n c') ∧ w'.ownsRow w.heap.size 3 1 (.slice A' n c') n (l.map (Value.int .i64)) ∧ Below w.heap.size w w' := by
  have hnil := fun (W : World) (a : Option Addr) (n c : Nat) => Lib.run_eql_slice_nil (P := Try.prog) W 22 3 a n c 0 0 Try.underlying22
  obtain ⟨i0, hi0, hz0, hs0, hb0⟩ := info_parts info_int9
  obtain ⟨us, hr, src⟩ := h.src (fun u x hux => RI.one hux)
  rw [HL.out] at src
  have hus : us = l.map (Value.int .i64) := by
    apply List.ext_getElem?
    intro i
    rw [List.getElem?_map]
    cases hi : l[i]? with
    | none => rw [List.getElem?_eq_none (by rw [hr.1]; exact Nat.le_of_not_lt fun hh => by rw [List.getElem?_eq_getElem hh] at hi; cases hi)]; rfl
    | some x =>
      have hlt : i < us.length := by rw [hr.1]; exact lt_of_get hi
      have hu := List.getElem?_eq_getElem hlt
      rw [hu]
      have := (hr.2 i _ x hu hi).1
      rw [this]; rfl
  subst hus
  have hba : Below w.heap.size w (w.alloc (.cells #[] 3)) := (Below.refl _ _).alloc (Nat.le_refl _) _
  have S1 := Lib.hid (src.keep (Keep.of hba))
  have OW : Hid ((w.alloc (.cells #[] 3)).ownsRow w.heap.size 3 1 (.slice (some ⟨w.heap.size, 0, none⟩) 0 0) 0 []) := Lib.hid ⟨by simp, .inr ⟨w.heap.size, 0, #[], rfl, Nat.le_refl _, by show (w.heap.push _)[w.heap.size]? = _; simp, Nat.le_refl _, by simp only [maxLen]; omega, by simp, by simp⟩⟩
  have HB := Lib.hid hba
  have Q1 : Hid (0 + n ≤ maxLen) := Lib.hid (by simp only [maxLen]; omega)
  have Q2 : Hid ((0 + n) * 8 ≤ 140737488355328) := Lib.hid (by omega)
  have hcase : A = none ∨ ∃ ad, A = some ad := by cases A with | none => exact .inl rfl | some ad => exact .inr ⟨ad, rfl⟩
  rcases hcase with rfl | ⟨ad, rfl⟩
  · have h0 : n = 0 := by
      rcases Nat.eq_zero_or_pos n with h0 | h0
      · exact h0
      · obtain ⟨b, off, e, _⟩ := h.2 (by rw [HL.out]; exact h0)
        cases e
    subst h0
    have hl0 : l = [] := List.eq_nil_of_length_eq_zero HL.out
    subst hl0
    clear src hr h hba
    go_enter Try.func127, Try.ntmps127
    go_wp2
    go_ret
    exact ⟨none, 0, rfl, World.ownsRow_nil _ _ _ _, Below.refl _ _⟩
  · clear src hr h hba
    go_enter Try.func127, Try.ntmps127
    go_wp2_with (at_builtin
                 go_must (refine wpList_append_src _ rfl (.tmp 5) (.tmp 6) 22 rfl w.heap.size 3 i0 (.int .i64 0) 1 8 Try.underlying22 hi0 hz0 hs0 hb0 rfl (by decide) (some ⟨w.heap.size, 0, none⟩) 0 0 [] rfl OW.out (some ad) n c _ rfl S1.out Q1.out Q2.out HB.out.size ?_)
                 intro A1 c1 w1 own1 gr1 _
                 simp only [List.nil_append, Nat.zero_add] at own1
                 have G1 := Lib.hid (HB.out.grown gr1 HB.out.size (fun g hg => (OW.out.lt g hg).1)); have O1 := Lib.hid own1
                 clear own1 gr1)
    go_ret
    exact ⟨A1, c1, by simp, O1.out, G1.out⟩
end Go.Proofs.Ytjnjbcigbnjmkaa
