/- Walks: what is asked of an automaton and states, by the program; a list copied. PUT1 -/
import Derived.Test.YtjnjbcigbnjmkaaZgy
import Derived.Test.YtjnjbcigbnjmkaaWby
namespace Go.Proofs.Ytjnjbcigbnjmkaa
open Go.RowKit Pv

set_option maxHeartbeats 1000000 in
set_option maxRecDepth 100000 in
theorem asked_one (s : Int) (A : Option Addr) (c n b : Nat) (w : World) (hc : w.cell? ⟨b, 0, none⟩ = some (.slice A n c)) :
    Calls Try.prog 126 #[.int .i64 s, .pointer (some ⟨b, 0, none⟩)] w fun e w' => e = .returned (.bool (decide (s < 0) || decide ((n : Int) ≤ s))) ∧ w' = w := by
  by_cases h0 : s < 0
  · have HA := Lib.hid (show true = (decide (s < 0) || decide ((n : Int) ≤ s)) by simp [h0])
    generalize (decide (s < 0) || decide ((n : Int) ≤ s)) = ans at *
    go_enter Try.func126, Try.ntmps126
    go_wp2
    go_ret
    exact ⟨ret_bool HA.out, rfl⟩
  · by_cases h1 : (n : Int) ≤ s
    · have HA := Lib.hid (show true = (decide (s < 0) || decide ((n : Int) ≤ s)) by simp [h1])
      generalize (decide (s < 0) || decide ((n : Int) ≤ s)) = ans at *
      go_enter Try.func126, Try.ntmps126
      go_wp2
      go_ret
      exact ⟨ret_bool HA.out, rfl⟩
    · have HA := Lib.hid (show false = (decide (s < 0) || decide ((n : Int) ≤ s)) by simp [h0]; omega)
      generalize (decide (s < 0) || decide ((n : Int) ≤ s)) = ans at *
      go_enter Try.func126, Try.ntmps126
      go_wp2
      go_ret
      exact ⟨ret_bool HA.out, rfl⟩

set_option maxHeartbeats 1000000 in
set_option maxRecDepth 100000 in
theorem asked_index (lA : Option Addr) (lc m : Nat) (l : List Int) (A : Option Addr) (c n b : Nat) (w : World) (hl : At w lA RI l) (HM : Hid (l.length = m)) (hc : w.cell? ⟨b, 0, none⟩ = some (.slice A n c)) :
    Calls Try.prog 158 #[.slice lA m lc, .func (.func 126) #[] #[.pointer (some ⟨b, 0, none⟩)]] w fun e w' => (∃ r : Int, e = .returned (.int .i64 r) ∧ decide (0 ≤ r) = yes (¬ InAu n l)) ∧ w' = w := by
  have hml : m ≤ 140737488355328 := by have := hl.1; rwa [HM.out] at this
  have HC := Lib.hid (fun s => asked_one s A c n b w hc)
  obtain ⟨ans, hans⟩ : ∃ ans, yes (¬ InAu n l) = ans := ⟨_, rfl⟩
  rw [hans]
  have HANS := Lib.hid hans
  clear hans hc
  go_enter Try.func158, Try.ntmps158
  go_wp2
  go_loopw [8] (fun i wr => ∃ k : Nat, i = .int .i64 k ∧ k ≤ m ∧ wr = w ∧ Hid (∀ (j : Nat) s, j < k → l[j]? = some s → 0 ≤ s ∧ s < (n : Int))) (fun i _ => m - (intOf i).toNat)
  case atStart => exact ⟨0, rfl, by omega, rfl, Lib.hid (by intros; omega)⟩
  case round =>
    obtain ⟨k, rfl, hk, rfl, HJ⟩ := hrel
    by_cases hlt : k < m
    · obtain ⟨b1, o1, u, s, rfl, hb1, c1, ⟨rfl, _, _⟩, HX⟩ := hl.gt HM hlt
      have HCS := Lib.hid (HC.out s)
      have i1 : (0 : Int) ≤ (k : Int) := by omega
      have i2 : (k : Int) < (m : Int) := by omega
      by_cases h0 : 0 ≤ s ∧ s < (n : Int)
      · rw [show (decide (s < 0) || decide ((n : Int) ≤ s)) = false by simp; omega] at HCS
        have HJ2 := Lib.hid (fun (j : Nat) (t : Int) (hj : j < k + 1) (ht : l[j]? = some t) => show 0 ≤ t ∧ t < (n : Int) by
          by_cases e : j = k
          · subst e; obtain rfl := Option.some.inj (ht.symm.trans HX.out); exact h0
          · exact HJ.out j t (by omega) ht)
        clear h0
        go_wp2_with (go_at_call 126; refine HCS.out.mono ?_; rintro e w2 ⟨rfl, rfl⟩)
        go_roundw
        case rel => exact ⟨k + 1, by go_num, by omega, by first | rfl | trivial, HJ2⟩
        case measure => simp [intOf]; omega
      · rw [show (decide (s < 0) || decide ((n : Int) ≤ s)) = true by simp; omega] at HCS
        have HN := Lib.hid (show true = ans by rw [← HANS.out, yes_t]; intro hh; exact h0 (hh s (mem_of_get HX.out)))
        clear h0
        go_wp2_with (go_at_call 126; refine HCS.out.mono ?_; rintro e w2 ⟨rfl, rfl⟩)
        go_ret
        exact ⟨⟨_, rfl, by rw [← HN.out]; simp⟩, rfl⟩
    · have HN := Lib.hid (show false = ans by
        rw [← HANS.out, yes_f]
        intro hh
        exact hh fun x hx => by obtain ⟨j, hj⟩ := List.getElem?_of_mem hx; exact HJ.out j x (by have := lt_of_get hj; rw [HM.out] at this; omega) hj)
      go_wp2
      go_ret
      exact ⟨⟨_, rfl, by rw [← HN.out]; simp⟩, rfl⟩

set_option maxHeartbeats 1000000 in
set_option maxRecDepth 100000 in
theorem asked_contains (lA : Option Addr) (lc m : Nat) (l : List Int) (A : Option Addr) (c n b : Nat) (w : World) (hl : At w lA RI l) (HM : Hid (l.length = m)) (hc : w.cell? ⟨b, 0, none⟩ = some (.slice A n c)) :
    Calls Try.prog 125 #[.slice lA m lc, .func (.func 126) #[] #[.pointer (some ⟨b, 0, none⟩)]] w fun e w' => e = .returned (.bool (yes (¬ InAu n l))) ∧ w' = w := by
  have HC := Lib.hid (asked_index lA lc m l A c n b w hl HM hc)
  generalize yes (¬ InAu n l) = ans at *
  clear hl hc
  go_enter Try.func125, Try.ntmps125
  go_wp2_with (go_at_call 158; refine HC.out.mono ?_; rintro e w2 ⟨⟨r, rfl, hr⟩, rfl⟩; have HR := Lib.hid hr; clear hr)
  go_ret
  exact ⟨ret_bool HR.out, rfl⟩

set_option maxHeartbeats 1000000 in
set_option maxRecDepth 100000 in
theorem auto_asked (A : Option Addr) (c n : Nat) (acc : Int) (a : Au) (lA : Option Addr) (lc m : Nat) (l : List Int) (w : World) (ha : AtAu w A a) (HL : Hid (a.length = n)) (hl : At w lA RI l) (HM : Hid (l.length = m)) :
    Calls Try.prog 74 #[.agg #[.slice A n c, .int .i64 acc], .slice lA m lc] w fun e w' => e = .returned (.int .i64 (askE a acc l)) ∧ Below w.heap.size w w' := by
  have HB0 := Lib.hid ((Below.refl w.heap.size w).alloc (Nat.le_refl _) (.cells #[.slice A n c, .int .i64 acc] TAuto))
  have K0 := Lib.hid (Blk.new w TAuto #[.slice A n c, .int .i64 acc])
  have HCH := Lib.hid (auto_Check A c n acc a _ (ha.keep (Keep.of HB0.out)) HL)
  have HLL := Lib.hid hl
  have hc := acase a acc l
  clear ha hl
  cases hc
  case bad h e =>
    rw [auE_no h] at HCH
    rw [e]
    clear h e
    go_enter Try.func74, Try.ntmps74
    go_wp2_with (go_at_call 40; refine HCH.out.mono ?_; rintro e w1 ⟨rfl, hb1⟩; have HB1 := Lib.hid (HB0.out.trans (hb1.mono (by simp))); clear hb1)
    go_ret
    exact ⟨rfl, HB1.out⟩
  case out h h2 e =>
    rw [auE_yes h] at HCH
    rw [e]
    have HCT := Lib.hid (fun W (hb : Below w.heap.size w W) (hc : W.cell? ⟨w.heap.size, 0, none⟩ = some (.slice A n c)) => asked_contains lA lc m l A c n w.heap.size W (HLL.out.keep (Keep.of hb)) HM hc)
    rw [HL.out] at h2
    rw [yes_t h2] at HCT
    clear h e h2
    go_enter Try.func74, Try.ntmps74
    go_wp2_with (first | (go_at_call 40; refine HCH.out.mono ?_; rintro e w1 ⟨rfl, hb1⟩; have HB1 := Lib.hid (HB0.out.trans (hb1.mono (by simp))); obtain ⟨p0, p1, _, _⟩ := Blk.two (K0.out.below hb1 (by simp)); clear hb1) | (go_at_call 125; refine (HCT.out _ HB1.out p0).mono ?_; rintro e w2 ⟨rfl, rfl⟩))
    go_ret
    exact ⟨rfl, HB1.out⟩
  case ok h h2 e =>
    rw [auE_yes h] at HCH
    rw [e]
    have HCT := Lib.hid (fun W (hb : Below w.heap.size w W) (hc : W.cell? ⟨w.heap.size, 0, none⟩ = some (.slice A n c)) => asked_contains lA lc m l A c n w.heap.size W (HLL.out.keep (Keep.of hb)) HM hc)
    rw [HL.out] at h2
    rw [yes_f (fun hh => hh h2)] at HCT
    clear h e h2
    go_enter Try.func74, Try.ntmps74
    go_wp2_with (first | (go_at_call 40; refine HCH.out.mono ?_; rintro e w1 ⟨rfl, hb1⟩; have HB1 := Lib.hid (HB0.out.trans (hb1.mono (by simp))); obtain ⟨p0, p1, _, _⟩ := Blk.two (K0.out.below hb1 (by simp)); clear hb1) | (go_at_call 125; refine (HCT.out _ HB1.out p0).mono ?_; rintro e w2 ⟨rfl, rfl⟩))
    go_ret
    exact ⟨rfl, HB1.out⟩

set_option maxHeartbeats 1000000 in
set_option maxRecDepth 100000 in
theorem clone_int (A : Option Addr) (n c : Nat) (l : List Int) (w : World) (hn : n ≤ 1000000) (h : At w A RI l) (HL : Hid (l.length = n)) :
    Calls Try.prog 127 #[.slice A n c] w fun e w' => ∃ A' c', e = .returned (.slice A' n c') ∧ w'.ownsRow w.heap.size 3 1 (.slice A' n c') n (l.map (Value.int .i64)) ∧ Below w.heap.size w w' := by
  have hnil := fun (W : World) (a : Option Addr) (n c : Nat) => Lib.run_eql_slice_nil (P := Try.prog) W 22 3 a n c 0 0 Try.underlying22
  obtain ⟨i0, hi0, hz0, hs0, hb0⟩ := info_parts info_int9
  obtain ⟨us, hr, src⟩ := h.src (fun u x hux => RI.one hux)
  rw [HL.out] at src
  have hus : us = l.map (Value.int .i64) := by
    apply List.ext_getElem?
    intro i
    rw [List.getElem?_map]
    cases hi : l[i]? with
    | none => rw [List.getElem?_eq_none (by rw [hr.1]; exact Nat.le_of_not_lt fun hh => by rw [List.getElem?_eq_getElem hh] at hi; cases hi)]; rfl
    | some x =>
      have hlt : i < us.length := by rw [hr.1]; exact lt_of_get hi
      have hu := List.getElem?_eq_getElem hlt
      rw [hu]
      have := (hr.2 i _ x hu hi).1
      rw [this]; rfl
  subst hus
  have hba : Below w.heap.size w (w.alloc (.cells #[] 3)) := (Below.refl _ _).alloc (Nat.le_refl _) _
  have S1 := Lib.hid (src.keep (Keep.of hba))
  have OW : Hid ((w.alloc (.cells #[] 3)).ownsRow w.heap.size 3 1 (.slice (some ⟨w.heap.size, 0, none⟩) 0 0) 0 []) := Lib.hid ⟨by simp, .inr ⟨w.heap.size, 0, #[], rfl, Nat.le_refl _, by show (w.heap.push _)[w.heap.size]? = _; simp, Nat.le_refl _, by simp only [maxLen]; omega, by simp, by simp⟩⟩
  have HB := Lib.hid hba
  have Q1 : Hid (0 + n ≤ maxLen) := Lib.hid (by simp only [maxLen]; omega)
  have Q2 : Hid ((0 + n) * 8 ≤ 140737488355328) := Lib.hid (by omega)
  have hcase : A = none ∨ ∃ ad, A = some ad := by cases A with | none => exact .inl rfl | some ad => exact .inr ⟨ad, rfl⟩
  rcases hcase with rfl | ⟨ad, rfl⟩
  · have h0 : n = 0 := by
      rcases Nat.eq_zero_or_pos n with h0 | h0
      · exact h0
      · obtain ⟨b, off, e, _⟩ := h.2 (by rw [HL.out]; exact h0)
        cases e
    subst h0
    have hl0 : l = [] := List.eq_nil_of_length_eq_zero HL.out
    subst hl0
    clear src hr h hba
    go_enter Try.func127, Try.ntmps127
    go_wp2
    go_ret
    exact ⟨none, 0, rfl, World.ownsRow_nil _ _ _ _, Below.refl _ _⟩
  · clear src hr h hba
    go_enter Try.func127, Try.ntmps127
    go_wp2_with (at_builtin
                 go_must (refine wpList_append_src _ rfl (.tmp 5) (.tmp 6) 22 rfl w.heap.size 3 i0 (.int .i64 0) 1 8 Try.underlying22 hi0 hz0 hs0 hb0 rfl (by decide) (some ⟨w.heap.size, 0, none⟩) 0 0 [] rfl OW.out (some ad) n c _ rfl S1.out Q1.out Q2.out HB.out.size ?_)
                 intro A1 c1 w1 own1 gr1 _
                 simp only [List.nil_append, Nat.zero_add] at own1
                 have G1 := Lib.hid (HB.out.grown gr1 HB.out.size (fun g hg => (OW.out.lt g hg).1)); have O1 := Lib.hid own1
                 clear own1 gr1)
    go_ret
    exact ⟨A1, c1, by simp, O1.out, G1.out⟩
end Go.Proofs.Ytjnjbcigbnjmkaa

namespace Pv
open Go Go.RowKit Go.Maps
theorem le_edgesS {es : List Ed} : ∀ {a : Au}, es ∈ a → es.length ≤ edgesS a
  | x :: a, h => by
    rcases List.mem_cons.1 h with rfl | h
    · simp [edgesS]
    · have := le_edgesS h
      simp only [edgesS, List.map_cons, List.sum_cons] at this ⊢
      omega
/-- A map of the call's own that holds a set of states. -/
def MapS (P : Program) (k : TypeId) (w : World) (b cnt n : Nat) (S : Nat → Prop) : Prop := ∃ L : List Int, w.ownsMap P k unitElem b cnt (setM L) ∧ L.length ≤ cnt ∧ ∀ x, x ∈ L ↔ x ∈ stL n S
section
variable {P : Program} {k : TypeId} {w w' : World} {b cnt n : Nat} {S S' : Nat → Prop}
theorem ownsMap_block {D : DataW Unit} (h : w.ownsMap P k unitElem b cnt D) (e : w'.heap[b]? = w.heap[b]?) : w'.ownsMap P k unitElem b cnt D := by
  obtain ⟨es, clock, hb, r⟩ := h
  exact ⟨es, clock, e.trans hb, r⟩
theorem MapS.lt (h : MapS P k w b cnt n S) : b < w.heap.size := by obtain ⟨L, h1, _⟩ := h; exact h1.lt
theorem MapS.below (h : MapS P k w b cnt n S) (hb : Below w.heap.size w w') : MapS P k w' b cnt n S := by
  have hl := h.lt
  obtain ⟨L, h1, h2⟩ := h
  exact ⟨L, ownsMap_block h1 (hb.block b hl), h2⟩
theorem MapS.alloc (h : MapS P k w b cnt n S) (o : Obj) : MapS P k (w.alloc o) b cnt n S := h.below ((Below.refl _ _).alloc (Nat.le_refl _) o)
theorem MapS.mono {cnt' : Nat} (h : MapS P k w b cnt n S) (hc : cnt ≤ cnt') : MapS P k w b cnt' n S := by
  obtain ⟨L, h1, h2, h3⟩ := h
  exact ⟨L, h1.mono hc, Nat.le_trans h2 hc, h3⟩
theorem MapS.congr (h : MapS P k w b cnt n S) (e : ∀ i, i < n → (S i ↔ S' i)) : MapS P k w b cnt n S' := by
  obtain ⟨L, h1, h2, h3⟩ := h
  exact ⟨L, h1, h2, fun x => by rw [h3 x, stL_ext e]⟩
theorem MapS.kept {row : Option Nat} (h : MapS P k w b cnt n S) (hg : w.grownBy w' row) (hr : some b ≠ row) : MapS P k w' b cnt n S := by
  have hl := h.lt
  obtain ⟨L, h1, h2⟩ := h
  exact ⟨L, ownsMap_block h1 (hg.block b hl hr), h2⟩
/-- behind a store -/
theorem MapS.put {L : List Int} {s : Nat} (h2 : L.length ≤ cnt) (h3 : ∀ x, x ∈ L ↔ x ∈ stL n S) (hs : s < n) (h : w'.ownsMap P k unitElem b (cnt + 1) ((setM L).put (litI s) (.agg []))) (e : ∀ j, S' j ↔ (S j ∨ j = s)) : MapS P k w' b (cnt + 1) n S' := by
  rw [setM_put] at h
  refine ⟨_, h, by simp; omega, fun x => ?_⟩
  rw [List.mem_append, h3 x, stL_mem, stL_mem, List.mem_singleton]
  constructor
  · rintro (⟨t, h1, h2, h3⟩ | rfl)
    · exact ⟨t, h1, (e t).2 (.inl h2), h3⟩
    · exact ⟨s, hs, (e s).2 (.inr rfl), rfl⟩
  · rintro ⟨t, h1, h2, rfl⟩
    rcases (e t).1 h2 with h2 | rfl
    · exact .inl ⟨t, h1, h2, rfl⟩
    · exact .inr rfl
end
end Pv
namespace Go.Proofs.Ytjnjbcigbnjmkaa
open Go.RowKit Go.Maps Pv

theorem law_int : Keyed Try.prog 3 := int_keyed Try.underlying3
theorem zero_unit (w : World) : (zeroValue 181).run Try.prog w = .ok (.agg #[]) w := by kernel_rfl
theorem key_int (s : Nat) (h : s ≤ 1000000) : keyOf Try.prog 3 (.int .i64 (s : Int)) = some (litI s) := keyOf_int_mk Try.underlying3 (by simp [Lit.wf, IntKind.min, IntKind.max, IntKind.signed, IntKind.bits]; omega)

set_option maxHeartbeats 2000000 in
set_option maxRecDepth 100000 in
theorem auto_step (A : Option Addr) (c n : Nat) (acc : Int) (a : Au) (lA : Option Addr) (lc m : Nat) (l : List Int) (p : Int) (w : World) (ha : AtAu w A a) (HL : Hid (a.length = n)) (hl : At w lA RI l) (HM : Hid (l.length = m)) (hok : AuOk a acc) (hin : InAu n l) (hm : m ≤ 1000000) :
    Calls Try.prog 78 #[.agg #[.slice A n c, .int .i64 acc], .slice lA m lc, .int .i64 p] w fun e w' => ∃ v, e = .returned v ∧ OwnI w' w.heap.size v (stL n (Stp a p (Of l))) ∧ Below w.heap.size w w' := by
  have hmm := @run_makeMap Try.prog
  have hn : n ≤ 256 := by have := hok.few; rwa [HL.out] at this
  have HA := Lib.hid ha; have HLL := Lib.hid hl; have HOK := Lib.hid hok; have HIN := Lib.hid hin
  have HB0 := Lib.hid (((Below.refl w.heap.size w).alloc (Nat.le_refl _) (.cells #[.slice A n c, .int .i64 acc] TAuto)).alloc (by simp) (.map #[] 0))
  have e1 : (w.alloc (.cells #[.slice A n c, .int .i64 acc] TAuto)).heap.size = w.heap.size + 1 := by simp
  have M0 : Hid (MapS Try.prog 3 ((w.alloc (.cells #[.slice A n c, .int .i64 acc] TAuto)).alloc (.map #[] 0)) (w.heap.size + 1) 0 n (Stp a p (Of ([] : List Int)))) := Lib.hid ⟨[], by
    have := World.ownsMap_made (H := Unit) (w.alloc (.cells #[.slice A n c, .int .i64 acc] TAuto)) Try.prog 3 unitElem
    rw [e1] at this
    exact this, by simp, fun x => by
    rw [stL_mem]
    constructor
    · intro h; simp at h
    · rintro ⟨s, _, h, _⟩; exact absurd ((stp_nil s).1 h) id⟩
  have K0 := Lib.hid ((Blk.new w TAuto #[.slice A n c, .int .i64 acc]).alloc (.map #[] 0))
  clear ha hl hok hin e1
  go_enter Try.func78, Try.ntmps78
  go_wp2
  go_loopw [15] (fun iv wr => ∃ i : Nat, iv = .int .i64 i ∧ i ≤ m ∧ Hid (MapS Try.prog 3 wr (w.heap.size + 1) (i * 1024) n (Stp a p (Of (l.take i)))) ∧ Hid (Blk wr w.heap.size TAuto #[.slice A n c, .int .i64 acc]) ∧ Hid (Below w.heap.size w wr)) (fun iv _ => m - (intOf iv).toNat)
  case atStart => exact ⟨0, rfl, by omega, M0, K0, HB0⟩
  case round =>
    obtain ⟨i, rfl, hi, HT, HK, HB⟩ := hrel
    obtain ⟨p0, p1, _, _⟩ := Blk.two HK.out
    have hN := HK.out.lt
    by_cases hlt : i < m
    · obtain ⟨b1, o1, u, s, rfl, hb1, c1, ⟨rfl, _, _⟩, HX⟩ := (HLL.out.keep (Keep.of HB.out)).gt HM hlt
      have hsr := HIN.out s (mem_of_get HX.out)
      obtain ⟨s, rfl⟩ := Int.eq_ofNat_of_zero_le hsr.1
      have hsn : s < n := by omega
      obtain ⟨b2, o2, S, q, cs, es, rfl, hb2, c2, hS, HQ, hqc, HY⟩ := AtAu.gt HA.out HL hsn
      have HES := Lib.hid hS
      have hq : q ≤ 1024 := by have h1 := le_edgesS (mem_of_get HY.out); have h2 := HOK.out.edges; rw [HQ.out] at h1; omega
      have HEX := Lib.hid (HOK.out.each es (mem_of_get HY.out))
      have c2 := ((Keep.of HB.out).cell _ _ hb2).trans c2
      have hb2 := Nat.lt_of_lt_of_le hb2 HB.out.size
      have i1 : (0 : Int) ≤ (i : Int) := by omega
      have i2 : (i : Int) < (m : Int) := by omega
      have i3 : (0 : Int) ≤ (s : Int) := by omega
      have i4 : (s : Int) < (n : Int) := by omega
      clear hS hsr
      go_wp2
      go_loopw [25] (fun kv wr => ∃ k : Nat, kv = .int .i64 k ∧ k ≤ q ∧ Hid (MapS Try.prog 3 wr (w.heap.size + 1) (i * 1024 + k) n (StpE a p (Of (l.take i)) (es.take k))) ∧ Hid (Blk wr w.heap.size TAuto #[.slice (some ⟨b2, o2, none⟩) n c, .int .i64 acc]) ∧ Hid (Below w.heap.size w wr)) (fun kv _ => q - (intOf kv).toNat)
      case atStart => exact ⟨0, rfl, by omega, Lib.hid (HT.out.congr fun i _ => (stpE_nil i).symm), HK, HB⟩
      case round =>
        clear p0 p1 c1 c2 hb1 hb2 HT HK HB hN
        obtain ⟨k, rfl, hk, HT, HK, HB⟩ := hrel
        by_cases hkt : k < q
        · obtain ⟨b3, o3, to, fr, T, tq, tc, sl, rfl, hb3, ⟨d0, d1, d2⟩, hset, HTQ, htc, hto, HZ⟩ := AtEd.gt (AtEd.keep HES.out (Keep.of HB.out)) HQ hkt
          have hx := HEX.out _ (mem_of_get HZ.out)
          simp only at hx
          obtain ⟨x0, x1, x2, x3⟩ := hx
          obtain ⟨to, rfl⟩ := Int.eq_ofNat_of_zero_le x0
          rw [HL.out] at x1
          have hton : to < n := by omega
          have HSN := Lib.hid (take_snoc HZ.out)
          have i5 : (0 : Int) ≤ (k : Int) := by omega
          have i6 : (k : Int) < (q : Int) := by omega
          have HSE := Lib.hid hset
          have HBN := Lib.hid (HB.out.alloc HB.out.size (.cells #[.int .i64 to, .bool fr, .slice T tq tc] TEdge))
          have HKN := Lib.hid (HK.out.alloc (.cells #[.int .i64 to, .bool fr, .slice T tq tc] TEdge))
          have HTN := Lib.hid (HT.out.alloc (.cells #[.int .i64 to, .bool fr, .slice T tq tc] TEdge))
          have HC := Lib.hid (fun W (hb : Below wr.heap.size wr W) => ranges_Has T tc tq sl p W (hset.keep (Keep.of hb)) HTQ)
          have HNEW := Lib.hid ((Below.refl wr.heap.size wr).alloc (Nat.le_refl _) (.cells #[.int .i64 to, .bool fr, .slice T tq tc] TEdge))
          have X0 := Lib.hid (fun W (hW : Below (wr.alloc (.cells #[.int .i64 to, .bool fr, .slice T tq tc] TEdge)).heap.size (wr.alloc (.cells #[.int .i64 to, .bool fr, .slice T tq tc] TEdge)) W) => show W.cell? ⟨wr.heap.size, 0, none⟩ = some (.int .i64 to) from (hW.cell (p := ⟨wr.heap.size, 0, none⟩) (by simp)).trans (World.cell?_alloc_new ..))
          clear hset x2 x3
          cases fr
          case true =>
            have HNO := Lib.hid (fun t => stpE_no (a := a) (p := p) (S := Of (l.take i)) (es := es.take k) (x := ⟨to, true, sl⟩) (fun h => by cases h.1) t)
            go_wp2
            go_roundw
            case rel => exact ⟨k + 1, by go_num, by omega, Lib.hid (by rw [HSN.out]; exact (HTN.out.congr fun i _ => (HNO.out i).symm).mono (by omega)), HKN, HBN⟩
            case measure => simp [intOf]; omega
          case false =>
            by_cases hyy : InSet sl p
            · rw [yes_t hyy] at HC
              have HYES := Lib.hid (fun t => stpE_yes (a := a) (p := p) (S := Of (l.take i)) (es := es.take k) (x := ⟨to, false, sl⟩) rfl hyy rfl t)
              have hkey := key_int to (by omega)
              have MX : Hid (i * 1024 + k < maxLen) := Lib.hid (by simp only [maxLen]; omega)
              clear hyy
              go_wp2_with (first
                | (go_at_call 130
                   refine (HC.out _ HNEW.out).mono ?_
                   rintro e w2 ⟨rfl, hb2⟩
                   have z0 := X0.out _ hb2
                   have B3 := Lib.hid (HBN.out.trans (hb2.mono HBN.out.size)); have K3 := Lib.hid (HKN.out.below hb2 HKN.out.lt); have T3 := Lib.hid (HTN.out.below hb2)
                   clear hb2
                   obtain ⟨L, hL, hLl, hLm⟩ := T3.out
                   have LL := Lib.hid hLl; have LM := Lib.hid hLm; have OM := Lib.hid hL
                   clear hLl hLm hL)
                | (at_mapUpdate
                   go_must (refine wpList_mapUpdate_own _ rfl _ _ _ 180 rfl 3 181 law_int Try.underlying180 (unitElem (H := Unit)) (w.heap.size + 1) (i * 1024 + k) _ rfl OM.out MX.out _ _ _ rfl rfl hkey _ [] unitElem_mk ?_)
                   intro w4 hown4 hgrow4
                   have OW4 := Lib.hid hown4; have GW4 := Lib.hid hgrow4
                   clear hown4 hgrow4))
              have hown4 := OW4.out; have hgrow4 := GW4.out
              have T4 := Lib.hid (MapS.put (S' := StpE a p (Of (l.take i)) (es.take (k + 1))) LL.out LM.out hton hown4 (fun j => by rw [HSN.out]; exact HYES.out j))
              have B4 := Lib.hid (B3.out.grown hgrow4 B3.out.size (fun g hg => by cases hg; omega))
              have K4 := Lib.hid (K3.out.grown hgrow4 (by simp))
              clear hown4 hgrow4
              go_roundw
              case rel => exact ⟨k + 1, by go_num, by omega, T4, K4, B4⟩
              case measure => simp [intOf]; omega
            · rw [yes_f hyy] at HC
              have HNO := Lib.hid (fun t => stpE_no (a := a) (p := p) (S := Of (l.take i)) (es := es.take k) (x := ⟨to, false, sl⟩) (fun h => hyy h.2) t)
              clear hyy
              go_wp2_with (go_at_call 130; refine (HC.out _ HNEW.out).mono ?_; rintro e w2 ⟨rfl, hb2⟩; have B3 := Lib.hid (HBN.out.trans (hb2.mono HBN.out.size)); have K3 := Lib.hid (HKN.out.below hb2 HKN.out.lt); have T3 := Lib.hid (HTN.out.below hb2); clear hb2)
              go_roundw
              case rel => exact ⟨k + 1, by go_num, by omega, Lib.hid (by rw [HSN.out]; exact (T3.out.congr fun i _ => (HNO.out i).symm).mono (by omega)), K3, B3⟩
              case measure => simp [intOf]; omega
        · obtain rfl : k = q := by omega
          have HST := Lib.hid (fun t => stp_snoc (p := p) (l := l.take i) HY.out t)
          have HSN := Lib.hid (take_snoc HX.out)
          go_wp2
          go_roundw
          case rel => exact ⟨i + 1, by go_num, by omega, Lib.hid (by rw [HSN.out]; have := HT.out; rw [show es.take k = es from List.take_of_length_le (by rw [HQ.out]; omega)] at this; exact (this.congr fun i _ => HST.out i).mono (by omega)), HK, HB⟩
          case measure => simp [intOf]; omega
    · obtain rfl : i = m := by omega
      have HTT := Lib.hid (show MapS Try.prog 3 wr (w.heap.size + 1) (i * 1024) n (Stp a p (Of l)) by have := HT.out; rwa [List.take_of_length_le (by rw [HM.out]; omega)] at this)
      obtain ⟨L, hL, hLl, hLm⟩ := HTT.out
      have HC := Lib.hid (auto_list (w.heap.size + 1) (i * 1024) L wr hL (by omega) hLm)
      clear hL hLl hLm
      go_wp2_with (go_at_call 128; refine HC.out.mono ?_; rintro e w2 ⟨v, rfl, hv, hb2⟩; have HV := Lib.hid (hv.lower HB.out.size); have HB3 := Lib.hid (HB.out.trans (hb2.mono HB.out.size)); clear hv hb2)
      go_ret
      exact ⟨v, rfl, HV.out, HB3.out⟩
end Go.Proofs.Ytjnjbcigbnjmkaa
