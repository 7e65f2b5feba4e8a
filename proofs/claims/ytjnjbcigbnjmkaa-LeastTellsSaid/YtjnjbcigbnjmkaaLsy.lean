/- Walks: Reach, Step, by the program; whether an automaton accepts, by the document. PUT1 -/
import Derived.Test.YtjnjbcigbnjmkaaZjy
import Derived.Test.YtjnjbcigbnjmkaaZgy
namespace Pv
open Go Go.RowKit Go.Proofs.Ytjnjbcigbnjmkaa
theorem of_stL {n : Nat} {S : Nat → Prop} (h : ∀ s, S s → s < n) : Of (stL n S) = S := by
  funext s
  refine propext ⟨fun hs => ?_, fun hs => (stL_of (h s hs)).2 hs⟩
  obtain ⟨t, h1, h2, h3⟩ := stL_mem.1 (show (s : Int) ∈ stL n S from hs)
  obtain rfl : s = t := by omega
  exact h2
/-- The states behind numbers. -/
def runA (a : Au) (l : List Int) : Nat → Prop := l.foldl (fun S p => Clo a (Stp a p S)) (Clo a (fun s => s = 0))
theorem runA_snoc (a : Au) (l : List Int) (p : Int) : runA a (l ++ [p]) = Clo a (Stp a p (runA a l)) := by simp [runA, List.foldl_append]
theorem of_zero : Of [(0 : Int)] = fun s => s = 0 := by
  funext s
  refine propext ?_
  simp only [Of, List.mem_singleton]
  omega
theorem stp_in {a : Au} {acc : Int} {p : Int} {S : Nat → Prop} (h : AuOk a acc) {t : Nat} (ht : Stp a p S t) : t < a.length := by
  obtain ⟨s, _, es, x, h1, h2, h3, h4, h5⟩ := ht
  have := (h.each es (mem_of_get h1) x h2).2.1
  omega
theorem runA_in {a : Au} {acc : Int} (h : AuOk a acc) (l : List Int) : ∀ s, runA a l s → s < a.length := by
  have h0 : ∀ s, runA a [] s → s < a.length := fun s hs => clo_in h (fun s hs => by subst hs; have := h.pos; omega) hs
  rcases List.eq_nil_or_concat l with rfl | ⟨l', p, rfl⟩
  · exact h0
  · intro s hs
    rw [List.concat_eq_append, runA_snoc] at hs
    exact clo_in h (fun t ht => stp_in h ht) hs
noncomputable def runB (a : Au) (acc : Int) (l : List Int) : Bool := if auB a acc = true ∧ l.length ≤ 1024 then decide (acc ∈ stL a.length (runA a l)) else false
noncomputable def runE (a : Au) (acc : Int) (l : List Int) : Int := if auB a acc = true then (if l.length ≤ 1024 then 0 else 4) else 8
end Pv
namespace Go.Proofs.Ytjnjbcigbnjmkaa
open Go.RowKit Go.Maps Pv

set_option maxHeartbeats 1000000 in
set_option maxRecDepth 100000 in
theorem auto_Reach (A : Option Addr) (c n : Nat) (acc : Int) (a : Au) (lA : Option Addr) (lc m : Nat) (l : List Int) (w : World) (ha : AtAu w A a) (HL : Hid (a.length = n)) (hl : At w lA RI l) (HM : Hid (l.length = m)) (hm : m ≤ 1000000) :
    Calls Try.prog 34 #[.agg #[.slice A n c, .int .i64 acc], .slice lA m lc] w fun e w' => (∃ v, e = .returned (.tuple #[v, .int .i64 (askE a acc l)]) ∧ OwnI w' w.heap.size v (reachL a acc l)) ∧ Below w.heap.size w w' := by
  have HB0 := Lib.hid ((Below.refl w.heap.size w).alloc (Nat.le_refl _) (.cells #[.slice A n c, .int .i64 acc] TAuto))
  have K0 := Lib.hid (Blk.new w TAuto #[.slice A n c, .int .i64 acc])
  have HAK := Lib.hid (auto_asked A c n acc a lA lc m l _ (ha.keep (Keep.of HB0.out)) HL (hl.keep (Keep.of HB0.out)) HM)
  have HA := Lib.hid ha; have HLL := Lib.hid hl
  have hc := acase a acc l
  clear ha hl
  cases hc
  case ok h h2 e =>
    have HLE := Lib.hid (reachL_yes e)
    rw [e] at HAK
    rw [e, HLE.out]
    rw [HL.out] at h2 HLE ⊢
    have HC := Lib.hid (fun W (hb : Below w.heap.size w W) => auto_reach A c n acc a lA lc m l W (HA.out.keep (Keep.of hb)) HL (HLL.out.keep (Keep.of hb)) HM h h2 hm)
    clear e h h2
    go_enter Try.func34, Try.ntmps34
    go_wp2_with (go_at_call 74; refine HAK.out.mono ?_; rintro e w1 ⟨rfl, hb1⟩; have HB1 := Lib.hid (HB0.out.trans (hb1.mono (by simp))); obtain ⟨p0, p1, _, _⟩ := Blk.two (K0.out.below hb1 (by simp)); clear hb1)
    refine (HC.out _ HB1.out).mono ?_
    rintro e w2 ⟨v, rfl, hv, hb2⟩
    have HV := Lib.hid (hv.lower HB1.out.size)
    have HB2 := Lib.hid (HB1.out.trans (hb2.mono HB1.out.size))
    clear hv hb2
    go_wp2
    go_ret2
    exact ⟨⟨v, rfl, HV.out⟩, HB2.out⟩
  all_goals
    rename_i e
    have HLE := Lib.hid (reachL_no e (by omega))
    rw [e] at HAK
    rw [e, HLE.out]
    clear e
    go_enter Try.func34, Try.ntmps34
    go_wp2_with (go_at_call 74; refine HAK.out.mono ?_; rintro e w1 ⟨rfl, hb1⟩; have HB1 := Lib.hid (HB0.out.trans (hb1.mono (by simp))); clear hb1)
    go_ret2
    exact ⟨⟨_, rfl, OwnI.nil _ _⟩, HB1.out⟩

set_option maxHeartbeats 1000000 in
set_option maxRecDepth 100000 in
theorem auto_Step (A : Option Addr) (c n : Nat) (acc : Int) (a : Au) (lA : Option Addr) (lc m : Nat) (l : List Int) (p : Int) (w : World) (ha : AtAu w A a) (HL : Hid (a.length = n)) (hl : At w lA RI l) (HM : Hid (l.length = m)) (hm : m ≤ 1000000) :
    Calls Try.prog 36 #[.agg #[.slice A n c, .int .i64 acc], .slice lA m lc, .int .i64 p] w fun e w' => (∃ v, e = .returned (.tuple #[v, .int .i64 (askE a acc l)]) ∧ OwnI w' w.heap.size v (stepL a acc l p)) ∧ Below w.heap.size w w' := by
  have HB0 := Lib.hid ((Below.refl w.heap.size w).alloc (Nat.le_refl _) (.cells #[.slice A n c, .int .i64 acc] TAuto))
  have K0 := Lib.hid (Blk.new w TAuto #[.slice A n c, .int .i64 acc])
  have HAK := Lib.hid (auto_asked A c n acc a lA lc m l _ (ha.keep (Keep.of HB0.out)) HL (hl.keep (Keep.of HB0.out)) HM)
  have HA := Lib.hid ha; have HLL := Lib.hid hl
  have hc := acase a acc l
  clear ha hl
  cases hc
  case ok h h2 e =>
    have HLE := Lib.hid (stepL_yes (p := p) e)
    rw [e] at HAK
    rw [e, HLE.out]
    rw [HL.out] at h2 HLE ⊢
    have HC := Lib.hid (fun W (hb : Below w.heap.size w W) => auto_step A c n acc a lA lc m l p W (HA.out.keep (Keep.of hb)) HL (HLL.out.keep (Keep.of hb)) HM h h2 hm)
    clear e h h2
    go_enter Try.func36, Try.ntmps36
    go_wp2_with (go_at_call 74; refine HAK.out.mono ?_; rintro e w1 ⟨rfl, hb1⟩; have HB1 := Lib.hid (HB0.out.trans (hb1.mono (by simp))); obtain ⟨p0, p1, _, _⟩ := Blk.two (K0.out.below hb1 (by simp)); clear hb1)
    refine (HC.out _ HB1.out).mono ?_
    rintro e w2 ⟨v, rfl, hv, hb2⟩
    have HV := Lib.hid (hv.lower HB1.out.size)
    have HB2 := Lib.hid (HB1.out.trans (hb2.mono HB1.out.size))
    clear hv hb2
    go_wp2
    go_ret2
    exact ⟨⟨v, rfl, HV.out⟩, HB2.out⟩
  all_goals
    rename_i e
    have HLE := Lib.hid (stepL_no (p := p) e (by omega))
    rw [e] at HAK
    rw [e, HLE.out]
    clear e
    go_enter Try.func36, Try.ntmps36
    go_wp2_with (go_at_call 74; refine HAK.out.mono ?_; rintro e w1 ⟨rfl, hb1⟩; have HB1 := Lib.hid (HB0.out.trans (hb1.mono (by simp))); clear hb1)
    go_ret2
    exact ⟨⟨_, rfl, OwnI.nil _ _⟩, HB1.out⟩

set_option maxHeartbeats 2000000 in
set_option maxRecDepth 100000 in
theorem ref09_Run (A : Option Addr) (c n : Nat) (acc : Int) (a : Au) (lA : Option Addr) (lc m : Nat) (l : List Int) (w : World) (ha : AtAu w A a) (HL : Hid (a.length = n)) (hl : At w lA RI l) (HM : Hid (l.length = m)) (hok : AuOk a acc) (hm : m ≤ 1024) :
    Calls Try.prog 39 #[.agg #[.slice A n c, .int .i64 acc], .slice lA m lc] w fun e w' => e = .returned (.tuple #[.bool (decide (acc ∈ stL n (runA a l))), .int .i64 0]) ∧ Below w.heap.size w w' := by
  have hn : n ≤ 256 := by have := hok.few; rwa [HL.out] at this
  have hn1 : 1 ≤ n := by have := hok.pos; rwa [HL.out] at this
  have HA := Lib.hid ha; have HLL := Lib.hid hl; have HOK := Lib.hid hok
  have HB0 := Lib.hid ((Below.refl w.heap.size w).alloc (Nat.le_refl _) (.cells #[.slice A n c, .int .i64 acc] TAuto))
  have K0 := Lib.hid (Blk.new w TAuto #[.slice A n c, .int .i64 acc])
  have HMY := Lib.hid (ref09_May A c n acc a _ (ha.keep (Keep.of HB0.out)) HL)
  rw [auB_yes hok] at HMY
  have HC0 := Lib.hid (fun W (hb : Below w.heap.size w W) (b : Nat) (hc : W.cell? ⟨b, 0, none⟩ = some (.int .i64 0)) => ref09_Closed A c n acc a (some ⟨b, 0, none⟩) 1 1 [0] W (HA.out.keep (Keep.of hb)) HL ⟨by simp, fun _ => ⟨b, 0, rfl, World.block_lt_of_cell? _ _ hc, fun i x hx => by
    match i, hx with
    | 0, hx => simp at hx; subst hx; exact ⟨_, hc, rfl, by omega, by omega⟩
    | i + 1, hx => simp at hx⟩⟩ (Lib.hid rfl) HOK.out (fun x hx => by simp at hx; subst hx; omega))
  rw [of_zero] at HC0
  have hd : decide ((1024 : Int) < (m : Int)) = false := decide_eq_false (by omega)
  clear ha hl hok
  go_enter Try.func39, Try.ntmps39
  go_wp2_with (first
    | (go_at_call 81
       refine HMY.out.mono ?_
       rintro e w1 ⟨rfl, hb1⟩
       have HB1 := Lib.hid (HB0.out.trans (hb1.mono (by simp))); have K1 := Lib.hid (K0.out.below hb1 (by simp))
       obtain ⟨p0, p1, _, _⟩ := Blk.two K1.out
       have hN := K1.out.lt
       clear hb1)
    | (go_at_call 77
       refine (HC0.out _ (HB1.out.alloc HB1.out.size _) _ (World.cell?_alloc_new ..)).mono ?_
       rintro e w2 ⟨v, rfl, hv, hb2⟩
       have HV := Lib.hid hv; have HB2 := Lib.hid ((HB1.out.alloc HB1.out.size (.cells #[.int .i64 0] 3)).trans (hb2.mono (by have := HB1.out.size; simp; omega)))
       have K2 := Lib.hid ((K1.out.alloc (.cells #[.int .i64 0] 3)).below hb2 (by simp; omega))
       clear hv hb2))
  have HV0 : Hid (∃ A c, v = .slice A (stL n (runA a [])).length c ∧ At w2 A RI (stL n (runA a [])) ∧ (stL n (runA a [])).length ≤ c) := Lib.hid (HV.out.at' (stL_bd (by omega)) (by have := stL_len n (Clo a fun s => s = 0); omega))
  go_loopw [7, 6] (fun iv lv wr => ∃ (i j : Nat) (B : Option Addr) (bc : Nat), iv = .int .i64 i ∧ i ≤ m ∧ lv = .slice B j bc ∧ j ≤ n ∧ Hid (j = (stL n (runA a (l.take i))).length) ∧ Hid (At wr B RI (stL n (runA a (l.take i)))) ∧ Hid (Blk wr w.heap.size TAuto #[.slice A n c, .int .i64 acc]) ∧ Hid (Below w.heap.size w wr)) (fun iv _ _ => m - (intOf iv).toNat)
  case atStart =>
    obtain ⟨B, bc, hv, hat, _⟩ := HV0.out
    exact ⟨0, _, B, bc, rfl, by omega, hv, stL_len _ _, Lib.hid rfl, Lib.hid hat, K2, HB2⟩
  case round =>
    clear HV0 HV HB2 K2 HB1 K1 p0 p1 hN
    obtain ⟨i, j, B, bc, rfl, hi, rfl, hj, HJ, HAT, HK, HB⟩ := hrel
    obtain ⟨p0, p1, _, _⟩ := Blk.two HK.out
    have hN := HK.out.lt
    by_cases hlt : i < m
    · obtain ⟨b1, o1, u, x, rfl, hb1, c1, ⟨rfl, _, _⟩, HX⟩ := (HLL.out.keep (Keep.of HB.out)).gt HM hlt
      have i1 : (0 : Int) ≤ (i : Int) := by omega
      have i2 : (i : Int) < (m : Int) := by omega
      have HS : Hid (wr.drew.cell? ⟨w.heap.size, 0, none⟩ = some (.slice A n c) ∧ wr.drew.cell? ⟨w.heap.size, 1, none⟩ = some (.int .i64 acc) ∧ wr.drew.cell? ⟨b1, o1 + i, none⟩ = some (.int .i64 x)) := Lib.hid ⟨p0, p1, c1⟩
      have HBD := Lib.hid HB.out.drew
      have HCB := Lib.hid (ref09_Behind A c n acc a B bc j _ x wr.drew (HA.out.keep (Keep.of HBD.out)) HL HAT.out (Lib.hid HJ.out.symm) HOK.out stL_in)
      go_wp2
      refine wp_region_T 9 (fun W => W.cell? ⟨w.heap.size, 0, none⟩ = some (.slice A n c) ∧ W.cell? ⟨w.heap.size, 1, none⟩ = some (.int .i64 acc) ∧ W.cell? ⟨b1, o1 + i, none⟩ = some (.int .i64 x)) (by kernel_rfl) ?_
      refine wpAnyT_take (i := 0) (v := ?_) rfl (by kernel_rfl) (by kernel_rfl) (by kernel_rfl) (by kernel_rfl) (by kernel_rfl) (fun _ _ _ h => h) (.inl ⟨rfl, ?_⟩) HS.out ?_
      rotate_left
      · intro W__ hW__
        obtain ⟨h1, h2, h3⟩ := hW__
        go_simp
        (try with_reducible rfl)
      try simp only [Act.put]
      refine wpAnyT_take (i := 1) (v := ?_) rfl (by kernel_rfl) (by kernel_rfl) (by kernel_rfl) (by kernel_rfl) (by kernel_rfl) (fun _ _ _ h => h) (.inl ⟨rfl, ?_⟩) HS.out ?_
      rotate_left
      · intro W__ hW__
        obtain ⟨h1, h2, h3⟩ := hW__
        go_simp
        (try with_reducible rfl)
      try simp only [Act.put]
      refine wpAnyT_take (i := 2) (v := ?_) rfl (by kernel_rfl) (by kernel_rfl) (by kernel_rfl) (by kernel_rfl) (by kernel_rfl) (fun _ _ _ h => h) (.inl ⟨rfl, ?_⟩) HS.out ?_
      rotate_left
      · intro W__ hW__
        obtain ⟨h1, h2, h3⟩ := hW__
        go_simp
        (try with_reducible rfl)
      try simp only [Act.put]
      refine wpAnyT_take (i := 3) (v := ?_) rfl (by kernel_rfl) (by kernel_rfl) (by kernel_rfl) (by kernel_rfl) (by kernel_rfl) (fun _ _ _ h => h) (.inl ⟨rfl, ?_⟩) HS.out ?_
      rotate_left
      · intro W__ hW__
        obtain ⟨h1, h2, h3⟩ := hW__
        go_simp
        (try with_reducible rfl)
      try simp only [Act.put]
      refine wpAnyT_take (i := 4) (v := ?_) rfl (by kernel_rfl) (by kernel_rfl) (by kernel_rfl) (by kernel_rfl) (by kernel_rfl) (fun _ _ _ h => h) (.inl ⟨rfl, ?_⟩) HS.out ?_
      rotate_left
      · intro W__ hW__
        obtain ⟨h1, h2, h3⟩ := hW__
        go_simp
        (try with_reducible rfl)
      try simp only [Act.put]
      refine wpAnyT_take (i := 5) (v := ?_) rfl (by kernel_rfl) (by kernel_rfl) (by kernel_rfl) (by kernel_rfl) (by kernel_rfl) (fun _ _ _ h => h) (.inl ⟨rfl, ?_⟩) HS.out ?_
      rotate_left
      · intro W__ hW__
        obtain ⟨h1, h2, h3⟩ := hW__
        go_simp
        (try with_reducible rfl)
      try simp only [Act.put]
      refine wpAnyT_take (i := 6) (v := ?_) rfl (by kernel_rfl) (by kernel_rfl) (by kernel_rfl) (by kernel_rfl) (by kernel_rfl) (fun _ _ _ h => h) (.inl ⟨rfl, ?_⟩) HS.out ?_
      rotate_left
      · intro W__ hW__
        obtain ⟨h1, h2, h3⟩ := hW__
        go_simp
        (try with_reducible rfl)
      try simp only [Act.put]
      refine wpAnyT_one (i := 7) rfl (by kernel_rfl) rfl fun K__ hK__ => ?_
      unfold Oper.wp
      go_simp
      refine HCB.out.mono ?_
      rintro e w3 ⟨v2, rfl, hv2, hb3⟩
      have HSS : Hid (stL n (Stp a x (Of (stL n (runA a (l.take i))))) = stL n (Stp a x (runA a (l.take i)))) := Lib.hid (by rw [of_stL (fun s hs => by have := runA_in HOK.out _ s hs; rwa [HL.out] at this)])
      rw [HSS.out] at hv2
      have hz2 := stL_len n (Stp a x (runA a (l.take i)))
      obtain ⟨B2, bc2, rfl, hat2, _⟩ := hv2.at' (stL_bd (by omega)) (by omega)
      have HAT2 := Lib.hid hat2
      have HB3 := Lib.hid (HBD.out.trans (hb3.mono HBD.out.size))
      have HK3 := Lib.hid (HK.out.below (w' := w3) (B := wr.heap.size) (((Below.refl wr.heap.size wr).drew).trans hb3) HK.out.lt)
      obtain ⟨q0, q1, _, _⟩ := Blk.two HK3.out
      have hN3 := HK3.out.lt
      have c3 := ((Keep.of hb3).cell b1 (o1 + i) hb1).trans HS.out.2.2
      have HSN := Lib.hid (take_snoc HX.out)
      have HCC := Lib.hid (ref09_Closed A c n acc a B2 bc2 _ _ w3 (HA.out.keep (Keep.of HB3.out)) HL hat2 (Lib.hid rfl) HOK.out stL_in)
      rw [of_stL (fun s hs => by have := stp_in HOK.out hs; rwa [HL.out] at this)] at HCC
      have HCC2 := HCC
      rw [← runA_snoc, ← HSN.out] at HCC2
      generalize (stL n (Stp a x (runA a (l.take i)))).length = j2 at *
      clear hv2 hb3 hat2 HCC
      refine hK__ _ _ ⟨q0, q1, c3⟩ ?_
      clear hK__
      refine wpAnyT_one (i := 8) rfl (by kernel_rfl) rfl fun K__ hK__ => ?_
      unfold Oper.wp
      go_simp
      refine HCC2.out.mono ?_
      rintro e w4 ⟨v4, rfl, hv4, hb4⟩
      have hz4 := stL_len n (runA a (l.take (i + 1)))
      obtain ⟨B4, bc4, rfl, hat4, _⟩ := hv4.at' (stL_bd (by omega)) (by omega)
      have HAT4 := Lib.hid hat4
      have HB4 := Lib.hid (HB3.out.trans (hb4.mono HB3.out.size))
      have HK4 := Lib.hid (HK3.out.below hb4 HK3.out.lt)
      obtain ⟨r0, r1, _, _⟩ := Blk.two HK4.out
      have c4 := ((Keep.of hb4).cell b1 (o1 + i) (World.block_lt_of_cell? _ _ c3)).trans c3
      clear hv4 hb4 hat4
      refine hK__ _ _ ⟨r0, r1, c4⟩ ?_
      clear hK__
      refine wpAnyT_end (i := 9) rfl (by kernel_rfl) rfl (by kernel_rfl) fun K__ hK__ => ?_
      unfold Oper.wp
      go_simp
      refine hK__ _ _ ?_
      clear hK__
      refine wpAnyT_done (by kernel_rfl) ?_ _
      clear q0 q1 r0 r1 c3 c4 p0 p1 c1 hN3
      go_wp2
      go_roundw
      case rel => exact ⟨i + 1, _, B4, bc4, by go_num, by omega, rfl, hz4, Lib.hid rfl, HAT4, HK4, HB4⟩
      case measure => simp [intOf]; omega
    · obtain rfl : i = m := by omega
      have HTK := Lib.hid (show l.take i = l from List.take_of_length_le (by rw [HM.out]; omega))
      rw [HTK.out] at HJ HAT
      have HH := Lib.hid (ref09_has B bc j _ acc wr HAT.out (Lib.hid HJ.out.symm))
      obtain ⟨ans, hans⟩ : ∃ ans, decide (acc ∈ stL n (runA a l)) = ans := ⟨_, rfl⟩
      rw [hans] at HH
      have HANS := Lib.hid hans
      clear hans
      go_wp2_with (go_at_call 82; refine HH.out.mono ?_; rintro e w2 ⟨rfl, rfl⟩)
      go_ret2
      exact ⟨ret_bi HANS.out.symm rfl, HB.out⟩
end Go.Proofs.Ytjnjbcigbnjmkaa

namespace Go.Proofs.Ytjnjbcigbnjmkaa
open Go.RowKit Pv

abbrev TLI : TypeId := 3
abbrev TLL : TypeId := 22
theorem ownBlk_off {u : Value} {x : Option Nat} {r : Option Nat} (h : u.ownBlock = none ∨ u.ownBlock ≠ x) (e : r = x) : u.ownBlock = none ∨ u.ownBlock ≠ r := by rw [e]; exact h
theorem OwnI.grown {w w' : World} {b : Nat} {u : Value} {l : List Int} {r : Option Nat} (h : OwnI w b u l) (hg : w.grownBy w' r) (hn : u.ownBlock = none ∨ u.ownBlock ≠ r) : OwnI w' b u l := by
  obtain ⟨A, c, rfl, h1⟩ := h
  exact ⟨A, c, rfl, h1.kept hg hn⟩
theorem OwnI.lt {w : World} {b g : Nat} {u : Value} {l : List Int} (h : OwnI w b u l) (hg : u.ownBlock = some g) : b ≤ g ∧ g < w.heap.size := by
  obtain ⟨A, c, rfl, h1⟩ := h
  exact h1.lt g hg
/-- A list of lists of the call's own; none of these lies in block x. -/
def Ls (w : World) (base : Nat) (x : Option Nat) (v : Value) (ll : List (List Int)) : Prop :=
  ∃ A c us, v = .slice A ll.length c ∧ w.ownsRow base TLL 1 (.slice A ll.length c) ll.length us ∧ Rel (fun u l => OwnI w base u l ∧ (u.ownBlock = none ∨ u.ownBlock ≠ x)) us ll
section
variable {w w' : World} {base : Nat} {x : Option Nat} {v : Value} {ll : List (List Int)}
theorem Ls.nil (w : World) (base : Nat) (x : Option Nat) : Ls w base x (.slice none 0 0) [] := ⟨none, 0, [], rfl, World.ownsRow_nil _ _ _ _, Rel.nil⟩
theorem Ls.below (h : Ls w base x v ll) (hb : Below w.heap.size w w') : Ls w' base x v ll := by
  obtain ⟨A, c, us, rfl, h1, h2⟩ := h
  exact ⟨A, c, us, rfl, ownsRow_below h1 hb, h2.mono fun u l h => ⟨OwnI.below h.1 hb, h.2⟩⟩
theorem Ls.alloc (h : Ls w base x v ll) (o : Obj) : Ls (w.alloc o) base x v ll := h.below ((Below.refl _ _).alloc (Nat.le_refl _) o)
theorem Ls.drew (h : Ls w base x v ll) : Ls w.drew base x v ll := h.below (Below.refl _ _).drew
theorem Ls.bare (h : Ls w base x v ll) : Ls w base none v ll := by
  obtain ⟨A, c, us, rfl, h1, h2⟩ := h
  exact ⟨A, c, us, rfl, h1, h2.mono fun u l h => ⟨h.1, by cases hu : u.ownBlock with | none => exact .inl rfl | some g => exact .inr (by simp)⟩⟩
/-- A block beyond all that is there. -/
theorem Ls.fresh {g : Nat} (h : Ls w base x v ll) (hg : w.heap.size ≤ g) : Ls w base (some g) v ll := by
  obtain ⟨A, c, us, rfl, h1, h2⟩ := h
  exact ⟨A, c, us, rfl, h1, h2.mono fun u l h => ⟨h.1, by
    cases hu : u.ownBlock with
    | none => exact .inl rfl
    | some k => have := (h.1.lt hu).2; exact .inr (by simp; omega)⟩⟩
theorem Ls.lower {b : Nat} (h : Ls w base x v ll) (hb : b ≤ base) : Ls w b x v ll := by
  obtain ⟨A, c, us, rfl, ⟨h0, h1⟩, h2⟩ := h
  refine ⟨A, c, us, rfl, ⟨h0, ?_⟩, h2.mono fun u l h => ⟨OwnI.lower h.1 hb, h.2⟩⟩
  rcases h1 with h1 | ⟨g, cap, cur, hv, hg, r⟩
  · exact .inl h1
  · exact .inr ⟨g, cap, cur, hv, Nat.le_trans hb hg, r⟩
/-- Behind an append onto the row in block x. -/
theorem Ls.row {b n : Nat} {rv rv' : Value} {us' : List Value} (h : Ls w base rv.ownBlock v ll) (hr : w.ownsRow b TLI 1 rv n us') (hg : w.grownBy w' rv.ownBlock) (hn : rv'.ownBlock = rv.ownBlock ∨ rv'.ownBlock = some w.heap.size) : Ls w' base rv'.ownBlock v ll := by
  obtain ⟨A, c, us, rfl, h1, h2⟩ := h
  refine ⟨A, c, us, rfl, h1.kept hg (own_ne h1 hr (by decide)), h2.mono fun u l h => ⟨h.1.grown hg h.2, ?_⟩⟩
  rcases hn with e | e
  · rw [e]; exact h.2
  · rw [e]
    cases hu : u.ownBlock with
    | none => exact .inl rfl
    | some k => have := (h.1.lt hu).2; exact .inr (by simp; omega)
/-- Behind an append onto a row of other elements. -/
theorem Ls.other {b s n : Nat} {e : TypeId} {rv : Value} {us' : List Value} (h : Ls w base x v ll) (hr : w.ownsRow b e s rv n us') (h1 : TLL ≠ e) (h2 : TLI ≠ e) (hg : w.grownBy w' rv.ownBlock) : Ls w' base x v ll := by
  obtain ⟨A, c, us, rfl, k1, k2⟩ := h
  refine ⟨A, c, us, rfl, k1.kept hg (own_ne k1 hr h1), k2.mono fun u l h => ⟨?_, h.2⟩⟩
  obtain ⟨B, d, rfl, h3⟩ := h.1
  exact OwnI.grown ⟨B, d, rfl, h3⟩ hg (own_ne h3 hr h2)
theorem Ls.far {g i : Nat} {t : TypeId} {cs : Array Value} {u : Value} (h : Ls w base x v ll) (hb : Blk w g t cs) (h1 : TLL ≠ t) (h2 : TLI ≠ t) : Ls (w.setCell ⟨g, i, none⟩ u) base x v ll := by
  obtain ⟨A, c, us, rfl, k1, k2⟩ := h
  refine ⟨A, c, us, rfl, ownsRow_setFar k1 hb h1 i u, k2.mono fun u l h => ⟨?_, h.2⟩⟩
  obtain ⟨B, d, rfl, h3⟩ := h.1
  exact ⟨B, d, rfl, ownsRow_setFar h3 hb h2 _ _⟩
/-- A number written into the row in block x. -/
theorem Ls.put {g i : Nat} {cs : Array Value} {u : Value} (h : Ls w base (some g) v ll) (hb : Blk w g TLI cs) : Ls (w.setCell ⟨g, i, none⟩ u) base (some g) v ll := by
  obtain ⟨A, c, us, rfl, k1, k2⟩ := h
  refine ⟨A, c, us, rfl, ownsRow_setFar k1 hb (by decide) i u, k2.mono fun q l h => ⟨?_, h.2⟩⟩
  obtain ⟨⟨B, d, rfl, h3⟩, h4⟩ := h
  refine ⟨B, d, rfl, h3.1, ?_⟩
  rcases h3.2 with h5 | ⟨g', cap, cur, hv, hg, hh, r⟩
  · exact .inl h5
  · have hne : g' ≠ g := fun e => by
      rcases h4 with h4 | h4
      · rw [hv] at h4; simp [Value.ownBlock] at h4
      · exact h4 (by rw [hv, e]; rfl)
    exact .inr ⟨g', cap, cur, hv, hg, by rw [Below.heap_setCell _ _ _ _ (by simpa using hne)]; exact hh, r⟩
/-- One list more. -/
theorem Ls.push {w2 : World} {A A' : Option Addr} {c c' k : Nat} {us : List Value} {u : Value} {l : List Int} (h1 : w.ownsRow base TLL 1 (.slice A k c) k us) (h2 : Rel (fun u l => OwnI w base u l ∧ (u.ownBlock = none ∨ u.ownBlock ≠ x)) us ll) (hk : ll.length = k)
    (hu : OwnI w base u l) (hx : u.ownBlock = none ∨ u.ownBlock ≠ x) (own : w2.ownsRow base TLL 1 (.slice A' (k + 1) c') (k + 1) (us ++ [u])) (gr : (w.alloc (.cells #[u] TLL)).grownBy w2 (Value.slice A k c).ownBlock) :
    Ls w2 base x (.slice A' (k + 1) c') (ll ++ [l]) := by
  have hb : Below w.heap.size w (w.alloc (.cells #[u] TLL)) := (Below.refl _ _).alloc (Nat.le_refl _) _
  have one : ∀ u l, OwnI w base u l → OwnI w2 base u l := fun u l h => by
    obtain ⟨B, d, rfl, h3⟩ := h
    exact OwnI.grown (OwnI.below ⟨B, d, rfl, h3⟩ hb) gr (own_ne (ownsRow_below h3 hb) (ownsRow_below h1 hb) (by decide))
  refine ⟨A', c', us ++ [u], by simp [hk], by rw [List.length_append, hk]; exact own, Rel.app (h2.mono fun u l h => ⟨one u l h.1, h.2⟩) (Rel.one ⟨one u l hu, hx⟩)⟩
theorem Ls.lists (h : Ls w base x v ll) (hr : ∀ l, l ∈ ll → (∀ y, y ∈ l → -9223372036854775808 ≤ y ∧ y ≤ 9223372036854775807) ∧ l.length ≤ 140737488355328) (hl : ll.length ≤ 140737488355328) :
    ∃ A c, v = .slice A ll.length c ∧ At w A (IsInts w) ll ∧ ll.length ≤ c := by
  obtain ⟨A, c, us, rfl, h1, h2⟩ := h
  obtain ⟨_, h3, h4⟩ := At.of_own h1 h2 hl
  refine ⟨A, c, rfl, ⟨h4.1, fun hp => ?_⟩, h3⟩
  obtain ⟨b, off, e, hb, hc⟩ := h4.2 hp
  refine ⟨b, off, e, hb, fun i l hi => ?_⟩
  obtain ⟨u, hu, ho, _⟩ := hc i l hi
  obtain ⟨k1, k2⟩ := hr l (mem_of_get hi)
  obtain ⟨B, d, rfl, hB, hd⟩ := ho.at' k1 k2
  exact ⟨_, hu, B, d, rfl, hB, hd⟩
end
end Go.Proofs.Ytjnjbcigbnjmkaa
