/- Walks: where a number leads, by the program. PUT1 -/
import Derived.Test.YtjnjbcigbnjmkaaZh
namespace Pv
open Go Go.RowKit Go.Maps
theorem le_edgesS {es : List Ed} : ∀ {a : Au}, es ∈ a → es.length ≤ edgesS a
  | x :: a, h => by
    rcases List.mem_cons.1 h with rfl | h
    · simp [edgesS]
    · have := le_edgesS h
      simp only [edgesS, List.map_cons, List.sum_cons] at this ⊢
      omega
/-- A map of the call's own that holds a set of states. -/
def MapS (P : Program) (k : TypeId) (w : World) (b cnt n : Nat) (S : Nat → Prop) : Prop := ∃ L : List Int, w.ownsMap P k unitElem b cnt (setM L) ∧ L.length ≤ cnt ∧ ∀ x, x ∈ L ↔ x ∈ stL n S
section
variable {P : Program} {k : TypeId} {w w' : World} {b cnt n : Nat} {S S' : Nat → Prop}
theorem ownsMap_block {D : DataW Unit} (h : w.ownsMap P k unitElem b cnt D) (e : w'.heap[b]? = w.heap[b]?) : w'.ownsMap P k unitElem b cnt D := by
  obtain ⟨es, clock, hb, r⟩ := h
  exact ⟨es, clock, e.trans hb, r⟩
theorem MapS.lt (h : MapS P k w b cnt n S) : b < w.heap.size := by obtain ⟨L, h1, _⟩ := h; exact h1.lt
theorem MapS.below (h : MapS P k w b cnt n S) (hb : Below w.heap.size w w') : MapS P k w' b cnt n S := by
  have hl := h.lt
  obtain ⟨L, h1, h2⟩ := h
  exact ⟨L, ownsMap_block h1 (hb.block b hl), h2⟩
theorem MapS.alloc (h : MapS P k w b cnt n S) (o : Obj) : MapS P k (w.alloc o) b cnt n S := h.below ((Below.refl _ _).alloc (Nat.le_refl _) o)
theorem MapS.mono {cnt' : Nat} (h : MapS P k w b cnt n S) (hc : cnt ≤ cnt') : MapS P k w b cnt' n S := by
  obtain ⟨L, h1, h2, h3⟩ := h
  exact ⟨L, h1.mono hc, Nat.le_trans h2 hc, h3⟩
theorem MapS.congr (h : MapS P k w b cnt n S) (e : ∀ i, i < n → (S i ↔ S' i)) : MapS P k w b cnt n S' := by
  obtain ⟨L, h1, h2, h3⟩ := h
  exact ⟨L, h1, h2, fun x => by rw [h3 x, stL_ext e]⟩
theorem MapS.kept {row : Option Nat} (h : MapS P k w b cnt n S) (hg : w.grownBy w' row) (hr : some b ≠ row) : MapS P k w' b cnt n S := by
  have hl := h.lt
  obtain ⟨L, h1, h2⟩ := h
  exact ⟨L, ownsMap_block h1 (hg.block b hl hr), h2⟩
/-- behind a store -/
theorem MapS.put {L : List Int} {s : Nat} (h2 : L.length ≤ cnt) (h3 : ∀ x, x ∈ L ↔ x ∈ stL n S) (hs : s < n) (h : w'.ownsMap P k unitElem b (cnt + 1) ((setM L).put (litI s) (.agg []))) (e : ∀ j, S' j ↔ (S j ∨ j = s)) : MapS P k w' b (cnt + 1) n S' := by
  rw [setM_put] at h
  refine ⟨_, h, by simp; omega, fun x => ?_⟩
  rw [List.mem_append, h3 x, stL_mem, stL_mem, List.mem_singleton]
  constructor
  · rintro (⟨t, h1, h2, h3⟩ | rfl)
    · exact ⟨t, h1, (e t).2 (.inl h2), h3⟩
    · exact ⟨s, hs, (e s).2 (.inr rfl), rfl⟩
  · rintro ⟨t, h1, h2, rfl⟩
    rcases (e t).1 h2 with h2 | rfl
    · exact .inl ⟨t, h1, h2, rfl⟩
    · exact .inr rfl
end
end Pv
namespace Go.Proofs.Ytjnjbcigbnjmkaa
open Go.RowKit Go.Maps Pv

theorem law_int : Keyed Try.prog 3 := int_keyed Try.underlying3
theorem zero_unit (w : World) : (zeroValue 181).run Try.prog w = .ok (.agg #[]) w := by kernel_rfl
theorem key_int (s : Nat) (h : s ≤ 1000000) : keyOf Try.prog 3 (.int .i64 (s : Int)) = some (litI s) := keyOf_int_mk Try.underlying3 (by simp [Lit.wf, IntKind.min, IntKind.max, IntKind.signed, IntKind.bits]; omega)

set_option maxHeartbeats 2000000 in
set_option maxRecDepth 100000 in
theorem auto_step (A : Option Addr) (c n : Nat) (acc : Int) (a : Au) (lA : Option Addr) (lc m : Nat) (l : List Int) (p : Int) (w : World) (ha : AtAu w A a) (HL : Hid (a.length = n)) (hl : At w lA RI l) (HM : Hid (l.length = m)) (hok : AuOk a acc) (hin : InAu n l) (hm : m ≤ 1000000) :
    Calls Try.prog 78 #[.agg #[.slice A n c, .int .i64 acc], .slice lA m lc, .int .i64 p] w fun e w' => ∃ v, e = .returned v ∧ OwnI w' w.heap.size v (stL n (Stp a p (Of l))) ∧ Below w.heap.size w w' := by
  have hmm := @run_makeMap Try.prog
  have hn : n ≤ 256 := by have := hok.few; rwa [HL.out] at this
  have HA := Lib.hid ha; have HLL := Lib.hid hl; have HOK := Lib.hid hok; have HIN := Lib.hid hin
  have HB0 := Lib.hid (((Below.refl w.heap.size w).alloc (Nat.le_refl _) (.cells #[.slice A n c, .int .i64 acc] TAuto)).alloc (by simp) (.map #[] 0))
  have e1 : (w.alloc (.cells #[.slice A n c, .int .i64 acc] TAuto)).heap.size = w.heap.size + 1 := by simp
  have M0 : Hid (MapS Try.prog 3 ((w.alloc (.cells #[.slice A n c, .int .i64 acc] TAuto)).alloc (.map #[] 0)) (w.heap.size + 1) 0 n (Stp a p (Of ([] : List Int)))) := Lib.hid ⟨[], by
    have := World.ownsMap_made (H := Unit) (w.alloc (.cells #[.slice A n c, .int .i64 acc] TAuto)) Try.prog 3 unitElem
    rw [e1] at this
    exact this, by simp, fun x => by
    rw [stL_mem]
    constructor
    · intro h; simp at h
    · rintro ⟨s, _, h, _⟩; exact absurd ((stp_nil s).1 h) id⟩
  have K0 := Lib.hid ((Blk.new w TAuto #[.slice A n c, .int .i64 acc]).alloc (.map #[] 0))
  clear ha hl hok hin e1
  go_enter Try.func78, Try.ntmps78
  go_wp2
  go_loopw [15] (fun iv wr => ∃ i : Nat, iv = .int .i64 i ∧ i ≤ m ∧ Hid (MapS Try.prog 3 wr (w.heap.size + 1) (i * 1024) n (Stp a p (Of (l.take i)))) ∧ Hid (Blk wr w.heap.size TAuto #[.slice A n c, .int .i64 acc]) ∧ Hid (Below w.heap.size w wr)) (fun iv _ => m - (intOf iv).toNat)
  case atStart => exact ⟨0, rfl, by omega, M0, K0, HB0⟩
  case round =>
    obtain ⟨i, rfl, hi, HT, HK, HB⟩ := hrel
    obtain ⟨p0, p1, _, _⟩ := Blk.two HK.out
    have hN := HK.out.lt
    by_cases hlt : i < m
    · obtain ⟨b1, o1, u, s, rfl, hb1, c1, ⟨rfl, _, _⟩, HX⟩ := (HLL.out.keep (Keep.of HB.out)).gt HM hlt
      have hsr := HIN.out s (mem_of_get HX.out)
      obtain ⟨s, rfl⟩ := Int.eq_ofNat_of_zero_le hsr.1
      have hsn : s < n := by omega
      obtain ⟨b2, o2, S, q, cs, es, rfl, hb2, c2, hS, HQ, hqc, HY⟩ := AtAu.gt HA.out HL hsn
      have HES := Lib.hid hS
      have hq : q ≤ 1024 := by have h1 := le_edgesS (mem_of_get HY.out); have h2 := HOK.out.edges; rw [HQ.out] at h1; omega
      have HEX := Lib.hid (HOK.out.each es (mem_of_get HY.out))
      have c2 := ((Keep.of HB.out).cell _ _ hb2).trans c2
      have hb2 := Nat.lt_of_lt_of_le hb2 HB.out.size
      have i1 : (0 : Int) ≤ (i : Int) := by omega
      have i2 : (i : Int) < (m : Int) := by omega
      have i3 : (0 : Int) ≤ (s : Int) := by omega
      have i4 : (s : Int) < (n : Int) := by omega
      clear hS hsr
      go_wp2
      go_loopw [25] (fun kv wr => ∃ k : Nat, kv = .int .i64 k ∧ k ≤ q ∧ Hid (MapS Try.prog 3 wr (w.heap.size + 1) (i * 1024 + k) n (StpE a p (Of (l.take i)) (es.take k))) ∧ Hid (Blk wr w.heap.size TAuto #[.slice (some ⟨b2, o2, none⟩) n c, .int .i64 acc]) ∧ Hid (Below w.heap.size w wr)) (fun kv _ => q - (intOf kv).toNat)
      case atStart => exact ⟨0, rfl, by omega, Lib.hid (HT.out.congr fun i _ => (stpE_nil i).symm), HK, HB⟩
      case round =>
        clear p0 p1 c1 c2 hb1 hb2 HT HK HB hN
        obtain ⟨k, rfl, hk, HT, HK, HB⟩ := hrel
        by_cases hkt : k < q
        · obtain ⟨b3, o3, to, fr, T, tq, tc, sl, rfl, hb3, ⟨d0, d1, d2⟩, hset, HTQ, htc, hto, HZ⟩ := AtEd.gt (AtEd.keep HES.out (Keep.of HB.out)) HQ hkt
          have hx := HEX.out _ (mem_of_get HZ.out)
          simp only at hx
          obtain ⟨x0, x1, x2, x3⟩ := hx
          obtain ⟨to, rfl⟩ := Int.eq_ofNat_of_zero_le x0
          rw [HL.out] at x1
          have hton : to < n := by omega
          have HSN := Lib.hid (take_snoc HZ.out)
          have i5 : (0 : Int) ≤ (k : Int) := by omega
          have i6 : (k : Int) < (q : Int) := by omega
          have HSE := Lib.hid hset
          have HBN := Lib.hid (HB.out.alloc HB.out.size (.cells #[.int .i64 to, .bool fr, .slice T tq tc] TEdge))
          have HKN := Lib.hid (HK.out.alloc (.cells #[.int .i64 to, .bool fr, .slice T tq tc] TEdge))
          have HTN := Lib.hid (HT.out.alloc (.cells #[.int .i64 to, .bool fr, .slice T tq tc] TEdge))
          have HC := Lib.hid (fun W (hb : Below wr.heap.size wr W) => ranges_Has T tc tq sl p W (hset.keep (Keep.of hb)) HTQ)
          have HNEW := Lib.hid ((Below.refl wr.heap.size wr).alloc (Nat.le_refl _) (.cells #[.int .i64 to, .bool fr, .slice T tq tc] TEdge))
          have X0 := Lib.hid (fun W (hW : Below (wr.alloc (.cells #[.int .i64 to, .bool fr, .slice T tq tc] TEdge)).heap.size (wr.alloc (.cells #[.int .i64 to, .bool fr, .slice T tq tc] TEdge)) W) => show W.cell? ⟨wr.heap.size, 0, none⟩ = some (.int .i64 to) from (hW.cell (p := ⟨wr.heap.size, 0, none⟩) (by simp)).trans (World.cell?_alloc_new ..))
          clear hset x2 x3
          cases fr
          case true =>
            have HNO := Lib.hid (fun t => stpE_no (a := a) (p := p) (S := Of (l.take i)) (es := es.take k) (x := ⟨to, true, sl⟩) (fun h => by cases h.1) t)
            go_wp2
            go_roundw
            case rel => exact ⟨k + 1, by go_num, by omega, Lib.hid (by rw [HSN.out]; exact (HTN.out.congr fun i _ => (HNO.out i).symm).mono (by omega)), HKN, HBN⟩
            case measure => simp [intOf]; omega
          case false =>
            by_cases hyy : InSet sl p
            · rw [yes_t hyy] at HC
              have HYES := Lib.hid (fun t => stpE_yes (a := a) (p := p) (S := Of (l.take i)) (es := es.take k) (x := ⟨to, false, sl⟩) rfl hyy rfl t)
              have hkey := key_int to (by omega)
              have MX : Hid (i * 1024 + k < maxLen) := Lib.hid (by simp only [maxLen]; omega)
              clear hyy
              go_wp2_with (first
                | (go_at_call 130
                   refine (HC.out _ HNEW.out).mono ?_
                   rintro e w2 ⟨rfl, hb2⟩
                   have z0 := X0.out _ hb2
                   have B3 := Lib.hid (HBN.out.trans (hb2.mono HBN.out.size)); have K3 := Lib.hid (HKN.out.below hb2 HKN.out.lt); have T3 := Lib.hid (HTN.out.below hb2)
                   clear hb2
                   obtain ⟨L, hL, hLl, hLm⟩ := T3.out
                   have LL := Lib.hid hLl; have LM := Lib.hid hLm; have OM := Lib.hid hL
                   clear hLl hLm hL)
                | (at_mapUpdate
                   go_must (refine wpList_mapUpdate_own _ rfl _ _ _ 180 rfl 3 181 law_int Try.underlying180 (unitElem (H := Unit)) (w.heap.size + 1) (i * 1024 + k) _ rfl OM.out MX.out _ _ _ rfl rfl hkey _ [] unitElem_mk ?_)
                   intro w4 hown4 hgrow4
                   have OW4 := Lib.hid hown4; have GW4 := Lib.hid hgrow4
                   clear hown4 hgrow4))
              have hown4 := OW4.out; have hgrow4 := GW4.out
              have T4 := Lib.hid (MapS.put (S' := StpE a p (Of (l.take i)) (es.take (k + 1))) LL.out LM.out hton hown4 (fun j => by rw [HSN.out]; exact HYES.out j))
              have B4 := Lib.hid (B3.out.grown hgrow4 B3.out.size (fun g hg => by cases hg; omega))
              have K4 := Lib.hid (K3.out.grown hgrow4 (by simp))
              clear hown4 hgrow4
              go_roundw
              case rel => exact ⟨k + 1, by go_num, by omega, T4, K4, B4⟩
              case measure => simp [intOf]; omega
            · rw [yes_f hyy] at HC
              have HNO := Lib.hid (fun t => stpE_no (a := a) (p := p) (S := Of (l.take i)) (es := es.take k) (x := ⟨to, false, sl⟩) (fun h => hyy h.2) t)
              clear hyy
              go_wp2_with (go_at_call 130; refine (HC.out _ HNEW.out).mono ?_; rintro e w2 ⟨rfl, hb2⟩; have B3 := Lib.hid (HBN.out.trans (hb2.mono HBN.out.size)); have K3 := Lib.hid (HKN.out.below hb2 HKN.out.lt); have T3 := Lib.hid (HTN.out.below hb2); clear hb2)
              go_roundw
              case rel => exact ⟨k + 1, by go_num, by omega, Lib.hid (by rw [HSN.out]; exact (T3.out.congr fun i _ => (HNO.out i).symm).mono (by omega)), K3, B3⟩
              case measure => simp [intOf]; omega
        · obtain rfl : k = q := by omega
          have HST := Lib.hid (fun t => stp_snoc (p := p) (l := l.take i) HY.out t)
          have HSN := Lib.hid (take_snoc HX.out)
          go_wp2
          go_roundw
          case rel => exact ⟨i + 1, by go_num, by omega, Lib.hid (by rw [HSN.out]; have := HT.out; rw [show es.take k = es from List.take_of_length_le (by rw [HQ.out]; omega)] at this; exact (this.congr fun i _ => HST.out i).mono (by omega)), HK, HB⟩
          case measure => simp [intOf]; omega
    · obtain rfl : i = m := by omega
      have HTT := Lib.hid (show MapS Try.prog 3 wr (w.heap.size + 1) (i * 1024) n (Stp a p (Of l)) by have := HT.out; rwa [List.take_of_length_le (by rw [HM.out]; omega)] at this)
      obtain ⟨L, hL, hLl, hLm⟩ := HTT.out
      have HC := Lib.hid (auto_list (w.heap.size + 1) (i * 1024) L wr hL (by omega) hLm)
      clear hL hLl hLm
      go_wp2_with (go_at_call 128; refine HC.out.mono ?_; rintro e w2 ⟨v, rfl, hv, hb2⟩; have HV := Lib.hid (hv.lower HB.out.size); have HB3 := Lib.hid (HB.out.trans (hb2.mono HB.out.size)); clear hv hb2)
      go_ret
      exact ⟨v, rfl, HV.out, HB3.out⟩
end Go.Proofs.Ytjnjbcigbnjmkaa
