/- Walks: states, and all that free edges lead to, by the document. PUT1 -/
import Derived.Test.YtjnjbcigbnjmkaaZdy
namespace Go.Proofs.Ytjnjbcigbnjmkaa
open Go.RowKit Pv

/-- Where the document's Closed stands. -/
def ClosedR (w wr : World) (g n : Nat) (a : Au) (S : Nat → Prop) (gb : Bool) : Prop :=
  ∃ T, TbS wr g n T ∧ (∀ s, S s → T s) ∧ (∀ s, T s → Clo a S s) ∧ (gb = false → ∀ s, T s ↔ Clo a S s)

theorem of_snoc {l : List Int} {s : Nat} (j : Nat) : Of (l ++ [(s : Int)]) j ↔ (Of l j ∨ j = s) := by
  simp only [Of, List.mem_append, List.mem_singleton]
  constructor
  · rintro (h | h)
    · exact .inl h
    · right; omega
  · rintro (h | rfl)
    · exact .inl h
    · exact .inr rfl
theorem clo_in {a : Au} {acc : Int} {S : Nat → Prop} (h : AuOk a acc) (hS : ∀ s, S s → s < a.length) {s : Nat} (hs : Clo a S s) : s < a.length := by
  cases hs with
  | base h1 => exact hS s h1
  | step _ h2 =>
    obtain ⟨es, x, h1, h2, h3, h4⟩ := h2
    have := (h.each es (mem_of_get h1) x h2).2.1
    omega

set_option maxHeartbeats 4000000 in
set_option maxRecDepth 100000 in
theorem ref09_Closed (A : Option Addr) (c n : Nat) (acc : Int) (a : Au) (lA : Option Addr) (lc m : Nat) (l : List Int) (w : World) (ha : AtAu w A a) (HL : Hid (a.length = n)) (hl : At w lA RI l) (HM : Hid (l.length = m)) (hok : AuOk a acc) (hin : InAu n l) :
    Calls Try.prog 77 #[.agg #[.slice A n c, .int .i64 acc], .slice lA m lc] w fun e w' => ∃ v, e = .returned v ∧ OwnI w' w.heap.size v (stL n (Clo a (Of l))) ∧ Below w.heap.size w w' := by
  have hn : n ≤ 256 := by have := hok.few; rwa [HL.out] at this
  have hml : m ≤ 140737488355328 := by have := hl.1; rwa [HM.out] at this
  have hm1 := fun W : World => run_make_row' (P := Try.prog) 24 4 (.bool false) 1 Try.underlying24 info_bool9 rfl .i64 .i64 n (by omega) (by omega) W
  have HA := Lib.hid ha; have HLL := Lib.hid hl; have HOK := Lib.hid hok; have HIN := Lib.hid hin
  have HB0 := Lib.hid (((Below.refl w.heap.size w).alloc (Nat.le_refl _) (.cells #[.slice A n c, .int .i64 acc] TAuto)).alloc (by simp) (.cells (madeCells #[.bool false] n) 4))
  have e1 : (w.alloc (.cells #[.slice A n c, .int .i64 acc] TAuto)).heap.size = w.heap.size + 1 := by simp
  have T0 := Lib.hid (TbS.made (w.alloc (.cells #[.slice A n c, .int .i64 acc] TAuto)) n)
  rw [e1] at T0
  have K0 := Lib.hid ((Blk.new w TAuto #[.slice A n c, .int .i64 acc]).alloc (.cells (madeCells #[.bool false] n) 4))
  clear ha hl hok hin e1
  go_enter Try.func77, Try.ntmps77
  go_wp2
  go_loopw [6] (fun iv wr => ∃ i : Nat, iv = .int .i64 i ∧ i ≤ m ∧ Hid (TbS wr (w.heap.size + 1) n (Of (l.take i))) ∧ Hid (Blk wr w.heap.size TAuto #[.slice A n c, .int .i64 acc]) ∧ Hid (Below w.heap.size w wr)) (fun iv _ => m - (intOf iv).toNat)
  case atStart => exact ⟨0, rfl, by omega, Lib.hid (T0.out.congr fun i _ => by simp [Of]), K0, HB0⟩
  case round =>
    obtain ⟨i, rfl, hi, HT, HK, HB⟩ := hrel
    by_cases hlt : i < m
    · obtain ⟨b1, o1, u, s, rfl, hb1, c1, ⟨rfl, _, _⟩, HX⟩ := (HLL.out.keep (Keep.of HB.out)).gt HM hlt
      have hsr := HIN.out s (mem_of_get HX.out)
      obtain ⟨s, rfl⟩ := Int.eq_ofNat_of_zero_le hsr.1
      have hsn : s < n := by omega
      have f1 := HT.out.cell hsn
      have f2 := HT.out.frozen s
      have HSN := Lib.hid (take_snoc HX.out)
      have i1 : (0 : Int) ≤ (i : Int) := by omega
      have i2 : (i : Int) < (m : Int) := by omega
      have i3 : (0 : Int) ≤ (s : Int) := by omega
      have i4 : (s : Int) < (n : Int) := by omega
      have HBS := Lib.hid (HB.out.setCell (p := ⟨w.heap.size + 1, s, none⟩) (by simp) (.bool true))
      have HKS := Lib.hid (HK.out.far (p := ⟨w.heap.size + 1, s, none⟩) (by simp) (.bool true))
      clear hsr
      go_wp2
      go_roundw
      case rel => exact ⟨i + 1, by go_num, by omega, Lib.hid (by rw [HSN.out]; exact HT.out.set s fun j _ => of_snoc j), HKS, HBS⟩
      case measure => simp [intOf]; omega
    · obtain rfl : i = m := by omega
      have HTT := Lib.hid (show TbS wr (w.heap.size + 1) n (Of l) by have := HT.out; rwa [List.take_of_length_le (by rw [HM.out]; omega)] at this)
      have HSI := Lib.hid (fun (s : Nat) (h : Of l s) => show s < a.length by have := HIN.out _ h; rw [HL.out]; omega)
      go_wp2
      go_loopw [7] (fun gv wr => ∃ gb : Bool, gv = .bool gb ∧ Hid (ClosedR w wr (w.heap.size + 1) n a (Of l) gb) ∧ Hid (Blk wr w.heap.size TAuto #[.slice A n c, .int .i64 acc]) ∧ Hid (Below w.heap.size w wr)) (fun gv wr => 2 * cntW wr (w.heap.size + 1) n + (yes (gv = .bool true)).toNat)
      case atStart => exact ⟨true, rfl, Lib.hid ⟨_, HTT.out, fun _ h => h, fun _ h => .base h, fun h => by cases h⟩, HK, HB⟩
      case round =>
        clear HT HTT HK HB
        obtain ⟨gb, rfl, HR, HK, HB⟩ := hrel
        cases gb
        case false =>
          obtain ⟨T, hT, _, _, hcl⟩ := HR.out
          have HC := Lib.hid (ref09_list (w.heap.size + 1) n n _ wr (by omega) hT)
          rw [stL_ext fun s _ => hcl rfl s] at HC
          clear hT hcl
          go_wp2_with (go_at_call 129; refine HC.out.mono ?_; rintro e w2 ⟨v, rfl, hv, hb2⟩; have HV := Lib.hid hv; have HB3 := Lib.hid (HB.out.trans (hb2.mono HB.out.size)); clear hv hb2)
          go_ret
          obtain ⟨A', c', e', ho⟩ := HV.out
          exact ⟨v, rfl, ⟨A', c', e', ⟨ho.1, ho.2.imp_right fun ⟨g, cap, cur, h1, h2, r⟩ => ⟨g, cap, cur, h1, Nat.le_trans HB.out.size h2, r⟩⟩⟩, HB3.out⟩
        case true =>
          obtain ⟨T1, hT1, hb1, hs1, _⟩ := HR.out
          have HT1 := Lib.hid hT1
          have HCN := Lib.hid (hT1.cnt)
          have HPS := Lib.hid (PassR.start (n := n) (D := fun s x => s < 0 ∧ ∃ es, a[s]? = some es ∧ x ∈ es) hb1 hs1 (by intro s x h; omega))
          clear hT1 hb1 hs1
          go_wp2
          go_loopw [8, 7] (fun iv gv wr => ∃ (i : Nat) (gb : Bool) (T : Nat → Prop), iv = .int .i64 i ∧ i ≤ n ∧ gv = .bool gb ∧ Hid (TbS wr (w.heap.size + 1) n T) ∧ Hid (PassR a (Of l) n T1 T gb (fun s x => s < i ∧ ∃ es, a[s]? = some es ∧ x ∈ es)) ∧ Hid (Blk wr w.heap.size TAuto #[.slice A n c, .int .i64 acc]) ∧ Hid (Below w.heap.size w wr)) (fun iv _ _ => n - (intOf iv).toNat)
          case atStart => exact ⟨0, false, T1, rfl, by omega, rfl, HT1, HPS, HK, HB⟩
          case round =>
            clear HK HB
            obtain ⟨i, gb, T, rfl, hi, rfl, HT, HP, HK, HB⟩ := hrel
            obtain ⟨p0, p1, _, _⟩ := Blk.two HK.out
            by_cases hlt : i < n
            · obtain ⟨b2, o2, S, q, cs, es, rfl, hb2, c2, hS, HQ, hqc, HY⟩ := AtAu.gt HA.out HL hlt
              have HES := Lib.hid hS
              have hq : q ≤ 140737488355328 := by have := hS.1; rwa [HQ.out] at this
              have HEX := Lib.hid (HOK.out.each es (mem_of_get HY.out))
              have HC2 := Lib.hid c2; have HBB := Lib.hid hb2
              have HPI := Lib.hid (HP.out.more (D' := fun s x => (s < i ∧ ∃ es, a[s]? = some es ∧ x ∈ es) ∨ (s = i ∧ x ∈ es.take 0)) (fun _ s x hx => by
                rcases hx with h | ⟨_, h⟩
                · exact .inl h
                · simp at h))
              clear hS c2 hb2
              go_wp2
              go_loopw [9, 7] (fun kv gv wr => ∃ (k : Nat) (gb : Bool) (T : Nat → Prop), kv = .int .i64 k ∧ k ≤ q ∧ gv = .bool gb ∧ Hid (TbS wr (w.heap.size + 1) n T) ∧ Hid (PassR a (Of l) n T1 T gb (fun s x => (s < i ∧ ∃ es, a[s]? = some es ∧ x ∈ es) ∨ (s = i ∧ x ∈ es.take k))) ∧ Hid (Blk wr w.heap.size TAuto #[.slice (some ⟨b2, o2, none⟩) n c, .int .i64 acc]) ∧ Hid (Below w.heap.size w wr)) (fun kv _ _ => q - (intOf kv).toNat)
              case atStart => exact ⟨0, gb, T, rfl, by omega, rfl, HT, HPI, HK, HB⟩
              case round =>
                clear HT HP HPI HK HB p0 p1
                obtain ⟨k, gb, T, rfl, hk, rfl, HT, HP, HK, HB⟩ := hrel
                obtain ⟨p0, p1, _, _⟩ := Blk.two HK.out
                have hN := HK.out.lt
                have c2 := ((Keep.of HB.out).cell _ _ HBB.out).trans HC2.out
                have hb2 := Nat.lt_of_lt_of_le HBB.out HB.out.size
                have f0 := HT.out.cell hlt
                have i1 : (0 : Int) ≤ (i : Int) := by omega
                have i2 : (i : Int) < (n : Int) := by omega
                by_cases hkt : k < q
                · by_cases hTi : T i
                  · rw [yes_t hTi] at f0
                    obtain ⟨b3, o3, to, fr, U, tq, tc, sl, rfl, hb3, ⟨d0, d1, d2⟩, hset, HTQ, htc, hto, HZ⟩ := AtEd.gt (AtEd.keep HES.out (Keep.of HB.out)) HQ hkt
                    have hx := HEX.out _ (mem_of_get HZ.out)
                    simp only at hx
                    obtain ⟨x0, x1, x2, x3⟩ := hx
                    obtain ⟨to, rfl⟩ := Int.eq_ofNat_of_zero_le x0
                    rw [HL.out] at x1
                    have hton : to < n := by omega
                    have f1 := HT.out.cell hton
                    have f2 := HT.out.frozen to
                    have hgl := HT.out.lt
                    have HSN := Lib.hid (take_snoc HZ.out)
                    have i5 : (0 : Int) ≤ (k : Int) := by omega
                    have i6 : (k : Int) < (q : Int) := by omega
                    have i7 : (0 : Int) ≤ (to : Int) := by omega
                    have i8 : (to : Int) < (n : Int) := by omega
                    have HBN := Lib.hid (HB.out.alloc HB.out.size (.cells #[.int .i64 to, .bool fr, .slice U tq tc] TEdge))
                    have HKN := Lib.hid (HK.out.alloc (.cells #[.int .i64 to, .bool fr, .slice U tq tc] TEdge))
                    have HTN := Lib.hid (HT.out.alloc (.cells #[.int .i64 to, .bool fr, .slice U tq tc] TEdge))
                    have HMORE := Lib.hid (fun (h : gb = false → (T i → fr = true → ∀ t : Nat, ((to : Int)) = (t : Int) → T t)) => HP.out.more (D' := fun s x => (s < i ∧ ∃ es, a[s]? = some es ∧ x ∈ es) ∨ (s = i ∧ x ∈ es.take (k + 1))) (fun hg s x hx => by
                      rcases hx with h1 | ⟨rfl, h1⟩
                      · exact .inl (.inl h1)
                      · rw [HSN.out] at h1
                        rcases List.mem_append.1 h1 with h1 | h1
                        · exact .inl (.inr ⟨rfl, h1⟩)
                        · simp only [List.mem_singleton] at h1
                          subst h1
                          exact .inr (h hg)))
                    have HTI := Lib.hid hTi
                    clear hset x2 x3 hTi
                    by_cases hTt : T to
                    · rw [yes_t hTt] at f1
                      have HMM := Lib.hid (HMORE.out (fun _ _ _ t e => by obtain rfl : to = t := by omega
                                                                          exact hTt))
                      clear hTt
                      cases fr
                      all_goals
                        go_wp2
                        go_roundw
                        case rel => exact ⟨k + 1, gb, T, by go_num, by omega, rfl, HTN, HMM, HKN, HBN⟩
                        case measure => simp [intOf]; omega
                    · rw [yes_f hTt] at f1
                      cases fr
                      case false =>
                        have HMM := Lib.hid (HMORE.out (fun _ _ h => by cases h))
                        clear hTt
                        go_wp2
                        go_roundw
                        case rel => exact ⟨k + 1, gb, T, by go_num, by omega, rfl, HTN, HMM, HKN, HBN⟩
                        case measure => simp [intOf]; omega
                      case true =>
                        have HGR := Lib.hid (HP.out.grow (D' := fun s x => (s < i ∧ ∃ es, a[s]? = some es ∧ x ∈ es) ∨ (s = i ∧ x ∈ es.take (k + 1))) HTI.out HY.out (mem_of_get HZ.out) rfl rfl hton hTt)
                        have HBS := Lib.hid ((HB.out.setCell (p := ⟨w.heap.size + 1, to, none⟩) (by simp) (.bool true)).alloc (by have := HB.out.size; simpa using this) (.cells #[.int .i64 to, .bool true, .slice U tq tc] TEdge))
                        have HKS := Lib.hid ((HK.out.far (p := ⟨w.heap.size + 1, to, none⟩) (by simp) (.bool true)).alloc (.cells #[.int .i64 to, .bool true, .slice U tq tc] TEdge))
                        have HTS := Lib.hid ((HT.out.set (S' := fun j => T j ∨ j = to) to fun j _ => Iff.rfl).alloc (.cells #[.int .i64 to, .bool true, .slice U tq tc] TEdge))
                        clear hTt
                        go_wp2
                        go_roundw
                        case rel => exact ⟨k + 1, true, _, by go_num, by omega, rfl, HTS, HGR, HKS, HBS⟩
                        case measure => simp [intOf]; omega
                  · rw [yes_f hTi] at f0
                    have HMM := Lib.hid (HP.out.more (D' := fun s x => s < i + 1 ∧ ∃ es, a[s]? = some es ∧ x ∈ es) (fun _ s x ⟨h1, h2⟩ => by
                      by_cases e : s = i
                      · subst e; exact .inr fun h => absurd h hTi
                      · exact .inl (.inl ⟨by omega, h2⟩)))
                    clear hTi
                    go_wp2
                    go_roundw
                    case rel => exact ⟨i + 1, gb, T, by go_num, by omega, rfl, HT, HMM, HK, HB⟩
                    case measure => simp [intOf]; omega
                · obtain rfl : k = q := by omega
                  have HMM := Lib.hid (HP.out.more (D' := fun s x => s < i + 1 ∧ ∃ es, a[s]? = some es ∧ x ∈ es) (fun _ s x ⟨h1, es', h2, h3⟩ => by
                    by_cases e : s = i
                    · subst e
                      obtain rfl := Option.some.inj (h2.symm.trans HY.out)
                      exact .inl (.inr ⟨rfl, by rw [List.take_of_length_le (by rw [HQ.out]; omega)]; exact h3⟩)
                    · exact .inl (.inl ⟨by omega, es', h2, h3⟩)))
                  go_wp2
                  go_roundw
                  case rel => exact ⟨i + 1, gb, T, by go_num, by omega, rfl, HT, HMM, HK, HB⟩
                  case measure => simp [intOf]; omega
            · obtain rfl : i = n := by omega
              have HFIN : Hid (ClosedR w wr (w.heap.size + 1) i a (Of l) gb) := Lib.hid ⟨T, HT.out, fun s hs => HP.out.up s (HP.out.base s hs), HP.out.sub, fun hg => by
                subst hg
                exact HP.out.shut fun s es x h1 h2 => ⟨by have := lt_of_get h1; rw [HL.out] at this; exact this, es, h1, h2⟩⟩
              have HMS : Hid (2 * cntW wr (w.heap.size + 1) i + (yes (Value.bool gb = .bool true)).toNat < 2 * cntF i T1 + 1) := Lib.hid (by
                rw [HT.out.cnt]
                cases gb with
                | true => have h1 := HP.out.grown rfl; rw [yes_t rfl]; simp only [Bool.toNat_true]; omega
                | false => have h1 := cntF_le (n := i) HP.out.up; rw [yes_f (by simp)]; simp only [Bool.toNat_false]; omega)
              go_wp2
              go_roundw
              case rel => exact ⟨gb, rfl, HFIN, HK, HB⟩
              case measure => rw [HCN.out, yes_t (p := Value.bool true = Value.bool true) rfl]; exact HMS.out
end Go.Proofs.Ytjnjbcigbnjmkaa
