/- Walks: where sets turn (the document's). PUT1 -/
import Derived.Test.YtjnjbcigbnjmkaaGreatFcy
import Derived.Test.YtjnjbcigbnjmkaaGreatLsy
import Derived.Test.YtjnjbcigbnjmkaaGreatWby
namespace Pv
open Go Go.RowKit
theorem turn_nil {p : Int} : yes (TurnAt [] p) = false := yes_f fun ⟨_, h, _⟩ => by simp at h
theorem turn_snoc {S : List (List Rng)} {s : List Rng} {p : Int} : yes (TurnAt (S ++ [s]) p) = (yes (TurnAt S p) || (yes (InSet s p) != yes (InSet s (p - 1)))) := by
  by_cases h : TurnAt S p
  · rw [yes_t h, yes_t (p := TurnAt (S ++ [s]) p) ?_]; rfl
    obtain ⟨t, h1, h2⟩ := h; exact ⟨t, by simp [h1], h2⟩
  · rw [yes_f h, Bool.false_or]
    by_cases h2 : yes (InSet s p) = yes (InSet s (p - 1))
    · rw [h2, yes_f (p := TurnAt (S ++ [s]) p) ?_]; simp
      rintro ⟨t, h3, h4⟩
      rcases List.mem_append.1 h3 with h3 | h3
      · exact h ⟨t, h3, h4⟩
      · simp at h3; subst h3; exact h4 h2
    · rw [yes_t (p := TurnAt (S ++ [s]) p) ⟨s, by simp, h2⟩]; simpa using h2
/-- The first i places that turn. -/
noncomputable def turnsI (S : List (List Rng)) (i : Nat) : List Int := 0 :: ((plcL S).take i).tail.filter fun p => yes (TurnAt S p)
theorem turnsI_snoc {S : List (List Rng)} {i : Nat} {x : Int} (hi : 1 ≤ i) (h : (plcL S)[i]? = some x) : turnsI S (i + 1) = if yes (TurnAt S x) = true then turnsI S i ++ [x] else turnsI S i := by
  unfold turnsI
  have hne : (plcL S).take i ≠ [] := by
    intro e
    have h1 := congrArg List.length e
    have h2 := lt_of_get h
    rw [List.length_take, List.length_nil] at h1
    omega
  rw [take_snoc h, List.tail_append_of_ne_nil hne, List.filter_append]
  by_cases ht : yes (TurnAt S x) = true
  · rw [if_pos ht]; simp [ht]
  · rw [if_neg ht]; simp [ht]
theorem turnsI_one (S : List (List Rng)) : turnsI S 1 = [0] := by
  unfold turnsI
  cases plcL S <;> simp
theorem turnsI_len {S : List (List Rng)} {i : Nat} (hi : 1 ≤ i) : (turnsI S i).length ≤ i := by
  unfold turnsI
  have h := List.length_filter_le (fun p => yes (TurnAt S p)) ((plcL S).take i).tail
  simp at h ⊢
  omega
theorem plcL_in {S : List (List Rng)} (h : ∀ s ∈ S, SetOk s) {x : Int} (hx : x ∈ plcL S) : 0 ≤ x ∧ x ≤ 1114111 := by
  obtain ⟨h1, h2⟩ := plcL_mem.1 hx
  refine ⟨?_, h2⟩
  rcases h1 with rfl | ⟨s, hs, r, hr, hx⟩
  · omega
  · obtain ⟨i, hi⟩ := List.getElem?_of_mem hr
    have := (h s hs).one i r hi
    omega
theorem plc_len (s : List Rng) : ∀ l : List Int, (s.foldl plc1 l).length ≤ l.length + 2 * s.length := by
  induction s with
  | nil => intro l; simp
  | cons r s ih =>
    intro l
    have h1 := ih (plc1 l r)
    have h2 := withL_len (withL l r.lo) (r.hi + 1)
    have h3 := withL_len l r.lo
    simp only [List.foldl_cons, List.length_cons]
    unfold plc1 at h1 ⊢
    omega
theorem plcL_len {S : List (List Rng)} (h : ∀ s ∈ S, SetOk s) : (plcL S).length ≤ 1 + 512 * S.length := by
  have h2 : ∀ (T : List (List Rng)) (l : List Int), (∀ s ∈ T, s.length ≤ 256) → (T.foldl (fun l s => s.foldl plc1 l) l).length ≤ l.length + 512 * T.length := fun T => by
    induction T with
    | nil => intro l _; simp
    | cons s T ih =>
      intro l hs
      have h1 := ih (s.foldl plc1 l) (fun t ht => hs t (by simp [ht]))
      have h2 := plc_len s l
      have h3 := hs s (by simp)
      simp only [List.foldl_cons, List.length_cons]
      omega
  exact h2 S [0] fun s hs => (h s hs).few
end Pv
namespace Go.Proofs.YtjnjbcigbnjmkaaGreat
open Go.RowKit Pv

set_option maxHeartbeats 2000000 in
set_option maxRecDepth 100000 in
theorem ref06_Turns (A : Option Addr) (c n : Nat) (S : List (List Rng)) (w : World) (h : AtSets w A S) (HL : Hid (S.length = n)) (hn : n ≤ 256) (hs : ∀ s ∈ S, SetOk s) :
    Calls Tryz.prog 36 #[.slice A n c] w fun e w' => (∃ v, e = .returned v ∧ OwnI w' w.heap.size v (turnsL S)) ∧ Below w.heap.size w w' := by
  have HA := Lib.hid h; have HSL := Lib.hid hs
  obtain ⟨i0, hi0, hz0, hs0, hb0⟩ := info_parts info_int9
  have HPL := Lib.hid (ref06_places A c n S w h HL hn hs)
  clear h hs
  go_enter Tryz.func36, Tryz.ntmps36
  go_wp2_with (go_at_call 60; refine HPL.out.mono ?_; rintro e w1 ⟨⟨v1, rfl, A1, c1, rfl, ho1⟩, hb1⟩; obtain ⟨p, HP⟩ : ∃ p, Hid (p = (plcL S).length) := ⟨_, Lib.hid rfl⟩; rw [← HP.out] at ho1 ⊢; have HO1 := Lib.hid ho1; have HB1 := Lib.hid hb1; clear ho1 hb1)
  have hp : p ≤ 140000 := by have := plcL_len HSL.out; rw [← HP.out, HL.out] at this; omega
  have hp1 : 1 ≤ p := by obtain ⟨l, hl⟩ := plcL_head HSL.out; have := HP.out; rw [hl] at this; simp at this; omega
  have HPA : Hid (At w1 A1 RI (plcL S)) := Lib.hid (by
    have h0 : OwnI w1 w.heap.size (.slice A1 p c1) (plcL S) := ⟨A1, c1, by rw [← HP.out], by rw [← HP.out]; exact HO1.out⟩
    obtain ⟨A', c', e1, h2, _⟩ := h0.at' (fun x hx => by have := plcL_in HSL.out hx; omega) (by rw [← HP.out]; omega)
    injection e1 with e1 _ _
    rw [e1]; exact h2)
  have O0 := Lib.hid (own_lit w1 w1.heap.size (.int .i64 0) 3 (Nat.le_refl _))
  have B0 := Lib.hid (HB1.out.alloc HB1.out.size (.cells #[.int .i64 0] 3))
  have HK0 := Lib.hid ((Below.refl w1.heap.size w1).alloc (Nat.le_refl _) (.cells #[.int .i64 0] 3))
  go_loopw [5, 4] (fun iv lv wr => ∃ (i m : Nat) (B : Option Addr) (bc : Nat), iv = .int .i64 i ∧ 1 ≤ i ∧ i ≤ p ∧ lv = .slice B m bc ∧ m ≤ i ∧ Hid (m = (turnsI S i).length) ∧ Hid (wr.ownsRow w1.heap.size 3 1 (.slice B m bc) m ((turnsI S i).map (Value.int .i64))) ∧ Hid (Below w1.heap.size w1 wr) ∧ Hid (Below w.heap.size w wr)) (fun iv _ _ => p - (intOf iv).toNat)
  case atStart => exact ⟨1, 1, _, 1, rfl, by omega, by omega, rfl, by omega, Lib.hid (by rw [turnsI_one]; rfl), Lib.hid (by rw [turnsI_one]; exact O0.out), HK0, B0⟩
  case round =>
    obtain ⟨i, m, B, bc, rfl, hi1, hi, rfl, hm, HM, HO, HK, HB⟩ := hrel
    have i1 : (0 : Int) ≤ (i : Int) := by omega
    by_cases hlt : i < p
    · have i2 : (i : Int) < (p : Int) := by omega
      obtain ⟨b1, o1, u, x, rfl, hb1, c0, ⟨rfl, _, _⟩, HX⟩ := HPA.out.gt (Lib.hid HP.out.symm) hlt
      have HC1 := Lib.hid (show ∀ W, Keep w1 W → W.cell? ⟨b1, o1 + i, none⟩ = some (.int .i64 x) from fun W hb => (hb.cell _ _ hb1).trans c0)
      have hx := plcL_in HSL.out (mem_of_get HX.out)
      have HSN := Lib.hid (turnsI_snoc hi1 HX.out)
      have hwr : IntKind.i64.wrap (x - 1) = x - 1 := by rw [IntKind.wrap_i64]; omega
      have HWR := Lib.hid hwr
      clear c0 hb1 hwr
      go_wp2
      go_loopw [7, 6] (fun kv bv wr2 => ∃ (k : Nat), kv = .int .i64 k ∧ k ≤ n ∧ bv = .bool (yes (TurnAt (S.take k) x)) ∧ Hid (wr2.ownsRow w1.heap.size 3 1 (.slice B m bc) m ((turnsI S i).map (Value.int .i64))) ∧ Hid (Below w1.heap.size w1 wr2) ∧ Hid (Below w.heap.size w wr2)) (fun kv _ _ => n - (intOf kv).toNat)
      case atStart => exact ⟨0, rfl, by omega, by rw [List.take_zero, turn_nil], HO, HK, HB⟩
      case round =>
        clear HO HK HB
        obtain ⟨k, rfl, hk, rfl, HO, HK, HB⟩ := hrel
        have i3 : (0 : Int) ≤ (k : Int) := by omega
        by_cases hkn : k < n
        · have i4 : (k : Int) < (n : Int) := by omega
          obtain ⟨b2, o2, T, q, tc, s, rfl, hb2, c2, hset, HQ, hqc, HY⟩ := AtSets.gt (HA.out.keep (Keep.of HB.out)) HL hkn
          have c1' := HC1.out wr (Keep.of HK.out)
          have HH1 := Lib.hid (fun m : Nat => ref06_Has T tc q s x (wr.drewN m) (AtK.keep hset (Keep.drewN wr m)) HQ)
          have HH2 := Lib.hid (fun m : Nat => ref06_Has T tc q s (x - 1) (wr.drewN m) (AtK.keep hset (Keep.drewN wr m)) HQ)
          rw [← HWR.out] at HH2
          have HTS : Hid (yes (TurnAt (S.take (k + 1)) x) = (yes (TurnAt (S.take k) x) || (yes (InSet s x) != yes (InSet s (x - 1))))) := Lib.hid (by rw [take_snoc HY.out, turn_snoc])
          rw [← HWR.out] at HTS
          clear hset
          generalize hb : yes (TurnAt (S.take k) x) = b at *
          generalize ht1 : yes (InSet s x) = t1 at *
          generalize ht2 : yes (InSet s (IntKind.i64.wrap (x - 1))) = t2 at *
          have HBT := Lib.hid hb
          clear hb ht1 ht2
          cases b
          case true =>
            go_wp2
            go_quiet (fail)
            go_wp2
            go_roundw
            case rel => exact ⟨k + 1, by go_num, by omega, by rw [HTS.out]; rfl, Lib.hid (ownsRow_drewN HO.out _), Lib.hid (below_drewN HK.out _), Lib.hid (below_drewN HB.out _)⟩
            case measure => simp [intOf]; omega
          case false =>
            go_wp2
            go_quiet ((go_at_call 61; with_reducible (first | exact Calls.quiet_of_same (HH1.out _) | exact Calls.quiet_of_same (HH2.out _))))
            go_wp2
            go_roundw
            case rel => exact ⟨k + 1, by go_num, by omega, by rw [HTS.out]; cases t1 <;> cases t2 <;> rfl, Lib.hid (ownsRow_drewN HO.out _), Lib.hid (below_drewN HK.out _), Lib.hid (below_drewN HB.out _)⟩
            case measure => simp [intOf]; omega
        · obtain rfl : k = n := by omega
          have HTK := Lib.hid (show S.take k = S from List.take_of_length_le (by rw [HL.out]; omega))
          rw [HTK.out]
          have c1' := HC1.out wr (Keep.of HK.out)
          have Q1 : Hid (m + 1 ≤ maxLen) := Lib.hid (by simp only [maxLen]; omega)
          have Q2 : Hid ((m + 1) * 8 ≤ 140737488355328) := Lib.hid (by omega)
          generalize hb : yes (TurnAt S x) = b at *
          have HBT := Lib.hid hb
          clear hb
          cases b
          case true =>
            have O1 := Lib.hid (HO.out.alloc (.cells #[.int .i64 x] 3))
            have SR1 := Lib.hid (Src.one (w := wr) (x := .int .i64 x) (t := 3) rfl)
            have D1 := Lib.hid (HK.out.alloc HK.out.size (.cells #[.int .i64 x] 3))
            have B1 := Lib.hid (HB.out.alloc HB.out.size (.cells #[.int .i64 x] 3))
            have Z1 : Hid (w1.heap.size ≤ (wr.alloc (.cells #[.int .i64 x] 3)).heap.size) := Lib.hid D1.out.size
            go_wp2_with (first
              | (at_builtin
                 go_must (refine wpList_append_src _ rfl (.tmp 47) (.tmp 52) 26 rfl w1.heap.size 3 i0 (.int .i64 0) 1 8 Tryz.underlying26 hi0 hz0 hs0 hb0 rfl (by decide) B bc m _ rfl O1.out _ 1 1 _ rfl SR1.out Q1.out Q2.out Z1.out ?_)
                 intro A2 c2 w2 own2 gr2 _
                 have D2 := Lib.hid (D1.out.grown gr2 Z1.out (fun g hg => (O1.out.lt g hg).1))
                 have B2 := Lib.hid (B1.out.grown gr2 B1.out.size (fun g hg => Nat.le_trans HB1.out.size (O1.out.lt g hg).1))
                 have O2 := Lib.hid own2
                 clear own2 gr2))
            go_roundw
            case rel => exact ⟨i + 1, m + 1, A2, c2, by go_num, by omega, by omega, rfl, by omega, Lib.hid (by rw [HSN.out]; simp [← HM.out]), Lib.hid (by rw [HSN.out]; simpa using O2.out), D2, B2⟩
            case measure => simp [intOf]; omega
          case false =>
            go_wp2
            go_roundw
            case rel => exact ⟨i + 1, m, B, bc, by go_num, by omega, by omega, rfl, by omega, Lib.hid (by rw [HSN.out]; exact HM.out), Lib.hid (by rw [HSN.out]; exact HO.out), HK, HB⟩
            case measure => simp [intOf]; omega
    · obtain rfl : i = p := by omega
      have HTK : Hid (turnsI S i = turnsL S) := Lib.hid (by unfold turnsI turnsL; rw [List.take_of_length_le (by rw [← HP.out]; omega)])
      go_wp2
      go_ret
      have hm3 := HM.out
      subst hm3
      exact ⟨⟨_, rfl, by have := HO.out; rw [HTK.out] at this ⊢; exact OwnI.lower ⟨B, bc, rfl, this⟩ HB1.out.size⟩, HB.out⟩
end Go.Proofs.YtjnjbcigbnjmkaaGreat

namespace Pv
open Go Go.RowKit
/-- The sets of edges that are not free. -/
def rowSets (es : List Ed) : List (List Rng) := (es.filter fun x => !x.free).map Ed.set
def allSets (a : Au) : List (List Rng) := a.flatMap rowSets
theorem rowSets_snoc {es : List Ed} {k : Nat} {x : Ed} (h : es[k]? = some x) : rowSets (es.take (k + 1)) = if x.free = true then rowSets (es.take k) else rowSets (es.take k) ++ [x.set] := by
  unfold rowSets
  rw [take_snoc h, List.filter_append]
  by_cases hf : x.free = true
  · rw [if_pos hf]; simp [hf]
  · rw [if_neg hf]; simp [hf]
theorem allSets_snoc {a : Au} {i : Nat} {es : List Ed} (h : a[i]? = some es) : allSets (a.take (i + 1)) = allSets (a.take i) ++ rowSets es := by
  unfold allSets
  rw [take_snoc h, List.flatMap_append]
  simp
theorem rowSets_len (es : List Ed) : (rowSets es).length ≤ es.length := by
  unfold rowSets; rw [List.length_map]; exact List.length_filter_le _ _
theorem allSets_len (a : Au) : (allSets a).length ≤ edgesS a := by
  induction a with
  | nil => simp [allSets]
  | cons es a ih =>
    have := rowSets_len es
    unfold allSets edgesS at *
    simp only [List.flatMap_cons, List.length_append, List.map_cons, List.sum_cons]
    omega
theorem part_len {a : Au} {i : Nat} {es : List Ed} (h : a[i]? = some es) (k : Nat) : (allSets (a.take i) ++ rowSets (es.take k)).length ≤ edgesS a := by
  have h1 := allSets_len (a.take i)
  have h2 := rowSets_len (es.take k)
  have h3 := edgesS_take a (i + 1)
  rw [take_snoc h, edgesS_snoc] at h3
  have h4 : (es.take k).length ≤ es.length := by rw [List.length_take]; omega
  rw [List.length_append]
  omega
theorem allSets_ok {a : Au} {acc : Int} (h : AuOk a acc) : ∀ s ∈ allSets a, SetOk s := fun s hs => by
  unfold allSets rowSets at hs
  simp only [List.mem_flatMap, List.mem_map, List.mem_filter] at hs
  obtain ⟨es, h1, x, ⟨h2, _⟩, rfl⟩ := hs
  exact (h.each es h1 x h2).2.2.1
end Pv
namespace Go.Proofs.YtjnjbcigbnjmkaaGreat
open Go.RowKit Pv

abbrev TSet : TypeId := 23
abbrev TSets : TypeId := 81
theorem info_set : (Tryz.prog.info? TSet).map (fun i => (i.zero, i.size, i.bytes)) = some (some (.slice none 0 0), 1, 24) := by kernel_rfl

set_option maxHeartbeats 2000000 in
set_option maxRecDepth 100000 in
theorem ref10_sets (A : Option Addr) (c n : Nat) (acc : Int) (a : Au) (w : World) (ha : AtAu w A a) (HL : Hid (a.length = n)) (hok : AuOk a acc) :
    Calls Tryz.prog 35 #[.agg #[.slice A n c, .int .i64 acc]] w fun e w' => (∃ v, e = .returned v ∧ Own w' w.heap.size TSet (IsSet w) v (allSets a)) ∧ Below w.heap.size w w' := by
  have hn : n ≤ 256 := by have := hok.few; rwa [HL.out] at this
  have HA := Lib.hid ha; have HOK := Lib.hid hok
  obtain ⟨i0, hi0, hz0, hs0, hb0⟩ := info_parts info_set
  have HB0 := Lib.hid ((Below.refl w.heap.size w).alloc (Nat.le_refl _) (.cells #[.slice A n c, .int .i64 acc] TAuto))
  have K0 := Lib.hid (Blk.new w TAuto #[.slice A n c, .int .i64 acc])
  clear ha hok
  go_enter Tryz.func35, Tryz.ntmps35
  go_wp2
  go_loopw [4, 3] (fun iv lv wr => ∃ (i m : Nat) (B : Option Addr) (bc : Nat) (us : List Value), iv = .int .i64 i ∧ i ≤ n ∧ lv = .slice B m bc ∧ m ≤ 1024 ∧ Hid (m = (allSets (a.take i)).length) ∧ Hid (wr.ownsRow w.heap.size TSet 1 (.slice B m bc) m us) ∧ Hid (Rel (IsSet w) us (allSets (a.take i))) ∧ Hid (Blk wr w.heap.size TAuto #[.slice A n c, .int .i64 acc]) ∧ Hid (Below w.heap.size w wr)) (fun iv _ _ => n - (intOf iv).toNat)
  case atStart => exact ⟨0, 0, none, 0, [], rfl, by omega, rfl, by omega, Lib.hid rfl, Lib.hid (World.ownsRow_nil _ _ _ _), Lib.hid Rel.nil, K0, HB0⟩
  case round =>
    obtain ⟨i, m, B, bc, us, rfl, hi, rfl, hm, HM, HO, HR, HK, HB⟩ := hrel
    obtain ⟨p0, p1, _, _⟩ := Blk.two HK.out
    have i1 : (0 : Int) ≤ (i : Int) := by omega
    by_cases hlt : i < n
    · have i2 : (i : Int) < (n : Int) := by omega
      obtain ⟨b1, o1, S, q, cs, es, rfl, hb1, c0, hes, HQ, hqc, HX⟩ := AtAu.gt HA.out HL hlt
      have HC1 := Lib.hid (show ∀ W, Below w.heap.size w W → W.cell? ⟨b1, o1 + i, none⟩ = some (.slice S q cs) from fun W hb => ((Keep.of hb).cell _ _ hb1).trans c0)
      have HES := Lib.hid hes
      have HSN := Lib.hid (allSets_snoc HX.out)
      have hq : q ≤ 1024 := by have h1 := le_edgesS (mem_of_get HX.out); have h2 := HOK.out.edges; rw [HQ.out] at h1; omega
      have HPL := Lib.hid (fun k => Nat.le_trans (part_len HX.out k) HOK.out.edges)
      have HO' := HO
      clear hes c0
      go_wp2
      go_loopw [5, 3] (fun kv lv wr2 => ∃ (k m : Nat) (B : Option Addr) (bc : Nat) (us : List Value), kv = .int .i64 k ∧ k ≤ q ∧ lv = .slice B m bc ∧ m ≤ 1024 ∧ Hid (m = (allSets (a.take i) ++ rowSets (es.take k)).length) ∧ Hid (wr2.ownsRow w.heap.size TSet 1 (.slice B m bc) m us) ∧ Hid (Rel (IsSet w) us (allSets (a.take i) ++ rowSets (es.take k))) ∧ Hid (Blk wr2 w.heap.size TAuto #[.slice (some ⟨b1, o1, none⟩) n c, .int .i64 acc]) ∧ Hid (Below w.heap.size w wr2)) (fun kv _ _ => q - (intOf kv).toNat)
      case atStart => exact ⟨0, m, B, bc, us, rfl, by omega, rfl, hm, Lib.hid (by simp [rowSets, HM.out]), HO, Lib.hid (by simpa [rowSets] using HR.out), HK, HB⟩
      case round =>
        clear p0 p1
        clear HM HO HO' HR HK HB hm
        obtain ⟨k, m, B, bc, us, rfl, hk, rfl, hm, HM, HO, HR, HK, HB⟩ := hrel
        obtain ⟨p0, p1, _, _⟩ := Blk.two HK.out
        have c1 := HC1.out wr HB.out
        have i3 : (0 : Int) ≤ (k : Int) := by omega
        by_cases hkt : k < q
        · have i4 : (k : Int) < (q : Int) := by omega
          obtain ⟨b3, o3, to, fr, T, tq, tc, sl, rfl, hb3, ⟨d0, d1, d2⟩, hset, HTQ, htc, _, HZ⟩ := AtEd.gt HES.out HQ hkt
          have d1' := ((Keep.of HB.out).cell _ _ hb3).trans d1
          have d2' := ((Keep.of HB.out).cell _ _ hb3).trans d2
          have HRS := Lib.hid (rowSets_snoc HZ.out)
          have hm1 := HPL.out (k + 1)
          clear d0 d1 d2
          cases fr
          case true =>
            have HE : Hid (rowSets (es.take (k + 1)) = rowSets (es.take k)) := Lib.hid HRS.out
            clear hm1
            go_wp2
            go_roundw
            case rel => exact ⟨k + 1, m, B, bc, us, by go_num, by omega, rfl, hm, Lib.hid (by rw [HE.out]; exact HM.out), HO, Lib.hid (by rw [HE.out]; exact HR.out), HK, HB⟩
            case measure => simp [intOf]; omega
          case false =>
            have HE : Hid (allSets (a.take i) ++ rowSets (es.take (k + 1)) = (allSets (a.take i) ++ rowSets (es.take k)) ++ [sl]) := Lib.hid (by rw [HRS.out, if_neg (by simp), List.append_assoc])
            have hm2 : m + 1 ≤ 1024 := by rw [HE.out, List.length_append, ← HM.out] at hm1; simpa using hm1
            have RS := Lib.hid (show IsSet w (.slice T tq tc) sl from ⟨T, tc, by rw [HTQ.out], hset, by rw [HTQ.out]; exact htc⟩)
            have Q1 : Hid (m + 1 ≤ maxLen) := Lib.hid (by simp only [maxLen]; omega)
            have Q2 : Hid ((m + 1) * 24 ≤ 140737488355328) := Lib.hid (by omega)
            have O1 := Lib.hid (HO.out.alloc (.cells #[.slice T tq tc] TSet))
            have SR1 := Lib.hid (Src.one (w := wr) (x := .slice T tq tc) (t := TSet) rfl)
            have B1 := Lib.hid (HB.out.alloc HB.out.size (.cells #[.slice T tq tc] TSet))
            have K1 := Lib.hid (HK.out.alloc (.cells #[.slice T tq tc] TSet))
            clear hm1
            go_wp2_with (first
              | (at_builtin
                 go_must (refine wpList_append_src _ rfl (.tmp 33) (.tmp 43) TSets rfl w.heap.size TSet i0 (.slice none 0 0) 1 24 Tryz.underlying81 hi0 hz0 hs0 hb0 rfl (by decide) B bc m us rfl O1.out _ 1 1 _ rfl SR1.out Q1.out Q2.out B1.out.size ?_)
                 intro A2 c2 w2 own2 gr2 _
                 have K2 := Lib.hid (K1.out.grown gr2 (own_blk_ne O1.out K1.out (by decide)))
                 have B2 := Lib.hid (B1.out.grown gr2 B1.out.size (fun g hg => (O1.out.lt g hg).1))
                 have O2 := Lib.hid own2
                 clear own2 gr2))
            go_roundw
            case rel => exact ⟨k + 1, m + 1, A2, c2, us ++ [.slice T tq tc], by go_num, by omega, rfl, hm2, Lib.hid (by rw [HE.out, List.length_append, ← HM.out]; rfl), O2, Lib.hid (by rw [HE.out]; exact HR.out.app (Rel.one RS.out)), K2, B2⟩
            case measure => simp [intOf]; omega
        · obtain rfl : k = q := by omega
          have HTK := Lib.hid (show es.take k = es from List.take_of_length_le (by rw [HQ.out]; omega))
          rw [HTK.out, ← HSN.out] at HM HR
          go_wp2
          go_roundw
          case rel => exact ⟨i + 1, m, B, bc, us, by go_num, by omega, rfl, hm, HM, HO, HR, HK, HB⟩
          case measure => simp [intOf]; omega
    · obtain rfl : i = n := by omega
      have HTK := Lib.hid (show a.take i = a from List.take_of_length_le (by rw [HL.out]; omega))
      rw [HTK.out] at HM HR
      go_wp2
      go_ret
      have hm3 := HM.out
      subst hm3
      exact ⟨⟨_, rfl, B, bc, us, rfl, HO.out, HR.out⟩, HB.out⟩
end Go.Proofs.YtjnjbcigbnjmkaaGreat

namespace Pv
open Go Go.RowKit
/-- Where a list stands first among some. -/
inductive FindAt (ll : List (List Int)) (l : List Int) : Int → Prop where
  | no (h : l ∉ ll) : FindAt ll l (-1)
  | at (k : Nat) (h : ll[k]? = some l) (h2 : l ∉ ll.take k) : FindAt ll l (k : Int)
end Pv
namespace Go.Proofs.YtjnjbcigbnjmkaaGreat
open Go.RowKit Pv

set_option maxHeartbeats 1000000 in
set_option maxRecDepth 100000 in
theorem ref10_find (A B : Option Addr) (c d n m : Nat) (ll : List (List Int)) (l : List Int) (w : World) (h : At w A (IsInts w) ll) (HL : Hid (ll.length = n)) (hl : At w B RI l) (HM : Hid (l.length = m)) :
    Calls Tryz.prog 64 #[.slice A n c, .slice B m d] w fun e w' => (∃ r, e = .returned (.int .i64 r) ∧ FindAt ll l r) ∧ Drawn w w' := by
  have hn : n ≤ 140737488355328 := by have := h.1; rwa [HL.out] at this
  have HA := Lib.hid h; have HB := Lib.hid hl
  clear h hl
  go_enter Tryz.func64, Tryz.ntmps64
  go_wp2
  go_loopw [5] (fun i wr => ∃ k : Nat, i = .int .i64 k ∧ k ≤ n ∧ Hid (l ∉ ll.take k) ∧ Hid (Drawn w wr)) (fun i _ => n - (intOf i).toNat)
  case atStart => exact ⟨0, rfl, by omega, Lib.hid (by simp), Lib.hid (Drawn.refl w)⟩
  case round =>
    obtain ⟨k, rfl, hk, HNO, HD⟩ := hrel
    have i1 : (0 : Int) ≤ (k : Int) := by omega
    have HK : Hid (Keep w wr) := Lib.hid (by obtain ⟨n, rfl⟩ := HD.out; exact Keep.drewN w n)
    by_cases hlt : k < n
    · have i2 : (k : Int) < (n : Int) := by omega
      obtain ⟨b1, o1, T, tc, q, s, rfl, hb1, c1, hs, HQ, _, _, HX⟩ := At.gtS HA.out HL hlt
      have c1' := (HK.out.cell _ _ hb1).trans c1
      have HSI := Lib.hid (ref06_SameInts T B tc d q m s l wr (hs.keep HK.out) (HB.out.keep HK.out) HQ HM)
      clear hs c1
      by_cases he : s = l
      · rw [decide_eq_true he] at HSI
        have HF : Hid (FindAt ll l (k : Int)) := Lib.hid (.at k (by rw [← he]; exact HX.out) HNO.out)
        clear he
        go_wp2_with (go_at_call 14; refine HSI.out.mono ?_; rintro e w2 ⟨rfl, n2, rfl⟩)
        go_ret
        exact ⟨⟨_, rfl, HF.out⟩, HD.out.drewN n2⟩
      · rw [decide_eq_false he] at HSI
        have HN2 := Lib.hid (show l ∉ ll.take (k + 1) by
          rw [take_snoc HX.out, List.mem_append, List.mem_singleton]
          rintro (h1 | h1)
          · exact HNO.out h1
          · exact he h1.symm)
        clear he
        go_wp2_with (go_at_call 14; refine HSI.out.mono ?_; rintro e w2 ⟨rfl, n2, rfl⟩; have HD2 := Lib.hid (HD.out.drewN n2))
        go_roundw
        case rel => exact ⟨k + 1, by go_num, by omega, HN2, HD2⟩
        case measure => simp [intOf]; omega
    · have HF : Hid (FindAt ll l (-1)) := Lib.hid (.no (by have := HNO.out; rwa [List.take_of_length_le (by rw [HL.out]; omega)] at this))
      go_wp2
      go_ret
      exact ⟨⟨_, rfl, HF.out⟩, HD.out⟩

set_option maxHeartbeats 1000000 in
set_option maxRecDepth 100000 in
theorem ref10_has (A : Option Addr) (c n : Nat) (l : List Int) (x : Int) (w : World) (h : At w A RI l) (HL : Hid (l.length = n)) :
    Calls Tryz.prog 65 #[.slice A n c, .int .i64 x] w fun e w' => e = .returned (.bool (decide (x ∈ l))) ∧ w' = w := by
  have hl : n ≤ 140737488355328 := by have := h.1; rwa [HL.out] at this
  obtain ⟨ans, hans⟩ : ∃ ans, decide (x ∈ l) = ans := ⟨_, rfl⟩
  rw [hans]
  have HANS := Lib.hid hans
  clear hans
  go_enter Tryz.func65, Tryz.ntmps65
  go_wp2
  go_loop [5] (fun i => ∃ k : Nat, i = .int .i64 k ∧ k ≤ n ∧ Hid (∀ (i : Nat) y, i < k → l[i]? = some y → y ≠ x)) (fun i => n - (intOf i).toNat)
  case atStart => exact ⟨0, rfl, by omega, Lib.hid (by intros; omega)⟩
  case round =>
    obtain ⟨k, rfl, hk, HNO⟩ := hrel
    by_cases hlt : k < n
    · obtain ⟨b, off, u, y, rfl, hbl, x0, ⟨rfl, _, _⟩, HX⟩ := h.gt HL hlt
      have i1 : (0 : Int) ≤ (k : Int) := by omega
      have i2 : (k : Int) < (n : Int) := by omega
      by_cases hxy : y = x
      · subst hxy
        have HY := Lib.hid (show true = ans by rw [← HANS.out]; exact (decide_eq_true (mem_of_get HX.out)).symm)
        go_wp2
        go_ret
        exact ⟨ret_bool HY.out, rfl⟩
      · have h1 : (y == x) = false := by simpa using hxy
        have HN := Lib.hid (fun (i : Nat) (z : Int) (hi : i < k + 1) (hz : l[i]? = some z) => show z ≠ x by
          by_cases e : i = k
          · subst e; obtain rfl := Option.some.inj (hz.symm.trans HX.out); exact hxy
          · exact HNO.out i z (by omega) hz)
        clear hxy
        go_wp2
        go_round
        case rel => exact ⟨k + 1, by go_num, by omega, HN⟩
        case measure => simp [intOf]; omega
    · have HY := Lib.hid (show false = ans by
        rw [← HANS.out]
        refine (decide_eq_false fun hm => ?_).symm
        obtain ⟨i, hi⟩ := List.getElem?_of_mem hm
        exact HNO.out i x (by have := lt_of_get hi; rw [HL.out] at this; omega) hi rfl)
      go_wp2
      go_ret
      exact ⟨ret_bool HY.out, rfl⟩
end Go.Proofs.YtjnjbcigbnjmkaaGreat

namespace Pv
open Go Go.RowKit
/-- Where some states come to by a number. -/
noncomputable def stepS (a : Au) (l : List Int) (p : Int) : List Int := stL a.length (Clo a (Stp a p (Of l)))
noncomputable def firstS (a : Au) : List Int := stL a.length (Clo a (fun s => s = 0))
/-- Some states' number among those met; those met with them. -/
noncomputable def numS (all : List (List Int)) (l : List Int) : Nat := all.idxOf l
noncomputable def addS (all : List (List Int)) (l : List Int) : List (List Int) := open Classical in if l ∈ all then all else all ++ [l]
theorem addS_in {all : List (List Int)} {l : List Int} (h : l ∈ all) : addS all l = all := by unfold addS; rw [if_pos h]
theorem addS_new {all : List (List Int)} {l : List Int} (h : l ∉ all) : addS all l = all ++ [l] := by unfold addS; rw [if_neg h]
theorem numS_new {all : List (List Int)} {l : List Int} (h : l ∉ all) : numS all l = all.length := List.idxOf_eq_length h
theorem idxOf_at {l : List Int} : ∀ {all : List (List Int)} {k : Nat}, all[k]? = some l → l ∉ all.take k → all.idxOf l = k
  | [], k, h, _ => by simp at h
  | x :: xs, 0, h, _ => by simp at h; subst h; simp
  | x :: xs, k + 1, h, h2 => by
    simp only [List.take_succ_cons, List.mem_cons, not_or] at h2
    have h3 := idxOf_at (all := xs) (k := k) (by simpa using h) h2.2
    rw [List.idxOf_cons]
    have : (x == l) = false := by simpa using fun e => h2.1 (Eq.symm e)
    rw [this, h3]; rfl
theorem numS_at {all : List (List Int)} {l : List Int} {k : Nat} (h : all[k]? = some l) (h2 : l ∉ all.take k) : numS all l = k := idxOf_at h h2
theorem FindAt.is {all : List (List Int)} {l : List Int} {r : Int} (h : FindAt all l r) : (r = -1 ∧ l ∉ all ∧ numS all l = all.length) ∨ (r = (numS all l : Int) ∧ l ∈ all ∧ numS all l < all.length) := by
  cases h with
  | no h => exact .inl ⟨rfl, h, numS_new h⟩
  | «at» k h h2 => rw [numS_at h h2]; exact .inr ⟨rfl, mem_of_get h, lt_of_get h⟩
/-- One row: where a number of each class leads; those met behind it. None: too many. -/
noncomputable def rowM (a : Au) (l : List Int) : List Int → List Int → List (List Int) → Option (List Int × List (List Int))
  | [], row, all => some (row, all)
  | c :: cs, row, all => if 64 < (addS all (stepS a l c)).length then none else rowM a l cs (row ++ [(numS all (stepS a l c) : Int)]) (addS all (stepS a l c))
/-- The rows, and which accept. None: too many. -/
noncomputable def mkM (a : Au) (acc : Int) (cuts : List Int) : Nat → List (List Int) → List (List Int) → List Bool → Option (List (List Int) × List Bool)
  | 0, _, _, _ => none
  | f + 1, all, rows, accs => match all[rows.length]? with
    | none => some (rows, accs)
    | some l => match rowM a l cuts [] all with
      | none => none
      | some (row, all') => mkM a acc cuts f all' (rows ++ [row]) (accs ++ [decide (acc ∈ l)])
noncomputable def madeM (a : Au) (acc : Int) (cuts : List Int) : Option (List (List Int) × List Bool) := mkM a acc cuts 70 [firstS a] [] []
theorem mkM_end {a : Au} {acc : Int} {cuts : List Int} {f : Nat} {all rows : List (List Int)} {accs : List Bool} (h : all.length ≤ rows.length) (hf : 0 < f) : mkM a acc cuts f all rows accs = some (rows, accs) := by
  cases f with
  | zero => omega
  | succ f => unfold mkM; rw [List.getElem?_eq_none h]
theorem mkM_row {a : Au} {acc : Int} {cuts : List Int} {f : Nat} {all rows : List (List Int)} {accs : List Bool} {l : List Int} (h : all[rows.length]? = some l) :
    mkM a acc cuts (f + 1) all rows accs = match rowM a l cuts [] all with | none => none | some (row, all') => mkM a acc cuts f all' (rows ++ [row]) (accs ++ [decide (acc ∈ l)]) := by
  conv => lhs; unfold mkM
  rw [h]
theorem rowM_many {a : Au} {l cs row : List Int} {c : Int} {all : List (List Int)} (h : 64 < (addS all (stepS a l c)).length) : rowM a l (c :: cs) row all = none := by
  unfold rowM; rw [if_pos h]
theorem rowM_next {a : Au} {l cs row : List Int} {c : Int} {all : List (List Int)} (h : (addS all (stepS a l c)).length ≤ 64) : rowM a l (c :: cs) row all = rowM a l cs (row ++ [(numS all (stepS a l c) : Int)]) (addS all (stepS a l c)) := by
  conv => lhs; unfold rowM
  rw [if_neg (by omega)]
/-- What is met are some states of the automaton, each list rising. -/
def MetS (a : Au) (all : List (List Int)) : Prop := ∀ l ∈ all, ∃ S, l = stL a.length S
theorem MetS.one (a : Au) : MetS a [firstS a] := fun l hl => by simp at hl; exact ⟨_, hl⟩
theorem MetS.add {a : Au} {all : List (List Int)} (h : MetS a all) (l : List Int) (p : Int) : MetS a (addS all (stepS a l p)) := fun m hm => by
  unfold addS at hm
  split at hm
  · exact h m hm
  · rcases List.mem_append.1 hm with hm | hm
    · exact h m hm
    · simp at hm; exact ⟨_, hm⟩
theorem addS_len (all : List (List Int)) (l : List Int) : all.length ≤ (addS all l).length := by
  unfold addS
  split
  · omega
  · simp
theorem numS_lt (all : List (List Int)) (l : List Int) : numS all l < (addS all l).length := by
  unfold addS
  split
  · rename_i h; exact List.idxOf_lt_length_of_mem h
  · rename_i h; rw [numS_new h]; simp
def Row64 (r : List Int) : Prop := ∀ y, y ∈ r → 0 ≤ y ∧ y ≤ 64
theorem rowM_bd {a : Au} {l : List Int} : ∀ (cs row : List Int) (all : List (List Int)) (row' : List Int) (all' : List (List Int)), rowM a l cs row all = some (row', all') → Row64 row → all.length ≤ 64 → Row64 row' ∧ row'.length = row.length + cs.length ∧ all'.length ≤ 64
  | [], row, all, row', all', e, h, hl => by
    unfold rowM at e
    injection e with e
    injection e with e1 e2
    subst e1; subst e2
    exact ⟨h, by simp, hl⟩
  | c :: cs, row, all, row', all', e, h, hl => by
    by_cases h64 : 64 < (addS all (stepS a l c)).length
    · rw [rowM_many h64] at e; cases e
    · rw [rowM_next (by omega)] at e
      have h1 := numS_lt all (stepS a l c)
      obtain ⟨k1, k2, k3⟩ := rowM_bd cs _ _ row' all' e (fun y hy => by
        rcases List.mem_append.1 hy with hy | hy
        · exact h y hy
        · simp at hy; omega) (by omega)
      exact ⟨k1, by rw [k2]; simp; omega, k3⟩
/-- The rows that are made: how many, how long, where they lead. -/
structure RowsIn (cuts : List Int) (rows : List (List Int)) : Prop where
  each : ∀ r, r ∈ rows → Row64 r ∧ r.length = cuts.length
theorem mkM_bd {a : Au} {acc : Int} {cuts : List Int} : ∀ (f : Nat) (all rows : List (List Int)) (accs : List Bool) (rows' : List (List Int)) (accs' : List Bool), mkM a acc cuts f all rows accs = some (rows', accs') → RowsIn cuts rows → rows.length ≤ all.length → accs.length = rows.length → all.length ≤ 64 → RowsIn cuts rows' ∧ rows'.length ≤ 64 ∧ accs'.length = rows'.length
  | 0, _, _, _, _, _, e, _, _, _, _ => by unfold mkM at e; cases e
  | f + 1, all, rows, accs, rows', accs', e, h, hr, ha, hl => by
    cases hx : all[rows.length]? with
    | none =>
      unfold mkM at e
      rw [hx] at e
      injection e with e
      injection e with e1 e2
      subst e1; subst e2
      exact ⟨h, by omega, ha⟩
    | some l =>
      rw [mkM_row hx] at e
      cases hy : rowM a l cuts [] all with
      | none => rw [hy] at e; cases e
      | some q =>
        obtain ⟨row, all'⟩ := q
        rw [hy] at e
        obtain ⟨k1, k2, k3⟩ := rowM_bd cuts [] all row all' hy (fun y hy => by simp at hy) hl
        have hlt := lt_of_get hx
        have hmono : all.length ≤ all'.length := by
          have key : ∀ (cs row : List Int) (all : List (List Int)) (row' : List Int) (all' : List (List Int)), rowM a l cs row all = some (row', all') → all.length ≤ all'.length := fun cs => by
            induction cs with
            | nil => intro row all row' all' e; unfold rowM at e; injection e with e; injection e with e1 e2; subst e2; omega
            | cons c cs ih =>
              intro row all row' all' e
              by_cases h64 : 64 < (addS all (stepS a l c)).length
              · rw [rowM_many h64] at e; cases e
              · rw [rowM_next (by omega)] at e
                have h1 := ih _ _ _ _ e
                have h2 := addS_len all (stepS a l c)
                omega
          exact key _ _ _ _ _ hy
        exact mkM_bd f all' _ _ rows' accs' e ⟨fun r hr => by
          rcases List.mem_append.1 hr with hr | hr
          · exact h.each r hr
          · simp at hr; subst hr; exact ⟨k1, by simpa using k2⟩⟩ (by simp; omega) (by simp [ha]) k3
theorem madeM_bd {a : Au} {acc : Int} {cuts : List Int} {rows : List (List Int)} {accs : List Bool} (e : madeM a acc cuts = some (rows, accs)) : RowsIn cuts rows ∧ rows.length ≤ 64 ∧ accs.length = rows.length :=
  mkM_bd 70 _ _ _ _ _ e ⟨fun r hr => by simp at hr⟩ (by simp) rfl (by simp)
end Pv
