/- Walks: the sets of edges that are not free; a set of states found among some (the document's). PUT1 -/
import Derived.Test.YtjnjbcigbnjmkaaFdy
import Derived.Test.YtjnjbcigbnjmkaaZiy
namespace Pv
open Go Go.RowKit
/-- The sets of edges that are not free. -/
def rowSets (es : List Ed) : List (List Rng) := (es.filter fun x => !x.free).map Ed.set
def allSets (a : Au) : List (List Rng) := a.flatMap rowSets
theorem rowSets_snoc {es : List Ed} {k : Nat} {x : Ed} (h : es[k]? = some x) : rowSets (es.take (k + 1)) = if x.free = true then rowSets (es.take k) else rowSets (es.take k) ++ [x.set] := by
  unfold rowSets
  rw [take_snoc h, List.filter_append]
  by_cases hf : x.free = true
  · rw [if_pos hf]; simp [hf]
  · rw [if_neg hf]; simp [hf]
theorem allSets_snoc {a : Au} {i : Nat} {es : List Ed} (h : a[i]? = some es) : allSets (a.take (i + 1)) = allSets (a.take i) ++ rowSets es := by
  unfold allSets
  rw [take_snoc h, List.flatMap_append]
  simp
theorem rowSets_len (es : List Ed) : (rowSets es).length ≤ es.length := by
  unfold rowSets; rw [List.length_map]; exact List.length_filter_le _ _
theorem allSets_len (a : Au) : (allSets a).length ≤ edgesS a := by
  induction a with
  | nil => simp [allSets]
  | cons es a ih =>
    have := rowSets_len es
    unfold allSets edgesS at *
    simp only [List.flatMap_cons, List.length_append, List.map_cons, List.sum_cons]
    omega
theorem part_len {a : Au} {i : Nat} {es : List Ed} (h : a[i]? = some es) (k : Nat) : (allSets (a.take i) ++ rowSets (es.take k)).length ≤ edgesS a := by
  have h1 := allSets_len (a.take i)
  have h2 := rowSets_len (es.take k)
  have h3 := edgesS_take a (i + 1)
  rw [take_snoc h, edgesS_snoc] at h3
  have h4 : (es.take k).length ≤ es.length := by rw [List.length_take]; omega
  rw [List.length_append]
  omega
theorem allSets_ok {a : Au} {acc : Int} (h : AuOk a acc) : ∀ s ∈ allSets a, SetOk s := fun s hs => by
  unfold allSets rowSets at hs
  simp only [List.mem_flatMap, List.mem_map, List.mem_filter] at hs
  obtain ⟨es, h1, x, ⟨h2, _⟩, rfl⟩ := hs
  exact (h.each es h1 x h2).2.2.1
end Pv
namespace Go.Proofs.Ytjnjbcigbnjmkaa
open Go.RowKit Pv

abbrev TSet : TypeId := 57
abbrev TSets : TypeId := 138
theorem info_set : (Try.prog.info? TSet).map (fun i => (i.zero, i.size, i.bytes)) = some (some (.slice none 0 0), 1, 24) := by kernel_rfl

set_option maxHeartbeats 2000000 in
set_option maxRecDepth 100000 in
theorem ref10_sets (A : Option Addr) (c n : Nat) (acc : Int) (a : Au) (w : World) (ha : AtAu w A a) (HL : Hid (a.length = n)) (hok : AuOk a acc) :
    Calls Try.prog 93 #[.agg #[.slice A n c, .int .i64 acc]] w fun e w' => (∃ v, e = .returned v ∧ Own w' w.heap.size TSet (IsSet w) v (allSets a)) ∧ Below w.heap.size w w' := by
  have hn : n ≤ 256 := by have := hok.few; rwa [HL.out] at this
  have HA := Lib.hid ha; have HOK := Lib.hid hok
  obtain ⟨i0, hi0, hz0, hs0, hb0⟩ := info_parts info_set
  have HB0 := Lib.hid ((Below.refl w.heap.size w).alloc (Nat.le_refl _) (.cells #[.slice A n c, .int .i64 acc] TAuto))
  have K0 := Lib.hid (Blk.new w TAuto #[.slice A n c, .int .i64 acc])
  clear ha hok
  go_enter Try.func93, Try.ntmps93
  go_wp2
  go_loopw [4, 3] (fun iv lv wr => ∃ (i m : Nat) (B : Option Addr) (bc : Nat) (us : List Value), iv = .int .i64 i ∧ i ≤ n ∧ lv = .slice B m bc ∧ m ≤ 1024 ∧ Hid (m = (allSets (a.take i)).length) ∧ Hid (wr.ownsRow w.heap.size TSet 1 (.slice B m bc) m us) ∧ Hid (Rel (IsSet w) us (allSets (a.take i))) ∧ Hid (Blk wr w.heap.size TAuto #[.slice A n c, .int .i64 acc]) ∧ Hid (Below w.heap.size w wr)) (fun iv _ _ => n - (intOf iv).toNat)
  case atStart => exact ⟨0, 0, none, 0, [], rfl, by omega, rfl, by omega, Lib.hid rfl, Lib.hid (World.ownsRow_nil _ _ _ _), Lib.hid Rel.nil, K0, HB0⟩
  case round =>
    obtain ⟨i, m, B, bc, us, rfl, hi, rfl, hm, HM, HO, HR, HK, HB⟩ := hrel
    obtain ⟨p0, p1, _, _⟩ := Blk.two HK.out
    have i1 : (0 : Int) ≤ (i : Int) := by omega
    by_cases hlt : i < n
    · have i2 : (i : Int) < (n : Int) := by omega
      obtain ⟨b1, o1, S, q, cs, es, rfl, hb1, c0, hes, HQ, hqc, HX⟩ := AtAu.gt HA.out HL hlt
      have HC1 := Lib.hid (show ∀ W, Below w.heap.size w W → W.cell? ⟨b1, o1 + i, none⟩ = some (.slice S q cs) from fun W hb => ((Keep.of hb).cell _ _ hb1).trans c0)
      have HES := Lib.hid hes
      have HSN := Lib.hid (allSets_snoc HX.out)
      have hq : q ≤ 1024 := by have h1 := le_edgesS (mem_of_get HX.out); have h2 := HOK.out.edges; rw [HQ.out] at h1; omega
      have HPL := Lib.hid (fun k => Nat.le_trans (part_len HX.out k) HOK.out.edges)
      have HO' := HO
      clear hes c0
      go_wp2
      go_loopw [5, 3] (fun kv lv wr2 => ∃ (k m : Nat) (B : Option Addr) (bc : Nat) (us : List Value), kv = .int .i64 k ∧ k ≤ q ∧ lv = .slice B m bc ∧ m ≤ 1024 ∧ Hid (m = (allSets (a.take i) ++ rowSets (es.take k)).length) ∧ Hid (wr2.ownsRow w.heap.size TSet 1 (.slice B m bc) m us) ∧ Hid (Rel (IsSet w) us (allSets (a.take i) ++ rowSets (es.take k))) ∧ Hid (Blk wr2 w.heap.size TAuto #[.slice (some ⟨b1, o1, none⟩) n c, .int .i64 acc]) ∧ Hid (Below w.heap.size w wr2)) (fun kv _ _ => q - (intOf kv).toNat)
      case atStart => exact ⟨0, m, B, bc, us, rfl, by omega, rfl, hm, Lib.hid (by simp [rowSets, HM.out]), HO, Lib.hid (by simpa [rowSets] using HR.out), HK, HB⟩
      case round =>
        clear p0 p1
        clear HM HO HO' HR HK HB hm
        obtain ⟨k, m, B, bc, us, rfl, hk, rfl, hm, HM, HO, HR, HK, HB⟩ := hrel
        obtain ⟨p0, p1, _, _⟩ := Blk.two HK.out
        have c1 := HC1.out wr HB.out
        have i3 : (0 : Int) ≤ (k : Int) := by omega
        by_cases hkt : k < q
        · have i4 : (k : Int) < (q : Int) := by omega
          obtain ⟨b3, o3, to, fr, T, tq, tc, sl, rfl, hb3, ⟨d0, d1, d2⟩, hset, HTQ, htc, _, HZ⟩ := AtEd.gt HES.out HQ hkt
          have d1' := ((Keep.of HB.out).cell _ _ hb3).trans d1
          have d2' := ((Keep.of HB.out).cell _ _ hb3).trans d2
          have HRS := Lib.hid (rowSets_snoc HZ.out)
          have hm1 := HPL.out (k + 1)
          clear d0 d1 d2
          cases fr
          case true =>
            have HE : Hid (rowSets (es.take (k + 1)) = rowSets (es.take k)) := Lib.hid HRS.out
            clear hm1
            go_wp2
            go_roundw
            case rel => exact ⟨k + 1, m, B, bc, us, by go_num, by omega, rfl, hm, Lib.hid (by rw [HE.out]; exact HM.out), HO, Lib.hid (by rw [HE.out]; exact HR.out), HK, HB⟩
            case measure => simp [intOf]; omega
          case false =>
            have HE : Hid (allSets (a.take i) ++ rowSets (es.take (k + 1)) = (allSets (a.take i) ++ rowSets (es.take k)) ++ [sl]) := Lib.hid (by rw [HRS.out, if_neg (by simp), List.append_assoc])
            have hm2 : m + 1 ≤ 1024 := by rw [HE.out, List.length_append, ← HM.out] at hm1; simpa using hm1
            have RS := Lib.hid (show IsSet w (.slice T tq tc) sl from ⟨T, tc, by rw [HTQ.out], hset, by rw [HTQ.out]; exact htc⟩)
            have Q1 : Hid (m + 1 ≤ maxLen) := Lib.hid (by simp only [maxLen]; omega)
            have Q2 : Hid ((m + 1) * 24 ≤ 140737488355328) := Lib.hid (by omega)
            have O1 := Lib.hid (HO.out.alloc (.cells #[.slice T tq tc] TSet))
            have SR1 := Lib.hid (Src.one (w := wr) (x := .slice T tq tc) (t := TSet) rfl)
            have B1 := Lib.hid (HB.out.alloc HB.out.size (.cells #[.slice T tq tc] TSet))
            have K1 := Lib.hid (HK.out.alloc (.cells #[.slice T tq tc] TSet))
            clear hm1
            go_wp2_with (first
              | (at_builtin
                 go_must (refine wpList_append_src _ rfl (.tmp 33) (.tmp 43) TSets rfl w.heap.size TSet i0 (.slice none 0 0) 1 24 Try.underlying138 hi0 hz0 hs0 hb0 rfl (by decide) B bc m us rfl O1.out _ 1 1 _ rfl SR1.out Q1.out Q2.out B1.out.size ?_)
                 intro A2 c2 w2 own2 gr2 _
                 have K2 := Lib.hid (K1.out.grown gr2 (own_blk_ne O1.out K1.out (by decide)))
                 have B2 := Lib.hid (B1.out.grown gr2 B1.out.size (fun g hg => (O1.out.lt g hg).1))
                 have O2 := Lib.hid own2
                 clear own2 gr2))
            go_roundw
            case rel => exact ⟨k + 1, m + 1, A2, c2, us ++ [.slice T tq tc], by go_num, by omega, rfl, hm2, Lib.hid (by rw [HE.out, List.length_append, ← HM.out]; rfl), O2, Lib.hid (by rw [HE.out]; exact HR.out.app (Rel.one RS.out)), K2, B2⟩
            case measure => simp [intOf]; omega
        · obtain rfl : k = q := by omega
          have HTK := Lib.hid (show es.take k = es from List.take_of_length_le (by rw [HQ.out]; omega))
          rw [HTK.out, ← HSN.out] at HM HR
          go_wp2
          go_roundw
          case rel => exact ⟨i + 1, m, B, bc, us, by go_num, by omega, rfl, hm, HM, HO, HR, HK, HB⟩
          case measure => simp [intOf]; omega
    · obtain rfl : i = n := by omega
      have HTK := Lib.hid (show a.take i = a from List.take_of_length_le (by rw [HL.out]; omega))
      rw [HTK.out] at HM HR
      go_wp2
      go_ret
      have hm3 := HM.out
      subst hm3
      exact ⟨⟨_, rfl, B, bc, us, rfl, HO.out, HR.out⟩, HB.out⟩
end Go.Proofs.Ytjnjbcigbnjmkaa
