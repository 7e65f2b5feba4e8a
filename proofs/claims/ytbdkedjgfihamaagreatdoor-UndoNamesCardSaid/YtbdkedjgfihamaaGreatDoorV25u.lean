/- Walks: do a table's rows rise; are its unique names once each. PUT1 -/
import Derived.Test.YtbdkedjgfihamaaGreatDoorV23u
import Derived.Test.YtbdkedjgfihamaaGreatDoorQuu
namespace Go.Proofs.YtbdkedjgfihamaaGreatDoor
open Go.RowKit Pv Go.Maps
abbrev TSt : TypeId := 9
theorem info_strV : (Tryz.prog.info? TSt).map (fun i => (i.zero, i.size, i.bytes)) = some (some (.string ByteArray.empty), 1, 16) := by kernel_rfl
theorem rel_strs {l : List Rec} (h : ∀ r, r ∈ l → r.id.size ≤ 140737488355328) : Rel RStr (l.map fun r => Value.string r.id) (l.map (·.id)) := ⟨by simp, fun i u x hu hx => by
  rw [List.getElem?_map] at hu hx
  cases hq : l[i]? with
  | none => rw [hq] at hu; cases hu
  | some r =>
    rw [hq] at hu hx
    obtain rfl := Option.some.inj hu
    obtain rfl := Option.some.inj hx
    exact ⟨rfl, h r (mem_of_get hq)⟩⟩
theorem AtRec.ids {w : World} {A : Option Addr} {v : List Rec} (h : AtRec w A v) : ∀ r, r ∈ v → r.id.size ≤ 140737488355328 := fun r hr => by
  obtain ⟨i, hi⟩ := List.getElem?_of_mem hr
  obtain ⟨_, _, x, _, _, _, _, _, _, _, h5, _, _, _, hx⟩ := AtRec.g2 h (Lib.hid rfl) (lt_of_get hi)
  have := hx.out
  rw [hi] at this
  obtain rfl := Option.some.inj this
  exact h5
set_option maxHeartbeats 8000000 in
set_option maxRecDepth 100000 in
theorem book_rises (bb : Nat) (U : Option Addr) (un uc : Nat) (R : Option Addr) (rn rc : Nat) (t : Tab) (w : World) (hbk : BookAt w bb U un uc R rn rc t) (hrn : rn ≤ 4096) :
    Calls Tryz.prog 102 #[.pointer (some ⟨bb, 0, none⟩)] w fun e w' => e = .returned (.bool (decide (RiseS (t.rows.map (·.id))))) ∧ Below w.heap.size w w' := by
  obtain ⟨i0, hi0, hz0, hs0, hb0⟩ := info_parts info_strV
  have HBK := Lib.hid hbk
  have hrl := hbk.tab.rn
  have HIDS := Lib.hid (AtRec.ids hbk.tab.rows)
  have b3 := hbk.c3; have bl := hbk.lt
  obtain ⟨d, hd⟩ : ∃ d, decide (RiseS (t.rows.map (·.id))) = d := ⟨_, rfl⟩
  rw [hd]
  have HD := Lib.hid hd
  clear hbk hd
  go_enter Tryz.func102, Tryz.ntmps102
  go_wp2
  go_loopw [12, 3] (fun iv lv W => ∃ (q oc : Nat) (O : Option Addr), iv = .int .i64 q ∧ lv = .slice O q oc ∧ q ≤ rn ∧ Hid (W.ownsRow w.heap.size TSt 1 (.slice O q oc) q ((t.rows.take q).map fun r => Value.string r.id)) ∧ Hid (Below w.heap.size w W)) (fun iv _ _ => rn - (intOf iv).toNat)
  case atStart => exact ⟨0, 0, none, rfl, rfl, by omega, Lib.hid (World.ownsRow_nil _ _ _ _), Lib.hid (Below.refl _ _)⟩
  case round =>
    obtain ⟨q, oc, O, rfl, rfl, hq, HO, HW⟩ := hrel
    by_cases hlt : q < rn
    · obtain ⟨b1, o1, x, D, m, cc, hR, lb1, c0, c1, _, hD, HM, hmc, HX⟩ := AtRec.g2 (AtRec.keep HBK.out.tab.rows (Keep.of HW.out)) hrl hlt
      subst hR
      have i1 : (q : Int) < (rn : Int) := by omega
      have i2 : (0 : Int) ≤ (q : Int) := by omega
      have HOW := Lib.hid ((HO.out.alloc (.cells #[.string x.id, .slice D m cc] TRe)).alloc (.cells #[.string x.id] TSt))
      have SR : Hid (Pv.Src ((wr.alloc (.cells #[.string x.id, .slice D m cc] TRe)).alloc (.cells #[.string x.id] TSt)) (some ⟨wr.heap.size + 1, 0, none⟩) 1 1 [.string x.id]) := Lib.hid (by
        have := Pv.Src.one (w := wr.alloc (.cells #[.string x.id, .slice D m cc] TRe)) (x := .string x.id) (t := TSt) rfl
        simpa using this)
      have HWA := Lib.hid ((HW.out.alloc HW.out.size (.cells #[.string x.id, .slice D m cc] TRe)).alloc (by have := HW.out.size; simp; omega) (.cells #[.string x.id] TSt))
      have Q1 : Hid (q + 1 ≤ maxLen) := Lib.hid (by simp only [maxLen]; omega)
      have Q2 : Hid ((q + 1) * 16 ≤ 140737488355328) := Lib.hid (by omega)
      have Q3 := HWA.out.size
      clear hD
      go_wp2_with (first
      | (at_builtin
         go_must (refine wpList_append_src _ rfl (.tmp 16) (.tmp 19) 61 rfl w.heap.size TSt i0 (.string ByteArray.empty) 1 16 Tryz.underlying61 hi0 hz0 hs0 hb0 rfl (by decide) O oc q _ rfl HOW.out (some ⟨wr.heap.size + 1, 0, none⟩) 1 1 _ rfl SR.out Q1.out Q2.out Q3 ?_)
         intro A9 c9 w9 own9 gr9 _
         have HO9 := Lib.hid own9
         have HW9 := Lib.hid (HWA.out.grown gr9 Q3 (fun g hg => (HOW.out.lt g hg).1))
         clear own9 gr9))
      go_roundw
      case rel =>
        refine ⟨q + 1, c9, A9, by go_num, rfl, by omega, Lib.hid ?_, HW9⟩
        rw [take_snoc HX.out, List.map_append]
        exact HO9.out
      case measure => simp [intOf]; omega
    · obtain rfl : q = rn := by omega
      have i1 : ¬ (q : Int) < (q : Int) := by omega
      have hrow := HO.out
      rw [List.take_of_length_le (by rw [hrl.out]; omega)] at hrow
      have hat := (At.of_own hrow (rel_strs HIDS.out) (by simp; have := hrl.out; omega)).2.2
      have HC := Lib.hid (order_Check O oc q (t.rows.map (·.id)) wr hat (Lib.hid (by rw [List.length_map, hrl.out])) (by omega))
      have hd := HD.out
      clear hrow hat
      cases d with
      | true =>
        rw [riseE_yes (of_decide_eq_true hd)] at HC
        clear hd
        go_wp2_with fail
        refine HC.out.mono ?_
        rintro e w2 ⟨rfl, k⟩
        have HF := Lib.hid (HW.out.trans (k.mono HW.out.size))
        clear k
        go_wp2
        go_ret
        exact ⟨rfl, HF.out⟩
      | false =>
        rw [riseE_no (of_decide_eq_false hd)] at HC
        clear hd
        go_wp2_with fail
        refine HC.out.mono ?_
        rintro e w2 ⟨rfl, k⟩
        have HF := Lib.hid (HW.out.trans (k.mono HW.out.size))
        clear k
        go_wp2
        go_ret
        exact ⟨rfl, HF.out⟩
/-- The keys met among the first names. -/
structure KeysS (l ks : List ByteArray) : Prop where
  le : ks.length ≤ l.length
  mem : ∀ x, x ∈ ks ↔ x ∈ l
  nd : ks.length = l.length ↔ l.Nodup
theorem KeysS.old {l ks : List ByteArray} {x : ByteArray} (h : KeysS l ks) (hx : x ∈ ks) : KeysS (l ++ [x]) ks := by
  refine ⟨by have := h.le; simp; omega, fun y => ?_, ?_⟩
  · rw [h.mem, List.mem_append, List.mem_singleton]
    constructor
    · exact .inl
    · rintro (h1 | rfl)
      · exact h1
      · exact (h.mem _).1 hx
  · have h1 := h.le
    constructor
    · intro h2; simp at h2; omega
    · intro h2
      exact absurd rfl ((List.nodup_append.1 h2).2.2 x ((h.mem x).1 hx) x (by simp))
theorem KeysS.new {l ks : List ByteArray} {x : ByteArray} (h : KeysS l ks) (hx : x ∉ ks) : KeysS (l ++ [x]) (ks ++ [x]) := by
  refine ⟨by have := h.le; simp; omega, fun y => ?_, ?_⟩
  · rw [List.mem_append, List.mem_append, h.mem]
  · rw [List.length_append, List.length_append, List.nodup_append]
    have h1 := h.nd
    constructor
    · intro h2
      exact ⟨h1.1 (by simp at h2; omega), by simp, fun a ha b hb => by obtain rfl := List.mem_singleton.1 hb; exact fun e => hx ((h.mem _).2 (e ▸ ha))⟩
    · intro h2
      rw [h1.2 h2.1]
theorem onB {B mb : Nat} {a w w' : World} (h : Below B a w) (m1 : w'.os = w.os) (m2 : w'.tape = w.tape) (m3 : w'.output = w.output) (m4 : w'.heap.size = w.heap.size) (m5 : ∀ k, k ≠ mb → w'.heap[k]? = w.heap[k]?) (hm : B ≤ mb) : Below B a w' :=
  ⟨m1.trans h.os, m2.trans h.tape, m3.trans h.output, by rw [m4]; exact h.size, fun k hk => (m5 k (by omega)).trans (h.block k hk)⟩
set_option maxHeartbeats 8000000 in
set_option maxRecDepth 100000 in
theorem book_once (bb : Nat) (U : Option Addr) (un uc : Nat) (R : Option Addr) (rn rc : Nat) (t : Tab) (w : World) (hbk : BookAt w bb U un uc R rn rc t) (hun : un ≤ 100000) :
    Calls Tryz.prog 103 #[.pointer (some ⟨bb, 0, none⟩)] w fun e w' => e = .returned (.bool (decide t.uniques.Nodup)) ∧ Below w.heap.size w w' := by
  have HBK := Lib.hid hbk
  have hul := hbk.tab.un
  have b2 := hbk.c2; have bl := hbk.lt
  obtain ⟨d, hd⟩ : ∃ d, decide t.uniques.Nodup = d := ⟨_, rfl⟩
  rw [hd]
  have HD := Lib.hid hd
  have HM0 := Lib.hid (MapQ.nil (enc := Value.string) (ok := okS) (val := fun _ => 1) w)
  clear hbk hd
  have hmm := @run_makeMap Tryz.prog
  go_enter Tryz.func103, Tryz.ntmps103
  go_wp2
  go_loopw [13] (fun iv W => ∃ (q : Nat) (ks : List ByteArray), iv = .int .i64 q ∧ q ≤ un ∧ Hid (MapQ Value.string okS (fun _ => 1) W w.heap.size ks) ∧ Hid (KeysS (t.uniques.take q) ks) ∧ Hid (Below w.heap.size w W)) (fun iv _ => un - (intOf iv).toNat)
  case atStart => exact ⟨0, [], rfl, by omega, HM0, Lib.hid ⟨by simp, by simp, by simp⟩, Lib.hid ((Below.refl _ _).alloc (Nat.le_refl _) _)⟩
  case round =>
    obtain ⟨q, ks, rfl, hq, HMP, HKS, HW⟩ := hrel
    by_cases hlt : q < un
    · obtain ⟨b1, o1, u1, x, rfl, hb1, c1, hx, HX⟩ := At.gt (At.keep HBK.out.tab.uniques (Keep.of HW.out)) hul hlt
      obtain ⟨rfl, hx2⟩ := hx
      have hok : okS x := by show x.size ≤ maxLen; simp only [maxLen]; omega
      have i1 : (q : Int) < (un : Int) := by omega
      have i2 : (0 : Int) ≤ (q : Int) := by omega
      by_cases hin : x ∈ ks
      · obtain ⟨j, hj⟩ := List.getElem?_of_mem hin
        obtain ⟨wu, hup, hmp, m1, m2, m3, m4, m5⟩ := MapQ.again (tm := 108) strE Tryz.underlying108 HMP.out hok hj (v := 1) rfl
        have HW9 := Lib.hid (onB HW.out m1 m2 m3 m4 m5 (Nat.le_refl _))
        have HMP9 := Lib.hid hmp
        have HK9 := Lib.hid (HKS.out.old hin)
        clear hmp m1 m2 m3 m4 m5 hin hj
        go_wp2
        go_roundw
        case rel => exact ⟨q + 1, ks, by go_num, by omega, HMP9, Lib.hid (by rw [take_snoc HX.out]; exact HK9.out), HW9⟩
        case measure => simp [intOf]; omega
      · obtain ⟨wu, hup, hmp, m1, m2, m3, m4, m5⟩ := MapQ.put (tm := 108) strE Tryz.underlying108 HMP.out hok hin (v := 1) rfl
        have HW9 := Lib.hid (onB HW.out m1 m2 m3 m4 m5 (Nat.le_refl _))
        have HMP9 := Lib.hid hmp
        have HK9 := Lib.hid (HKS.out.new hin)
        clear hmp m1 m2 m3 m4 m5 hin
        go_wp2
        go_roundw
        case rel => exact ⟨q + 1, ks ++ [x], by go_num, by omega, HMP9, Lib.hid (by rw [take_snoc HX.out]; exact HK9.out), HW9⟩
        case measure => simp [intOf]; omega
    · obtain rfl : q = un := by omega
      have i1 : ¬ (q : Int) < (q : Int) := by omega
      have hks := HKS.out
      rw [List.take_of_length_le (by rw [hul.out]; omega)] at hks
      have hlen : ∀ (W : World) (k : W.heap = wr.heap) ty, (Builtin.len_ #[108] ty #[.map (some w.heap.size)]).run Tryz.prog W = .ok (.int .i64 ks.length) W := fun W k ty => MapQ.len Tryz.underlying108 (HMP.out.of_block (by rw [k])) ty
      have bk := HBK.out.keep (Keep.of HW.out)
      have b2 := bk.c2; have bl := bk.lt
      obtain ⟨m, hm⟩ : ∃ m, ks.length = m := ⟨_, rfl⟩
      have hnd := hks.nd
      rw [hm, hul.out] at hnd
      simp only [hm] at hlen
      have hd := HD.out
      have HS := Lib.hid (And.intro (show (wr.drew).cell? ⟨bb, 2, none⟩ = some (.slice U q uc) from b2) (hlen wr.drew rfl))
      clear bk hks hm hlen
      cases d with
      | true =>
        have h1 : ((m : Int) == (q : Int)) = true := by have := hnd.2 (of_decide_eq_true hd); simp; omega
        clear hnd hd
        go_wp2
        refine wp_region_T 9 (fun W => W.cell? ⟨bb, 2, none⟩ = some (.slice U q uc) ∧ ∀ ty, (Builtin.len_ #[108] ty #[.map (some w.heap.size)]).run Tryz.prog W = .ok (.int .i64 m) W) (by kernel_rfl) ?_
        refine wpAnyT_take (i := 0) (v := ?_) rfl (by kernel_rfl) (by kernel_rfl) (by kernel_rfl) (by kernel_rfl) (by kernel_rfl) (fun _ _ _ h => h) (.inl ⟨rfl, ?_⟩) HS.out ?_
        rotate_left
        · intro W__ hW__
          obtain ⟨h1, h2⟩ := hW__
          go_simp
          (try with_reducible rfl)
        try simp only [Act.put]
        refine wpAnyT_take (i := 1) (v := ?_) rfl (by kernel_rfl) (by kernel_rfl) (by kernel_rfl) (by kernel_rfl) (by kernel_rfl) (fun _ _ _ h => h) (.inl ⟨rfl, ?_⟩) HS.out ?_
        rotate_left
        · intro W__ hW__
          obtain ⟨h1, h2⟩ := hW__
          go_simp
          (try with_reducible rfl)
        try simp only [Act.put]
        refine wpAnyT_take (i := 2) (v := ?_) rfl (by kernel_rfl) (by kernel_rfl) (by kernel_rfl) (by kernel_rfl) (by kernel_rfl) (fun _ _ _ h => h) (.inl ⟨rfl, ?_⟩) HS.out ?_
        rotate_left
        · intro W__ hW__
          obtain ⟨h1, h2⟩ := hW__
          go_simp
          (try with_reducible rfl)
        try simp only [Act.put]
        refine wpAnyT_take (i := 3) (v := ?_) rfl (by kernel_rfl) (by kernel_rfl) (by kernel_rfl) (by kernel_rfl) (by kernel_rfl) (fun _ _ _ h => h) (.inl ⟨rfl, ?_⟩) HS.out ?_
        rotate_left
        · intro W__ hW__
          obtain ⟨h1, h2⟩ := hW__
          go_simp
          (try with_reducible rfl)
        try simp only [Act.put]
        refine wpAnyT_take (i := 4) (v := ?_) rfl (by kernel_rfl) (by kernel_rfl) (by kernel_rfl) (by kernel_rfl) (by kernel_rfl) (fun _ _ _ h => h) (.inl ⟨rfl, ?_⟩) HS.out ?_
        rotate_left
        · intro W__ hW__
          obtain ⟨h1, h2⟩ := hW__
          go_simp
          (try with_reducible rfl)
        try simp only [Act.put]
        refine wpAnyT_take (i := 5) (v := ?_) rfl (by kernel_rfl) (by kernel_rfl) (by kernel_rfl) (by kernel_rfl) (by kernel_rfl) (fun _ _ _ h => h) (.inl ⟨rfl, ?_⟩) HS.out ?_
        rotate_left
        · intro W__ hW__
          obtain ⟨h1, h2⟩ := hW__
          go_simp
          (try with_reducible rfl)
        try simp only [Act.put]
        refine wpAnyT_take (i := 6) (v := ?_) rfl (by kernel_rfl) (by kernel_rfl) (by kernel_rfl) (by kernel_rfl) (by kernel_rfl) (fun _ _ _ h => h) (.inl ⟨rfl, ?_⟩) HS.out ?_
        rotate_left
        · intro W__ hW__
          obtain ⟨h1, h2⟩ := hW__
          go_simp
          (try with_reducible rfl)
        try simp only [Act.put]
        refine wpAnyT_take (i := 7) (v := ?_) rfl (by kernel_rfl) (by kernel_rfl) (by kernel_rfl) (by kernel_rfl) (by kernel_rfl) (fun _ _ _ h => h) (.inl ⟨rfl, ?_⟩) HS.out ?_
        rotate_left
        · intro W__ hW__
          obtain ⟨h1, h2⟩ := hW__
          go_simp
          (try with_reducible rfl)
        try simp only [Act.put]
        refine wpAnyT_take (i := 8) (v := ?_) rfl (by kernel_rfl) (by kernel_rfl) (by kernel_rfl) (by kernel_rfl) (by kernel_rfl) (fun _ _ _ h => h) (.inl ⟨rfl, ?_⟩) HS.out ?_
        rotate_left
        · intro W__ hW__
          obtain ⟨h1, h2⟩ := hW__
          go_simp
          (try with_reducible rfl)
        try simp only [Act.put]
        refine wpAnyT_end (i := 9) rfl (by kernel_rfl) rfl (by kernel_rfl) fun K__ hK__ => ?_
        unfold Oper.wp
        go_simp
        refine hK__ _ _ ?_
        clear hK__
        refine wpAnyT_done (by kernel_rfl) ?_ _
        go_wp2
        go_ret
        exact ⟨rfl, below_drewN HW.out 1⟩
      | false =>
        have h1 : ((m : Int) == (q : Int)) = false := by
          have : m ≠ q := fun e => of_decide_eq_false hd (hnd.1 e)
          simp; omega
        clear hnd hd
        go_wp2
        refine wp_region_T 9 (fun W => W.cell? ⟨bb, 2, none⟩ = some (.slice U q uc) ∧ ∀ ty, (Builtin.len_ #[108] ty #[.map (some w.heap.size)]).run Tryz.prog W = .ok (.int .i64 m) W) (by kernel_rfl) ?_
        refine wpAnyT_take (i := 0) (v := ?_) rfl (by kernel_rfl) (by kernel_rfl) (by kernel_rfl) (by kernel_rfl) (by kernel_rfl) (fun _ _ _ h => h) (.inl ⟨rfl, ?_⟩) HS.out ?_
        rotate_left
        · intro W__ hW__
          obtain ⟨h1, h2⟩ := hW__
          go_simp
          (try with_reducible rfl)
        try simp only [Act.put]
        refine wpAnyT_take (i := 1) (v := ?_) rfl (by kernel_rfl) (by kernel_rfl) (by kernel_rfl) (by kernel_rfl) (by kernel_rfl) (fun _ _ _ h => h) (.inl ⟨rfl, ?_⟩) HS.out ?_
        rotate_left
        · intro W__ hW__
          obtain ⟨h1, h2⟩ := hW__
          go_simp
          (try with_reducible rfl)
        try simp only [Act.put]
        refine wpAnyT_take (i := 2) (v := ?_) rfl (by kernel_rfl) (by kernel_rfl) (by kernel_rfl) (by kernel_rfl) (by kernel_rfl) (fun _ _ _ h => h) (.inl ⟨rfl, ?_⟩) HS.out ?_
        rotate_left
        · intro W__ hW__
          obtain ⟨h1, h2⟩ := hW__
          go_simp
          (try with_reducible rfl)
        try simp only [Act.put]
        refine wpAnyT_take (i := 3) (v := ?_) rfl (by kernel_rfl) (by kernel_rfl) (by kernel_rfl) (by kernel_rfl) (by kernel_rfl) (fun _ _ _ h => h) (.inl ⟨rfl, ?_⟩) HS.out ?_
        rotate_left
        · intro W__ hW__
          obtain ⟨h1, h2⟩ := hW__
          go_simp
          (try with_reducible rfl)
        try simp only [Act.put]
        refine wpAnyT_take (i := 4) (v := ?_) rfl (by kernel_rfl) (by kernel_rfl) (by kernel_rfl) (by kernel_rfl) (by kernel_rfl) (fun _ _ _ h => h) (.inl ⟨rfl, ?_⟩) HS.out ?_
        rotate_left
        · intro W__ hW__
          obtain ⟨h1, h2⟩ := hW__
          go_simp
          (try with_reducible rfl)
        try simp only [Act.put]
        refine wpAnyT_take (i := 5) (v := ?_) rfl (by kernel_rfl) (by kernel_rfl) (by kernel_rfl) (by kernel_rfl) (by kernel_rfl) (fun _ _ _ h => h) (.inl ⟨rfl, ?_⟩) HS.out ?_
        rotate_left
        · intro W__ hW__
          obtain ⟨h1, h2⟩ := hW__
          go_simp
          (try with_reducible rfl)
        try simp only [Act.put]
        refine wpAnyT_take (i := 6) (v := ?_) rfl (by kernel_rfl) (by kernel_rfl) (by kernel_rfl) (by kernel_rfl) (by kernel_rfl) (fun _ _ _ h => h) (.inl ⟨rfl, ?_⟩) HS.out ?_
        rotate_left
        · intro W__ hW__
          obtain ⟨h1, h2⟩ := hW__
          go_simp
          (try with_reducible rfl)
        try simp only [Act.put]
        refine wpAnyT_take (i := 7) (v := ?_) rfl (by kernel_rfl) (by kernel_rfl) (by kernel_rfl) (by kernel_rfl) (by kernel_rfl) (fun _ _ _ h => h) (.inl ⟨rfl, ?_⟩) HS.out ?_
        rotate_left
        · intro W__ hW__
          obtain ⟨h1, h2⟩ := hW__
          go_simp
          (try with_reducible rfl)
        try simp only [Act.put]
        refine wpAnyT_take (i := 8) (v := ?_) rfl (by kernel_rfl) (by kernel_rfl) (by kernel_rfl) (by kernel_rfl) (by kernel_rfl) (fun _ _ _ h => h) (.inl ⟨rfl, ?_⟩) HS.out ?_
        rotate_left
        · intro W__ hW__
          obtain ⟨h1, h2⟩ := hW__
          go_simp
          (try with_reducible rfl)
        try simp only [Act.put]
        refine wpAnyT_end (i := 9) rfl (by kernel_rfl) rfl (by kernel_rfl) fun K__ hK__ => ?_
        unfold Oper.wp
        go_simp
        refine hK__ _ _ ?_
        clear hK__
        refine wpAnyT_done (by kernel_rfl) ?_ _
        go_wp2
        go_ret
        exact ⟨rfl, below_drewN HW.out 1⟩
end Go.Proofs.YtbdkedjgfihamaaGreatDoor

namespace Pv
open Go Go.RowKit
theorem riseS_ids {l : List Rec} : RiseS (l.map (·.id)) ↔ RiseR l := List.pairwise_map
end Pv
namespace Go.Proofs.YtbdkedjgfihamaaGreatDoor
open Go.RowKit Pv Go.Maps
abbrev TTb : TypeId := 63
abbrev TBo : TypeId := 100
/-- The tests in their order. -/
def fewB (t : Tab) : Bool := decide (1 ≤ t.most) && decide (t.most ≤ 64) && decide ((t.rows.length : Int) ≤ t.most)
def tabB (t : Tab) : Bool := fewB t && decide (RiseS (t.rows.map (·.id))) && decide t.uniques.Nodup && !(t.rows.any (badR t))
theorem tabB_iff (t : Tab) : tabB t = true ↔ TabOk t := by
  unfold tabB fewB
  simp only [Bool.and_eq_true, decide_eq_true_eq, Bool.not_eq_true', riseS_ids]
  constructor
  · rintro ⟨⟨⟨⟨⟨h1, h2⟩, h3⟩, h4⟩, h5⟩, h6⟩
    have h7 : ∀ r, r ∈ t.rows → oneR r = true ∧ clsR t.uniques t.rows r = false := fun r hr => by
      have := List.any_eq_false.1 h6 r hr
      unfold badR at this
      cases ho : oneR r <;> cases hc : clsR t.uniques t.rows r <;> simp [ho, hc] at this ⊢
    refine ⟨h1, h2, h3, h5, fun r hr => (h7 r hr).1, h4, ?_⟩
    refine List.pairwise_iff_getElem.2 fun i j hi hj hij => ?_
    have hlt := List.pairwise_iff_getElem.1 h4 i j hi hj hij
    have hc := (h7 _ (List.getElem_mem hj)).2
    unfold clsR at hc
    have := List.any_eq_false.1 hc _ (List.getElem_mem hi)
    have hne : ¬ t.rows[i].id = t.rows[j].id := fun e => by rw [e, ltS_irr] at hlt; cases hlt
    rw [decide_eq_false hne] at this
    simpa using this
  · intro h
    refine ⟨⟨⟨⟨⟨h.m1, h.m2⟩, h.few⟩, h.rise⟩, h.uniq⟩, List.any_eq_false.2 fun r hr => ?_⟩
    unfold badR
    rw [h.one r hr]
    have hc : clsR t.uniques t.rows r = false := by
      unfold clsR
      refine List.any_eq_false.2 fun x hx => ?_
      obtain ⟨i, hi, rfl⟩ := List.getElem_of_mem hx
      obtain ⟨j, hj, rfl⟩ := List.getElem_of_mem hr
      by_cases hij : i = j
      · subst hij; simp
      · rcases Nat.lt_or_gt_of_ne hij with hlt | hlt
        · have := List.pairwise_iff_getElem.1 h.free i j hi hj hlt
          rw [this]; simp
        · have := List.pairwise_iff_getElem.1 h.free j i hj hi hlt
          rw [clB_comm, this]; simp
    rw [hc]; simp
def tabE (t : Tab) : Int := if tabB t = true then 0 else 8
theorem tabE_t {t : Tab} (h : tabB t = true) : tabE t = 0 := if_pos h
theorem tabE_f {t : Tab} (h : tabB t = false) : tabE t = 8 := if_neg (by rw [h]; simp)
end Go.Proofs.YtbdkedjgfihamaaGreatDoor
