/- Walks: the reader's join: ranges sorted and joined. PUT1 -/
import Derived.Test.YtilhicefhhgecaaGreatDoorP10q
import Derived.Test.YtilhicefhhgecaaGreatDoorQvq
import Derived.Laws.OwnMore
namespace Pv
open Go Go.RowKit
theorem rel_hi {us : List Value} {o : List Rng} {y : Rng} {z : Int} {p : Nat} (h : RelK 2 RRng us (o ++ [y])) (hp : o.length = p) (hz : -9223372036854775808 ≤ z ∧ z ≤ 9223372036854775807) : RelK 2 RRng (us.set (p * 2 + 1) (.int .i64 z)) (o ++ [⟨y.lo, z⟩]) := by
  subst hp
  have hl : us.length = (o.length + 1) * 2 := by rw [h.1]; simp
  refine ⟨by rw [List.length_set, hl]; simp, fun i x hx => ?_⟩
  by_cases hi : i < o.length
  · rw [List.getElem?_append_left hi] at hx
    obtain ⟨f, hf, hr⟩ := h.2 i x (by rw [List.getElem?_append_left hi]; exact hx)
    exact ⟨f, fun j hj => by rw [List.getElem?_set_ne (by omega)]; exact hf j hj, hr⟩
  · have hi2 : i = o.length := by
      have := lt_of_get hx
      simp at this
      omega
    subst hi2
    rw [List.getElem?_append_right (Nat.le_refl _), Nat.sub_self] at hx
    simp at hx
    subst hx
    obtain ⟨f, hf, hr⟩ := h.2 o.length y (by simp)
    refine ⟨fun j => match j with | 0 => f 0 | _ => .int .i64 z, fun j hj => ?_, ⟨hr.1, ⟨rfl, hz⟩⟩⟩
    match j, hj with
    | 0, _ => rw [List.getElem?_set_ne (by omega)]; exact hf 0 (by omega)
    | 1, _ =>
      rw [List.getElem?_set_self (by omega)]
      rfl
theorem src_two {w : World} {x y : Value} {t : TypeId} (h1 : x.oneCell' = true) (h2 : y.oneCell' = true) : Pv.Src (w.alloc (.cells #[x, y] t)) (some ⟨w.heap.size, 0, none⟩) 1 2 [x, y] := by
  refine ⟨rfl, by simp [h1, h2], fun _ => ⟨w.heap.size, 0, rfl, by simp, fun j u hu => ?_⟩⟩
  match j with
  | 0 => simp at hu; subst hu; simp
  | 1 => simp at hu; subst hu; simp
  | j + 2 => simp at hu
/-- A range, two cells to an element. -/
theorem src_rng {w : World} {x y : Value} {t : TypeId} (h1 : x.oneCell' = true) (h2 : y.oneCell' = true) : Pv.Src (w.alloc (.cells #[x, y] t)) (some ⟨w.heap.size, 0, none⟩) 2 1 [x, y] := by
  refine ⟨rfl, by simp [h1, h2], fun _ => ⟨w.heap.size, 0, rfl, by simp, fun j u hu => ?_⟩⟩
  match j with
  | 0 => simp at hu; subst hu; simp
  | 1 => simp at hu; subst hu; simp
  | j + 2 => simp at hu
theorem rel_rng {lo hi : Int} (h : -9223372036854775808 ≤ lo ∧ lo ≤ 9223372036854775807) (h' : -9223372036854775808 ≤ hi ∧ hi ≤ 9223372036854775807) : RelK 2 RRng [.int .i64 lo, .int .i64 hi] [⟨lo, hi⟩] :=
  RelK.one (f := fun j => [Value.int .i64 lo, Value.int .i64 hi].getD j undef) rfl (fun j hj => by
    rcases (show j = 0 ∨ j = 1 by omega) with rfl | rfl <;> rfl) ⟨⟨rfl, h⟩, ⟨rfl, h'⟩⟩
theorem join_snoc1 (l : List Rng) (k : Nat) (x : Rng) (h : l[k]? = some x) : joinR (l.take (k + 1)) = join1 (joinR (l.take k)) x := by
  unfold joinR
  rw [take_snoc h, List.foldl_append]
  rfl
theorem join_bd {l : List Rng} (h : ∀ x, x ∈ l → 0 ≤ x.lo ∧ x.lo ≤ x.hi ∧ x.hi ≤ 1114111) (i : Nat) (y : Rng) (hy : y ∈ joinR (l.take i)) : 0 ≤ y.lo ∧ y.lo ≤ y.hi ∧ y.hi ≤ 1114111 := by
  have key : ∀ (m : List Rng) (out : List Rng), (∀ x, x ∈ m → 0 ≤ x.lo ∧ x.lo ≤ x.hi ∧ x.hi ≤ 1114111) → (∀ x, x ∈ out → 0 ≤ x.lo ∧ x.lo ≤ x.hi ∧ x.hi ≤ 1114111) → ∀ x, x ∈ m.foldl join1 out → 0 ≤ x.lo ∧ x.lo ≤ x.hi ∧ x.hi ≤ 1114111 := by
    intro m
    induction m with
    | nil => intro out _ ho; exact ho
    | cons z m ih =>
      intro out hm ho
      have hz := hm z (by simp)
      refine ih _ (fun x hx => hm x (by simp [hx])) fun x hx => ?_
      rcases List.eq_nil_or_concat out with rfl | ⟨o, v, rfl⟩
      · rw [join1_nil] at hx
        obtain rfl := List.mem_singleton.1 hx
        exact hz
      · rw [List.concat_eq_append] at hx ho
        have hv := ho v (by simp)
        rw [join1_app] at hx
        split at hx
        · rcases List.mem_append.1 hx with hx | hx
          · exact ho x (by simp [hx])
          · obtain rfl := List.mem_singleton.1 hx
            simp only
            omega
        · rcases List.mem_append.1 hx with hx | hx
          · exact ho x hx
          · obtain rfl := List.mem_singleton.1 hx
            exact hz
  exact key (l.take i) [] (fun x hx => h x (List.mem_of_mem_take hx)) (by simp) y hy
end Pv
namespace Go.Proofs.YtilhicefhhgecaaGreatDoor
open Go.RowKit Pv

theorem OwnSet.hi {w : World} {b g c p : Nat} {o : List Rng} {y : Rng} {z : Int} (h : OwnSet w b (.slice (some ⟨g, 0, none⟩) (p + 1) c) (o ++ [y])) (hp : o.length = p) (hz : -9223372036854775808 ≤ z ∧ z ≤ 9223372036854775807) :
    OwnSet (w.setCell ⟨g, p * 2 + 1, none⟩ (.int .i64 z)) b (.slice (some ⟨g, 0, none⟩) (p + 1) c) (o ++ [⟨y.lo, z⟩]) := by
  obtain ⟨A', c', us, hv, ho, hr⟩ := h
  have hl : (o ++ [y]).length = p + 1 := by simp [hp]
  rw [hl] at hv ho
  injection hv with e1 e2 e3
  subst e1; subst e3
  have h1 := (ho.stored (p * 2 + 1) (.int .i64 z)).1
  exact ⟨some ⟨g, 0, none⟩, c, _, by simp [hp], by simpa [hp] using h1, rel_hi hr hp hz⟩
/-- The last range's cells. -/
theorem OwnSet.last {w : World} {b n c p : Nat} {A : Option Addr} {o : List Rng} {y : Rng} (h : OwnSet w b (.slice A n c) (o ++ [y])) (hp : o.length = p) : n = p + 1 ∧ ∃ g, A = some ⟨g, 0, none⟩ ∧ b ≤ g ∧ g < w.heap.size ∧ w.cell? ⟨g, p * 2, none⟩ = some (.int .i64 y.lo) ∧ w.cell? ⟨g, p * 2 + 1, none⟩ = some (.int .i64 y.hi) ∧ w.frozen? ⟨g, p * 2 + 1, none⟩ = false := by
  obtain ⟨A', c', us, hv, ho, hr⟩ := h
  have hl : (o ++ [y]).length = p + 1 := by simp [hp]
  rw [hl] at hv ho
  injection hv with e1 e2 e3
  subst e1; subst e2; subst e3
  obtain ⟨f, hf, h0, h1⟩ := hr.2 p y (by rw [← hp]; simp)
  obtain ⟨g, rfl⟩ : ∃ g, A = some ⟨g, 0, none⟩ := by
    rcases ho.2 with ⟨hv, h0⟩ | ⟨g, cap, cur, hv, _⟩
    · omega
    · injection hv with e; exact ⟨g, e⟩
  have hbg := ho.lt g rfl
  refine ⟨rfl, g, rfl, hbg.1, hbg.2, ?_, ?_, ho.frozenAt _⟩
  · have := hf 0 (by omega)
    rw [Nat.add_zero, h0.1] at this
    exact (ho.cellAt (p * 2) (by omega)).trans this
  · have := hf 1 (by omega)
    rw [h1.1] at this
    exact (ho.cellAt (p * 2 + 1) (by omega)).trans this

theorem set_push {w : World} {base q c : Nat} {A : Option Addr} {us : List Value} {xs : List Rng} {lo hi : Int} (hr : RelK 2 RRng us xs ∧ (-9223372036854775808 ≤ lo ∧ lo ≤ 9223372036854775807) ∧ (-9223372036854775808 ≤ hi ∧ hi ≤ 9223372036854775807)) (hq : xs.length = q) (h : w.ownsRow base TRg 2 (.slice A (q + 1) c) (q + 1) (us ++ [.int .i64 lo, .int .i64 hi])) :
    OwnSet w base (.slice A (q + 1) c) (xs ++ [⟨lo, hi⟩]) :=
  ⟨A, c, _, by simp [hq], by simpa [hq] using h, hr.1.app (rel_rng hr.2.1 hr.2.2)⟩
theorem set_split {w : World} {base q c : Nat} {A : Option Addr} {xs : List Rng} (h : OwnSet w base (.slice A q c) xs) : ∃ us, Hid (w.ownsRow base TRg 2 (.slice A q c) q us) ∧ Hid (RelK 2 RRng us xs) ∧ Hid (xs.length = q) := by
  obtain ⟨A', c', us, hv, ho, hr⟩ := h
  injection hv with e1 e2 e3
  subst e1; subst e3
  rw [← e2] at ho
  exact ⟨us, Lib.hid ho, Lib.hid hr, Lib.hid e2.symm⟩

set_option maxHeartbeats 4000000 in
set_option maxRecDepth 100000 in
theorem rd_join (A : Option Addr) (n c b : Nat) (l : List Rng) (w : World) (h : OwnSet w b (.slice A n c) l) (hok : ∀ x, x ∈ l → 0 ≤ x.lo ∧ x.lo ≤ x.hi ∧ x.hi ≤ 1114111) (hlim : n ≤ 100000) (hb : b ≤ w.heap.size) :
    Calls Tryz.prog 198 #[.slice A n c] w fun e w' => ∃ A' n' c', e = .returned (.slice A' n' c') ∧ OwnSet w' b (.slice A' n' c') (joinR (sortR l)) ∧ Below b w w' := by
  obtain ⟨i0, hi0, hz0, hs0, hb0⟩ := info_parts info_range
  have HSO := Lib.hid (sort_set A n c b l w h hlim)
  have HL : Hid (l.length = n) := Lib.hid (by obtain ⟨_, _, _, hv, _⟩ := h; injection hv with _ e2 _; exact e2.symm)
  have HOK := Lib.hid hok
  have HBB := Lib.hid hb
  clear h hok hb
  go_enter Tryz.func198, Tryz.ntmps198
  go_wp2_with fail
  refine HSO.out.mono ?_
  rintro e w1 ⟨rfl, m, hp, hu, hos, hb1⟩
  have HJ := Lib.hid (join_one hp hu fun x hx => (HOK.out x hx).2.1)
  have HML : Hid (m.length = n) := Lib.hid (by rw [hp.length_eq]; exact HL.out)
  have HMO : Hid (∀ x, x ∈ m → 0 ≤ x.lo ∧ x.lo ≤ x.hi ∧ x.hi ≤ 1114111) := Lib.hid fun x hx => HOK.out x (hp.mem_iff.1 hx)
  have HB1 := Lib.hid hb1
  have HAT : Hid (AtSet w1 A m) := Lib.hid (by
    obtain ⟨_, _, us, hv, ho, hr⟩ := hos
    injection hv with e1 e2 e3
    subst e1
    exact (AtK.of_own ho hr rfl (by rw [HML.out]; omega)).2)
  have hbw := hb1.size
  clear hp hu hos hb1
  go_wp2
  go_loopw [10, 2] (fun iv ov W => ∃ (i q oc : Nat) (O : Option Addr), iv = .int .i64 i ∧ ov = .slice O q oc ∧ i ≤ n ∧ q ≤ i ∧ Hid (OwnSet W w1.heap.size (.slice O q oc) (joinR (m.take i))) ∧ Hid (Below w1.heap.size w1 W)) (fun iv _ _ => n - (intOf iv).toNat)
  case atStart => exact ⟨0, 0, 0, none, rfl, rfl, by omega, by omega, Lib.hid OwnK.nil, Lib.hid (Below.refl _ _)⟩
  case round =>
    obtain ⟨i, q, oc, O, rfl, rfl, hi, hq, HO, HW⟩ := hrel
    have hW := HW.out.size
    by_cases hlt : i < n
    · obtain ⟨g, off, lo, hi', rfl, hg, c0, c1, hb1, hb2, HX⟩ := AtSet.gt (AtK.keep HAT.out (Keep.of HW.out)) HML hlt
      obtain ⟨x0, x1, x2⟩ := HMO.out _ (mem_of_get HX.out)
      simp only at x0 x1 x2
      have HJ1 := Lib.hid (join_snoc1 m i _ HX.out)
      have HKX := Lib.hid (Blk.new wr TRg #[.int .i64 lo, .int .i64 hi'])
      have HO1 := Lib.hid (OwnK.alloc HO.out (.cells #[.int .i64 lo, .int .i64 hi'] TRg))
      have HW1 := Lib.hid (HW.out.alloc hW (.cells #[.int .i64 lo, .int .i64 hi'] TRg))
      rcases List.eq_nil_or_concat (joinR (m.take i)) with he | ⟨o, y, he⟩
      · have hq0 : Hid (q = 0) := Lib.hid (by
          obtain ⟨_, _, _, hv, _⟩ := HO.out
          injection hv with _ e2 _
          rw [e2, he]; rfl)
        obtain rfl := hq0.out
        have HJ2 : Hid (joinR (m.take (i + 1)) = [] ++ [⟨lo, hi'⟩]) := Lib.hid (by rw [HJ1.out, he]; rfl)
        rw [he] at HO1
        obtain ⟨us, HOA, HRL, HQL⟩ := set_split (OwnK.drew (OwnK.alloc HO1.out (.cells #[.int .i64 lo, .int .i64 hi'] TRg)))
        have Q1 : Hid (0 + 1 ≤ maxLen) := Lib.hid (by simp only [maxLen]; omega)
        have Q2 : Hid ((0 + 1) * 16 ≤ 140737488355328) := Lib.hid (by omega)
        have hz2 : w1.heap.size ≤ (((wr.alloc (.cells #[.int .i64 lo, .int .i64 hi'] TRg)).alloc (.cells #[.int .i64 lo, .int .i64 hi'] TRg)).drew).heap.size := by simp; omega
        have HW2 := Lib.hid ((HW1.out.alloc (by simp; omega) (.cells #[.int .i64 lo, .int .i64 hi'] TRg)).drew)
        have HSR := src_rng (w := wr.alloc (.cells #[.int .i64 lo, .int .i64 hi'] TRg)) (x := .int .i64 lo) (y := .int .i64 hi') (t := TRg) rfl rfl
        rw [show (wr.alloc (.cells #[.int .i64 lo, .int .i64 hi'] TRg)).heap.size = wr.heap.size + 1 by simp] at HSR
        have HSR : Hid (Pv.Src (((wr.alloc (.cells #[.int .i64 lo, .int .i64 hi'] TRg)).alloc (.cells #[.int .i64 lo, .int .i64 hi'] TRg)).drew) (some ⟨wr.heap.size + 1, 0, none⟩) 2 1 [.int .i64 lo, .int .i64 hi']) := Lib.hid HSR
        have HT : Hid (True ∧ True) := Lib.hid ⟨trivial, trivial⟩
        clear he HO hq0
        go_wp2
        refine wp_region_T 13 (fun _ => True ∧ True) (by kernel_rfl) ?_
        refine wpAnyT_takeW (i := 0) (v := ?_) rfl (by decide) (by kernel_rfl) (by kernel_rfl) (by kernel_rfl) (fun _ _ _ h => h) (.inl ⟨rfl, ?_⟩) (fun _ => HT.out) ?_
        rotate_left
        · intro W__ _
          go_simp
          (try with_reducible rfl)
        try simp only [Act.put]
        refine wpAnyT_takeW (i := 1) (v := ?_) rfl (by decide) (by kernel_rfl) (by kernel_rfl) (by kernel_rfl) (fun _ _ _ h => h) (.inl ⟨rfl, ?_⟩) (fun _ => HT.out) ?_
        rotate_left
        · intro W__ _
          go_simp
          (try with_reducible rfl)
        try simp only [Act.put]
        refine wpAnyT_takeW (i := 2) (v := ?_) rfl (by decide) (by kernel_rfl) (by kernel_rfl) (by kernel_rfl) (fun _ _ _ h => h) (.inl ⟨rfl, ?_⟩) (fun _ => HT.out) ?_
        rotate_left
        · intro W__ _
          go_simp
          (try with_reducible rfl)
        try simp only [Act.put]
        refine wpAnyT_takeW (i := 3) (v := undef) rfl (by decide) (by kernel_rfl) (by kernel_rfl) (by kernel_rfl) (fun _ _ _ h => h) (.inr ⟨by kernel_rfl, rfl⟩) (fun _ => HT.out) ?_
        try simp only [Act.put]
        refine wpAnyT_takeW (i := 4) (v := undef) rfl (by decide) (by kernel_rfl) (by kernel_rfl) (by kernel_rfl) (fun _ _ _ h => h) (.inr ⟨by kernel_rfl, rfl⟩) (fun _ => HT.out) ?_
        try simp only [Act.put]
        refine wpAnyT_takeW (i := 5) (v := undef) rfl (by decide) (by kernel_rfl) (by kernel_rfl) (by kernel_rfl) (fun _ _ _ h => h) (.inr ⟨by kernel_rfl, rfl⟩) (fun _ => HT.out) ?_
        try simp only [Act.put]
        refine wpAnyT_takeW (i := 6) (v := undef) rfl (by decide) (by kernel_rfl) (by kernel_rfl) (by kernel_rfl) (fun _ _ _ h => h) (.inr ⟨by kernel_rfl, rfl⟩) (fun _ => HT.out) ?_
        try simp only [Act.put]
        refine wpAnyT_takeW (i := 7) (v := undef) rfl (by decide) (by kernel_rfl) (by kernel_rfl) (by kernel_rfl) (fun _ _ _ h => h) (.inr ⟨by kernel_rfl, rfl⟩) (fun _ => HT.out) ?_
        try simp only [Act.put]
        refine wpAnyT_takeW (i := 8) (v := undef) rfl (by decide) (by kernel_rfl) (by kernel_rfl) (by kernel_rfl) (fun _ _ _ h => h) (.inr ⟨by kernel_rfl, rfl⟩) (fun _ => HT.out) ?_
        try simp only [Act.put]
        refine wpAnyT_takeW (i := 9) (v := undef) rfl (by decide) (by kernel_rfl) (by kernel_rfl) (by kernel_rfl) (fun _ _ _ h => h) (.inr ⟨by kernel_rfl, rfl⟩) (fun _ => HT.out) ?_
        try simp only [Act.put]
        refine wpAnyT_takeW (i := 10) (v := undef) rfl (by decide) (by kernel_rfl) (by kernel_rfl) (by kernel_rfl) (fun _ _ _ h => h) (.inr ⟨by kernel_rfl, rfl⟩) (fun _ => HT.out) ?_
        try simp only [Act.put]
        refine wpAnyT_takeW (i := 11) (v := undef) rfl (by decide) (by kernel_rfl) (by kernel_rfl) (by kernel_rfl) (fun _ _ _ h => h) (.inr ⟨by kernel_rfl, rfl⟩) (fun _ => HT.out) ?_
        try simp only [Act.put]
        refine wpAnyT_takeW (i := 12) (v := undef) rfl (by decide) (by kernel_rfl) (by kernel_rfl) (by kernel_rfl) (fun _ _ _ h => h) (.inr ⟨by kernel_rfl, rfl⟩) (fun _ => HT.out) ?_
        try simp only [Act.put]
        refine wpAnyT_end (i := 13) rfl (by kernel_rfl) rfl (by kernel_rfl) fun K__ hK__ => ?_
        unfold Oper.wp
        go_simp
        refine hK__ _ _ ?_
        clear hK__
        refine wpAnyT_done (by kernel_rfl) ?_ _
        go_wp2_with (first
        | (at_builtin
           go_must (refine wpList_append_src _ rfl (.tmp 44) (.tmp 46) 50 rfl w1.heap.size TRg i0 _ 2 16 Tryz.underlying50 hi0 hz0 hs0 hb0 rfl (by decide) O oc 0 _ rfl HOA.out (some ⟨wr.heap.size + 1, 0, none⟩) 1 1 _ rfl HSR.out Q1.out Q2.out hz2 ?_)
           intro A9 c9 w9 own9 gr9 _
           (try simp only [Nat.zero_add] at own9)
           have HO9 := Lib.hid (set_push ⟨HRL.out, by omega, by omega⟩ HQL.out own9)
           have HB9 := Lib.hid (HW2.out.grown gr9 hz2 (fun k hk => (HOA.out.lt k hk).1))
           clear own9 gr9))
        go_roundw
        case rel => exact ⟨i + 1, 0 + 1, c9, A9, by go_num, by simp, by omega, by omega, by rw [HJ2.out]; exact HO9, HB9⟩
        case measure => simp [intOf]; omega
      · rw [List.concat_eq_append] at he
        obtain ⟨p, hp⟩ : ∃ p, o.length = p := ⟨_, rfl⟩
        rw [he] at HO1 HO
        obtain ⟨hq1, G, hG, hG1, hG2, d0, d1, d2⟩ := OwnSet.last HO1.out hp
        subst hq1; subst hG
        have HP := Lib.hid hp
        have HY : Hid (0 ≤ y.lo ∧ y.lo ≤ y.hi ∧ y.hi ≤ 1114111) := Lib.hid (join_bd (HMO.out) i y (by rw [he]; simp))
        have hy2 := HY.out.2.2
        have hy3 := HY.out.1
        have hy4 := HY.out.2.1
        obtain ⟨ylo, yhi⟩ := y
        simp only at d0 d1 hy2 hy3 hy4
        have HJ2 := HJ1.out
        rw [he, join1_app] at HJ2
        simp only at HJ2
        have HS : Hid ((wr.alloc (.cells #[.int .i64 lo, .int .i64 hi'] TRg)).cell? ⟨wr.heap.size, 0, none⟩ = some (.int .i64 lo) ∧ (wr.alloc (.cells #[.int .i64 lo, .int .i64 hi'] TRg)).cell? ⟨G, p * 2 + 1, none⟩ = some (.int .i64 yhi)) := Lib.hid ⟨HKX.out.cell 0, d1⟩
        have HS2 : Hid ((wr.alloc (.cells #[.int .i64 lo, .int .i64 hi'] TRg)).drew.cell? ⟨wr.heap.size, 1, none⟩ = some (.int .i64 hi') ∧ (wr.alloc (.cells #[.int .i64 lo, .int .i64 hi'] TRg)).drew.cell? ⟨G, p * 2 + 1, none⟩ = some (.int .i64 yhi)) := Lib.hid ⟨HKX.out.cell 1, d1⟩
        have e1 : IntKind.i64.wrap (p : Int) = (p : Int) := by rw [IntKind.wrap_i64]; omega
        have e3 : (p : Int) < (p : Int) + 1 := by omega
        have e2 : IntKind.i64.wrap (yhi + 1) = yhi + 1 := by rw [IntKind.wrap_i64]; omega
        clear he HO hp d0
        by_cases hc : lo ≤ yhi + 1
        · rw [if_pos hc] at HJ2
          have HJ2 := Lib.hid HJ2
          go_wp2
          refine wp_region_T 13 (fun W => W.cell? ⟨wr.heap.size, 0, none⟩ = some (.int .i64 lo) ∧ W.cell? ⟨G, p * 2 + 1, none⟩ = some (.int .i64 yhi)) (by kernel_rfl) ?_
          refine wpAnyT_takeC (i := 0) [13, 2, 1] (v := ?_) rfl (by kernel_rfl) (by kernel_rfl) (by kernel_rfl) (by kernel_rfl) (by kernel_rfl) (by kernel_rfl) (fun _ _ _ h => h) (.inl ⟨rfl, ?_⟩) HS.out ?_
          rotate_left
          · intro W__ hW__
            obtain ⟨h1, h2⟩ := hW__
            go_simp
            (try with_reducible rfl)
          try simp only [Act.put]
          refine wpAnyT_takeC (i := 1) [13, 2] (v := ?_) rfl (by kernel_rfl) (by kernel_rfl) (by kernel_rfl) (by kernel_rfl) (by kernel_rfl) (by kernel_rfl) (fun _ _ _ h => h) (.inl ⟨rfl, ?_⟩) HS.out ?_
          rotate_left
          · intro W__ hW__
            obtain ⟨h1, h2⟩ := hW__
            go_simp
            (try with_reducible rfl)
          try simp only [Act.put]
          refine wpAnyT_takeC (i := 2) [13] (v := ?_) rfl (by kernel_rfl) (by kernel_rfl) (by kernel_rfl) (by kernel_rfl) (by kernel_rfl) (by kernel_rfl) (fun _ _ _ h => h) (.inl ⟨rfl, ?_⟩) HS.out ?_
          rotate_left
          · intro W__ hW__
            obtain ⟨h1, h2⟩ := hW__
            go_simp
            (try with_reducible rfl)
          try simp only [Act.put]
          refine wpAnyT_takeC (i := 3) [13, 12, 4] (v := ?_) rfl (by kernel_rfl) (by kernel_rfl) (by kernel_rfl) (by kernel_rfl) (by kernel_rfl) (by kernel_rfl) (fun _ _ _ h => h) (.inl ⟨by kernel_rfl, ?_⟩) HS.out ?_
          rotate_left
          · intro W__ hW__
            obtain ⟨h1, h2⟩ := hW__
            go_simp
            (try with_reducible rfl)
          try simp only [Act.put]
          refine wpAnyT_takeC (i := 5) [13, 12, 11, 10, 9, 8] (v := ?_) rfl (by kernel_rfl) (by kernel_rfl) (by kernel_rfl) (by kernel_rfl) (by kernel_rfl) (by kernel_rfl) (fun _ _ _ h => h) (.inl ⟨by kernel_rfl, ?_⟩) HS.out ?_
          rotate_left
          · intro W__ hW__
            obtain ⟨h1, h2⟩ := hW__
            go_simp
            (try with_reducible rfl)
          try simp only [Act.put]
          refine wpAnyT_takeC (i := 6) [13, 12, 11, 10, 9, 8, 7] (v := ?_) rfl (by kernel_rfl) (by kernel_rfl) (by kernel_rfl) (by kernel_rfl) (by kernel_rfl) (by kernel_rfl) (fun _ _ _ h => h) (.inl ⟨by kernel_rfl, ?_⟩) HS.out ?_
          rotate_left
          · intro W__ hW__
            obtain ⟨h1, h2⟩ := hW__
            go_simp
            (try with_reducible rfl)
          try simp only [Act.put]
          refine wpAnyT_takeC (i := 4) [13, 12] (v := ?_) rfl (by kernel_rfl) (by kernel_rfl) (by kernel_rfl) (by kernel_rfl) (by kernel_rfl) (by kernel_rfl) (fun _ _ _ h => h) (.inl ⟨by kernel_rfl, ?_⟩) HS.out ?_
          rotate_left
          · intro W__ hW__
            obtain ⟨h1, h2⟩ := hW__
            go_simp
            (try with_reducible rfl)
          try simp only [Act.put]
          refine wpAnyT_takeC (i := 7) [13, 12, 11, 10, 9, 8] (v := ?_) rfl (by kernel_rfl) (by kernel_rfl) (by kernel_rfl) (by kernel_rfl) (by kernel_rfl) (by kernel_rfl) (fun _ _ _ h => h) (.inl ⟨by kernel_rfl, ?_⟩) HS.out ?_
          rotate_left
          · intro W__ hW__
            obtain ⟨h1, h2⟩ := hW__
            go_simp
            (try with_reducible rfl)
          try simp only [Act.put]
          refine wpAnyT_takeC (i := 8) [13, 12, 11, 10, 9] (v := ?_) rfl (by kernel_rfl) (by kernel_rfl) (by kernel_rfl) (by kernel_rfl) (by kernel_rfl) (by kernel_rfl) (fun _ _ _ h => h) (.inl ⟨by kernel_rfl, ?_⟩) HS.out ?_
          rotate_left
          · intro W__ hW__
            obtain ⟨h1, h2⟩ := hW__
            go_simp
            (try with_reducible rfl)
          try simp only [Act.put]
          refine wpAnyT_takeC (i := 9) [13, 12, 11, 10] (v := ?_) rfl (by kernel_rfl) (by kernel_rfl) (by kernel_rfl) (by kernel_rfl) (by kernel_rfl) (by kernel_rfl) (fun _ _ _ h => h) (.inl ⟨by kernel_rfl, ?_⟩) HS.out ?_
          rotate_left
          · intro W__ hW__
            obtain ⟨h1, h2⟩ := hW__
            go_simp
            (try with_reducible rfl)
          try simp only [Act.put]
          refine wpAnyT_takeC (i := 10) [13, 12, 11] (v := ?_) rfl (by kernel_rfl) (by kernel_rfl) (by kernel_rfl) (by kernel_rfl) (by kernel_rfl) (by kernel_rfl) (fun _ _ _ h => h) (.inl ⟨by kernel_rfl, ?_⟩) HS.out ?_
          rotate_left
          · intro W__ hW__
            obtain ⟨h1, h2⟩ := hW__
            go_simp
            (try with_reducible rfl)
          try simp only [Act.put]
          refine wpAnyT_takeC (i := 11) [13, 12] (v := ?_) rfl (by kernel_rfl) (by kernel_rfl) (by kernel_rfl) (by kernel_rfl) (by kernel_rfl) (by kernel_rfl) (fun _ _ _ h => h) (.inl ⟨by kernel_rfl, ?_⟩) HS.out ?_
          rotate_left
          · intro W__ hW__
            obtain ⟨h1, h2⟩ := hW__
            go_simp
            (try with_reducible rfl)
          try simp only [Act.put]
          refine wpAnyT_takeC (i := 12) [13] (v := ?_) rfl (by kernel_rfl) (by kernel_rfl) (by kernel_rfl) (by kernel_rfl) (by kernel_rfl) (by kernel_rfl) (fun _ _ _ h => h) (.inl ⟨by kernel_rfl, ?_⟩) HS.out ?_
          rotate_left
          · intro W__ hW__
            obtain ⟨h1, h2⟩ := hW__
            go_simp
            (try with_reducible rfl)
          try simp only [Act.put]
          refine wpAnyT_end (i := 13) rfl (by kernel_rfl) rfl (by kernel_rfl) fun K__ hK__ => ?_
          unfold Oper.wp
          go_simp
          refine hK__ _ _ ?_
          clear hK__
          refine wpAnyT_done (by kernel_rfl) ?_ _
          go_wp2
          refine wp_region_T 14 (fun W => W.cell? ⟨wr.heap.size, 1, none⟩ = some (.int .i64 hi') ∧ W.cell? ⟨G, p * 2 + 1, none⟩ = some (.int .i64 yhi)) (by kernel_rfl) ?_
          refine wpAnyT_take (i := 0) (v := ?_) rfl (by kernel_rfl) (by kernel_rfl) (by kernel_rfl) (by kernel_rfl) (by kernel_rfl) (fun _ _ _ h => h) (.inl ⟨rfl, ?_⟩) HS2.out ?_
          rotate_left
          · intro W__ hW__
            obtain ⟨h1, h2⟩ := hW__
            go_simp
            (try with_reducible rfl)
          try simp only [Act.put]
          refine wpAnyT_take (i := 1) (v := ?_) rfl (by kernel_rfl) (by kernel_rfl) (by kernel_rfl) (by kernel_rfl) (by kernel_rfl) (fun _ _ _ h => h) (.inl ⟨rfl, ?_⟩) HS2.out ?_
          rotate_left
          · intro W__ hW__
            obtain ⟨h1, h2⟩ := hW__
            go_simp
            (try with_reducible rfl)
          try simp only [Act.put]
          refine wpAnyT_take (i := 3) (v := ?_) rfl (by kernel_rfl) (by kernel_rfl) (by kernel_rfl) (by kernel_rfl) (by kernel_rfl) (fun _ _ _ h => h) (.inl ⟨rfl, ?_⟩) HS2.out ?_
          rotate_left
          · intro W__ hW__
            obtain ⟨h1, h2⟩ := hW__
            go_simp
            (try with_reducible rfl)
          try simp only [Act.put]
          refine wpAnyT_take (i := 4) (v := ?_) rfl (by kernel_rfl) (by kernel_rfl) (by kernel_rfl) (by kernel_rfl) (by kernel_rfl) (fun _ _ _ h => h) (.inl ⟨rfl, ?_⟩) HS2.out ?_
          rotate_left
          · intro W__ hW__
            obtain ⟨h1, h2⟩ := hW__
            go_simp
            (try with_reducible rfl)
          try simp only [Act.put]
          refine wpAnyT_take (i := 9) (v := ?_) rfl (by kernel_rfl) (by kernel_rfl) (by kernel_rfl) (by kernel_rfl) (by kernel_rfl) (fun _ _ _ h => h) (.inl ⟨rfl, ?_⟩) HS2.out ?_
          rotate_left
          · intro W__ hW__
            obtain ⟨h1, h2⟩ := hW__
            go_simp
            (try with_reducible rfl)
          try simp only [Act.put]
          refine wpAnyT_take (i := 2) (v := ?_) rfl (by kernel_rfl) (by kernel_rfl) (by kernel_rfl) (by kernel_rfl) (by kernel_rfl) (fun _ _ _ h => h) (.inl ⟨rfl, ?_⟩) HS2.out ?_
          rotate_left
          · intro W__ hW__
            obtain ⟨h1, h2⟩ := hW__
            go_simp
            (try with_reducible rfl)
          try simp only [Act.put]
          refine wpAnyT_take (i := 5) (v := ?_) rfl (by kernel_rfl) (by kernel_rfl) (by kernel_rfl) (by kernel_rfl) (by kernel_rfl) (fun _ _ _ h => h) (.inl ⟨rfl, ?_⟩) HS2.out ?_
          rotate_left
          · intro W__ hW__
            obtain ⟨h1, h2⟩ := hW__
            go_simp
            (try with_reducible rfl)
          try simp only [Act.put]
          refine wpAnyT_take (i := 10) (v := ?_) rfl (by kernel_rfl) (by kernel_rfl) (by kernel_rfl) (by kernel_rfl) (by kernel_rfl) (fun _ _ _ h => h) (.inl ⟨rfl, ?_⟩) HS2.out ?_
          rotate_left
          · intro W__ hW__
            obtain ⟨h1, h2⟩ := hW__
            go_simp
            (try with_reducible rfl)
          try simp only [Act.put]
          refine wpAnyT_take (i := 6) (v := ?_) rfl (by kernel_rfl) (by kernel_rfl) (by kernel_rfl) (by kernel_rfl) (by kernel_rfl) (fun _ _ _ h => h) (.inl ⟨rfl, ?_⟩) HS2.out ?_
          rotate_left
          · intro W__ hW__
            obtain ⟨h1, h2⟩ := hW__
            go_simp
            (try with_reducible rfl)
          try simp only [Act.put]
          refine wpAnyT_take (i := 7) (v := ?_) rfl (by kernel_rfl) (by kernel_rfl) (by kernel_rfl) (by kernel_rfl) (by kernel_rfl) (fun _ _ _ h => h) (.inl ⟨rfl, ?_⟩) HS2.out ?_
          rotate_left
          · intro W__ hW__
            obtain ⟨h1, h2⟩ := hW__
            go_simp
            (try with_reducible rfl)
          try simp only [Act.put]
          refine wpAnyT_take (i := 8) (v := ?_) rfl (by kernel_rfl) (by kernel_rfl) (by kernel_rfl) (by kernel_rfl) (by kernel_rfl) (fun _ _ _ h => h) (.inl ⟨rfl, ?_⟩) HS2.out ?_
          rotate_left
          · intro W__ hW__
            obtain ⟨h1, h2⟩ := hW__
            go_simp
            (try with_reducible rfl)
          try simp only [Act.put]
          refine wpAnyT_take (i := 11) (v := ?_) rfl (by kernel_rfl) (by kernel_rfl) (by kernel_rfl) (by kernel_rfl) (by kernel_rfl) (fun _ _ _ h => h) (.inl ⟨rfl, ?_⟩) HS2.out ?_
          rotate_left
          · intro W__ hW__
            obtain ⟨h1, h2⟩ := hW__
            go_simp
            (try with_reducible rfl)
          try simp only [Act.put]
          refine wpAnyT_takeC (i := 12) [14, 13] (v := ?_) rfl (by kernel_rfl) (by kernel_rfl) (by kernel_rfl) (by kernel_rfl) (by kernel_rfl) (by kernel_rfl) (fun _ _ _ h => h) (.inl ⟨rfl, ?_⟩) HS2.out ?_
          rotate_left
          · intro W__ hW__
            obtain ⟨h1, h2⟩ := hW__
            go_simp
            (try with_reducible rfl)
          try simp only [Act.put]
          refine wpAnyT_take (i := 13) (v := ?_) rfl (by kernel_rfl) (by kernel_rfl) (by kernel_rfl) (by kernel_rfl) (by kernel_rfl) (fun _ _ _ h => h) (.inl ⟨rfl, ?_⟩) HS2.out ?_
          rotate_left
          · intro W__ hW__
            obtain ⟨h1, h2⟩ := hW__
            go_simp
            (try with_reducible rfl)
          try simp only [Act.put]
          refine wpAnyT_end (i := 14) rfl (by kernel_rfl) rfl (by kernel_rfl) fun K__ hK__ => ?_
          unfold Oper.wp
          go_simp
          refine hK__ _ _ ?_
          clear hK__
          refine wpAnyT_done (by kernel_rfl) ?_ _
          have HO5 := Lib.hid (OwnK.drew (OwnK.drew (OwnSet.hi (z := max yhi hi') HO1.out HP.out (by omega))))
          have HB5 := Lib.hid (HW1.out.setCell (p := ⟨G, p * 2 + 1, none⟩) hG1 (.int .i64 (max yhi hi'))).drew.drew
          go_wp2
          go_roundw
          case rel => exact ⟨i + 1, p + 1, oc, some ⟨G, 0, none⟩, by go_num, by simp, by omega, by omega, by rw [HJ2.out]; exact HO5, HB5⟩
          case measure => simp [intOf]; omega
        · have hc2 : yhi + 1 < lo := by omega
          have hc3 : decide (lo ≤ yhi + 1) = false := decide_eq_false hc
          rw [if_neg hc] at HJ2
          have HJ2 := Lib.hid HJ2
          obtain ⟨us, HOA, HRL, HQL⟩ := set_split (OwnK.drew (OwnK.alloc HO1.out (.cells #[.int .i64 lo, .int .i64 hi'] TRg)))
          have Q1 : Hid (p + 1 + 1 ≤ maxLen) := Lib.hid (by simp only [maxLen]; omega)
          have Q2 : Hid ((p + 1 + 1) * 16 ≤ 140737488355328) := Lib.hid (by omega)
          have hz2 : w1.heap.size ≤ (((wr.alloc (.cells #[.int .i64 lo, .int .i64 hi'] TRg)).alloc (.cells #[.int .i64 lo, .int .i64 hi'] TRg)).drew).heap.size := by simp; omega
          have HW2 := Lib.hid ((HW1.out.alloc (by simp; omega) (.cells #[.int .i64 lo, .int .i64 hi'] TRg)).drew)
          have HSR := src_rng (w := wr.alloc (.cells #[.int .i64 lo, .int .i64 hi'] TRg)) (x := .int .i64 lo) (y := .int .i64 hi') (t := TRg) rfl rfl
          rw [show (wr.alloc (.cells #[.int .i64 lo, .int .i64 hi'] TRg)).heap.size = wr.heap.size + 1 by simp] at HSR
          have HSR : Hid (Pv.Src (((wr.alloc (.cells #[.int .i64 lo, .int .i64 hi'] TRg)).alloc (.cells #[.int .i64 lo, .int .i64 hi'] TRg)).drew) (some ⟨wr.heap.size + 1, 0, none⟩) 2 1 [.int .i64 lo, .int .i64 hi']) := Lib.hid HSR
          go_wp2
          refine wp_region_T 13 (fun W => W.cell? ⟨wr.heap.size, 0, none⟩ = some (.int .i64 lo) ∧ W.cell? ⟨G, p * 2 + 1, none⟩ = some (.int .i64 yhi)) (by kernel_rfl) ?_
          refine wpAnyT_takeC (i := 0) [13, 2, 1] (v := ?_) rfl (by kernel_rfl) (by kernel_rfl) (by kernel_rfl) (by kernel_rfl) (by kernel_rfl) (by kernel_rfl) (fun _ _ _ h => h) (.inl ⟨rfl, ?_⟩) HS.out ?_
          rotate_left
          · intro W__ hW__
            obtain ⟨h1, h2⟩ := hW__
            go_simp
            (try with_reducible rfl)
          try simp only [Act.put]
          refine wpAnyT_takeC (i := 1) [13, 2] (v := ?_) rfl (by kernel_rfl) (by kernel_rfl) (by kernel_rfl) (by kernel_rfl) (by kernel_rfl) (by kernel_rfl) (fun _ _ _ h => h) (.inl ⟨rfl, ?_⟩) HS.out ?_
          rotate_left
          · intro W__ hW__
            obtain ⟨h1, h2⟩ := hW__
            go_simp
            (try with_reducible rfl)
          try simp only [Act.put]
          refine wpAnyT_takeC (i := 2) [13] (v := ?_) rfl (by kernel_rfl) (by kernel_rfl) (by kernel_rfl) (by kernel_rfl) (by kernel_rfl) (by kernel_rfl) (fun _ _ _ h => h) (.inl ⟨rfl, ?_⟩) HS.out ?_
          rotate_left
          · intro W__ hW__
            obtain ⟨h1, h2⟩ := hW__
            go_simp
            (try with_reducible rfl)
          try simp only [Act.put]
          refine wpAnyT_takeC (i := 3) [13, 12, 4] (v := ?_) rfl (by kernel_rfl) (by kernel_rfl) (by kernel_rfl) (by kernel_rfl) (by kernel_rfl) (by kernel_rfl) (fun _ _ _ h => h) (.inl ⟨by kernel_rfl, ?_⟩) HS.out ?_
          rotate_left
          · intro W__ hW__
            obtain ⟨h1, h2⟩ := hW__
            go_simp
            (try with_reducible rfl)
          try simp only [Act.put]
          refine wpAnyT_takeC (i := 5) [13, 12, 11, 10, 9, 8] (v := ?_) rfl (by kernel_rfl) (by kernel_rfl) (by kernel_rfl) (by kernel_rfl) (by kernel_rfl) (by kernel_rfl) (fun _ _ _ h => h) (.inl ⟨by kernel_rfl, ?_⟩) HS.out ?_
          rotate_left
          · intro W__ hW__
            obtain ⟨h1, h2⟩ := hW__
            go_simp
            (try with_reducible rfl)
          try simp only [Act.put]
          refine wpAnyT_takeC (i := 6) [13, 12, 11, 10, 9, 8, 7] (v := ?_) rfl (by kernel_rfl) (by kernel_rfl) (by kernel_rfl) (by kernel_rfl) (by kernel_rfl) (by kernel_rfl) (fun _ _ _ h => h) (.inl ⟨by kernel_rfl, ?_⟩) HS.out ?_
          rotate_left
          · intro W__ hW__
            obtain ⟨h1, h2⟩ := hW__
            go_simp
            (try with_reducible rfl)
          try simp only [Act.put]
          refine wpAnyT_takeC (i := 4) [13, 12] (v := ?_) rfl (by kernel_rfl) (by kernel_rfl) (by kernel_rfl) (by kernel_rfl) (by kernel_rfl) (by kernel_rfl) (fun _ _ _ h => h) (.inl ⟨by kernel_rfl, ?_⟩) HS.out ?_
          rotate_left
          · intro W__ hW__
            obtain ⟨h1, h2⟩ := hW__
            go_simp
            (try with_reducible rfl)
          try simp only [Act.put]
          refine wpAnyT_takeC (i := 7) [13, 12, 11, 10, 9, 8] (v := ?_) rfl (by kernel_rfl) (by kernel_rfl) (by kernel_rfl) (by kernel_rfl) (by kernel_rfl) (by kernel_rfl) (fun _ _ _ h => h) (.inl ⟨by kernel_rfl, ?_⟩) HS.out ?_
          rotate_left
          · intro W__ hW__
            obtain ⟨h1, h2⟩ := hW__
            go_simp
            (try with_reducible rfl)
          try simp only [Act.put]
          refine wpAnyT_takeC (i := 8) [13, 12, 11, 10, 9] (v := ?_) rfl (by kernel_rfl) (by kernel_rfl) (by kernel_rfl) (by kernel_rfl) (by kernel_rfl) (by kernel_rfl) (fun _ _ _ h => h) (.inl ⟨by kernel_rfl, ?_⟩) HS.out ?_
          rotate_left
          · intro W__ hW__
            obtain ⟨h1, h2⟩ := hW__
            go_simp
            (try with_reducible rfl)
          try simp only [Act.put]
          refine wpAnyT_takeC (i := 9) [13, 12, 11, 10] (v := ?_) rfl (by kernel_rfl) (by kernel_rfl) (by kernel_rfl) (by kernel_rfl) (by kernel_rfl) (by kernel_rfl) (fun _ _ _ h => h) (.inl ⟨by kernel_rfl, ?_⟩) HS.out ?_
          rotate_left
          · intro W__ hW__
            obtain ⟨h1, h2⟩ := hW__
            go_simp
            (try with_reducible rfl)
          try simp only [Act.put]
          refine wpAnyT_takeC (i := 10) [13, 12, 11] (v := ?_) rfl (by kernel_rfl) (by kernel_rfl) (by kernel_rfl) (by kernel_rfl) (by kernel_rfl) (by kernel_rfl) (fun _ _ _ h => h) (.inl ⟨by kernel_rfl, ?_⟩) HS.out ?_
          rotate_left
          · intro W__ hW__
            obtain ⟨h1, h2⟩ := hW__
            go_simp
            (try with_reducible rfl)
          try simp only [Act.put]
          refine wpAnyT_takeC (i := 11) [13, 12] (v := ?_) rfl (by kernel_rfl) (by kernel_rfl) (by kernel_rfl) (by kernel_rfl) (by kernel_rfl) (by kernel_rfl) (fun _ _ _ h => h) (.inl ⟨by kernel_rfl, ?_⟩) HS.out ?_
          rotate_left
          · intro W__ hW__
            obtain ⟨h1, h2⟩ := hW__
            go_simp
            (try with_reducible rfl)
          try simp only [Act.put]
          refine wpAnyT_takeC (i := 12) [13] (v := ?_) rfl (by kernel_rfl) (by kernel_rfl) (by kernel_rfl) (by kernel_rfl) (by kernel_rfl) (by kernel_rfl) (fun _ _ _ h => h) (.inl ⟨by kernel_rfl, ?_⟩) HS.out ?_
          rotate_left
          · intro W__ hW__
            obtain ⟨h1, h2⟩ := hW__
            go_simp
            (try with_reducible rfl)
          try simp only [Act.put]
          refine wpAnyT_end (i := 13) rfl (by kernel_rfl) rfl (by kernel_rfl) fun K__ hK__ => ?_
          unfold Oper.wp
          go_simp
          refine hK__ _ _ ?_
          clear hK__
          refine wpAnyT_done (by kernel_rfl) ?_ _
          go_wp2_with (first
          | (at_builtin
             go_must (refine wpList_append_src _ rfl (.tmp 44) (.tmp 46) 50 rfl w1.heap.size TRg i0 _ 2 16 Tryz.underlying50 hi0 hz0 hs0 hb0 rfl (by decide) (some ⟨G, 0, none⟩) oc (p + 1) _ rfl HOA.out (some ⟨wr.heap.size + 1, 0, none⟩) 1 1 _ rfl HSR.out Q1.out Q2.out hz2 ?_)
             intro A9 c9 w9 own9 gr9 _
             (try simp only [Nat.zero_add] at own9)
             have HO9 := Lib.hid (set_push ⟨HRL.out, by omega, by omega⟩ HQL.out own9)
             have HB9 := Lib.hid (HW2.out.grown gr9 hz2 (fun k hk => (HOA.out.lt k hk).1))
             clear own9 gr9))
          go_roundw
          case rel => exact ⟨i + 1, (p + 1) + 1, c9, A9, by go_num, rfl, by omega, by omega, by rw [HJ2.out]; exact HO9, HB9⟩
          case measure => simp [intOf]; omega
    · obtain rfl : i = n := by omega
      have hfin : m.take i = m := List.take_of_length_le (by rw [HML.out]; exact Nat.le_refl _)
      have HO2 := HO.out
      rw [hfin, HJ.out] at HO2
      have HO2 := Lib.hid HO2
      clear hfin
      go_wp2
      go_ret
      exact ⟨O, q, oc, rfl, OwnK.lower HO2.out (Nat.le_trans HBB.out HB1.out.size), HB1.out.trans (HW.out.mono (Nat.le_trans HBB.out HB1.out.size))⟩
end Go.Proofs.YtilhicefhhgecaaGreatDoor
