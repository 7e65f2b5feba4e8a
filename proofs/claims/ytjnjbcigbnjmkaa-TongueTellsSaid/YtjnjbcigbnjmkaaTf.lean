/- Walks: whether a set has a number (the document's); the tables of a tree. -/
import Derived.Test.YtjnjbcigbnjmkaaTe
import Derived.Test.YtjnjbcigbnjmkaaAk
namespace Go.Proofs.Ytjnjbcigbnjmkaa
open Go.RowKit Pv

set_option maxHeartbeats 1000000 in
set_option maxRecDepth 100000 in
theorem ref06_Has (A : Option Addr) (c n : Nat) (l : List Rng) (p : Int) (w : World) (h : AtSet w A l) (HL : Hid (l.length = n)) :
    Calls Try.prog 120 #[.slice A n c, .int .i64 p] w fun e w' => e = .returned (.bool (yes (InSet l p))) ∧ w' = w := by
  have hl : n ≤ 140737488355328 := by have := h.1; rwa [HL.out] at this
  obtain ⟨ans, hans⟩ : ∃ ans, yes (InSet l p) = ans := ⟨_, rfl⟩
  rw [hans]
  have HANS := Lib.hid hans
  clear hans
  go_enter Try.func120, Try.ntmps120
  go_wp2
  go_loop [5] (fun i => ∃ k : Nat, i = .int .i64 k ∧ k ≤ n ∧ (∀ (i : Nat) x, i < k → l[i]? = some x → ¬ (x.lo ≤ p ∧ p ≤ x.hi))) (fun i => n - (intOf i).toNat)
  case atStart => exact ⟨0, rfl, by omega, by intros; omega⟩
  case round =>
    obtain ⟨k, rfl, hk, hno⟩ := hrel
    have HNO := Lib.hid hno
    clear hno
    by_cases hlt : k < n
    · obtain ⟨b, off, lo, hi, rfl, hbl, x0, x1, _, _, HX⟩ := h.gt HL hlt
      have HSN := Lib.hid (fun (hh : ¬ (lo ≤ p ∧ p ≤ hi)) (i : Nat) (x : Rng) (hi' : i < k + 1) (hx : l[i]? = some x) => (show ¬ (x.lo ≤ p ∧ p ≤ x.hi) from by
        by_cases e : i = k
        · subst e
          obtain rfl := Option.some.inj (hx.symm.trans HX.out)
          exact hh
        · exact HNO.out i x (by omega) hx))
      by_cases h1 : lo ≤ p
      · by_cases h2 : p ≤ hi
        · have HY := Lib.hid (show true = ans by rw [← HANS.out]; exact (yes_t ⟨k, _, HX.out, h1, h2⟩).symm)
          go_wp2
          go_ret
          exact ⟨ret_bool HY.out, rfl⟩
        · have HS := Lib.hid (HSN.out (fun hh => h2 hh.2))
          go_wp2
          go_round
          case rel => exact ⟨k + 1, by go_num, by omega, HS.out⟩
          case measure => simp [intOf]; omega
      · have HS := Lib.hid (HSN.out (fun hh => h1 hh.1))
        go_wp2
        go_round
        case rel => exact ⟨k + 1, by go_num, by omega, HS.out⟩
        case measure => simp [intOf]; omega
    · have hkn : k = n := by omega
      have HY := Lib.hid (show false = ans by
        rw [← HANS.out]
        refine (yes_f ?_).symm
        rintro ⟨i, x, h1, h2⟩
        exact HNO.out i x (by have := lt_of_get h1; rw [HL.out] at this; omega) h1 h2)
      clear hkn
      go_wp2
      go_ret
      exact ⟨ret_bool HY.out, rfl⟩

theorem own_get1 {w : World} {b e n k c : Nat} {A : Option Addr} {us : List Value} {u : Value} (h : w.ownsRow b e 1 (.slice A n c) n us) (hk : us[k]? = some u) : ∃ g, A = some ⟨g, 0, none⟩ ∧ g < w.heap.size ∧ w.cell? ⟨g, k, none⟩ = some u := by
  rcases h.2 with ⟨hv, h0⟩ | ⟨g, cap, cur, hv, hg, hh, hnc, hcm, hcs, htk⟩
  · have := h.1; have := lt_of_get hk; omega
  · injection hv with e1 e2 e3
    subst e1
    have hb : Blk w g e cur := hh
    refine ⟨g, rfl, hb.lt, ?_⟩
    rw [hb.cell k]
    rw [← htk, List.getElem?_take] at hk
    split at hk
    · simpa using hk
    · cases hk
theorem starts_len1 {t : List Rx} {i : Nat} : ∀ q, (starts t i q).length = q
  | 0 => rfl
  | q + 1 => by simp [starts, starts_len1 q]
theorem starts_get1 {t : List Rx} {i : Nat} : ∀ {q k : Nat}, k < q → (starts t i q)[k]? = some (bR (again (behind t 16) k i))
  | q + 1, k, h => by
    rw [starts]
    by_cases hk : k < q
    · rw [List.getElem?_append_left (by rw [starts_len1]; exact hk)]; exact starts_get1 hk
    · obtain rfl : k = q := by omega
      rw [List.getElem?_append_right (by rw [starts_len1]; omega), starts_len1]; simp


/-- The tables of a tree at a place. -/
def SpanC (w0 : World) (tA : Option Addr) (nt ct : Nat) (pA : Option Addr) (np cp : Nat) (pts : List Int) (T : Tr) (i : Nat) : Prop :=
  ∀ W, Keep w0 W → Calls Try.prog 73 #[.slice tA nt ct, .int .i64 i, .slice pA np cp] W (TabPost W np (spT pts T))
theorem Keep.box {w0 W : World} (k : Keep w0 W) (cs : Array Value) (t : TypeId) : Keep w0 (W.alloc (.cells cs t)) := k.trans (Keep.of ((Below.refl _ _).alloc (Nat.le_refl _) _))
theorem TabPost.lift {w W w' : World} {n : Nat} {R : Nat → Nat → Prop} {e : Ending} (h : TabPost W n R e w') (hb : Below w.heap.size w W) : TabPost w n R e w' := by
  obtain ⟨g, h1, h2, h3, h4⟩ := h
  exact ⟨g, h1, Nat.le_trans hb.size h2, h3, hb.trans (h4.mono hb.size)⟩

set_option maxHeartbeats 1000000 in
set_option maxRecDepth 100000 in
theorem spans_empty (w0 : World) (tA : Option Addr) (nt ct : Nat) (t : List Rx) (pA : Option Addr) (np cp : Nat) (pts : List Int) (i : Nat) (l : List Rng) (many least most : Int) (ks : List Tr)
    (ht : AtRx w0 tA t) (HT : Hid (t.length = nt)) (HX : Hid (t[i]? = some ⟨0, l, many, least, most⟩)) (hn : np ≤ 1000) : SpanC w0 tA nt ct pA np cp pts (.mk ⟨0, l, many, least, most⟩ ks) i := by
  intro W kp
  have hin : i < nt := by have := lt_of_get HX.out; rwa [HT.out] at this
  obtain ⟨b, off, kd, B, cs, m, l', many', least', most', rfl, H5, hset, HM, hmc, hkd, hma, hle, hmo, HX'⟩ := ht.g5 HT hin
  obtain ⟨rfl, rfl, rfl, rfl, rfl⟩ := Rx.mk.inj (Option.some.inj (HX'.out.symm.trans HX.out))
  obtain ⟨y0, y1, y2, y3, y4, y5⟩ := H5.next kp
  have hW : Below W.heap.size W (W.alloc (.cells #[.int .u8 0, .slice B m cs, .int .i64 many', .int .i64 least', .int .i64 most'] 100)) := (Below.refl _ _).alloc (Nat.le_refl _) _
  have HS := Lib.hid (ref08_still np hn (W.alloc (.cells #[.int .u8 0, .slice B m cs, .int .i64 many', .int .i64 least', .int .i64 most'] 100)))
  have HW := Lib.hid hW
  have HR := Lib.hid (show ∀ a c, a ≤ np → c ≤ np → (a = c ↔ spT pts (.mk ⟨0, l', many', least', most'⟩ ks) a c) from fun a c _ _ => by rw [spT, if_pos rfl])
  clear H5 ht hset HX' kp hW
  go_enter Try.func73, Try.ntmps73
  go_wp2_with fail
  refine HS.out.mono ?_
  intro e w1 hp
  obtain ⟨g, rfl, hg, tb, hb⟩ := (hp.as HR.out).lift HW.out
  have TB1 := Lib.hid tb; have B1 := Lib.hid hb
  clear hp tb hb
  go_wp2
  go_ret
  exact ⟨g, rfl, hg, TB1.out, B1.out⟩

set_option maxHeartbeats 2000000 in
set_option maxRecDepth 100000 in
theorem spans_set (w0 : World) (tA : Option Addr) (nt ct : Nat) (t : List Rx) (pA : Option Addr) (np cp : Nat) (pts : List Int) (i : Nat) (l : List Rng) (many least most : Int) (ks : List Tr)
    (ht : AtRx w0 tA t) (hp : At w0 pA RI pts) (HP : Hid (pts.length = np)) (HT : Hid (t.length = nt)) (HX : Hid (t[i]? = some ⟨1, l, many, least, most⟩)) (hn : np ≤ 1000) : SpanC w0 tA nt ct pA np cp pts (.mk ⟨1, l, many, least, most⟩ ks) i := by
  intro W kp
  have hin : i < nt := by have := lt_of_get HX.out; rwa [HT.out] at this
  obtain ⟨b, off, kd, B, cs, m, l', many', least', most', rfl, H5, hset, HM, hmc, hkd, hma, hle, hmo, HX'⟩ := ht.g5 HT hin
  obtain ⟨rfl, rfl, rfl, rfl, rfl⟩ := Rx.mk.inj (Option.some.inj (HX'.out.symm.trans HX.out))
  obtain ⟨y0, y1, y2, y3, y4, y5⟩ := H5.next kp
  have hW : Below W.heap.size W (W.alloc (.cells #[.int .u8 1, .slice B m cs, .int .i64 many', .int .i64 least', .int .i64 most'] 100)) := (Below.refl _ _).alloc (Nat.le_refl _) _
  have HS := Lib.hid (ref08_none np hn (W.alloc (.cells #[.int .u8 1, .slice B m cs, .int .i64 many', .int .i64 least', .int .i64 most'] 100)))
  have HW := Lib.hid hW
  have BX0 := Lib.hid (Blk.new W 100 #[.int .u8 1, .slice B m cs, .int .i64 many', .int .i64 least', .int .i64 most'])
  have HSET := Lib.hid hset; have HPT := Lib.hid hp; have KP := Lib.hid kp
  have HR := Lib.hid (show ∀ a c, spT pts (.mk ⟨1, l', many', least', most'⟩ ks) a c ↔ ∃ p, pts[a]? = some p ∧ InSet l' p ∧ c = a + 1 from fun a c => by rw [spT, if_neg (by simp), if_pos rfl])
  clear H5 ht hset HX' kp hW hp
  go_enter Try.func73, Try.ntmps73
  go_wp2_with fail
  refine HS.out.mono ?_
  rintro e w1 ⟨g, rfl, hg, tb, hb⟩
  have T0 := Lib.hid (tb.congr (R' := fun a c => a < 0 ∧ spT pts (.mk ⟨1, l', many', least', most'⟩ ks) a c) (fun a c _ _ => by simp))
  have B0 := Lib.hid (HW.out.trans (hb.mono HW.out.size))
  have X0 := Lib.hid (BX0.out.below hb BX0.out.lt)
  have hg' : W.heap.size ≤ g := Nat.le_trans HW.out.size hg
  clear tb hb
  go_wp2
  go_loopw [10] (fun iv wr => ∃ j : Nat, iv = .int .i64 j ∧ j ≤ np ∧ Tab wr g np (fun a c => a < j ∧ spT pts (.mk ⟨1, l', many', least', most'⟩ ks) a c) ∧ Below W.heap.size W wr ∧ Blk wr W.heap.size 100 #[.int .u8 1, .slice B m cs, .int .i64 many', .int .i64 least', .int .i64 most']) (fun iv _ => np - (intOf iv).toNat)
  case atStart => exact ⟨0, rfl, by omega, T0.out, B0.out, X0.out⟩
  case round =>
    obtain ⟨j, rfl, hj, htb, hb, hbx⟩ := hrel
    have T1 := Lib.hid htb; have B1 := Lib.hid hb; have X1 := Lib.hid hbx
    clear htb hb hbx
    by_cases hlt : j < np
    · have KR := Lib.hid (KP.out.trans (Keep.of B1.out))
      obtain ⟨pb, po, u, z, rfl, hpl, hpc, ⟨rfl, hz1, hz2⟩, HZ⟩ := At.gt (HPT.out.keep KR.out) HP hlt
      have o0 := T1.out.rowCell (i := j) (by omega)
      have o1 := T1.out.cell (i := j) (j := j + 1) (by omega) (by omega)
      have f1 := (T1.out.row j (by omega)).frozen (j + 1)
      have s1 := X1.out.cell 1
      have HH := Lib.hid (fun (W' : World) (k : Keep wr W') => ref06_Has B cs m l' z W' (AtK.keep HSET.out (KR.out.trans k)) HM)
      have TS := Lib.hid (T1.out.set (i := j) (j := j + 1) (b := yes (InSet l' z)) (R' := fun a c => a < j + 1 ∧ spT pts (.mk ⟨1, l', many', least', most'⟩ ks) a c) (by omega) (by
        rw [HR.out]
        constructor
        · rintro ⟨_, p, h1, h2, _⟩
          obtain rfl := Option.some.inj (h1.symm.trans HZ.out)
          exact yes_t h2
        · intro h; exact ⟨by omega, z, HZ.out, of_yes h, rfl⟩) (fun a c _ _ h => by
        rw [HR.out]
        constructor
        · rintro ⟨h1, h2⟩; exact ⟨by omega, h2⟩
        · rintro ⟨h1, p, h2, h3, h4⟩
          refine ⟨?_, p, h2, h3, h4⟩
          by_cases e : a = j
          · subst e; exact absurd ⟨rfl, h4⟩ h
          · omega))
      have BS := Lib.hid (B1.out.setCell (p := ⟨g + 1 + j, j + 1, none⟩) (by simp only; omega) (.bool (yes (InSet l' z))))
      have XS := Lib.hid (X1.out.far (p := ⟨g + 1 + j, j + 1, none⟩) (by simp only; omega) (.bool (yes (InSet l' z))))
      generalize yes (InSet l' z) = v at *
      have K1 : Hid (wr.drew.cell? ⟨g, j, none⟩ = some (.slice (some ⟨g + 1 + j, 0, none⟩) (np + 1) (np + 1)) ∧ wr.drew.cell? ⟨W.heap.size, 1, none⟩ = some (.slice B m cs) ∧ wr.drew.cell? ⟨pb, po + j, none⟩ = some (.int .i64 z)) := Lib.hid ⟨o0, s1, hpc⟩
      have q1 : (j : Int) < (np : Int) + 1 := by omega
      have q3 : (j : Int) + 1 < (np : Int) + 1 := by omega
      have hw : IntKind.i64.wrap ((j : Int) + 1) = (j : Int) + 1 := by rw [IntKind.wrap_i64]; omega
      have q4 : (0 : Int) ≤ (j : Int) + 1 := by omega
      go_wp2
      refine wp_region_T 14 (fun W' => W'.cell? ⟨g, j, none⟩ = some (.slice (some ⟨g + 1 + j, 0, none⟩) (np + 1) (np + 1)) ∧ W'.cell? ⟨W.heap.size, 1, none⟩ = some (.slice B m cs) ∧ W'.cell? ⟨pb, po + j, none⟩ = some (.int .i64 z)) (by kernel_rfl) ?_
      refine wpAnyT_take (i := 0) (v := ?_) rfl (by kernel_rfl) (by kernel_rfl) (by kernel_rfl) (by kernel_rfl) (by kernel_rfl) (fun _ _ _ h => h) (.inl ⟨rfl, ?_⟩) K1.out ?_
      rotate_left
      · intro W__ hW__
        obtain ⟨h1, h2, h3⟩ := hW__
        go_simp
        (try with_reducible rfl)
      simp only [Act.put, List.setIfInBounds_toArray, List.set_cons_zero, List.set_cons_succ]
      refine wpAnyT_take (i := 1) (v := ?_) rfl (by kernel_rfl) (by kernel_rfl) (by kernel_rfl) (by kernel_rfl) (by kernel_rfl) (fun _ _ _ h => h) (.inl ⟨rfl, ?_⟩) K1.out ?_
      rotate_left
      · intro W__ hW__
        obtain ⟨h1, h2, h3⟩ := hW__
        go_simp
        (try with_reducible rfl)
      simp only [Act.put, List.setIfInBounds_toArray, List.set_cons_zero, List.set_cons_succ]
      refine wpAnyT_take (i := 2) (v := ?_) rfl (by kernel_rfl) (by kernel_rfl) (by kernel_rfl) (by kernel_rfl) (by kernel_rfl) (fun _ _ _ h => h) (.inl ⟨rfl, ?_⟩) K1.out ?_
      rotate_left
      · intro W__ hW__
        obtain ⟨h1, h2, h3⟩ := hW__
        go_simp
        (try with_reducible rfl)
      simp only [Act.put, List.setIfInBounds_toArray, List.set_cons_zero, List.set_cons_succ]
      refine wpAnyT_take (i := 3) (v := ?_) rfl (by kernel_rfl) (by kernel_rfl) (by kernel_rfl) (by kernel_rfl) (by kernel_rfl) (fun _ _ _ h => h) (.inl ⟨rfl, ?_⟩) K1.out ?_
      rotate_left
      · intro W__ hW__
        obtain ⟨h1, h2, h3⟩ := hW__
        go_simp
        (try with_reducible rfl)
      simp only [Act.put, List.setIfInBounds_toArray, List.set_cons_zero, List.set_cons_succ]
      refine wpAnyT_take (i := 4) (v := ?_) rfl (by kernel_rfl) (by kernel_rfl) (by kernel_rfl) (by kernel_rfl) (by kernel_rfl) (fun _ _ _ h => h) (.inl ⟨rfl, ?_⟩) K1.out ?_
      rotate_left
      · intro W__ hW__
        obtain ⟨h1, h2, h3⟩ := hW__
        go_simp
        (try with_reducible rfl)
      simp only [Act.put, List.setIfInBounds_toArray, List.set_cons_zero, List.set_cons_succ]
      refine wpAnyT_take (i := 5) (v := ?_) rfl (by kernel_rfl) (by kernel_rfl) (by kernel_rfl) (by kernel_rfl) (by kernel_rfl) (fun _ _ _ h => h) (.inl ⟨rfl, ?_⟩) K1.out ?_
      rotate_left
      · intro W__ hW__
        obtain ⟨h1, h2, h3⟩ := hW__
        go_simp
        (try with_reducible rfl)
      simp only [Act.put, List.setIfInBounds_toArray, List.set_cons_zero, List.set_cons_succ]
      refine wpAnyT_take (i := 6) (v := ?_) rfl (by kernel_rfl) (by kernel_rfl) (by kernel_rfl) (by kernel_rfl) (by kernel_rfl) (fun _ _ _ h => h) (.inl ⟨rfl, ?_⟩) K1.out ?_
      rotate_left
      · intro W__ hW__
        obtain ⟨h1, h2, h3⟩ := hW__
        go_simp
        (try with_reducible rfl)
      simp only [Act.put, List.setIfInBounds_toArray, List.set_cons_zero, List.set_cons_succ]
      refine wpAnyT_take (i := 7) (v := ?_) rfl (by kernel_rfl) (by kernel_rfl) (by kernel_rfl) (by kernel_rfl) (by kernel_rfl) (fun _ _ _ h => h) (.inl ⟨rfl, ?_⟩) K1.out ?_
      rotate_left
      · intro W__ hW__
        obtain ⟨h1, h2, h3⟩ := hW__
        go_simp
        (try with_reducible rfl)
      simp only [Act.put, List.setIfInBounds_toArray, List.set_cons_zero, List.set_cons_succ]
      refine wpAnyT_take (i := 8) (v := ?_) rfl (by kernel_rfl) (by kernel_rfl) (by kernel_rfl) (by kernel_rfl) (by kernel_rfl) (fun _ _ _ h => h) (.inl ⟨rfl, ?_⟩) K1.out ?_
      rotate_left
      · intro W__ hW__
        obtain ⟨h1, h2, h3⟩ := hW__
        go_simp
        (try with_reducible rfl)
      simp only [Act.put, List.setIfInBounds_toArray, List.set_cons_zero, List.set_cons_succ]
      refine wpAnyT_take (i := 9) (v := ?_) rfl (by kernel_rfl) (by kernel_rfl) (by kernel_rfl) (by kernel_rfl) (by kernel_rfl) (fun _ _ _ h => h) (.inl ⟨rfl, ?_⟩) K1.out ?_
      rotate_left
      · intro W__ hW__
        obtain ⟨h1, h2, h3⟩ := hW__
        go_simp
        (try with_reducible rfl)
      simp only [Act.put, List.setIfInBounds_toArray, List.set_cons_zero, List.set_cons_succ]
      refine wpAnyT_take (i := 10) (v := ?_) rfl (by kernel_rfl) (by kernel_rfl) (by kernel_rfl) (by kernel_rfl) (by kernel_rfl) (fun _ _ _ h => h) (.inl ⟨rfl, ?_⟩) K1.out ?_
      rotate_left
      · intro W__ hW__
        obtain ⟨h1, h2, h3⟩ := hW__
        go_simp
        (try with_reducible rfl)
      simp only [Act.put, List.setIfInBounds_toArray, List.set_cons_zero, List.set_cons_succ]
      refine wpAnyT_take (i := 11) (v := ?_) rfl (by kernel_rfl) (by kernel_rfl) (by kernel_rfl) (by kernel_rfl) (by kernel_rfl) (fun _ _ _ h => h) (.inl ⟨rfl, ?_⟩) K1.out ?_
      rotate_left
      · intro W__ hW__
        obtain ⟨h1, h2, h3⟩ := hW__
        go_simp
        (try with_reducible rfl)
      simp only [Act.put, List.setIfInBounds_toArray, List.set_cons_zero, List.set_cons_succ]
      refine wpAnyT_one (i := 12) rfl (by kernel_rfl) rfl fun K__ hK__ => ?_
      unfold Oper.wp
      go_simp
      refine (HH.out _ (Keep.drew _)).mono ?_
      rintro e w2 ⟨rfl, rfl⟩
      refine hK__ _ _ K1.out ?_
      clear hK__
      try simp only [Act.put, List.setIfInBounds_toArray, List.set_cons_zero, List.set_cons_succ]
      refine wpAnyT_take (i := 13) (v := ?_) rfl (by kernel_rfl) (by kernel_rfl) (by kernel_rfl) (by kernel_rfl) (by kernel_rfl) (fun _ _ _ h => h) (.inl ⟨rfl, ?_⟩) K1.out ?_
      rotate_left
      · intro W__ hW__
        obtain ⟨h1, h2, h3⟩ := hW__
        go_simp
        (try with_reducible rfl)
      simp only [Act.put, List.setIfInBounds_toArray, List.set_cons_zero, List.set_cons_succ]
      refine wpAnyT_end (i := 14) rfl (by kernel_rfl) rfl (by kernel_rfl) fun K__ hK__ => ?_
      unfold Oper.wp
      go_simp
      refine hK__ _ _ ?_
      clear hK__
      refine wpAnyT_done (by kernel_rfl) ?_ _
      go_wp2
      go_roundw
      case rel => exact ⟨j + 1, by go_num, by omega, TS.out.drew, BS.out.drew, XS.out⟩
      case measure => simp [intOf]; omega
    · have TD := Lib.hid (T1.out.congr (R' := spT pts (.mk ⟨1, l', many', least', most'⟩ ks)) (fun a c ha hc => ⟨fun h => h.2, fun h => ⟨by
        obtain ⟨p, h1, _, h2⟩ := (HR.out a c).1 h
        have := lt_of_get h1; rw [HP.out] at this; omega, h⟩⟩))
      go_wp2
      go_ret
      exact ⟨g, rfl, hg', TD.out, B1.out⟩

end Go.Proofs.Ytjnjbcigbnjmkaa
