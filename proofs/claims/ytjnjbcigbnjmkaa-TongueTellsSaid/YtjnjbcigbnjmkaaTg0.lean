/- Walks: the tables of a tree (the document's): repeated. -/
import Derived.Test.YtjnjbcigbnjmkaaTf
namespace Go.Proofs.Ytjnjbcigbnjmkaa
open Go.RowKit Pv

set_option maxHeartbeats 2000000 in
set_option maxRecDepth 100000 in
theorem spans_rep (w0 : World) (tA : Option Addr) (nt ct : Nat) (t : List Rx) (pA : Option Addr) (np cp : Nat) (pts : List Int) (i : Nat) (l : List Rng) (k : Nat) (most : Int) (K : Tr)
    (ht : AtRx w0 tA t) (HT : Hid (t.length = nt)) (HX : Hid (t[i]? = some ⟨4, l, 1, k, most⟩)) (hn : np ≤ 1000) (hk : k ≤ 16) (hm : most = -1 ∨ ((k : Int) ≤ most ∧ most ≤ 16)) (hi : i + 1 ≤ 64)
    (HIH : Hid (SpanC w0 tA nt ct pA np cp pts K (i + 1))) : SpanC w0 tA nt ct pA np cp pts (.mk ⟨4, l, 1, k, most⟩ [K]) i := by
  intro W kp
  have hin : i < nt := by have := lt_of_get HX.out; rwa [HT.out] at this
  obtain ⟨b, off, kd, B, cs, m, l', many', least', most', rfl, H5, hset, HM, hmc, hkd, hma, hle, hmo, HX'⟩ := ht.g5 HT hin
  obtain ⟨rfl, rfl, rfl, rfl, rfl⟩ := Rx.mk.inj (Option.some.inj (HX'.out.symm.trans HX.out))
  obtain ⟨y0, y1, y2, y3, y4, y5⟩ := H5.next kp
  have hW : Below W.heap.size W (W.alloc (.cells #[.int .u8 4, .slice B m cs, .int .i64 1, .int .i64 k, .int .i64 most'] 100)).drew := ((Below.refl _ _).alloc (Nat.le_refl _) _).drew
  have HC := Lib.hid (HIH.out _ (kp.trans (Keep.of hW)))
  simp only [Int.natCast_add, Int.cast_ofNat_Int] at HC
  have hw : IntKind.i64.wrap ((i : Int) + 1) = (i : Int) + 1 := by rw [IntKind.wrap_i64]; omega
  have HW := Lib.hid hW
  have BX0 := Lib.hid (Blk.new W 100 #[.int .u8 4, .slice B m cs, .int .i64 1, .int .i64 k, .int .i64 most'])
  have K1 : Hid ((W.alloc (.cells #[.int .u8 4, .slice B m cs, .int .i64 1, .int .i64 k, .int .i64 most'] 100)).drew.cell? ⟨W.heap.size, 0, none⟩ = some (.int .u8 4) ∧ (W.alloc (.cells #[.int .u8 4, .slice B m cs, .int .i64 1, .int .i64 k, .int .i64 most'] 100)).drew.cell? ⟨W.heap.size, 1, none⟩ = some (.slice B m cs) ∧ (W.alloc (.cells #[.int .u8 4, .slice B m cs, .int .i64 1, .int .i64 k, .int .i64 most'] 100)).drew.cell? ⟨W.heap.size, 2, none⟩ = some (.int .i64 1) ∧ (W.alloc (.cells #[.int .u8 4, .slice B m cs, .int .i64 1, .int .i64 k, .int .i64 most'] 100)).drew.cell? ⟨W.heap.size, 3, none⟩ = some (.int .i64 k) ∧ (W.alloc (.cells #[.int .u8 4, .slice B m cs, .int .i64 1, .int .i64 k, .int .i64 most'] 100)).drew.cell? ⟨W.heap.size, 4, none⟩ = some (.int .i64 most')) := Lib.hid ⟨BX0.out.cell 0, BX0.out.cell 1, BX0.out.cell 2, BX0.out.cell 3, BX0.out.cell 4⟩
  have HR := Lib.hid (show ∀ a c, a ≤ np → c ≤ np → (Ag (spT pts K) k most' a c ↔ spT pts (.mk ⟨4, l', 1, k, most'⟩ [K]) a c) from fun a c _ _ => by
    have h1 : spHd pts [K] = spT pts K := by funext a b; rw [spHd]
    rw [spT, if_neg (by simp), if_neg (by simp), if_neg (by simp), if_neg (by simp), h1]; simp)
  clear H5 ht hset HX' kp hW
  go_enter Try.func73, Try.ntmps73
  go_wp2
  refine wp_region_T 7 (fun W' => W'.cell? ⟨W.heap.size, 0, none⟩ = some (.int .u8 4) ∧ W'.cell? ⟨W.heap.size, 1, none⟩ = some (.slice B m cs) ∧ W'.cell? ⟨W.heap.size, 2, none⟩ = some (.int .i64 1) ∧ W'.cell? ⟨W.heap.size, 3, none⟩ = some (.int .i64 k) ∧ W'.cell? ⟨W.heap.size, 4, none⟩ = some (.int .i64 most')) (by kernel_rfl) ?_
  refine wpAnyT_take (i := 0) (v := ?_) rfl (by kernel_rfl) (by kernel_rfl) (by kernel_rfl) (by kernel_rfl) (by kernel_rfl) (fun _ _ _ h => h) (.inl ⟨rfl, ?_⟩) K1.out ?_
  rotate_left
  · intro W__ hW__
    obtain ⟨h1, h2, h3, h4, h5⟩ := hW__
    go_simp
    (try with_reducible rfl)
  simp only [Act.put, List.setIfInBounds_toArray, List.set_cons_zero, List.set_cons_succ]
  refine wpAnyT_take (i := 1) (v := ?_) rfl (by kernel_rfl) (by kernel_rfl) (by kernel_rfl) (by kernel_rfl) (by kernel_rfl) (fun _ _ _ h => h) (.inl ⟨rfl, ?_⟩) K1.out ?_
  rotate_left
  · intro W__ hW__
    obtain ⟨h1, h2, h3, h4, h5⟩ := hW__
    go_simp
    (try with_reducible rfl)
  simp only [Act.put, List.setIfInBounds_toArray, List.set_cons_zero, List.set_cons_succ]
  refine wpAnyT_take (i := 2) (v := ?_) rfl (by kernel_rfl) (by kernel_rfl) (by kernel_rfl) (by kernel_rfl) (by kernel_rfl) (fun _ _ _ h => h) (.inl ⟨rfl, ?_⟩) K1.out ?_
  rotate_left
  · intro W__ hW__
    obtain ⟨h1, h2, h3, h4, h5⟩ := hW__
    go_simp
    (try with_reducible rfl)
  simp only [Act.put, List.setIfInBounds_toArray, List.set_cons_zero, List.set_cons_succ]
  refine wpAnyT_take (i := 3) (v := ?_) rfl (by kernel_rfl) (by kernel_rfl) (by kernel_rfl) (by kernel_rfl) (by kernel_rfl) (fun _ _ _ h => h) (.inl ⟨rfl, ?_⟩) K1.out ?_
  rotate_left
  · intro W__ hW__
    obtain ⟨h1, h2, h3, h4, h5⟩ := hW__
    go_simp
    (try with_reducible rfl)
  simp only [Act.put, List.setIfInBounds_toArray, List.set_cons_zero, List.set_cons_succ]
  refine wpAnyT_take (i := 5) (v := ?_) rfl (by kernel_rfl) (by kernel_rfl) (by kernel_rfl) (by kernel_rfl) (by kernel_rfl) (fun _ _ _ h => h) (.inl ⟨rfl, ?_⟩) K1.out ?_
  rotate_left
  · intro W__ hW__
    obtain ⟨h1, h2, h3, h4, h5⟩ := hW__
    go_simp
    (try with_reducible rfl)
  simp only [Act.put, List.setIfInBounds_toArray, List.set_cons_zero, List.set_cons_succ]
  refine wpAnyT_one (i := 4) rfl (by kernel_rfl) rfl fun K__ hK__ => ?_
  unfold Oper.wp
  go_simp
  refine HC.out.mono ?_
  rintro e w1 ⟨g, rfl, hg, tb, hb⟩
  have X1 := (show Blk (W.alloc (.cells #[.int .u8 4, .slice B m cs, .int .i64 1, .int .i64 k, .int .i64 most'] 100)).drew W.heap.size 100 #[.int .u8 4, .slice B m cs, .int .i64 1, .int .i64 k, .int .i64 most'] from BX0.out).below hb BX0.out.lt
  refine hK__ _ _ ⟨X1.cell 0, X1.cell 1, X1.cell 2, X1.cell 3, X1.cell 4⟩ ?_
  have B1 := Lib.hid (HW.out.trans (hb.mono HW.out.size))
  have HA := Lib.hid (ref08_again g np (spT pts K) (spT_fwd pts K) hn k most' hk hm 4 1 B m cs w1 tb)
  have XX1 := Lib.hid X1
  clear hK__ tb hb X1
  try simp only [Act.put, List.setIfInBounds_toArray, List.set_cons_zero, List.set_cons_succ]
  refine wpAnyT_one (i := 6) rfl (by kernel_rfl) rfl fun K__ hK__ => ?_
  unfold Oper.wp
  go_simp
  refine HA.out.mono ?_
  intro e w2 hp
  obtain ⟨g2, rfl, hg2, tb, hb⟩ := (hp.as HR.out).lift B1.out
  have X2 := XX1.out.below (w' := w2) (B := w1.heap.size) (by obtain ⟨_, _, _, _, h5⟩ := hp; exact h5) XX1.out.lt
  refine hK__ _ _ ⟨X2.cell 0, X2.cell 1, X2.cell 2, X2.cell 3, X2.cell 4⟩ ?_
  have TB2 := Lib.hid tb; have B2 := Lib.hid hb
  clear hK__ tb hb X2 hp
  try simp only [Act.put, List.setIfInBounds_toArray, List.set_cons_zero, List.set_cons_succ]
  refine wpAnyT_end (i := 7) rfl (by kernel_rfl) rfl (by kernel_rfl) fun K__ hK__ => ?_
  unfold Oper.wp
  go_simp
  refine hK__ _ _ ?_
  clear hK__
  refine wpAnyT_done (by kernel_rfl) ?_ _
  go_wp2
  go_ret
  exact ⟨g2, rfl, hg2, TB2.out, B2.out⟩

end Go.Proofs.Ytjnjbcigbnjmkaa
