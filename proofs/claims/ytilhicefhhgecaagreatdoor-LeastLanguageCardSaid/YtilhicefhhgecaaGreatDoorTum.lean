/- Walks: what is repeated (the program's). -/
import Derived.Test.YtilhicefhhgecaaGreatDoorTsm
import Derived.WalkMore
namespace Go.Proofs.YtilhicefhhgecaaGreatDoor
open Go.RowKit Go.ChangeMaps Pv

/-- The places behind so many times. -/
def Fq (pts : List Int) (K : Tr) (S : Nat → Prop) (q : Nat) : Nat → Prop := im (Pw (spT pts K) q) S
def Uq (pts : List Int) (K : Tr) (S : Nat → Prop) (l c : Nat) (a : Nat) : Prop := ∃ k, l ≤ k ∧ k ≤ c ∧ Fq pts K S k a
section
variable {pts : List Int} {K : Tr} {S : Nat → Prop}
theorem Fq.step (k j : Nat) : Fq pts K S (k + 1) j ↔ im (spT pts K) (Fq pts K S k) j := im_pw k j
theorem Fq.next (q : Nat) : im (spT pts K) (Fq pts K S q) = Fq pts K S (q + 1) := by funext a; exact propext (Fq.step q a).symm
theorem Fq.zero : Fq pts K S 0 = S := by funext a; exact propext (im_pw0 a)
theorem Fq.in (hS : ∀ a, S a → a ≤ pts.length) : ∀ q a, Fq pts K S q a → a ≤ pts.length
  | 0, a, h => by rw [Fq.zero] at h; exact hS a h
  | q + 1, a, h => by
    obtain ⟨i, h1, h2⟩ := (Fq.step q a).1 h
    exact spT_in pts K i a (Fq.in hS q i h1) h2
theorem Fq.same {q : Nat} (hS : ∀ a, S a → a ≤ pts.length) (h : lst pts.length (Fq pts K S (q + 1)) = lst pts.length (Fq pts K S q)) (a : Nat) : Fq pts K S (q + 1) a ↔ Fq pts K S q a := by
  by_cases ha : a ≤ pts.length
  · exact lst_eq h ha
  · exact ⟨fun h => absurd (Fq.in hS _ a h) ha, fun h => absurd (Fq.in hS _ a h) ha⟩
theorem Uq.succ {l c : Nat} (hl : l ≤ c) (a : Nat) : (Uq pts K S l c a ∨ Fq pts K S (c + 1) a) ↔ Uq pts K S l (c + 1) a := by
  constructor
  · rintro (⟨k, h1, h2, h3⟩ | h)
    · exact ⟨k, h1, by omega, h3⟩
    · exact ⟨c + 1, by omega, Nat.le_refl _, h⟩
  · rintro ⟨k, h1, h2, h3⟩
    by_cases e : k ≤ c
    · exact .inl ⟨k, h1, e, h3⟩
    · obtain rfl : k = c + 1 := by omega
      exact .inr h3
theorem Uq.start (l a : Nat) : Fq pts K S l a ↔ Uq pts K S l l a := by
  constructor
  · exact fun h => ⟨l, Nat.le_refl _, Nat.le_refl _, h⟩
  · rintro ⟨k, h1, h2, h3⟩
    obtain rfl : k = l := by omega
    exact h3
/-- Where it ends: all there is. -/
theorem Uq.all {l c : Nat} {most : Int} (_hl : l ≤ c) (hc : most < 0 ∨ (c : Int) ≤ most) (h : ∀ m a, l ≤ m → (most < 0 ∨ (m : Int) ≤ most) → Fq pts K S m a → Uq pts K S l c a) (a : Nat) : Uq pts K S l c a ↔ im (Ag (spT pts K) l most) S a := by
  rw [im_ag]
  constructor
  · rintro ⟨k, h1, h2, h3⟩; exact ⟨k, h1, by omega, h3⟩
  · rintro ⟨k, h1, h2, h3⟩; exact h k a h1 h2 h3
theorem Uq.shut {l c : Nat} {most : Int} (hm : most < 0) (hl : l ≤ c) (h : ∀ a, Fq pts K S (c + 1) a → Uq pts K S l c a) (a : Nat) : Uq pts K S l (c + 1) a ↔ im (Ag (spT pts K) l most) S a :=
  Uq.all (by omega) (.inl hm) (fun m a h1 _ h3 => (Uq.succ hl a).1 (.inl (Fs.shut Fq.step hl h m a h1 h3))) a
theorem Uq.still {l c : Nat} {most : Int} (hc : most < 0 ∨ (c : Int) + 1 ≤ most) (hl : l ≤ c) (h : ∀ a, Fq pts K S (c + 1) a ↔ Fq pts K S c a) (a : Nat) : Uq pts K S l (c + 1) a ↔ im (Ag (spT pts K) l most) S a :=
  Uq.all (by omega) (by omega) (fun m a h1 _ h3 => by
    by_cases e : m ≤ c
    · exact ⟨m, h1, by omega, h3⟩
    · obtain ⟨d, rfl⟩ : ∃ d, m = c + d := ⟨m - c, by omega⟩
      exact ⟨c, hl, by omega, (Fs.stay Fq.step h d a).1 h3⟩) a
end

set_option maxHeartbeats 4000000 in
set_option maxRecDepth 100000 in
theorem tongue_repeat (w0 : World) (e0 e1 pm mb n : Nat) (tA EA pA : Option Addr) (nt ct ec cp : Nat) (t : List Rx) (pts : List Int) (K : Tr) (i k : Nat) (l : List Rng) (most : Int) (hn : n ≤ 1000) (hi : i + 1 ≤ 64)
    (ht : AtRx w0 tA t) (HP : Hid (pts.length = n)) (HT : Hid (t.length = nt)) (HX : Hid (t[i]? = some ⟨4, l, 1, k, most⟩)) (hk : k ≤ 16) (hm : most = -1 ∨ ((k : Int) ≤ most ∧ most ≤ 16))
    (HIH : Hid (ThrC w0 e0 e1 pm mb n tA EA pA nt ct ec cp t pts K (i + 1))) (W : World) (g o fc : Nat) (S X : Nat → Prop)
    (hE : WkE w0 W e0 e1 pm mb n tA EA pA nt ct ec cp t pts X) (hS : ∀ a, S a → a ≤ n) (hA : At W (some ⟨g, o, none⟩) RB (lst n S)) (hX : ¬ X g) :
    Calls Tryz.prog 145 #[.pointer (some ⟨pm, 0, none⟩), .int .i64 i, .slice (some ⟨g, o, none⟩) (n + 1) fc] W (fun e w' => ∃ b c, e = .returned (.slice (some ⟨b, 0, none⟩) (n + 1) c) ∧ BRow w' 4 b n (im (Ag (spT pts K) k most) S) ∧ ¬ X b ∧ WkE w0 w' e0 e1 pm mb n tA EA pA nt ct ec cp t pts X ∧ Fr mb W w') := by
  have hin : i < nt := by have := lt_of_get HX.out; rwa [HT.out] at this
  obtain ⟨b, off, kd, B, cs, m, l', many', least', most', rfl, H5, hset, HM, hmc, hkd, hma, hle, hmo, HX'⟩ := ht.g5 HT hin
  obtain ⟨rfl, rfl, rfl, rfl, rfl⟩ := Rx.mk.inj (Option.some.inj (HX'.out.symm.trans HX.out))
  obtain ⟨W1, hW1⟩ : ∃ W1, ((W.alloc (.cells #[.pointer (some ⟨pm, 0, none⟩)] 154)).alloc (.cells #[.int .i64 i] TI)).alloc (.cells #[.slice (some ⟨g, o, none⟩) (n + 1) fc] 24) = W1 := ⟨_, rfl⟩
  have hB1 : Below W.heap.size W W1 := by rw [← hW1]; exact (((Below.refl _ _).alloc (Nat.le_refl _) _).alloc (by simp) _).alloc (by simp; omega) _
  have BK : Blk W1 W.heap.size 154 #[.pointer (some ⟨pm, 0, none⟩)] ∧ Blk W1 (W.heap.size + 1) TI #[.int .i64 i] ∧ Blk W1 (W.heap.size + 1 + 1) 24 #[.slice (some ⟨g, o, none⟩) (n + 1) fc] := by rw [← hW1]; exact blk3 W _ _ _ _ _ _
  have hsz : W1.heap.size = W.heap.size + 1 + 1 + 1 := by rw [← hW1]; simp
  obtain ⟨y0, y1, y2, y3, y4, y5⟩ := H5.next (hE.kp.trans (Keep.of hB1))
  have E1 := hE.next hB1
  obtain ⟨hpm, m0, _, _, _⟩ := E1.cells
  have K1 : Hid (W1.drew.cell? ⟨W.heap.size, 0, none⟩ = some (.pointer (some ⟨pm, 0, none⟩)) ∧ W1.drew.cell? ⟨W.heap.size + 1, 0, none⟩ = some (.int .i64 i) ∧ W1.drew.cell? ⟨pm, 0, none⟩ = some (.slice (some ⟨b, off, none⟩) nt ct) ∧ W1.drew.cell? ⟨b, off + i * 5, none⟩ = some (.int .u8 4) ∧ W1.drew.cell? ⟨b, off + i * 5 + 1, none⟩ = some (.slice B m cs) ∧ W1.drew.cell? ⟨b, off + i * 5 + 2, none⟩ = some (.int .i64 1) ∧ W1.drew.cell? ⟨b, off + i * 5 + 3, none⟩ = some (.int .i64 k) ∧ W1.drew.cell? ⟨b, off + i * 5 + 4, none⟩ = some (.int .i64 most')) := Lib.hid ⟨BK.1.cell 0, BK.2.1.cell 0, m0, y1, y2, y3, y4, y5⟩
  have hlt5 : b < W1.heap.size := y0
  have HW1 := Lib.hid hW1; have HSZ := Lib.hid hsz; have BBK := Lib.hid BK; have EE1 := Lib.hid E1; have HB1 := Lib.hid hB1; have AT := Lib.hid hA; have NX := Lib.hid hX; have HSS := Lib.hid hS; have HE0 := Lib.hid hE
  clear H5 ht hset HX' y1 y2 y3 y4 y5 m0 hW1 hsz BK E1 hB1 hA hX hS hE hlt5 y0
  go_enter Tryz.func145, Tryz.ntmps145
  go_wp2_with fail
  go_step3
  go_wp2_with fail
  rw [HW1.out]
  refine wp_region_T 9 (fun W' => W'.cell? ⟨W.heap.size, 0, none⟩ = some (.pointer (some ⟨pm, 0, none⟩)) ∧ W'.cell? ⟨W.heap.size + 1, 0, none⟩ = some (.int .i64 i) ∧ W'.cell? ⟨pm, 0, none⟩ = some (.slice (some ⟨b, off, none⟩) nt ct) ∧ W'.cell? ⟨b, off + i * 5, none⟩ = some (.int .u8 4) ∧ W'.cell? ⟨b, off + i * 5 + 1, none⟩ = some (.slice B m cs) ∧ W'.cell? ⟨b, off + i * 5 + 2, none⟩ = some (.int .i64 1) ∧ W'.cell? ⟨b, off + i * 5 + 3, none⟩ = some (.int .i64 k) ∧ W'.cell? ⟨b, off + i * 5 + 4, none⟩ = some (.int .i64 most')) (by kernel_rfl) ?_
  refine wpAnyT_take (i := 0) (v := ?_) rfl (by kernel_rfl) (by kernel_rfl) (by kernel_rfl) (by kernel_rfl) (by kernel_rfl) (fun _ _ _ h => h) (.inl ⟨rfl, ?_⟩) K1.out ?_
  rotate_left
  · intro W__ hW__
    obtain ⟨h1, h2, h3, h4, h5, h6, h7, h8⟩ := hW__
    go_simp
    (try with_reducible rfl)
  simp only [Act.put, List.setIfInBounds_toArray]
  refine wpAnyT_take (i := 1) (v := ?_) rfl (by kernel_rfl) (by kernel_rfl) (by kernel_rfl) (by kernel_rfl) (by kernel_rfl) (fun _ _ _ h => h) (.inl ⟨rfl, ?_⟩) K1.out ?_
  rotate_left
  · intro W__ hW__
    obtain ⟨h1, h2, h3, h4, h5, h6, h7, h8⟩ := hW__
    go_simp
    (try with_reducible rfl)
  simp only [Act.put]
  refine wpAnyT_take (i := 2) (v := ?_) rfl (by kernel_rfl) (by kernel_rfl) (by kernel_rfl) (by kernel_rfl) (by kernel_rfl) (fun _ _ _ h => h) (.inl ⟨rfl, ?_⟩) K1.out ?_
  rotate_left
  · intro W__ hW__
    obtain ⟨h1, h2, h3, h4, h5, h6, h7, h8⟩ := hW__
    go_simp
    (try with_reducible rfl)
  simp only [Act.put]
  refine wpAnyT_take (i := 3) (v := ?_) rfl (by kernel_rfl) (by kernel_rfl) (by kernel_rfl) (by kernel_rfl) (by kernel_rfl) (fun _ _ _ h => h) (.inl ⟨rfl, ?_⟩) K1.out ?_
  rotate_left
  · intro W__ hW__
    obtain ⟨h1, h2, h3, h4, h5, h6, h7, h8⟩ := hW__
    go_simp
    (try with_reducible rfl)
  simp only [Act.put]
  refine wpAnyT_take (i := 4) (v := ?_) rfl (by kernel_rfl) (by kernel_rfl) (by kernel_rfl) (by kernel_rfl) (by kernel_rfl) (fun _ _ _ h => h) (.inl ⟨rfl, ?_⟩) K1.out ?_
  rotate_left
  · intro W__ hW__
    obtain ⟨h1, h2, h3, h4, h5, h6, h7, h8⟩ := hW__
    go_simp
    (try with_reducible rfl)
  simp only [Act.put]
  refine wpAnyT_take (i := 5) (v := ?_) rfl (by kernel_rfl) (by kernel_rfl) (by kernel_rfl) (by kernel_rfl) (by kernel_rfl) (fun _ _ _ h => h) (.inl ⟨rfl, ?_⟩) K1.out ?_
  rotate_left
  · intro W__ hW__
    obtain ⟨h1, h2, h3, h4, h5, h6, h7, h8⟩ := hW__
    go_simp
    (try with_reducible rfl)
  simp only [Act.put]
  refine wpAnyT_take (i := 6) (v := ?_) rfl (by kernel_rfl) (by kernel_rfl) (by kernel_rfl) (by kernel_rfl) (by kernel_rfl) (fun _ _ _ h => h) (.inl ⟨rfl, ?_⟩) K1.out ?_
  rotate_left
  · intro W__ hW__
    obtain ⟨h1, h2, h3, h4, h5, h6, h7, h8⟩ := hW__
    go_simp
    (try with_reducible rfl)
  simp only [Act.put]
  refine wpAnyT_take (i := 7) (v := ?_) rfl (by kernel_rfl) (by kernel_rfl) (by kernel_rfl) (by kernel_rfl) (by kernel_rfl) (fun _ _ _ h => h) (.inl ⟨rfl, ?_⟩) K1.out ?_
  rotate_left
  · intro W__ hW__
    obtain ⟨h1, h2, h3, h4, h5, h6, h7, h8⟩ := hW__
    go_simp
    (try with_reducible rfl)
  simp only [Act.put]
  have hA0 : Below W1.heap.size W1 (W1.alloc (.cells #[.int .u8 0, .slice none 0 0, .int .i64 0, .int .i64 0, .int .i64 0] 52)).drew := ((Below.refl _ _).alloc (Nat.le_refl _) _).drew
  have kpa := Keep.of hA0
  have K2 : Hid ((W1.alloc (.cells #[.int .u8 0, .slice none 0 0, .int .i64 0, .int .i64 0, .int .i64 0] 52)).drew.cell? ⟨W.heap.size, 0, none⟩ = some (.pointer (some ⟨pm, 0, none⟩)) ∧ (W1.alloc (.cells #[.int .u8 0, .slice none 0 0, .int .i64 0, .int .i64 0, .int .i64 0] 52)).drew.cell? ⟨W.heap.size + 1, 0, none⟩ = some (.int .i64 i) ∧ (W1.alloc (.cells #[.int .u8 0, .slice none 0 0, .int .i64 0, .int .i64 0, .int .i64 0] 52)).drew.cell? ⟨pm, 0, none⟩ = some (.slice (some ⟨b, off, none⟩) nt ct) ∧ (W1.alloc (.cells #[.int .u8 0, .slice none 0 0, .int .i64 0, .int .i64 0, .int .i64 0] 52)).drew.cell? ⟨b, off + i * 5, none⟩ = some (.int .u8 4) ∧ (W1.alloc (.cells #[.int .u8 0, .slice none 0 0, .int .i64 0, .int .i64 0, .int .i64 0] 52)).drew.cell? ⟨b, off + i * 5 + 1, none⟩ = some (.slice B m cs) ∧ (W1.alloc (.cells #[.int .u8 0, .slice none 0 0, .int .i64 0, .int .i64 0, .int .i64 0] 52)).drew.cell? ⟨b, off + i * 5 + 2, none⟩ = some (.int .i64 1) ∧ (W1.alloc (.cells #[.int .u8 0, .slice none 0 0, .int .i64 0, .int .i64 0, .int .i64 0] 52)).drew.cell? ⟨b, off + i * 5 + 3, none⟩ = some (.int .i64 k) ∧ (W1.alloc (.cells #[.int .u8 0, .slice none 0 0, .int .i64 0, .int .i64 0, .int .i64 0] 52)).drew.cell? ⟨b, off + i * 5 + 4, none⟩ = some (.int .i64 most')) := Lib.hid (by
    obtain ⟨f1, f2, f3, f4, f5, f6, f7, f8⟩ := K1.out
    have f4' : W1.cell? ⟨b, off + i * 5, none⟩ = some (.int .u8 4) := f4
    have hlb := World.block_lt_of_cell? _ _ f4'
    exact ⟨(kpa.cell _ _ BBK.out.1.lt).trans f1, (kpa.cell _ _ BBK.out.2.1.lt).trans f2, (kpa.cell _ _ EE1.out.b.lt).trans f3, (kpa.cell _ _ hlb).trans f4, (kpa.cell _ _ hlb).trans f5, (kpa.cell _ _ hlb).trans f6, (kpa.cell _ _ hlb).trans f7, (kpa.cell _ _ hlb).trans f8⟩)
  have BZ := Lib.hid (Blk.new W1 52 #[.int .u8 0, .slice none 0 0, .int .i64 0, .int .i64 0, .int .i64 0])
  have HA0 := Lib.hid hA0
  clear hA0 kpa
  refine wpAnyT_one (i := 8) rfl (by kernel_rfl) rfl fun K__ hK__ => ?_
  unfold Oper.wp
  go_simp
  refine hK__ _ _ (K2.out) ?_
  clear hK__
  try simp only [Act.put, List.setIfInBounds_toArray, List.set_cons_zero, List.set_cons_succ]
  have b70 := BZ.out.cell 0; have b71 := BZ.out.cell 1; have b72 := BZ.out.cell 2; have b73 := BZ.out.cell 3; have b74 := BZ.out.cell 4
  have f70 := BZ.out.frozen 0; have f71 := BZ.out.frozen 1; have f72 := BZ.out.frozen 2; have f73 := BZ.out.frozen 3; have f74 := BZ.out.frozen 4
  refine wpAnyT_end (i := 9) rfl (by kernel_rfl) rfl (by kernel_rfl) fun K__ hK__ => ?_
  unfold Oper.wp
  go_simp
  refine hK__ _ _ ?_
  clear hK__
  refine wpAnyT_done (by kernel_rfl) ?_ _
  have B4 := Lib.hid (HB1.out.trans ((((Below.refl W1.heap.size W1).alloc (Nat.le_refl _) (.cells #[.int .u8 4, .slice B m cs, .int .i64 1, .int .i64 k, .int .i64 most'] 52)).drew).mono HB1.out.size))
  have X4 := Lib.hid (show Blk (W1.alloc (.cells #[.int .u8 4, .slice B m cs, .int .i64 1, .int .i64 k, .int .i64 most'] 52)).drew W1.heap.size 52 _ from Blk.new W1 52 #[.int .u8 4, .slice B m cs, .int .i64 1, .int .i64 k, .int .i64 most'])
  have C3 := Lib.hid (show Blk (W1.alloc (.cells #[.int .u8 4, .slice B m cs, .int .i64 1, .int .i64 k, .int .i64 most'] 52)).drew _ _ _ from BBK.out.1.alloc _)
  have C4 := Lib.hid (show Blk (W1.alloc (.cells #[.int .u8 4, .slice B m cs, .int .i64 1, .int .i64 k, .int .i64 most'] 52)).drew _ _ _ from BBK.out.2.1.alloc _)
  have C5 := Lib.hid (show Blk (W1.alloc (.cells #[.int .u8 4, .slice B m cs, .int .i64 1, .int .i64 k, .int .i64 most'] 52)).drew _ _ _ from BBK.out.2.2.alloc _)
  have hsz4 : W.heap.size + 1 + 1 + 1 < (W1.alloc (.cells #[.int .u8 4, .slice B m cs, .int .i64 1, .int .i64 k, .int .i64 most'] 52)).drew.heap.size := by
    have h1 : (W1.alloc (.cells #[.int .u8 4, .slice B m cs, .int .i64 1, .int .i64 k, .int .i64 most'] 52)).drew.heap.size = W1.heap.size + 1 := by show (W1.alloc _).heap.size = _; simp
    rw [h1, HSZ.out]; omega
  have h7a : W.heap.size + 1 + 1 < W1.heap.size := by rw [HSZ.out]; omega
  have h7b : W1.heap.size < (W1.alloc (.cells #[.int .u8 4, .slice B m cs, .int .i64 1, .int .i64 k, .int .i64 most'] 52)).drew.heap.size := by show _ < (W1.alloc _).heap.size; simp
  clear b70 b71 b72 b73 b74 f70 f71 f72 f73 f74 K1 K2 BZ HA0
  generalize (W1.alloc (.cells #[.int .u8 4, .slice B m cs, .int .i64 1, .int .i64 k, .int .i64 most'] 52)).drew = w4 at *
  generalize W1.heap.size = b7 at *
  have h45 : Below w4.heap.size w4 (w4.alloc (.cells #[.bool false] 4)) := (Below.refl _ _).alloc (Nat.le_refl _) _
  have E5 := Lib.hid ((HE0.out.more (b := W.heap.size + 1 + 1) (by omega) B4.out (by omega)).more (b := w4.heap.size) (Nat.le_refl _) h45 (by simp))
  have O5 : Hid (OnB (w4.alloc (.cells #[.bool false] 4)) W.heap.size (W.heap.size + 1) (W.heap.size + 1 + 1) w4.heap.size pm i n g o fc false) := Lib.hid ⟨C3.out.alloc _, C4.out.alloc _, C5.out.alloc _, Blk.new w4 4 #[.bool false]⟩
  have A5 := Lib.hid (AT.out.keep ((Keep.of B4.out).trans (Keep.of h45)))
  have X5 := Lib.hid (X4.out.alloc (.cells #[.bool false] 4))
  have F5 := Lib.hid ((Fr.of (mb := mb) B4.out).trans (Fr.of h45))
  have hgX : ¬ ((X g ∨ g = W.heap.size + 1 + 1) ∨ g = w4.heap.size) := by
    have := At.lt AT.out
    rintro ((h | h) | h)
    · exact NX.out h
    · omega
    · omega
  have HGX := Lib.hid hgX
  have hge := HE0.out.ge
  have hlm := HE0.out.lm
  have HFB := Lib.hid (show ∀ q a, Fq pts K S q a → a ≤ n from fun q a h => by have := Fq.in (pts := pts) (K := K) (S := S) (fun a h => by rw [HP.out]; exact HSS.out a h) q a h; rwa [HP.out] at this)
  have HSM := Lib.hid (show ∀ q, lst n (Fq pts K S (q + 1)) = lst n (Fq pts K S q) → ∀ a, Fq pts K S (q + 1) a ↔ Fq pts K S q a from fun q h a => Fq.same (pts := pts) (fun a h => by rw [HP.out]; exact HSS.out a h) (by rw [HP.out]; exact h) a)
  clear h45 hgX
  go_wp2
  go_loopw [10] (fun iv wr => ∃ (q g o fc : Nat) (v : Bool), iv = .int .i64 q ∧ q ≤ k ∧ OnB wr W.heap.size (W.heap.size + 1) (W.heap.size + 1 + 1) w4.heap.size pm i n g o fc v ∧ (v = true → ∃ d, q = d + 1 ∧ ∀ a, Fq pts K S (d + 1) a ↔ Fq pts K S d a) ∧ At wr (some ⟨g, o, none⟩) RB (lst n (Fq pts K S q)) ∧ ¬ ((X g ∨ g = W.heap.size + 1 + 1) ∨ g = w4.heap.size) ∧ WkE w0 wr e0 e1 pm mb n (some ⟨b, off, none⟩) EA pA nt ct ec cp t pts (fun x => (X x ∨ x = W.heap.size + 1 + 1) ∨ x = w4.heap.size) ∧ Blk wr b7 52 #[.int .u8 4, .slice B m cs, .int .i64 1, .int .i64 k, .int .i64 most'] ∧ Fr mb W wr) (fun iv _ => k - (intOf iv).toNat)
  case atStart => exact ⟨0, g, o, fc, false, rfl, by omega, O5.out, (fun h => by cases h), (by rw [Fq.zero]; exact A5.out), HGX.out, E5.out, X5.out, F5.out⟩
  case round =>
    obtain ⟨q, g1, o1, c1, v, rfl, hq, hob, hv, hat, hgx, hwe, hbx, hfr⟩ := hrel
    have OB := Lib.hid hob; have HV := Lib.hid hv; have A1 := Lib.hid hat; have GX := Lib.hid hgx; have EE := Lib.hid hwe; have BX := Lib.hid hbx; have FF := Lib.hid hfr
    clear hob hv hat hgx hwe hbx hfr
    have c5 := OB.out.c5.cell 0
    have c8 := OB.out.c8.cell 0
    have f8 := OB.out.c8.frozen 0
    obtain ⟨x0, x1, x2, x3, x4⟩ := blk_five BX.out
    by_cases hgo : q < k ∧ v = false
    · obtain ⟨hlt, rfl⟩ := hgo
      have HC := Lib.hid (tongue_once w0 e0 e1 pm mb n (some ⟨b, off, none⟩) EA pA nt ct ec cp t pts K i hn hi HIH wr W W.heap.size (W.heap.size + 1) (W.heap.size + 1 + 1) w4.heap.size g1 o1 c1 false (Fq pts K S q) _ OB.out (by omega) (by omega) (by omega) (by omega) (by omega) EE.out (HFB.out q) A1.out GX.out (.inl (.inr rfl)) (.inr rfl) hge (by omega) FF.out (by omega) (by omega))
      go_wp2_with fail
      refine HC.out.mono ?_
      rintro e w6 ⟨⟨rv, rfl⟩, g2, o2, c2, v2, ob2, hv2, at2, gx2, we2, bt2, fr2⟩
      rw [Fq.next] at at2 hv2
      have OB2 := Lib.hid ob2; have A2 := Lib.hid at2; have E2 := Lib.hid we2; have F2 := Lib.hid (fr2 rfl); have GX2 := Lib.hid gx2
      have V2 := Lib.hid (show v2 = true → ∃ d, q + 1 = d + 1 ∧ ∀ a, Fq pts K S (d + 1) a ↔ Fq pts K S d a from fun h => ⟨q, rfl, HSM.out q (hv2.1 h)⟩)
      have BX2 := Lib.hid (bt2.blk BX.out (by rintro (h | h | h) <;> omega))
      clear ob2 hv2 at2 gx2 we2 bt2 fr2 c5 c8 f8 x0 x1 x2 x3 x4
      go_wp2
      go_roundw
      case rel => exact ⟨q + 1, g2, o2, c2, v2, by go_num, by omega, OB2.out, V2.out, A2.out, GX2.out, E2.out, BX2.out, F2.out⟩
      case measure => simp [intOf]; omega
    have HFK := Lib.hid (show ∀ a, Fq pts K S q a ↔ Fq pts K S k a from fun a => by
      cases v with
      | false =>
        have : q = k := by
          by_cases h : q < k
          · exact absurd ⟨h, rfl⟩ hgo
          · omega
        subst this; exact Iff.rfl
      | true =>
        obtain ⟨d, rfl, hd⟩ := HV.out rfl
        obtain ⟨e, rfl⟩ : ∃ e, k = d + e := ⟨k - d, by omega⟩
        rw [Fs.stay Fq.step hd e a, hd a])
    have HCL := Lib.hid (clone_bool g1 o1 c1 n (Fq pts K S q) wr hn A1.out)
    have hcase : (q < k ∧ v = true) ∨ ¬ q < k := by
      cases v with
      | false => exact .inr fun h => hgo ⟨h, rfl⟩
      | true =>
        by_cases h : q < k
        · exact .inl ⟨h, rfl⟩
        · exact .inr h
    have h8r := OB.out.c8.lt
    have h7r := BX.out.lt
    clear hgo
    rcases hcase with ⟨hlt, rfl⟩ | hnl
    all_goals
      go_wp2_with fail
      refine HCL.out.mono ?_
      rintro e w6 ⟨ba, ca, rfl, hba, rowb, hb6⟩
      have R6 := rowb.congr (S' := Uq pts K S k k) (fun a _ => by rw [HFK.out a]; exact Uq.start k a)
      have E6 := EE.out.more (b := ba) hba hb6 rowb.lt
      have O7 := Only.set1 w6 w4.heap.size 0 (.bool false)
      have E7 := Lib.hid (E6.write O7 (.inl (.inr rfl)))
      have R7 := Lib.hid (R6.of (O7.block ba rowb.lt (by omega)))
      have g1r := At.lt A1.out
      have A7 := Lib.hid (At.only (A1.out.keep (Keep.of hb6)) O7 (fun h => GX.out (.inr h)))
      rw [lst_ext (S' := Fq pts K S k) (fun a _ => HFK.out a)] at A7
      have OB6 : OnB w6 W.heap.size (W.heap.size + 1) (W.heap.size + 1 + 1) w4.heap.size pm i n g1 o1 c1 _ := ⟨OB.out.c3.below hb6 OB.out.c3.lt, OB.out.c4.below hb6 OB.out.c4.lt, OB.out.c5.below hb6 OB.out.c5.lt, OB.out.c8.below hb6 OB.out.c8.lt⟩
      have OB7 : Hid (OnB (w6.setCell ⟨w4.heap.size, 0, none⟩ (.bool false)) W.heap.size (W.heap.size + 1) (W.heap.size + 1 + 1) w4.heap.size pm i n g1 o1 c1 false) := Lib.hid ⟨OB6.c3.far (p := ⟨w4.heap.size, 0, none⟩) (by simp only; omega) _, OB6.c4.far (p := ⟨w4.heap.size, 0, none⟩) (by simp only; omega) _, OB6.c5.far (p := ⟨w4.heap.size, 0, none⟩) (by simp only; omega) _, OB6.c8.set 0 (.bool false)⟩
      have X7 := Lib.hid ((BX.out.below hb6 BX.out.lt).far (p := ⟨w4.heap.size, 0, none⟩) (by simp only; omega) (.bool false))
      have F7 := Lib.hid ((FF.out.trans (Fr.of hb6)).write O7 (by omega))
      have GX7 := Lib.hid (show ¬ (((X g1 ∨ g1 = W.heap.size + 1 + 1) ∨ g1 = w4.heap.size) ∨ g1 = ba) from by rintro (h | h); exact GX.out h; omega)
      have hbaW : W.heap.size ≤ ba := by omega
      have HNB := Lib.hid (show ¬ X ba from fun h => by have := HE0.out.hi ba h; omega)
      have k8 := OB6.c8.cell 0; have f8' := OB6.c8.frozen 0
      obtain ⟨z0, z1, z2, z3, z4⟩ := blk_five (BX.out.below hb6 BX.out.lt)
      obtain ⟨u0, u1, u2, u3, u4⟩ := blk_five X7.out
      clear rowb hb6 R6 E6 O7 OB6 c5 c8 f8 x0 x1 x2 x3 x4
      go_wp2
      go_step3
      go_wp2
      clear k8 f8' z0 z1 z2 z3 z4
      generalize w6.setCell ⟨w4.heap.size, 0, none⟩ (.bool false) = w7 at *
      go_loopw [12] (fun cv wr => ∃ (c g o fc : Nat), cv = .int .i64 c ∧ k ≤ c ∧ (0 ≤ most' → (c : Int) ≤ most') ∧ (most' < 0 → c + cnt n (Uq pts K S k k) ≤ cnt n (Uq pts K S k c) + k) ∧ OnB wr W.heap.size (W.heap.size + 1) (W.heap.size + 1 + 1) w4.heap.size pm i n g o fc false ∧ At wr (some ⟨g, o, none⟩) RB (lst n (Fq pts K S c)) ∧ ¬ (((X g ∨ g = W.heap.size + 1 + 1) ∨ g = w4.heap.size) ∨ g = ba) ∧ BRow wr 4 ba n (Uq pts K S k c) ∧ WkE w0 wr e0 e1 pm mb n (some ⟨b, off, none⟩) EA pA nt ct ec cp t pts (fun x => (((X x ∨ x = W.heap.size + 1 + 1) ∨ x = w4.heap.size) ∨ x = ba)) ∧ Blk wr b7 52 #[.int .u8 4, .slice B m cs, .int .i64 1, .int .i64 k, .int .i64 most'] ∧ Fr mb W wr) (fun cv _ => (k + n + 100) - (intOf cv).toNat)
      case atStart => exact ⟨k, g1, o1, c1, rfl, Nat.le_refl _, by omega, fun _ => by omega, OB7.out, A7.out, GX7.out, R7.out, E7.out, X7.out, F7.out⟩
      case round =>
        clear u0 u1 u2 u3 u4
        obtain ⟨c, g3, o3, c3, rfl, hkc, hcm, hcn, hob, hat, hgx, hrow, hwe, hbx, hfr⟩ := hrel
        have OB3 := Lib.hid hob; have A3 := Lib.hid hat; have GX3 := Lib.hid hgx; have R3 := Lib.hid hrow; have E3 := Lib.hid hwe; have BX3 := Lib.hid hbx; have F3 := Lib.hid hfr
        have HCN := Lib.hid hcn
        have HCB := Lib.hid (show c ≤ k + n + 20 from by
          by_cases h : most' < 0
          · have := hcn h; have := cnt_le n (Uq pts K S k c); omega
          · have := hcm (by omega); omega)
        have hcb := HCB.out
        clear hob hat hgx hrow hwe hbx hfr hcn
        have c5 := OB3.out.c5.cell 0
        have c8 := OB3.out.c8.cell 0
        have f8 := OB3.out.c8.frozen 0
        obtain ⟨x0, x1, x2, x3, x4⟩ := blk_five BX3.out
        by_cases hms : most' < 0
        · have HMS := Lib.hid hms
          have HC := Lib.hid (tongue_once w0 e0 e1 pm mb n (some ⟨b, off, none⟩) EA pA nt ct ec cp t pts K i hn hi HIH wr W W.heap.size (W.heap.size + 1) (W.heap.size + 1 + 1) w4.heap.size g3 o3 c3 false (Fq pts K S c) _ OB3.out (by omega) (by omega) (by omega) (by omega) (by omega) E3.out (HFB.out c) A3.out GX3.out (.inl (.inl (.inr rfl))) (.inl (.inr rfl)) hge (by omega) F3.out (by omega) (by omega))
          go_wp2_with fail
          refine HC.out.mono ?_
          rintro e w8 ⟨⟨rv, rfl⟩, g4, o4, c4, v4, ob4, hv4, at4, gx4, we4, bt4, fr4⟩
          rw [Fq.next] at at4 hv4
          have R4 := Lib.hid (bt4.row R3.out (by rintro (h | h | h) <;> omega))
          have X4' := Lib.hid (bt4.blk BX3.out (by rintro (h | h | h) <;> omega))
          have OB4 := Lib.hid ob4; have A4 := Lib.hid at4; have E4 := Lib.hid we4; have F4 := Lib.hid (fr4 rfl); have GX4 := Lib.hid gx4; have V4 := Lib.hid hv4
          have HAD := Lib.hid (tongue_add ba n ca c4 (some ⟨g4, o4, none⟩) _ _ w8 hn R4.out at4 (fun g' o' e => by
            injection e with e; injection e with e1 _
            subst e1
            exact fun h => gx4 (.inr h)))
          have d5 := OB4.out.c5.cell 0
          clear ob4 hv4 at4 gx4 we4 bt4 fr4 c5 c8 f8 x0 x1 x2 x3 x4
          by_cases hgr : ∃ a, a ≤ n ∧ Fq pts K S (c + 1) a ∧ ¬ Uq pts K S k c a
          · rw [yes_t hgr] at HAD
            have HV4 : v4 = false := by
              cases v4 with
              | false => rfl
              | true =>
                obtain ⟨a, _, h2, h3⟩ := hgr
                exact absurd ⟨c, hkc, Nat.le_refl _, (HSM.out c (V4.out.1 rfl) a).1 h2⟩ h3
            subst HV4
            have HGR := Lib.hid hgr
            clear hgr
            go_wp2_with fail
            refine HAD.out.mono ?_
            rintro e w9 ⟨rfl, r9, o9⟩
            have R9 := Lib.hid (r9.congr (fun a _ => Uq.succ hkc a))
            have A9 := Lib.hid (At.only A4.out o9 (fun h => GX4.out (.inr h)))
            have E9 := Lib.hid (E4.out.write o9 (.inr rfl))
            have F9 := Lib.hid (F4.out.write o9 (by omega))
            have OB9 : Hid (OnB w9 W.heap.size (W.heap.size + 1) (W.heap.size + 1 + 1) w4.heap.size pm i n g4 o4 c4 _) := Lib.hid ⟨o9.blk OB4.out.c3 (by omega), o9.blk OB4.out.c4 (by omega), o9.blk OB4.out.c5 (by omega), o9.blk OB4.out.c8 (by omega)⟩
            have X9 := Lib.hid (o9.blk X4'.out (by omega))
            obtain ⟨x0, x1, x2, x3, x4⟩ := blk_five X9.out
            have c8 := OB9.out.c8.cell 0
            clear r9 o9 d5
            have HC1 := Lib.hid (show most' < 0 → c + 1 + cnt n (Uq pts K S k k) ≤ cnt n (Uq pts K S k (c + 1)) + k from fun h => by
              obtain ⟨a, h1, h2, h3⟩ := HGR.out
              have := cnt_lt (n := n) (S := Uq pts K S k c) (S' := Uq pts K S k (c + 1)) (fun a h => (Uq.succ hkc a).1 (.inl h)) h1 ((Uq.succ hkc a).1 (.inr h2)) h3
              have := HCN.out h; omega)
            go_wp2
            go_roundw
            case rel => exact ⟨c + 1, g4, o4, c4, by go_num, by omega, by omega, HC1.out, OB9.out, A9.out, GX4.out, R9.out, E9.out, X9.out, F9.out⟩
            case measure => have h1 := HCB.out; simp [intOf]; omega
          · rw [yes_f hgr] at HAD
            have HGR := Lib.hid hgr
            clear hgr
            go_wp2_with fail
            refine HAD.out.mono ?_
            rintro e w9 ⟨rfl, r9, o9⟩
            have R9 := Lib.hid (r9.congr (fun a _ => Uq.succ hkc a))
            have A9 := Lib.hid (At.only A4.out o9 (fun h => GX4.out (.inr h)))
            have E9 := Lib.hid (E4.out.write o9 (.inr rfl))
            have F9 := Lib.hid (F4.out.write o9 (by omega))
            have OB9 : Hid (OnB w9 W.heap.size (W.heap.size + 1) (W.heap.size + 1 + 1) w4.heap.size pm i n g4 o4 c4 _) := Lib.hid ⟨o9.blk OB4.out.c3 (by omega), o9.blk OB4.out.c4 (by omega), o9.blk OB4.out.c5 (by omega), o9.blk OB4.out.c8 (by omega)⟩
            have X9 := Lib.hid (o9.blk X4'.out (by omega))
            obtain ⟨x0, x1, x2, x3, x4⟩ := blk_five X9.out
            have c8 := OB9.out.c8.cell 0
            clear r9 o9 d5
            have FIN := Lib.hid (R9.out.congr (fun a _ => Uq.shut (most := most') HMS.out hkc (fun a ha => by
              refine Classical.byContradiction fun hn' => HGR.out ⟨a, HFB.out _ _ ha, ha, hn'⟩) a))
            go_wp2
            try rw [Exit.noGoto_ret]
            go_ret
            exact ⟨ba, ca, rfl, FIN.out, HNB.out, E9.out.weak (fun x hx => .inl (.inl (.inl hx))), F9.out⟩
        · by_cases hcl : (c : Int) < most'
          · have HMC := Lib.hid hcl
            have HC := Lib.hid (tongue_once w0 e0 e1 pm mb n (some ⟨b, off, none⟩) EA pA nt ct ec cp t pts K i hn hi HIH wr W W.heap.size (W.heap.size + 1) (W.heap.size + 1 + 1) w4.heap.size g3 o3 c3 false (Fq pts K S c) _ OB3.out (by omega) (by omega) (by omega) (by omega) (by omega) E3.out (HFB.out c) A3.out GX3.out (.inl (.inl (.inr rfl))) (.inl (.inr rfl)) hge (by omega) F3.out (by omega) (by omega))
            go_wp2_with fail
            refine HC.out.mono ?_
            rintro e w8 ⟨⟨rv, rfl⟩, g4, o4, c4, v4, ob4, hv4, at4, gx4, we4, bt4, fr4⟩
            rw [Fq.next] at at4 hv4
            have R4 := Lib.hid (bt4.row R3.out (by rintro (h | h | h) <;> omega))
            have X4' := Lib.hid (bt4.blk BX3.out (by rintro (h | h | h) <;> omega))
            have OB4 := Lib.hid ob4; have A4 := Lib.hid at4; have E4 := Lib.hid we4; have F4 := Lib.hid (fr4 rfl); have GX4 := Lib.hid gx4; have V4 := Lib.hid hv4
            have HAD := Lib.hid (tongue_add ba n ca c4 (some ⟨g4, o4, none⟩) _ _ w8 hn R4.out at4 (fun g' o' e => by
              injection e with e; injection e with e1 _
              subst e1
              exact fun h => gx4 (.inr h)))
            have d5 := OB4.out.c5.cell 0
            clear ob4 hv4 at4 gx4 we4 bt4 fr4 c5 c8 f8 x0 x1 x2 x3 x4
            generalize yes (∃ a, a ≤ n ∧ Fq pts K S (c + 1) a ∧ ¬ Uq pts K S k c a) = gv at *
            cases gv <;> cases v4
            case false.false =>
              go_wp2_with fail
              refine HAD.out.mono ?_
              rintro e w9 ⟨rfl, r9, o9⟩
              have R9 := Lib.hid (r9.congr (fun a _ => Uq.succ hkc a))
              have A9 := Lib.hid (At.only A4.out o9 (fun h => GX4.out (.inr h)))
              have E9 := Lib.hid (E4.out.write o9 (.inr rfl))
              have F9 := Lib.hid (F4.out.write o9 (by omega))
              have OB9 : Hid (OnB w9 W.heap.size (W.heap.size + 1) (W.heap.size + 1 + 1) w4.heap.size pm i n g4 o4 c4 _) := Lib.hid ⟨o9.blk OB4.out.c3 (by omega), o9.blk OB4.out.c4 (by omega), o9.blk OB4.out.c5 (by omega), o9.blk OB4.out.c8 (by omega)⟩
              have X9 := Lib.hid (o9.blk X4'.out (by omega))
              obtain ⟨x0, x1, x2, x3, x4⟩ := blk_five X9.out
              have c8 := OB9.out.c8.cell 0
              clear r9 o9 d5
              go_wp2
              go_roundw
              case rel => exact ⟨c + 1, g4, o4, c4, by go_num, by omega, by omega, fun h => by omega, OB9.out, A9.out, GX4.out, R9.out, E9.out, X9.out, F9.out⟩
              case measure => have h1 := HCB.out; simp [intOf]; omega
            case true.false =>
              go_wp2_with fail
              refine HAD.out.mono ?_
              rintro e w9 ⟨rfl, r9, o9⟩
              have R9 := Lib.hid (r9.congr (fun a _ => Uq.succ hkc a))
              have A9 := Lib.hid (At.only A4.out o9 (fun h => GX4.out (.inr h)))
              have E9 := Lib.hid (E4.out.write o9 (.inr rfl))
              have F9 := Lib.hid (F4.out.write o9 (by omega))
              have OB9 : Hid (OnB w9 W.heap.size (W.heap.size + 1) (W.heap.size + 1 + 1) w4.heap.size pm i n g4 o4 c4 _) := Lib.hid ⟨o9.blk OB4.out.c3 (by omega), o9.blk OB4.out.c4 (by omega), o9.blk OB4.out.c5 (by omega), o9.blk OB4.out.c8 (by omega)⟩
              have X9 := Lib.hid (o9.blk X4'.out (by omega))
              obtain ⟨x0, x1, x2, x3, x4⟩ := blk_five X9.out
              have c8 := OB9.out.c8.cell 0
              clear r9 o9 d5
              go_wp2
              go_roundw
              case rel => exact ⟨c + 1, g4, o4, c4, by go_num, by omega, by omega, fun h => by omega, OB9.out, A9.out, GX4.out, R9.out, E9.out, X9.out, F9.out⟩
              case measure => have h1 := HCB.out; simp [intOf]; omega
            case false.true =>
              go_wp2_with fail
              refine HAD.out.mono ?_
              rintro e w9 ⟨rfl, r9, o9⟩
              have R9 := Lib.hid (r9.congr (fun a _ => Uq.succ hkc a))
              have A9 := Lib.hid (At.only A4.out o9 (fun h => GX4.out (.inr h)))
              have E9 := Lib.hid (E4.out.write o9 (.inr rfl))
              have F9 := Lib.hid (F4.out.write o9 (by omega))
              have OB9 : Hid (OnB w9 W.heap.size (W.heap.size + 1) (W.heap.size + 1 + 1) w4.heap.size pm i n g4 o4 c4 _) := Lib.hid ⟨o9.blk OB4.out.c3 (by omega), o9.blk OB4.out.c4 (by omega), o9.blk OB4.out.c5 (by omega), o9.blk OB4.out.c8 (by omega)⟩
              have X9 := Lib.hid (o9.blk X4'.out (by omega))
              obtain ⟨x0, x1, x2, x3, x4⟩ := blk_five X9.out
              have c8 := OB9.out.c8.cell 0
              clear r9 o9 d5
              have FIN := Lib.hid (R9.out.congr (fun a _ => Uq.still (most := most') (.inr (by have := HMC.out; omega)) hkc (HSM.out c (by have := V4.out; simpa using this)) a))
              go_wp2
              try rw [Exit.noGoto_ret]
              go_ret
              exact ⟨ba, ca, rfl, FIN.out, HNB.out, E9.out.weak (fun x hx => .inl (.inl (.inl hx))), F9.out⟩
            case true.true =>
              go_wp2_with fail
              refine HAD.out.mono ?_
              rintro e w9 ⟨rfl, r9, o9⟩
              have R9 := Lib.hid (r9.congr (fun a _ => Uq.succ hkc a))
              have A9 := Lib.hid (At.only A4.out o9 (fun h => GX4.out (.inr h)))
              have E9 := Lib.hid (E4.out.write o9 (.inr rfl))
              have F9 := Lib.hid (F4.out.write o9 (by omega))
              have OB9 : Hid (OnB w9 W.heap.size (W.heap.size + 1) (W.heap.size + 1 + 1) w4.heap.size pm i n g4 o4 c4 _) := Lib.hid ⟨o9.blk OB4.out.c3 (by omega), o9.blk OB4.out.c4 (by omega), o9.blk OB4.out.c5 (by omega), o9.blk OB4.out.c8 (by omega)⟩
              have X9 := Lib.hid (o9.blk X4'.out (by omega))
              obtain ⟨x0, x1, x2, x3, x4⟩ := blk_five X9.out
              have c8 := OB9.out.c8.cell 0
              clear r9 o9 d5
              have FIN := Lib.hid (R9.out.congr (fun a _ => Uq.still (most := most') (.inr (by have := HMC.out; omega)) hkc (HSM.out c (by have := V4.out; simpa using this)) a))
              go_wp2
              try rw [Exit.noGoto_ret]
              go_ret
              exact ⟨ba, ca, rfl, FIN.out, HNB.out, E9.out.weak (fun x hx => .inl (.inl (.inl hx))), F9.out⟩
          · have hcm2 : (c : Int) = most' := by have := hcm (by omega); omega
            have HM2 := Lib.hid hcm2
            clear hcm2
            have FIN := Lib.hid (R3.out.congr (fun a _ => Uq.all (most := most') hkc (.inr (by have := HM2.out; omega)) (fun m a h1 h2 h3 => ⟨m, h1, by have := HM2.out; omega, h3⟩) a))
            go_wp2
            try rw [Exit.noGoto_ret]
            go_ret
            exact ⟨ba, ca, rfl, FIN.out, HNB.out, E3.out.weak (fun x hx => .inl (.inl (.inl hx))), F3.out⟩

end Go.Proofs.YtilhicefhhgecaaGreatDoor
