/- Walks: through what is repeated, by the map of what was seen (the program's). -/
import Derived.Test.YtilhicefhhgecaaGreatDoorTum
import Derived.Test.YtilhicefhhgecaaGreatDoorTjm
namespace Go.Proofs.YtilhicefhhgecaaGreatDoor
open Go.RowKit Go.ChangeMaps Pv

abbrev TAsk : TypeId := 219
abbrev TSeen : TypeId := 213
theorem WkE.lookup {w0 W : World} {e0 e1 pm mb n : Nat} {tA EA pA : Option Addr} {nt ct ec cp : Nat} {t : List Rx} {pts : List Int} {X S : Nat → Prop} {i : Nat} {T : Tr} (h : WkE w0 W e0 e1 pm mb n tA EA pA nt ct ec cp t pts X) (hn : n ≤ 1000) (hP : PlaceAt t i T) (hS : ∀ a, S a → a ≤ n) :
    ((Instr.lookup TSeen (.map (some mb)) (.agg #[.int .i64 i, .string (strOfNums (bitN n S))]) true).run Tryz.prog W = .ok (.tuple #[.slice none 0 0, .bool false]) W) ∨
    ∃ g o c, (Instr.lookup TSeen (.map (some mb)) (.agg #[.int .i64 i, .string (strOfNums (bitN n S))]) true).run Tryz.prog W = .ok (.tuple #[.slice (some ⟨g, o, none⟩) (n + 1) c, .bool true]) W ∧ At W (some ⟨g, o, none⟩) RB (lst n (im (spT pts T) S)) ∧ ¬ X g := by
  show ((Instr.lookup TSeen (.map (some mb)) (seenKey i (strOfNums (bitN n S))) true).run Tryz.prog W = .ok (.tuple #[.slice none 0 0, .bool false]) W) ∨
    ∃ g o c, (Instr.lookup TSeen (.map (some mb)) (seenKey i (strOfNums (bitN n S))) true).run Tryz.prog W = .ok (.tuple #[.slice (some ⟨g, o, none⟩) (n + 1) c, .bool true]) W ∧ At W (some ⟨g, o, none⟩) RB (lst n (im (spT pts T) S)) ∧ ¬ X g
  obtain ⟨es, clock, hb, hes⟩ := h.seen
  obtain ⟨l, hl⟩ := seen_at (S := S) hn hP.2.1
  rcases seen_law.find W hl es.toList (fun e he => (hes e he).1.key hn) with ⟨h1, _⟩ | ⟨j, e0', h1, h2, h3⟩
  · exact .inl (by simp [Instr.lookup, run_underlying Tryz.underlying213, MapKept.run_getObj_map hb, seen_law.check W _ hl, h1, Result.andThen])
  · have hm0 : e0' ∈ es.toList := List.mem_of_getElem? h2
    obtain ⟨A, c, h4, h5⟩ := (hes e0' hm0).1.val hP hS h3
    obtain ⟨g, o, e, _, _⟩ := h5.2 (by rw [lst_len]; omega)
    subst e
    rw [h4] at h1
    exact .inr ⟨g, o, c, by simp [Instr.lookup, run_underlying Tryz.underlying213, MapKept.run_getObj_map hb, seen_law.check W _ hl, h1, Result.andThen], h5, (hes e0' hm0).2 g o _ c h4⟩

set_option maxHeartbeats 2000000 in
set_option maxRecDepth 100000 in
theorem thr_rep (w0 : World) (e0 e1 pm mb n : Nat) (tA EA pA : Option Addr) (nt ct ec cp : Nat) (t : List Rx) (pts : List Int) (i k : Nat) (l : List Rng) (most : Int) (K : Tr) (hn : n ≤ 1000) (hi : i + 1 ≤ 64)
    (ht : AtRx w0 tA t) (HP : Hid (pts.length = n)) (HT : Hid (t.length = nt)) (HX : Hid (t[i]? = some ⟨4, l, 1, k, most⟩)) (hk : k ≤ 16) (hm : most = -1 ∨ ((k : Int) ≤ most ∧ most ≤ 16)) (hPl : PlaceAt t i (.mk ⟨4, l, 1, k, most⟩ [K]))
    (HIH : Hid (ThrC w0 e0 e1 pm mb n tA EA pA nt ct ec cp t pts K (i + 1))) : ThrC w0 e0 e1 pm mb n tA EA pA nt ct ec cp t pts (.mk ⟨4, l, 1, k, most⟩ [K]) i := by
  intro W g o fc S X hE hS hA hX
  have HRP := Lib.hid (fun (W' : World) (hE' : WkE w0 W' e0 e1 pm mb n tA EA pA nt ct ec cp t pts X) (hA' : At W' (some ⟨g, o, none⟩) RB (lst n S)) => tongue_repeat w0 e0 e1 pm mb n tA EA pA nt ct ec cp t pts K i k l most hn hi ht HP HT HX hk hm HIH W' g o fc S X hE' hS hA' hX)
  have hin : i < nt := by have := lt_of_get HX.out; rwa [HT.out] at this
  obtain ⟨b, off, kd, B, cs, m, l', many', least', most', rfl, H5, hset, HM, hmc, hkd, hma, hle, hmo, HX'⟩ := ht.g5 HT hin
  obtain ⟨rfl, rfl, rfl, rfl, rfl⟩ := Rx.mk.inj (Option.some.inj (HX'.out.symm.trans HX.out))
  obtain ⟨y0, y1, y2, y3, y4, y5⟩ := H5.next hE.kp
  obtain ⟨hpm, m0, m1, m2, m3⟩ := hE.cells
  have hW : Below W.heap.size W (W.alloc (.cells #[.int .u8 4, .slice B m cs, .int .i64 1, .int .i64 k, .int .i64 most'] 52)) := (Below.refl _ _).alloc (Nat.le_refl _) _
  have HWR := Lib.hid (tongue_written (some ⟨g, o, none⟩) fc n S _ hn (hA.keep (Keep.of hW)))
  have EE := Lib.hid hE; have HW := Lib.hid hW; have AT := Lib.hid hA; have HPL := Lib.hid hPl; have HSS := Lib.hid hS
  have HRI := Lib.hid (show ∀ a, a ≤ n → (im (Ag (spT pts K) k most') S a ↔ im (spT pts (.mk ⟨4, l', 1, k, most'⟩ [K])) S a) from fun a _ => by
    have h1 : spHd pts [K] = spT pts K := by funext a b; rw [spHd]
    have h2 : spT pts (.mk ⟨4, l', 1, k, most'⟩ [K]) = Ag (spT pts K) k most' := by
      funext c d
      rw [spT, if_neg (by simp), if_neg (by simp), if_neg (by simp), if_neg (by simp), h1]; simp
    rw [h2])
  clear H5 ht hset HX' hE hA hW hPl hS
  go_enter Tryz.func102, Tryz.ntmps102
  go_wp2_with fail
  refine HWR.out.mono ?_
  rintro e w2 ⟨rfl, hb2⟩
  have hB2 := HW.out.trans (hb2.mono HW.out.size)
  obtain ⟨s, hs⟩ : ∃ s, strOfNums (bitN n S) = s := ⟨_, rfl⟩
  have hal : Below w2.heap.size w2 (w2.alloc (.cells #[.int .i64 i, .string s] TAsk)) := (Below.refl _ _).alloc (Nat.le_refl _) _
  have hB3 : Below W.heap.size W (w2.alloc (.cells #[.int .i64 i, .string s] TAsk)).drew := (hB2.trans (hal.mono hB2.size)).drew
  have E3 := Lib.hid (EE.out.next hB3)
  have A3 := Lib.hid (AT.out.keep (Keep.of hB3))
  have F3 := Lib.hid (Fr.of (mb := mb) hB3)
  have BK := Lib.hid (show Blk (w2.alloc (.cells #[.int .i64 i, .string s] TAsk)).drew w2.heap.size TAsk #[.int .i64 i, .string s] from Blk.new w2 TAsk #[.int .i64 i, .string s])
  have LK := E3.out.lookup (S := S) hn HPL.out HSS.out
  rw [hs] at LK
  rw [hs]
  have HSTR := Lib.hid hs
  have hkmb : w2.heap.size ≠ mb := by have := EE.out.lm; have := EE.out.ge; have := hB2.size; omega
  clear hb2 hB2 hal hB3 hs
  rcases LK with hlost | ⟨g4, o4, c4, hfound, at4, nx4⟩
  · have K1 : Hid ((w2.alloc (.cells #[.int .i64 i, .string s] TAsk)).drew.cell? ⟨pm, 3, none⟩ = some (.map (some mb)) ∧ (w2.alloc (.cells #[.int .i64 i, .string s] TAsk)).drew.cell? ⟨w2.heap.size, 0, none⟩ = some (.int .i64 i) ∧ (w2.alloc (.cells #[.int .i64 i, .string s] TAsk)).drew.cell? ⟨w2.heap.size, 1, none⟩ = some (.string s) ∧ (Instr.lookup TSeen (.map (some mb)) (.agg #[.int .i64 i, .string s]) true).run Tryz.prog (w2.alloc (.cells #[.int .i64 i, .string s] TAsk)).drew = .ok (.tuple #[.slice none 0 0, .bool false]) (w2.alloc (.cells #[.int .i64 i, .string s] TAsk)).drew) := Lib.hid ⟨E3.out.cells.2.2.2.2, BK.out.cell 0, BK.out.cell 1, hlost⟩
    clear hlost
    go_wp2_with fail
    refine wp_region_T 10 (fun W' => W'.cell? ⟨pm, 3, none⟩ = some (.map (some mb)) ∧ W'.cell? ⟨w2.heap.size, 0, none⟩ = some (.int .i64 i) ∧ W'.cell? ⟨w2.heap.size, 1, none⟩ = some (.string s) ∧ (Instr.lookup TSeen (.map (some mb)) (.agg #[.int .i64 i, .string s]) true).run Tryz.prog W' = .ok (.tuple #[.slice none 0 0, .bool false]) W') (by kernel_rfl) ?_
    refine wpAnyT_take (i := 0) (v := ?_) rfl (by kernel_rfl) (by kernel_rfl) (by kernel_rfl) (by kernel_rfl) (by kernel_rfl) (fun _ _ _ h => h) (.inl ⟨rfl, ?_⟩) K1.out ?_
    rotate_left
    · intro W__ hW__
      obtain ⟨h1, h2, h3, h4⟩ := hW__
      go_simp
      (try with_reducible rfl)
    simp only [Act.put, List.setIfInBounds_toArray]
    refine wpAnyT_take (i := 1) (v := ?_) rfl (by kernel_rfl) (by kernel_rfl) (by kernel_rfl) (by kernel_rfl) (by kernel_rfl) (fun _ _ _ h => h) (.inl ⟨rfl, ?_⟩) K1.out ?_
    rotate_left
    · intro W__ hW__
      obtain ⟨h1, h2, h3, h4⟩ := hW__
      go_simp
      (try with_reducible rfl)
    simp only [Act.put]
    refine wpAnyT_take (i := 2) (v := ?_) rfl (by kernel_rfl) (by kernel_rfl) (by kernel_rfl) (by kernel_rfl) (by kernel_rfl) (fun _ _ _ h => h) (.inl ⟨rfl, ?_⟩) K1.out ?_
    rotate_left
    · intro W__ hW__
      obtain ⟨h1, h2, h3, h4⟩ := hW__
      go_simp
      (try with_reducible rfl)
    simp only [Act.put]
    refine wpAnyT_take (i := 3) (v := ?_) rfl (by kernel_rfl) (by kernel_rfl) (by kernel_rfl) (by kernel_rfl) (by kernel_rfl) (fun _ _ _ h => h) (.inl ⟨rfl, ?_⟩) K1.out ?_
    rotate_left
    · intro W__ hW__
      obtain ⟨h1, h2, h3, h4⟩ := hW__
      go_simp
      (try with_reducible rfl)
    simp only [Act.put]
    refine wpAnyT_take (i := 4) (v := ?_) rfl (by kernel_rfl) (by kernel_rfl) (by kernel_rfl) (by kernel_rfl) (by kernel_rfl) (fun _ _ _ h => h) (.inl ⟨rfl, ?_⟩) K1.out ?_
    rotate_left
    · intro W__ hW__
      obtain ⟨h1, h2, h3, h4⟩ := hW__
      go_simp
      (try with_reducible rfl)
    simp only [Act.put]
    refine wpAnyT_take (i := 5) (v := ?_) rfl (by kernel_rfl) (by kernel_rfl) (by kernel_rfl) (by kernel_rfl) (by kernel_rfl) (fun _ _ _ h => h) (.inl ⟨rfl, ?_⟩) K1.out ?_
    rotate_left
    · intro W__ hW__
      obtain ⟨h1, h2, h3, h4⟩ := hW__
      go_simp
      (try with_reducible rfl)
    simp only [Act.put]
    refine wpAnyT_take (i := 6) (v := ?_) rfl (by kernel_rfl) (by kernel_rfl) (by kernel_rfl) (by kernel_rfl) (by kernel_rfl) (fun _ _ _ h => h) (.inl ⟨rfl, ?_⟩) K1.out ?_
    rotate_left
    · intro W__ hW__
      obtain ⟨h1, h2, h3, h4⟩ := hW__
      go_simp
      (try with_reducible rfl)
    simp only [Act.put]
    refine wpAnyT_take (i := 7) (v := ?_) rfl (by kernel_rfl) (by kernel_rfl) (by kernel_rfl) (by kernel_rfl) (by kernel_rfl) (fun _ _ _ h => h) (.inl ⟨rfl, ?_⟩) K1.out ?_
    rotate_left
    · intro W__ hW__
      obtain ⟨h1, h2, h3, h4⟩ := hW__
      go_simp
      (try with_reducible rfl)
    simp only [Act.put]
    refine wpAnyT_take (i := 8) (v := ?_) rfl (by kernel_rfl) (by kernel_rfl) (by kernel_rfl) (by kernel_rfl) (by kernel_rfl) (fun _ _ _ h => h) (.inl ⟨rfl, ?_⟩) K1.out ?_
    rotate_left
    · intro W__ hW__
      obtain ⟨h1, h2, h3, h4⟩ := hW__
      go_simp
      (try with_reducible rfl)
    simp only [Act.put]
    refine wpAnyT_one (i := 9) rfl (by kernel_rfl) rfl fun K__ hK__ => ?_
    unfold Oper.wp
    go_simp
    refine hK__ _ _ (K1.out) ?_
    clear hK__
    refine wpAnyT_end (i := 10) rfl (by kernel_rfl) rfl (by kernel_rfl) fun K__ hK__ => ?_
    unfold Oper.wp
    go_simp
    refine hK__ _ _ ?_
    clear hK__
    refine wpAnyT_done (by kernel_rfl) ?_ _
    have HR := Lib.hid (HRP.out _ E3.out A3.out)
    clear K1
    go_wp2_with fail
    refine HR.out.mono ?_
    rintro e w5 ⟨b5, c5, rfl, row5, nx5, we5, fr5⟩
    have E5 := we5.next (Below.refl w5.heap.size w5).drew
    have A5 : At w5.drew (some ⟨b5, 0, none⟩) RB (lst n (im (spT pts (.mk ⟨4, l', 1, k, most'⟩ [K])) S)) := ((row5.congr HRI.out).reads hn).keep (Keep.drew _)
    have BK5 := Lib.hid (fr5.blk BK.out hkmb)
    have F5 := Lib.hid ((F3.out.trans fr5).trans (Fr.of (Below.refl w5.heap.size w5).drew))
    obtain ⟨w6, hup, we6, fr6⟩ := E5.update (c := c5) hn HPL.out HSS.out A5 nx5
    unfold seenKey at hup
    rw [HSTR.out] at hup
    have K5 : Hid (w5.drew.cell? ⟨pm, 3, none⟩ = some (.map (some mb)) ∧ w5.drew.cell? ⟨w2.heap.size, 0, none⟩ = some (.int .i64 i) ∧ w5.drew.cell? ⟨w2.heap.size, 1, none⟩ = some (.string s)) := Lib.hid ⟨E5.cells.2.2.2.2, BK5.out.cell 0, BK5.out.cell 1⟩
    have FIN := Lib.hid (show ThrP w0 W e0 e1 pm mb n (some ⟨b, off, none⟩) EA pA nt ct ec cp t pts X (im (spT pts (.mk ⟨4, l', 1, k, most'⟩ [K])) S) (.returned (.slice (some ⟨b5, 0, none⟩) (n + 1) c5)) w6 from ⟨b5, 0, c5, rfl, A5.keep fr6.1, nx5, we6, F5.out.trans fr6⟩)
    clear row5 nx5 we5 fr5 E5 A5 we6 fr6
    go_wp2_with fail
    refine wp_region_T 6 (fun W' => W'.cell? ⟨pm, 3, none⟩ = some (.map (some mb)) ∧ W'.cell? ⟨w2.heap.size, 0, none⟩ = some (.int .i64 i) ∧ W'.cell? ⟨w2.heap.size, 1, none⟩ = some (.string s)) (by kernel_rfl) ?_
    refine wpAnyT_take (i := 0) (v := ?_) rfl (by kernel_rfl) (by kernel_rfl) (by kernel_rfl) (by kernel_rfl) (by kernel_rfl) (fun _ _ _ h => h) (.inl ⟨rfl, ?_⟩) K5.out ?_
    rotate_left
    · intro W__ hW__
      obtain ⟨h1, h2, h3⟩ := hW__
      go_simp
      (try with_reducible rfl)
    simp only [Act.put, List.setIfInBounds_toArray]
    refine wpAnyT_take (i := 1) (v := ?_) rfl (by kernel_rfl) (by kernel_rfl) (by kernel_rfl) (by kernel_rfl) (by kernel_rfl) (fun _ _ _ h => h) (.inl ⟨rfl, ?_⟩) K5.out ?_
    rotate_left
    · intro W__ hW__
      obtain ⟨h1, h2, h3⟩ := hW__
      go_simp
      (try with_reducible rfl)
    simp only [Act.put]
    refine wpAnyT_take (i := 2) (v := ?_) rfl (by kernel_rfl) (by kernel_rfl) (by kernel_rfl) (by kernel_rfl) (by kernel_rfl) (fun _ _ _ h => h) (.inl ⟨rfl, ?_⟩) K5.out ?_
    rotate_left
    · intro W__ hW__
      obtain ⟨h1, h2, h3⟩ := hW__
      go_simp
      (try with_reducible rfl)
    simp only [Act.put]
    refine wpAnyT_take (i := 3) (v := ?_) rfl (by kernel_rfl) (by kernel_rfl) (by kernel_rfl) (by kernel_rfl) (by kernel_rfl) (fun _ _ _ h => h) (.inl ⟨rfl, ?_⟩) K5.out ?_
    rotate_left
    · intro W__ hW__
      obtain ⟨h1, h2, h3⟩ := hW__
      go_simp
      (try with_reducible rfl)
    simp only [Act.put]
    refine wpAnyT_take (i := 4) (v := ?_) rfl (by kernel_rfl) (by kernel_rfl) (by kernel_rfl) (by kernel_rfl) (by kernel_rfl) (fun _ _ _ h => h) (.inl ⟨rfl, ?_⟩) K5.out ?_
    rotate_left
    · intro W__ hW__
      obtain ⟨h1, h2, h3⟩ := hW__
      go_simp
      (try with_reducible rfl)
    simp only [Act.put]
    refine wpAnyT_take (i := 5) (v := ?_) rfl (by kernel_rfl) (by kernel_rfl) (by kernel_rfl) (by kernel_rfl) (by kernel_rfl) (fun _ _ _ h => h) (.inl ⟨rfl, ?_⟩) K5.out ?_
    rotate_left
    · intro W__ hW__
      obtain ⟨h1, h2, h3⟩ := hW__
      go_simp
      (try with_reducible rfl)
    simp only [Act.put]
    refine wpAnyT_end (i := 6) rfl (by kernel_rfl) rfl (by kernel_rfl) fun K__ hK__ => ?_
    unfold Oper.wp
    go_simp
    refine hK__ _ _ ?_
    clear hK__
    refine wpAnyT_done (by kernel_rfl) ?_ _
    go_wp2
    go_ret
    exact FIN.out
  · have K1 : Hid ((w2.alloc (.cells #[.int .i64 i, .string s] TAsk)).drew.cell? ⟨pm, 3, none⟩ = some (.map (some mb)) ∧ (w2.alloc (.cells #[.int .i64 i, .string s] TAsk)).drew.cell? ⟨w2.heap.size, 0, none⟩ = some (.int .i64 i) ∧ (w2.alloc (.cells #[.int .i64 i, .string s] TAsk)).drew.cell? ⟨w2.heap.size, 1, none⟩ = some (.string s) ∧ (Instr.lookup TSeen (.map (some mb)) (.agg #[.int .i64 i, .string s]) true).run Tryz.prog (w2.alloc (.cells #[.int .i64 i, .string s] TAsk)).drew = .ok (.tuple #[.slice (some ⟨g4, o4, none⟩) (n + 1) c4, .bool true]) (w2.alloc (.cells #[.int .i64 i, .string s] TAsk)).drew) := Lib.hid ⟨E3.out.cells.2.2.2.2, BK.out.cell 0, BK.out.cell 1, hfound⟩
    have FIN := Lib.hid (show ThrP w0 W e0 e1 pm mb n (some ⟨b, off, none⟩) EA pA nt ct ec cp t pts X (im (spT pts (.mk ⟨4, l', 1, k, most'⟩ [K])) S) (.returned (.slice (some ⟨g4, o4, none⟩) (n + 1) c4)) (w2.alloc (.cells #[.int .i64 i, .string s] TAsk)).drew from ⟨g4, o4, c4, rfl, at4, nx4, E3.out, F3.out⟩)
    clear hfound at4 nx4
    go_wp2_with fail
    refine wp_region_T 10 (fun W' => W'.cell? ⟨pm, 3, none⟩ = some (.map (some mb)) ∧ W'.cell? ⟨w2.heap.size, 0, none⟩ = some (.int .i64 i) ∧ W'.cell? ⟨w2.heap.size, 1, none⟩ = some (.string s) ∧ (Instr.lookup TSeen (.map (some mb)) (.agg #[.int .i64 i, .string s]) true).run Tryz.prog W' = .ok (.tuple #[.slice (some ⟨g4, o4, none⟩) (n + 1) c4, .bool true]) W') (by kernel_rfl) ?_
    refine wpAnyT_take (i := 0) (v := ?_) rfl (by kernel_rfl) (by kernel_rfl) (by kernel_rfl) (by kernel_rfl) (by kernel_rfl) (fun _ _ _ h => h) (.inl ⟨rfl, ?_⟩) K1.out ?_
    rotate_left
    · intro W__ hW__
      obtain ⟨h1, h2, h3, h4⟩ := hW__
      go_simp
      (try with_reducible rfl)
    simp only [Act.put, List.setIfInBounds_toArray]
    refine wpAnyT_take (i := 1) (v := ?_) rfl (by kernel_rfl) (by kernel_rfl) (by kernel_rfl) (by kernel_rfl) (by kernel_rfl) (fun _ _ _ h => h) (.inl ⟨rfl, ?_⟩) K1.out ?_
    rotate_left
    · intro W__ hW__
      obtain ⟨h1, h2, h3, h4⟩ := hW__
      go_simp
      (try with_reducible rfl)
    simp only [Act.put]
    refine wpAnyT_take (i := 2) (v := ?_) rfl (by kernel_rfl) (by kernel_rfl) (by kernel_rfl) (by kernel_rfl) (by kernel_rfl) (fun _ _ _ h => h) (.inl ⟨rfl, ?_⟩) K1.out ?_
    rotate_left
    · intro W__ hW__
      obtain ⟨h1, h2, h3, h4⟩ := hW__
      go_simp
      (try with_reducible rfl)
    simp only [Act.put]
    refine wpAnyT_take (i := 3) (v := ?_) rfl (by kernel_rfl) (by kernel_rfl) (by kernel_rfl) (by kernel_rfl) (by kernel_rfl) (fun _ _ _ h => h) (.inl ⟨rfl, ?_⟩) K1.out ?_
    rotate_left
    · intro W__ hW__
      obtain ⟨h1, h2, h3, h4⟩ := hW__
      go_simp
      (try with_reducible rfl)
    simp only [Act.put]
    refine wpAnyT_take (i := 4) (v := ?_) rfl (by kernel_rfl) (by kernel_rfl) (by kernel_rfl) (by kernel_rfl) (by kernel_rfl) (fun _ _ _ h => h) (.inl ⟨rfl, ?_⟩) K1.out ?_
    rotate_left
    · intro W__ hW__
      obtain ⟨h1, h2, h3, h4⟩ := hW__
      go_simp
      (try with_reducible rfl)
    simp only [Act.put]
    refine wpAnyT_take (i := 5) (v := ?_) rfl (by kernel_rfl) (by kernel_rfl) (by kernel_rfl) (by kernel_rfl) (by kernel_rfl) (fun _ _ _ h => h) (.inl ⟨rfl, ?_⟩) K1.out ?_
    rotate_left
    · intro W__ hW__
      obtain ⟨h1, h2, h3, h4⟩ := hW__
      go_simp
      (try with_reducible rfl)
    simp only [Act.put]
    refine wpAnyT_take (i := 6) (v := ?_) rfl (by kernel_rfl) (by kernel_rfl) (by kernel_rfl) (by kernel_rfl) (by kernel_rfl) (fun _ _ _ h => h) (.inl ⟨rfl, ?_⟩) K1.out ?_
    rotate_left
    · intro W__ hW__
      obtain ⟨h1, h2, h3, h4⟩ := hW__
      go_simp
      (try with_reducible rfl)
    simp only [Act.put]
    refine wpAnyT_take (i := 7) (v := ?_) rfl (by kernel_rfl) (by kernel_rfl) (by kernel_rfl) (by kernel_rfl) (by kernel_rfl) (fun _ _ _ h => h) (.inl ⟨rfl, ?_⟩) K1.out ?_
    rotate_left
    · intro W__ hW__
      obtain ⟨h1, h2, h3, h4⟩ := hW__
      go_simp
      (try with_reducible rfl)
    simp only [Act.put]
    refine wpAnyT_take (i := 8) (v := ?_) rfl (by kernel_rfl) (by kernel_rfl) (by kernel_rfl) (by kernel_rfl) (by kernel_rfl) (fun _ _ _ h => h) (.inl ⟨rfl, ?_⟩) K1.out ?_
    rotate_left
    · intro W__ hW__
      obtain ⟨h1, h2, h3, h4⟩ := hW__
      go_simp
      (try with_reducible rfl)
    simp only [Act.put]
    refine wpAnyT_one (i := 9) rfl (by kernel_rfl) rfl fun K__ hK__ => ?_
    unfold Oper.wp
    go_simp
    refine hK__ _ _ (K1.out) ?_
    clear hK__
    refine wpAnyT_end (i := 10) rfl (by kernel_rfl) rfl (by kernel_rfl) fun K__ hK__ => ?_
    unfold Oper.wp
    go_simp
    refine hK__ _ _ ?_
    clear hK__
    refine wpAnyT_done (by kernel_rfl) ?_ _
    go_wp2
    go_ret
    exact FIN.out

end Go.Proofs.YtilhicefhhgecaaGreatDoor

namespace Go.Proofs.YtilhicefhhgecaaGreatDoor
open Go.RowKit Go.ChangeMaps Pv

theorem thr_all (w0 : World) (e0 e1 pm mb n : Nat) (tA EA pA : Option Addr) (nt ct ec cp : Nat) (t : List Rx) (pts : List Int) (hn : n ≤ 1000) (ht : AtRx w0 tA t) (hp : At w0 pA RI pts) (HP : Hid (pts.length = n)) (HT : Hid (t.length = nt)) (hnt : nt ≤ 64) :
    ∀ (d : Nat), d ≤ 16 → ∀ (T : Tr) (i : Nat) (r : List Rx), T.Ok d → T.size ≤ 64 → t.drop i = T.flat ++ r → ThrC w0 e0 e1 pm mb n tA EA pA nt ct ec cp t pts T i := by
  intro d
  induction d using Nat.strongRecOn with
  | _ d ih =>
  intro hd T i r hT hz hdr
  have hbT := tree_behind (hT.up hd) hdr
  have hT16 := hT.up hd
  have hdr0 := hdr
  obtain ⟨x, ks⟩ := T
  have hone := hT.one
  have hlen := hT.len
  have hkid : ∀ k, k ∈ ks → k.Ok (d - 1) := fun k hk => hT.kid hk
  simp only [Tr.flat, List.cons_append] at hdr
  obtain ⟨hx, hdr2⟩ := drop_head hdr
  have hil := lt_of_get hx
  have hin : i < nt := by rwa [HT.out] at hil
  rw [Tr.size_mk] at hz
  have hk16 : ∀ k, k ∈ ks → k.Ok 16 := fun k hk => (hkid k hk).up (by omega)
  have hat := fun j hj => kids_at hdr2 hk16 j hj
  have hle := fun j => sizes_le hdr2 j (by omega)
  have hd1 : 1 < x.kind → 0 < d := fun hk => by
    cases d with
    | zero => obtain ⟨_, hm, _⟩ := hT; rcases hone with h | h | h | h <;> omega
    | succ d => omega
  have hmem : ∀ k, k ∈ ks → k.size ≤ sizes ks := fun k hk => by
    have : ∀ l : List Tr, k ∈ l → k.size ≤ sizes l := fun l => by
      induction l with
      | nil => simp
      | cons j l ih =>
        intro h
        rw [sizes_cons]
        rcases List.mem_cons.1 h with rfl | h
        · omega
        · have := ih h; omega
    exact this ks hk
  have hsucc : ∀ j k, ks[j]? = some k → sizes (ks.take (j + 1)) = sizes (ks.take j) + k.size := fun j k hj => by
    rw [take_snoc hj]
    show (flats (ks.take j ++ [k])).length = _
    rw [flats_app, List.length_append]; simp [flats, sizes, Tr.size]
  have HZ : Hid ((endsL t)[i]? = some ((i + 1 + sizes ks : Nat) : Int)) := Lib.hid (by
    simp only [endsL, HT.out, List.getElem?_map, List.getElem?_range hin, Option.map_some, hbT, bR_some, Tr.size_mk]
    congr 2; omega)
  have HEND : Hid (∀ (j : Nat) (k : Tr), ks[j]? = some k → (endsL t)[i + 1 + sizes (ks.take j)]? = some ((i + 1 + sizes (ks.take (j + 1)) : Nat) : Int) ∧ i + 1 + sizes (ks.take j) < nt) := Lib.hid fun j k hj => by
    have hjl := lt_of_get hj
    have h5 := (hat j (by omega)).2
    rw [drop_cons hj] at h5
    simp only [flats, List.append_assoc] at h5
    have h6 := tree_behind ((hkid k (mem_of_get hj)).up (show d - 1 ≤ 16 by omega)) h5
    have h7 := behind_lt h6
    rw [HT.out] at h7
    refine ⟨?_, by omega⟩
    have h9 : i + 1 + sizes (ks.take j) < nt := by omega
    simp only [endsL, HT.out, List.getElem?_map, List.getElem?_range h9, Option.map_some, h6, bR_some, hsucc j k hj]
    congr 2; omega
  have HLT : Hid (∀ j, j < ks.length → sizes (ks.take j) < sizes ks ∧ sizes (ks.take j) < sizes (ks.take (j + 1)) ∧ sizes (ks.take (j + 1)) ≤ sizes ks) := Lib.hid fun j hj => by
    have h1 := hsucc j _ (List.getElem?_eq_getElem hj)
    have h2 := (ks[j]).size_pos
    have h3 := sizes_take_le (ks := ks) (j + 1)
    omega
  have HIH : 1 < x.kind → ∀ j k, ks[j]? = some k → ThrC w0 e0 e1 pm mb n tA EA pA nt ct ec cp t pts k (i + 1 + sizes (ks.take j)) := fun hk j k hj => by
    have hjl := lt_of_get hj
    have h5 := (hat j (by omega)).2
    rw [drop_cons hj] at h5
    simp only [flats, List.append_assoc] at h5
    exact ih (d - 1) (by have := hd1 hk; omega) (by omega) k _ _ (hkid k (mem_of_get hj)) (by have := hmem k (mem_of_get hj); omega) h5
  have hzs : i + 1 + sizes ks ≤ 64 := by have := hle ks.length; rw [List.take_of_length_le (Nat.le_refl _)] at this; have := HT.out; omega
  obtain ⟨kind, set, many, least, most⟩ := x
  simp only at hone hlen hd1 HIH
  by_cases h0 : kind = 0
  · subst h0; exact thr_empty w0 e0 e1 pm mb n tA EA pA nt ct ec cp t pts i set many least most ks ht HT (Lib.hid hx)
  by_cases h1 : kind = 1
  · subst h1; exact thr_set w0 e0 e1 pm mb n tA EA pA nt ct ec cp t pts i set many least most ks hn ht hp HP HT (Lib.hid hx)
  have hk2 : 1 < kind := by rcases hone with h | h | h | h <;> simp only at h <;> omega
  by_cases h2k : kind = 2
  · subst h2k; exact thr_cat w0 e0 e1 pm mb n tA EA pA nt ct ec cp t pts i set many least most ks hn ht HP HT hnt (Lib.hid hx) HZ HEND HLT (Lib.hid (HIH hk2)) hzs
  by_cases h3k : kind = 3
  · subst h3k; exact thr_alt w0 e0 e1 pm mb n tA EA pA nt ct ec cp t pts i set many least most ks hn ht HT hnt (Lib.hid hx) HZ HEND HLT (Lib.hid (HIH hk2)) hzs
  have hr : kind = 4 ∧ set = [] ∧ many = 1 ∧ 0 ≤ least ∧ least ≤ 16 ∧ (most = -1 ∨ (least ≤ most ∧ most ≤ 16)) := by rcases hone with h | h | h | h <;> simp only at h <;> first | omega | exact h
  obtain ⟨rfl, rfl, rfl, hl0, hl1, hm⟩ := hr
  obtain ⟨lz, rfl⟩ := Int.eq_ofNat_of_zero_le hl0
  obtain ⟨K, rfl⟩ : ∃ K, ks = [K] := by
    match ks, hlen with
    | [K], _ => exact ⟨K, rfl⟩
  · refine thr_rep w0 e0 e1 pm mb n tA EA pA nt ct ec cp t pts i lz [] most K hn (by omega) ht HP HT (Lib.hid hx) (by omega) hm ⟨hT16, by omega, r, hdr0⟩ (Lib.hid ?_)
    have := HIH hk2 0 K rfl
    simpa [sizes, flats] using this

set_option maxHeartbeats 2000000 in
set_option maxRecDepth 100000 in
theorem tongue_Ends (tA : Option Addr) (nt ct : Nat) (t : List Rx) (pA : Option Addr) (np cp : Nat) (pts : List Int) (a : Int) (w : World) (ht : AtRx w tA t) (HT : Hid (t.length = nt)) (hp : At w pA RI pts) (HP : Hid (pts.length = np)) (hnp : np ≤ 1000 ∨ (1024 < np ∧ np ≤ 100000)) :
    Calls Tryz.prog 63 #[.slice tA nt ct, .slice pA np cp, .int .i64 a] w fun e w' => ∃ r, BEnds t pts a r ∧ IntsPost w r e w' := by
  obtain ⟨i0, hi0, hz0, hs0, hb0⟩ := info_parts info_int
  have hm1 : np ≤ 1000 → ∀ W : World, (Instr.makeSlice 24 (.int .i64 ((np : Int) + 1)) (.int .i64 ((np : Int) + 1))).run Tryz.prog W = .ok (.slice (some ⟨W.heap.size, 0, none⟩) (np + 1) (np + 1)) (W.alloc (.cells (madeCells #[.bool false] (np + 1)) 4)) := fun h W => by
    have := run_make_row' (P := Tryz.prog) 24 4 (.bool false) 1 Tryz.underlying24 info_bool rfl .i64 .i64 (np + 1) (by omega) (by omega) W
    simpa only [Int.natCast_add, Int.cast_ofNat_Int] using this
  have HBG := Lib.hid (tongue_begun tA nt ct t pA np cp w ht HT hnp)
  have HAT := Lib.hid ht; have HPT := Lib.hid hp
  clear ht hp
  go_enter Tryz.func63, Tryz.ntmps63
  go_wp2_with fail
  refine HBG.out.mono ?_
  rintro e w1 (⟨rfl, hbad, hb1⟩ | ⟨hpt, hn1, pm, mb, EA, ec, rfl, hmb, hmp, wb⟩)
  · have HR := Lib.hid (show BEnds t pts a ([], askE t np) from by
      by_cases hpt : Pat t
      · rcases hbad with h | h
        · exact absurd hpt h
        · exact .inr (.inl ⟨hpt, by rw [HP.out]; exact h, by rw [askE, patB_yes hpt, if_pos rfl, if_pos h]⟩)
      · exact .inl ⟨hpt, by rw [askE, patB_no hpt]; rfl⟩)
    have hne : askE t np ≠ 0 := by
      rcases hbad with h | h
      · rw [askE, patB_no h]; simp
      · rw [askE]; split <;> simp []
    have HB := Lib.hid hb1
    generalize askE t np = er at *
    have t1 : (er != 0) = true := by simpa using hne
    clear hbad hb1 hne
    go_wp2
    go_ret2
    exact ⟨([], er), HR.out, IntsPost.empty HB.out er⟩
  · have HPE := Lib.hid hpt
    have HM := hm1 hn1
    have WBB := Lib.hid wb
    have ha0 : askE t np = 0 := by rw [askE, patB_yes hpt, if_pos rfl, if_neg (by omega)]
    by_cases hlow : a < 0
    · have HR := Lib.hid (show BEnds t pts a ([], 2) from .inr (.inr (.inl ⟨hpt, by rw [HP.out]; omega, .inl hlow, rfl⟩)))
      clear wb hpt hm1 HM ha0
      go_wp2
      go_ret2
      exact ⟨([], 2), HR.out, IntsPost.empty WBB.out.be 2⟩
    by_cases hhigh : (np : Int) < a
    · have HR := Lib.hid (show BEnds t pts a ([], 2) from .inr (.inr (.inl ⟨hpt, by rw [HP.out]; omega, .inr (by rw [HP.out]; exact hhigh), rfl⟩)))
      clear wb hpt hm1 HM ha0
      go_wp2
      go_ret2
      exact ⟨([], 2), HR.out, IntsPost.empty WBB.out.be 2⟩
    obtain ⟨s, rfl⟩ := Int.eq_ofNat_of_zero_le (show 0 ≤ a by omega)
    have hs : s ≤ np := by omega
    have hnt : nt ≤ 64 := by have := hpt.2.1; rwa [HT.out] at this
    obtain ⟨T, hT, hfl⟩ := hpt.tree
    have HR := Lib.hid (show BEnds t pts s (upTo (spT pts T s) (np + 1), 0) from .inr (.inr (.inr ⟨hpt, by rw [HP.out]; omega, T, s, rfl, by rw [HP.out]; exact hs, hT, hfl, by rw [HP.out]⟩)))
    have hwa : Below w1.heap.size w1 (w1.alloc (.cells (madeCells #[.bool false] (np + 1)) 4)) := (Below.refl _ _).alloc (Nat.le_refl _) _
    have hwb := hwa.setCell (p := ⟨w1.heap.size, s, none⟩) (Nat.le_refl _) (.bool true)
    have R3 := (BRow.made w1 4 np).set (j := s) (v := true) (S' := fun j => j = s) ⟨fun _ => rfl, fun _ => rfl⟩ (fun i _ hne => ⟨fun h => h.elim, fun h => absurd h hne⟩)
    rw [World.setCell_alloc_at _ _ _ _ _ rfl] at R3 hwb
    have E1 : WkE w w1 (pm + 1) w1.heap.size pm mb np tA EA pA nt ct ec cp t pts (fun _ => False) := ⟨wb.b, ⟨#[], 0, wb.m, fun e he => by simp at he⟩, Keep.of wb.be, wb.oe, Nat.le_refl _, fun b h => h.elim, fun b h => h.elim, wb.b.lt, obj_lt wb.m, by omega, fun g hg => (wb.oe.lt g hg).2, wb.be.size⟩
    have E3 := Lib.hid (E1.next hwb)
    have HC := Lib.hid (thr_all w (pm + 1) w1.heap.size pm mb np tA EA pA nt ct ec cp t pts hn1 HAT.out HPT.out HP HT hnt 16 (Nat.le_refl _) T 0 [] hT (by show T.flat.length ≤ 64; rw [← hfl, HT.out]; exact hnt) (by simp [hfl]) _ w1.heap.size 0 (np + 1) (fun j => j = s) (fun _ => False) E3.out (fun a h => by omega) (R3.reads hn1) id)
    have B3 := Lib.hid (wb.be.trans (hwb.mono wb.be.size))
    have q1 : (s : Int) < (np : Int) + 1 := by omega
    have HI := Lib.hid (show ∀ j, j ≤ np → (im (spT pts T) (fun j => j = s) j ↔ spT pts T s j) from fun j _ => by
      constructor
      · rintro ⟨i, rfl, h⟩; exact h
      · intro h; exact ⟨s, rfl, h⟩)
    have hmbw := hmb
    have z0 := (BRow.made w1 4 np).cell (i := s) hs
    rw [yes_f (by simp)] at z0
    have zf := (BRow.made w1 4 np).frozen s
    clear wb hpt hm1 hwa hwb R3 E1 hT hfl ha0
    go_wp2_with fail
    refine HC.out.mono ?_
    rintro e w5 ⟨g, o, c5, rfl, at5, _, we5, fr5⟩
    rw [lst_ext HI.out] at at5
    have A5 := Lib.hid at5
    have B5 := Lib.hid (B3.out.trans (fr5.below hmbw B3.out.size))
    clear at5 we5 fr5 z0 zf
    go_wp2
    go_loopw [11, 42] (fun ov iv wr => ∃ (j : Nat) (LA : Option Addr) (lc : Nat), iv = .int .i64 j ∧ j ≤ np + 1 ∧ ov = .slice LA (upTo (spT pts T s) j).length lc ∧ wr.ownsRow w5.heap.size 3 1 (.slice LA (upTo (spT pts T s) j).length lc) (upTo (spT pts T s) j).length ((upTo (spT pts T s) j).map (Value.int .i64)) ∧ Below w5.heap.size w5 wr) (fun _ iv _ => np + 1 - (intOf iv).toNat)
    case atStart => exact ⟨0, none, 0, rfl, by omega, rfl, World.ownsRow_nil _ _ _ _, Below.refl _ _⟩
    case round =>
      obtain ⟨j, LA, lc, rfl, hj, rfl, hol, hbel⟩ := hrel
      have O3 := Lib.hid hol; have BB := Lib.hid hbel
      clear hol hbel
      have hln := upTo_len (spT pts T s) j
      by_cases hjt : j ≤ np
      · obtain ⟨g', o', eM, hg, hc⟩ := (At.keep A5.out (Keep.of BB.out)).bit hjt
        injection eM with eM; injection eM with eM1 eM2
        subst eM1; subst eM2
        have q2 : (j : Int) < (np : Int) + 1 := by omega
        by_cases hS : spT pts T s j
        · rw [yes_t hS] at hc
          have HU := Lib.hid (upTo_yes hS)
          obtain ⟨l, hl⟩ : ∃ l, upTo (spT pts T s) j = l := ⟨_, rfl⟩
          rw [hl] at O3 HU hln
          rw [hl]
          have hal : Below wr.heap.size wr (wr.alloc (.cells #[.int .i64 j] 3)) := (Below.refl _ _).alloc (Nat.le_refl _) _
          have OA := Lib.hid (ownsRow_below O3.out hal)
          have BA := Lib.hid (BB.out.trans (hal.mono BB.out.size))
          have SRC := Lib.hid (Pv.Src.one (w := wr) (x := .int .i64 j) (t := 3) rfl)
          have Q1 : Hid (l.length + 1 ≤ maxLen) := Lib.hid (by simp only [maxLen]; omega)
          have Q2 : Hid ((l.length + 1) * 8 ≤ 140737488355328) := Lib.hid (by omega)
          have Q3 : Hid (w5.heap.size ≤ (wr.alloc (.cells #[.int .i64 j] 3)).heap.size) := Lib.hid BA.out.size
          clear hal hS hl
          go_wp2_with (at_builtin
                       go_must (refine wpList_append_src _ rfl (.tmp 48) (.tmp 50) 22 rfl w5.heap.size 3 i0 (.int .i64 0) 1 8 Tryz.underlying22 hi0 hz0 hs0 hb0 rfl (by decide) LA lc l.length _ rfl OA.out _ 1 1 _ rfl SRC.out Q1.out Q2.out Q3.out ?_)
                       intro A8 lc8 w8 own8 gr8 _
                       have O8 := Lib.hid own8
                       have B8 := Lib.hid (BA.out.grown gr8 BA.out.size (fun k hk => (OA.out.lt k hk).1))
                       clear own8 gr8)
          go_roundw
          case rel => exact ⟨j + 1, A8, lc8, by go_num, by omega, by rw [HU.out]; simp, by rw [HU.out]; simpa using O8.out, B8.out⟩
          case measure => simp [intOf]; omega
        · rw [yes_f hS] at hc
          have HU := Lib.hid (upTo_no hS)
          clear hS
          go_wp2
          go_roundw
          case rel => exact ⟨j + 1, LA, lc, by go_num, by omega, by rw [HU.out], by rw [HU.out]; exact O3.out, BB.out⟩
          case measure => simp [intOf]; omega
      · have hjn : j = np + 1 := by omega
        subst hjn
        have HO : Hid (wr.ownsRow w.heap.size 3 1 (.slice LA (upTo (spT pts T s) (np + 1)).length lc) (upTo (spT pts T s) (np + 1)).length ((upTo (spT pts T s) (np + 1)).map (Value.int .i64))) := Lib.hid ⟨O3.out.1, by
          rcases O3.out.2 with h | ⟨q, cap, cur, h1, h2, h3⟩
          · exact .inl h
          · exact .inr ⟨q, cap, cur, h1, Nat.le_trans B5.out.size h2, h3⟩⟩
        go_wp2
        go_ret2
        exact ⟨_, HR.out, B5.out.trans (BB.out.mono B5.out.size), LA, lc, rfl, HO.out⟩

end Go.Proofs.YtilhicefhhgecaaGreatDoor

namespace Pv
open Go Go.RowKit

theorem BEnds.int {t : List Rx} {pts : List Int} {a : Int} {r : List Int × Int} (h : BEnds t pts a r) : (r.1.length ≤ 2000 ∧ ∀ z, z ∈ r.1 → 0 ≤ z ∧ z ≤ 2000) ∧ 0 ≤ r.2 ∧ r.2 ≤ 8 := by
  rcases h with ⟨h1, rfl⟩ | ⟨h1, h2, rfl⟩ | ⟨h1, h2, h3, rfl⟩ | ⟨h1, h2, T, b, rfl, h3, hT, hf, rfl⟩
  · simp
  · simp
  · simp
  · refine ⟨⟨by have := upTo_len (spT pts T b) (pts.length + 1); simp only; omega, fun z hz => ?_⟩, by simp, by simp⟩
    obtain ⟨i, h4, _, rfl⟩ := upTo_mem.1 hz
    omega
theorem ints_rel {l : List Int} (h : ∀ z, z ∈ l → 0 ≤ z ∧ z ≤ 2000) : Rel RI (l.map (Value.int .i64)) l := ⟨by simp, fun i u x hu hx => by
  rw [List.getElem?_map, hx] at hu
  obtain rfl := Option.some.inj hu
  have := h x (mem_of_get hx)
  exact ⟨rfl, by omega, by omega⟩⟩
/-- of the language just where a match ends at the end -/
theorem BEnds.in {t : List Rx} {pts : List Int} {r : List Int × Int} (h : BEnds t pts 0 r) : (r.2 ≠ 0 → BIn t pts (false, r.2)) ∧ (r.2 = 0 → BIn t pts (decide ((pts.length : Int) ∈ r.1), 0)) := by
  rcases h with ⟨h1, rfl⟩ | ⟨h1, h2, rfl⟩ | ⟨h1, h2, h3, rfl⟩ | ⟨h1, h2, T, b, hb, h3, hT, hf, rfl⟩
  · exact ⟨fun _ => .inl ⟨h1, rfl⟩, fun h => by simp at h⟩
  · exact ⟨fun _ => .inr (.inl ⟨h1, h2, rfl⟩), fun h => by simp at h⟩
  · omega
  · obtain rfl : b = 0 := by omega
    refine ⟨fun h => absurd rfl h, fun _ => .inr (.inr ⟨h1, h2, T, hT, hf, ?_⟩)⟩
    congr 1
    by_cases hS : spT pts T 0 pts.length
    · rw [yes_t hS]; exact decide_eq_true (upTo_mem.2 ⟨pts.length, by omega, hS, rfl⟩)
    · rw [yes_f hS]
      refine decide_eq_false fun h => ?_
      obtain ⟨i, h4, h5, h6⟩ := upTo_mem.1 h
      have : i = pts.length := by omega
      exact hS (this ▸ h5)
end Pv
namespace Go.Proofs.YtilhicefhhgecaaGreatDoor
open Go.RowKit Go.ChangeMaps Pv

theorem IntsPost.at' {w' : World} {t : List Rx} {pts : List Int} {a : Int} {r : List Int × Int} {LA : Option Addr} {lc b0 : Nat} (h : BEnds t pts a r) (own : w'.ownsRow b0 3 1 (.slice LA r.1.length lc) r.1.length (r.1.map (Value.int .i64))) : At w' LA RI r.1 :=
  (At.of_own own (ints_rel h.int.1.2) (by have := h.int.1.1; omega)).2.2

set_option maxHeartbeats 1000000 in
set_option maxRecDepth 100000 in
theorem tongue_In (tA : Option Addr) (nt ct : Nat) (t : List Rx) (pA : Option Addr) (np cp : Nat) (pts : List Int) (w : World) (ht : AtRx w tA t) (HT : Hid (t.length = nt)) (hp : At w pA RI pts) (HP : Hid (pts.length = np)) (hnp : np ≤ 1000 ∨ (1024 < np ∧ np ≤ 100000)) :
    Calls Tryz.prog 28 #[.slice tA nt ct, .slice pA np cp] w fun e w' => Below w.heap.size w w' ∧ ∃ r, BIn t pts r ∧ e = .returned (.tuple #[.bool r.1, .int .i64 r.2]) := by
  have HE := Lib.hid (tongue_Ends tA nt ct t pA np cp pts 0 w ht HT hp HP hnp)
  clear ht hp
  go_enter Tryz.func28, Tryz.ntmps28
  go_wp2_with fail
  refine HE.out.mono ?_
  rintro e w1 ⟨r, hr, hb, LA, lc, rfl, own⟩
  have HB := Lib.hid hb
  have hin := hr.in
  have hat := IntsPost.at' hr own
  have HC := Lib.hid (contains_int LA lc r.1.length r.1 (np : Int) w1 hat (Lib.hid rfl))
  obtain ⟨l, er⟩ := r
  simp only at hin HC hr
  by_cases h0 : er = 0
  · subst h0
    have HR := Lib.hid (hin.2 rfl)
    rw [HP.out] at HR
    generalize decide ((np : Int) ∈ l) = v at *
    clear hin hb own hr hat
    go_wp2_with fail
    refine HC.out.mono ?_
    rintro e w2 ⟨rfl, rfl⟩
    go_wp2
    go_ret2
    exact ⟨HB.out, (v, 0), HR.out, rfl⟩
  · have HR := Lib.hid (hin.1 h0)
    have t1 : (er != 0) = true := by simpa using h0
    clear hin hb own hr hat h0
    go_wp2
    go_ret2
    exact ⟨HB.out, (false, er), HR.out, rfl⟩

end Go.Proofs.YtilhicefhhgecaaGreatDoor
