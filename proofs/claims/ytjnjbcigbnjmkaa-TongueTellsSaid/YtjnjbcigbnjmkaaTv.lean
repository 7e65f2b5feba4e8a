/- Walks: through what is repeated, by the map of what was seen (the program's). -/
import Derived.Test.YtjnjbcigbnjmkaaTu
namespace Go.Proofs.Ytjnjbcigbnjmkaa
open Go.RowKit Go.ChangeMaps Pv

abbrev TAsk : TypeId := 171
abbrev TSeen : TypeId := 165
theorem WkE.lookup {w0 W : World} {e0 e1 pm mb n : Nat} {tA EA pA : Option Addr} {nt ct ec cp : Nat} {t : List Rx} {pts : List Int} {X S : Nat → Prop} {i : Nat} {T : Tr} (h : WkE w0 W e0 e1 pm mb n tA EA pA nt ct ec cp t pts X) (hn : n ≤ 1000) (hP : PlaceAt t i T) (hS : ∀ a, S a → a ≤ n) :
    ((Instr.lookup TSeen (.map (some mb)) (.agg #[.int .i64 i, .string (strOfNums (bitN n S))]) true).run Try.prog W = .ok (.tuple #[.slice none 0 0, .bool false]) W) ∨
    ∃ g o c, (Instr.lookup TSeen (.map (some mb)) (.agg #[.int .i64 i, .string (strOfNums (bitN n S))]) true).run Try.prog W = .ok (.tuple #[.slice (some ⟨g, o, none⟩) (n + 1) c, .bool true]) W ∧ At W (some ⟨g, o, none⟩) RB (lst n (im (spT pts T) S)) ∧ ¬ X g := by
  show ((Instr.lookup TSeen (.map (some mb)) (seenKey i (strOfNums (bitN n S))) true).run Try.prog W = .ok (.tuple #[.slice none 0 0, .bool false]) W) ∨
    ∃ g o c, (Instr.lookup TSeen (.map (some mb)) (seenKey i (strOfNums (bitN n S))) true).run Try.prog W = .ok (.tuple #[.slice (some ⟨g, o, none⟩) (n + 1) c, .bool true]) W ∧ At W (some ⟨g, o, none⟩) RB (lst n (im (spT pts T) S)) ∧ ¬ X g
  obtain ⟨es, clock, hb, hes⟩ := h.seen
  obtain ⟨l, hl⟩ := seen_at (S := S) hn hP.2.1
  rcases seen_law.find W hl es.toList (fun e he => (hes e he).1.key hn) with ⟨h1, _⟩ | ⟨j, e0', h1, h2, h3⟩
  · exact .inl (by simp [Instr.lookup, run_underlying Try.underlying165, MapKept.run_getObj_map hb, seen_law.check W _ hl, h1, zero_bools, Result.andThen])
  · have hm0 : e0' ∈ es.toList := List.mem_of_getElem? h2
    obtain ⟨A, c, h4, h5⟩ := (hes e0' hm0).1.val hP hS h3
    obtain ⟨g, o, e, _, _⟩ := h5.2 (by rw [lst_len]; omega)
    subst e
    rw [h4] at h1
    exact .inr ⟨g, o, c, by simp [Instr.lookup, run_underlying Try.underlying165, MapKept.run_getObj_map hb, seen_law.check W _ hl, h1, Result.andThen], h5, (hes e0' hm0).2 g o _ c h4⟩

set_option maxHeartbeats 2000000 in
set_option maxRecDepth 100000 in
theorem thr_rep (w0 : World) (e0 e1 pm mb n : Nat) (tA EA pA : Option Addr) (nt ct ec cp : Nat) (t : List Rx) (pts : List Int) (i k : Nat) (l : List Rng) (most : Int) (K : Tr) (hn : n ≤ 1000) (hi : i + 1 ≤ 64)
    (ht : AtRx w0 tA t) (HP : Hid (pts.length = n)) (HT : Hid (t.length = nt)) (HX : Hid (t[i]? = some ⟨4, l, 1, k, most⟩)) (hk : k ≤ 16) (hm : most = -1 ∨ ((k : Int) ≤ most ∧ most ≤ 16)) (hPl : PlaceAt t i (.mk ⟨4, l, 1, k, most⟩ [K]))
    (HIH : Hid (ThrC w0 e0 e1 pm mb n tA EA pA nt ct ec cp t pts K (i + 1))) : ThrC w0 e0 e1 pm mb n tA EA pA nt ct ec cp t pts (.mk ⟨4, l, 1, k, most⟩ [K]) i := by
  intro W g o fc S X hE hS hA hX
  have HRP := Lib.hid (fun (W' : World) (hE' : WkE w0 W' e0 e1 pm mb n tA EA pA nt ct ec cp t pts X) (hA' : At W' (some ⟨g, o, none⟩) RB (lst n S)) => tongue_repeat w0 e0 e1 pm mb n tA EA pA nt ct ec cp t pts K i k l most hn hi ht HP HT HX hk hm HIH W' g o fc S X hE' hS hA' hX)
  have hin : i < nt := by have := lt_of_get HX.out; rwa [HT.out] at this
  obtain ⟨b, off, kd, B, cs, m, l', many', least', most', rfl, H5, hset, HM, hmc, hkd, hma, hle, hmo, HX'⟩ := ht.g5 HT hin
  obtain ⟨rfl, rfl, rfl, rfl, rfl⟩ := Rx.mk.inj (Option.some.inj (HX'.out.symm.trans HX.out))
  obtain ⟨y0, y1, y2, y3, y4, y5⟩ := H5.next hE.kp
  obtain ⟨hpm, m0, m1, m2, m3⟩ := hE.cells
  have hW : Below W.heap.size W (W.alloc (.cells #[.int .u8 4, .slice B m cs, .int .i64 1, .int .i64 k, .int .i64 most'] 100)) := (Below.refl _ _).alloc (Nat.le_refl _) _
  have HWR := Lib.hid (tongue_written (some ⟨g, o, none⟩) fc n S _ hn (hA.keep (Keep.of hW)))
  have EE := Lib.hid hE; have HW := Lib.hid hW; have AT := Lib.hid hA; have HPL := Lib.hid hPl; have HSS := Lib.hid hS
  have HRI := Lib.hid (show ∀ a, a ≤ n → (im (Ag (spT pts K) k most') S a ↔ im (spT pts (.mk ⟨4, l', 1, k, most'⟩ [K])) S a) from fun a _ => by
    have h1 : spHd pts [K] = spT pts K := by funext a b; rw [spHd]
    have h2 : spT pts (.mk ⟨4, l', 1, k, most'⟩ [K]) = Ag (spT pts K) k most' := by
      funext c d
      rw [spT, if_neg (by simp), if_neg (by simp), if_neg (by simp), if_neg (by simp), h1]; simp
    rw [h2])
  clear H5 ht hset HX' hE hA hW hPl hS
  go_enter Try.func72, Try.ntmps72
  go_wp2_with fail
  refine HWR.out.mono ?_
  rintro e w2 ⟨rfl, hb2⟩
  have hB2 := HW.out.trans (hb2.mono HW.out.size)
  obtain ⟨s, hs⟩ : ∃ s, strOfNums (bitN n S) = s := ⟨_, rfl⟩
  have hal : Below w2.heap.size w2 (w2.alloc (.cells #[.int .i64 i, .string s] TAsk)) := (Below.refl _ _).alloc (Nat.le_refl _) _
  have hB3 : Below W.heap.size W (w2.alloc (.cells #[.int .i64 i, .string s] TAsk)).drew := (hB2.trans (hal.mono hB2.size)).drew
  have E3 := Lib.hid (EE.out.next hB3)
  have A3 := Lib.hid (AT.out.keep (Keep.of hB3))
  have F3 := Lib.hid (Fr.of (mb := mb) hB3)
  have BK := Lib.hid (show Blk (w2.alloc (.cells #[.int .i64 i, .string s] TAsk)).drew w2.heap.size TAsk #[.int .i64 i, .string s] from Blk.new w2 TAsk #[.int .i64 i, .string s])
  have LK := E3.out.lookup (S := S) hn HPL.out HSS.out
  rw [hs] at LK
  rw [hs]
  have HSTR := Lib.hid hs
  have hkmb : w2.heap.size ≠ mb := by have := EE.out.lm; have := EE.out.ge; have := hB2.size; omega
  clear hb2 hB2 hal hB3 hs
  rcases LK with hlost | ⟨g4, o4, c4, hfound, at4, nx4⟩
  · have K1 : Hid ((w2.alloc (.cells #[.int .i64 i, .string s] TAsk)).drew.cell? ⟨pm, 3, none⟩ = some (.map (some mb)) ∧ (w2.alloc (.cells #[.int .i64 i, .string s] TAsk)).drew.cell? ⟨w2.heap.size, 0, none⟩ = some (.int .i64 i) ∧ (w2.alloc (.cells #[.int .i64 i, .string s] TAsk)).drew.cell? ⟨w2.heap.size, 1, none⟩ = some (.string s) ∧ (Instr.lookup TSeen (.map (some mb)) (.agg #[.int .i64 i, .string s]) true).run Try.prog (w2.alloc (.cells #[.int .i64 i, .string s] TAsk)).drew = .ok (.tuple #[.slice none 0 0, .bool false]) (w2.alloc (.cells #[.int .i64 i, .string s] TAsk)).drew) := Lib.hid ⟨E3.out.cells.2.2.2.2, BK.out.cell 0, BK.out.cell 1, hlost⟩
    clear hlost
    go_wp2_with fail
    refine wp_region_T 10 (fun W' => W'.cell? ⟨pm, 3, none⟩ = some (.map (some mb)) ∧ W'.cell? ⟨w2.heap.size, 0, none⟩ = some (.int .i64 i) ∧ W'.cell? ⟨w2.heap.size, 1, none⟩ = some (.string s) ∧ (Instr.lookup TSeen (.map (some mb)) (.agg #[.int .i64 i, .string s]) true).run Try.prog W' = .ok (.tuple #[.slice none 0 0, .bool false]) W') (by kernel_rfl) ?_
    refine wpAnyT_take (i := 0) (v := ?_) rfl (by kernel_rfl) (by kernel_rfl) (by kernel_rfl) (by kernel_rfl) (by kernel_rfl) (fun _ _ _ h => h) (.inl ⟨rfl, ?_⟩) K1.out ?_
    rotate_left
    · intro W__ hW__
      obtain ⟨h1, h2, h3, h4⟩ := hW__
      go_simp
      (try with_reducible rfl)
    simp only [Act.put, List.setIfInBounds_toArray, List.set_cons_zero, List.set_cons_succ]
    refine wpAnyT_take (i := 1) (v := ?_) rfl (by kernel_rfl) (by kernel_rfl) (by kernel_rfl) (by kernel_rfl) (by kernel_rfl) (fun _ _ _ h => h) (.inl ⟨rfl, ?_⟩) K1.out ?_
    rotate_left
    · intro W__ hW__
      obtain ⟨h1, h2, h3, h4⟩ := hW__
      go_simp
      (try with_reducible rfl)
    simp only [Act.put, List.setIfInBounds_toArray, List.set_cons_zero, List.set_cons_succ]
    refine wpAnyT_take (i := 2) (v := ?_) rfl (by kernel_rfl) (by kernel_rfl) (by kernel_rfl) (by kernel_rfl) (by kernel_rfl) (fun _ _ _ h => h) (.inl ⟨rfl, ?_⟩) K1.out ?_
    rotate_left
    · intro W__ hW__
      obtain ⟨h1, h2, h3, h4⟩ := hW__
      go_simp
      (try with_reducible rfl)
    simp only [Act.put, List.setIfInBounds_toArray, List.set_cons_zero, List.set_cons_succ]
    refine wpAnyT_take (i := 3) (v := ?_) rfl (by kernel_rfl) (by kernel_rfl) (by kernel_rfl) (by kernel_rfl) (by kernel_rfl) (fun _ _ _ h => h) (.inl ⟨rfl, ?_⟩) K1.out ?_
    rotate_left
    · intro W__ hW__
      obtain ⟨h1, h2, h3, h4⟩ := hW__
      go_simp
      (try with_reducible rfl)
    simp only [Act.put, List.setIfInBounds_toArray, List.set_cons_zero, List.set_cons_succ]
    refine wpAnyT_take (i := 4) (v := ?_) rfl (by kernel_rfl) (by kernel_rfl) (by kernel_rfl) (by kernel_rfl) (by kernel_rfl) (fun _ _ _ h => h) (.inl ⟨rfl, ?_⟩) K1.out ?_
    rotate_left
    · intro W__ hW__
      obtain ⟨h1, h2, h3, h4⟩ := hW__
      go_simp
      (try with_reducible rfl)
    simp only [Act.put, List.setIfInBounds_toArray, List.set_cons_zero, List.set_cons_succ]
    refine wpAnyT_take (i := 5) (v := ?_) rfl (by kernel_rfl) (by kernel_rfl) (by kernel_rfl) (by kernel_rfl) (by kernel_rfl) (fun _ _ _ h => h) (.inl ⟨rfl, ?_⟩) K1.out ?_
    rotate_left
    · intro W__ hW__
      obtain ⟨h1, h2, h3, h4⟩ := hW__
      go_simp
      (try with_reducible rfl)
    simp only [Act.put, List.setIfInBounds_toArray, List.set_cons_zero, List.set_cons_succ]
    refine wpAnyT_take (i := 6) (v := ?_) rfl (by kernel_rfl) (by kernel_rfl) (by kernel_rfl) (by kernel_rfl) (by kernel_rfl) (fun _ _ _ h => h) (.inl ⟨rfl, ?_⟩) K1.out ?_
    rotate_left
    · intro W__ hW__
      obtain ⟨h1, h2, h3, h4⟩ := hW__
      go_simp
      (try with_reducible rfl)
    simp only [Act.put, List.setIfInBounds_toArray, List.set_cons_zero, List.set_cons_succ]
    refine wpAnyT_take (i := 7) (v := ?_) rfl (by kernel_rfl) (by kernel_rfl) (by kernel_rfl) (by kernel_rfl) (by kernel_rfl) (fun _ _ _ h => h) (.inl ⟨rfl, ?_⟩) K1.out ?_
    rotate_left
    · intro W__ hW__
      obtain ⟨h1, h2, h3, h4⟩ := hW__
      go_simp
      (try with_reducible rfl)
    simp only [Act.put, List.setIfInBounds_toArray, List.set_cons_zero, List.set_cons_succ]
    refine wpAnyT_take (i := 8) (v := ?_) rfl (by kernel_rfl) (by kernel_rfl) (by kernel_rfl) (by kernel_rfl) (by kernel_rfl) (fun _ _ _ h => h) (.inl ⟨rfl, ?_⟩) K1.out ?_
    rotate_left
    · intro W__ hW__
      obtain ⟨h1, h2, h3, h4⟩ := hW__
      go_simp
      (try with_reducible rfl)
    simp only [Act.put, List.setIfInBounds_toArray, List.set_cons_zero, List.set_cons_succ]
    refine wpAnyT_one (i := 9) rfl (by kernel_rfl) rfl fun K__ hK__ => ?_
    unfold Oper.wp
    go_simp
    refine hK__ _ _ (K1.out) ?_
    clear hK__
    refine wpAnyT_end (i := 10) rfl (by kernel_rfl) rfl (by kernel_rfl) fun K__ hK__ => ?_
    unfold Oper.wp
    go_simp
    refine hK__ _ _ ?_
    clear hK__
    refine wpAnyT_done (by kernel_rfl) ?_ _
    have HR := Lib.hid (HRP.out _ E3.out A3.out)
    clear K1
    go_wp2_with fail
    refine HR.out.mono ?_
    rintro e w5 ⟨b5, c5, rfl, row5, nx5, we5, fr5⟩
    have E5 := we5.next (Below.refl w5.heap.size w5).drew
    have A5 : At w5.drew (some ⟨b5, 0, none⟩) RB (lst n (im (spT pts (.mk ⟨4, l', 1, k, most'⟩ [K])) S)) := ((row5.congr HRI.out).reads hn).keep (Keep.drew _)
    have BK5 := Lib.hid (fr5.blk BK.out hkmb)
    have F5 := Lib.hid ((F3.out.trans fr5).trans (Fr.of (Below.refl w5.heap.size w5).drew))
    obtain ⟨w6, hup, we6, fr6⟩ := E5.update (c := c5) hn HPL.out HSS.out A5 nx5
    unfold seenKey at hup
    rw [HSTR.out] at hup
    have K5 : Hid (w5.drew.cell? ⟨pm, 3, none⟩ = some (.map (some mb)) ∧ w5.drew.cell? ⟨w2.heap.size, 0, none⟩ = some (.int .i64 i) ∧ w5.drew.cell? ⟨w2.heap.size, 1, none⟩ = some (.string s)) := Lib.hid ⟨E5.cells.2.2.2.2, BK5.out.cell 0, BK5.out.cell 1⟩
    have FIN := Lib.hid (show ThrP w0 W e0 e1 pm mb n (some ⟨b, off, none⟩) EA pA nt ct ec cp t pts X (im (spT pts (.mk ⟨4, l', 1, k, most'⟩ [K])) S) (.returned (.slice (some ⟨b5, 0, none⟩) (n + 1) c5)) w6 from ⟨b5, 0, c5, rfl, A5.keep fr6.1, nx5, we6, F5.out.trans fr6⟩)
    clear row5 nx5 we5 fr5 E5 A5 we6 fr6
    go_wp2_with fail
    refine wp_region_T 6 (fun W' => W'.cell? ⟨pm, 3, none⟩ = some (.map (some mb)) ∧ W'.cell? ⟨w2.heap.size, 0, none⟩ = some (.int .i64 i) ∧ W'.cell? ⟨w2.heap.size, 1, none⟩ = some (.string s)) (by kernel_rfl) ?_
    refine wpAnyT_take (i := 0) (v := ?_) rfl (by kernel_rfl) (by kernel_rfl) (by kernel_rfl) (by kernel_rfl) (by kernel_rfl) (fun _ _ _ h => h) (.inl ⟨rfl, ?_⟩) K5.out ?_
    rotate_left
    · intro W__ hW__
      obtain ⟨h1, h2, h3⟩ := hW__
      go_simp
      (try with_reducible rfl)
    simp only [Act.put, List.setIfInBounds_toArray, List.set_cons_zero, List.set_cons_succ]
    refine wpAnyT_take (i := 1) (v := ?_) rfl (by kernel_rfl) (by kernel_rfl) (by kernel_rfl) (by kernel_rfl) (by kernel_rfl) (fun _ _ _ h => h) (.inl ⟨rfl, ?_⟩) K5.out ?_
    rotate_left
    · intro W__ hW__
      obtain ⟨h1, h2, h3⟩ := hW__
      go_simp
      (try with_reducible rfl)
    simp only [Act.put, List.setIfInBounds_toArray, List.set_cons_zero, List.set_cons_succ]
    refine wpAnyT_take (i := 2) (v := ?_) rfl (by kernel_rfl) (by kernel_rfl) (by kernel_rfl) (by kernel_rfl) (by kernel_rfl) (fun _ _ _ h => h) (.inl ⟨rfl, ?_⟩) K5.out ?_
    rotate_left
    · intro W__ hW__
      obtain ⟨h1, h2, h3⟩ := hW__
      go_simp
      (try with_reducible rfl)
    simp only [Act.put, List.setIfInBounds_toArray, List.set_cons_zero, List.set_cons_succ]
    refine wpAnyT_take (i := 3) (v := ?_) rfl (by kernel_rfl) (by kernel_rfl) (by kernel_rfl) (by kernel_rfl) (by kernel_rfl) (fun _ _ _ h => h) (.inl ⟨rfl, ?_⟩) K5.out ?_
    rotate_left
    · intro W__ hW__
      obtain ⟨h1, h2, h3⟩ := hW__
      go_simp
      (try with_reducible rfl)
    simp only [Act.put, List.setIfInBounds_toArray, List.set_cons_zero, List.set_cons_succ]
    refine wpAnyT_take (i := 4) (v := ?_) rfl (by kernel_rfl) (by kernel_rfl) (by kernel_rfl) (by kernel_rfl) (by kernel_rfl) (fun _ _ _ h => h) (.inl ⟨rfl, ?_⟩) K5.out ?_
    rotate_left
    · intro W__ hW__
      obtain ⟨h1, h2, h3⟩ := hW__
      go_simp
      (try with_reducible rfl)
    simp only [Act.put, List.setIfInBounds_toArray, List.set_cons_zero, List.set_cons_succ]
    refine wpAnyT_take (i := 5) (v := ?_) rfl (by kernel_rfl) (by kernel_rfl) (by kernel_rfl) (by kernel_rfl) (by kernel_rfl) (fun _ _ _ h => h) (.inl ⟨rfl, ?_⟩) K5.out ?_
    rotate_left
    · intro W__ hW__
      obtain ⟨h1, h2, h3⟩ := hW__
      go_simp
      (try with_reducible rfl)
    simp only [Act.put, List.setIfInBounds_toArray, List.set_cons_zero, List.set_cons_succ]
    refine wpAnyT_end (i := 6) rfl (by kernel_rfl) rfl (by kernel_rfl) fun K__ hK__ => ?_
    unfold Oper.wp
    go_simp
    refine hK__ _ _ ?_
    clear hK__
    refine wpAnyT_done (by kernel_rfl) ?_ _
    go_wp2
    go_ret
    exact FIN.out
  · have K1 : Hid ((w2.alloc (.cells #[.int .i64 i, .string s] TAsk)).drew.cell? ⟨pm, 3, none⟩ = some (.map (some mb)) ∧ (w2.alloc (.cells #[.int .i64 i, .string s] TAsk)).drew.cell? ⟨w2.heap.size, 0, none⟩ = some (.int .i64 i) ∧ (w2.alloc (.cells #[.int .i64 i, .string s] TAsk)).drew.cell? ⟨w2.heap.size, 1, none⟩ = some (.string s) ∧ (Instr.lookup TSeen (.map (some mb)) (.agg #[.int .i64 i, .string s]) true).run Try.prog (w2.alloc (.cells #[.int .i64 i, .string s] TAsk)).drew = .ok (.tuple #[.slice (some ⟨g4, o4, none⟩) (n + 1) c4, .bool true]) (w2.alloc (.cells #[.int .i64 i, .string s] TAsk)).drew) := Lib.hid ⟨E3.out.cells.2.2.2.2, BK.out.cell 0, BK.out.cell 1, hfound⟩
    have FIN := Lib.hid (show ThrP w0 W e0 e1 pm mb n (some ⟨b, off, none⟩) EA pA nt ct ec cp t pts X (im (spT pts (.mk ⟨4, l', 1, k, most'⟩ [K])) S) (.returned (.slice (some ⟨g4, o4, none⟩) (n + 1) c4)) (w2.alloc (.cells #[.int .i64 i, .string s] TAsk)).drew from ⟨g4, o4, c4, rfl, at4, nx4, E3.out, F3.out⟩)
    clear hfound at4 nx4
    go_wp2_with fail
    refine wp_region_T 10 (fun W' => W'.cell? ⟨pm, 3, none⟩ = some (.map (some mb)) ∧ W'.cell? ⟨w2.heap.size, 0, none⟩ = some (.int .i64 i) ∧ W'.cell? ⟨w2.heap.size, 1, none⟩ = some (.string s) ∧ (Instr.lookup TSeen (.map (some mb)) (.agg #[.int .i64 i, .string s]) true).run Try.prog W' = .ok (.tuple #[.slice (some ⟨g4, o4, none⟩) (n + 1) c4, .bool true]) W') (by kernel_rfl) ?_
    refine wpAnyT_take (i := 0) (v := ?_) rfl (by kernel_rfl) (by kernel_rfl) (by kernel_rfl) (by kernel_rfl) (by kernel_rfl) (fun _ _ _ h => h) (.inl ⟨rfl, ?_⟩) K1.out ?_
    rotate_left
    · intro W__ hW__
      obtain ⟨h1, h2, h3, h4⟩ := hW__
      go_simp
      (try with_reducible rfl)
    simp only [Act.put, List.setIfInBounds_toArray, List.set_cons_zero, List.set_cons_succ]
    refine wpAnyT_take (i := 1) (v := ?_) rfl (by kernel_rfl) (by kernel_rfl) (by kernel_rfl) (by kernel_rfl) (by kernel_rfl) (fun _ _ _ h => h) (.inl ⟨rfl, ?_⟩) K1.out ?_
    rotate_left
    · intro W__ hW__
      obtain ⟨h1, h2, h3, h4⟩ := hW__
      go_simp
      (try with_reducible rfl)
    simp only [Act.put, List.setIfInBounds_toArray, List.set_cons_zero, List.set_cons_succ]
    refine wpAnyT_take (i := 2) (v := ?_) rfl (by kernel_rfl) (by kernel_rfl) (by kernel_rfl) (by kernel_rfl) (by kernel_rfl) (fun _ _ _ h => h) (.inl ⟨rfl, ?_⟩) K1.out ?_
    rotate_left
    · intro W__ hW__
      obtain ⟨h1, h2, h3, h4⟩ := hW__
      go_simp
      (try with_reducible rfl)
    simp only [Act.put, List.setIfInBounds_toArray, List.set_cons_zero, List.set_cons_succ]
    refine wpAnyT_take (i := 3) (v := ?_) rfl (by kernel_rfl) (by kernel_rfl) (by kernel_rfl) (by kernel_rfl) (by kernel_rfl) (fun _ _ _ h => h) (.inl ⟨rfl, ?_⟩) K1.out ?_
    rotate_left
    · intro W__ hW__
      obtain ⟨h1, h2, h3, h4⟩ := hW__
      go_simp
      (try with_reducible rfl)
    simp only [Act.put, List.setIfInBounds_toArray, List.set_cons_zero, List.set_cons_succ]
    refine wpAnyT_take (i := 4) (v := ?_) rfl (by kernel_rfl) (by kernel_rfl) (by kernel_rfl) (by kernel_rfl) (by kernel_rfl) (fun _ _ _ h => h) (.inl ⟨rfl, ?_⟩) K1.out ?_
    rotate_left
    · intro W__ hW__
      obtain ⟨h1, h2, h3, h4⟩ := hW__
      go_simp
      (try with_reducible rfl)
    simp only [Act.put, List.setIfInBounds_toArray, List.set_cons_zero, List.set_cons_succ]
    refine wpAnyT_take (i := 5) (v := ?_) rfl (by kernel_rfl) (by kernel_rfl) (by kernel_rfl) (by kernel_rfl) (by kernel_rfl) (fun _ _ _ h => h) (.inl ⟨rfl, ?_⟩) K1.out ?_
    rotate_left
    · intro W__ hW__
      obtain ⟨h1, h2, h3, h4⟩ := hW__
      go_simp
      (try with_reducible rfl)
    simp only [Act.put, List.setIfInBounds_toArray, List.set_cons_zero, List.set_cons_succ]
    refine wpAnyT_take (i := 6) (v := ?_) rfl (by kernel_rfl) (by kernel_rfl) (by kernel_rfl) (by kernel_rfl) (by kernel_rfl) (fun _ _ _ h => h) (.inl ⟨rfl, ?_⟩) K1.out ?_
    rotate_left
    · intro W__ hW__
      obtain ⟨h1, h2, h3, h4⟩ := hW__
      go_simp
      (try with_reducible rfl)
    simp only [Act.put, List.setIfInBounds_toArray, List.set_cons_zero, List.set_cons_succ]
    refine wpAnyT_take (i := 7) (v := ?_) rfl (by kernel_rfl) (by kernel_rfl) (by kernel_rfl) (by kernel_rfl) (by kernel_rfl) (fun _ _ _ h => h) (.inl ⟨rfl, ?_⟩) K1.out ?_
    rotate_left
    · intro W__ hW__
      obtain ⟨h1, h2, h3, h4⟩ := hW__
      go_simp
      (try with_reducible rfl)
    simp only [Act.put, List.setIfInBounds_toArray, List.set_cons_zero, List.set_cons_succ]
    refine wpAnyT_take (i := 8) (v := ?_) rfl (by kernel_rfl) (by kernel_rfl) (by kernel_rfl) (by kernel_rfl) (by kernel_rfl) (fun _ _ _ h => h) (.inl ⟨rfl, ?_⟩) K1.out ?_
    rotate_left
    · intro W__ hW__
      obtain ⟨h1, h2, h3, h4⟩ := hW__
      go_simp
      (try with_reducible rfl)
    simp only [Act.put, List.setIfInBounds_toArray, List.set_cons_zero, List.set_cons_succ]
    refine wpAnyT_one (i := 9) rfl (by kernel_rfl) rfl fun K__ hK__ => ?_
    unfold Oper.wp
    go_simp
    refine hK__ _ _ (K1.out) ?_
    clear hK__
    refine wpAnyT_end (i := 10) rfl (by kernel_rfl) rfl (by kernel_rfl) fun K__ hK__ => ?_
    unfold Oper.wp
    go_simp
    refine hK__ _ _ ?_
    clear hK__
    refine wpAnyT_done (by kernel_rfl) ?_ _
    go_wp2
    go_ret
    exact FIN.out

end Go.Proofs.Ytjnjbcigbnjmkaa
