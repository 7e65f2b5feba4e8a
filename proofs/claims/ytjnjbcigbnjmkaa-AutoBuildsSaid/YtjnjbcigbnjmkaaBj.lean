/- Walks: the program's leading: nothing, a set. -/
import Derived.Test.YtjnjbcigbnjmkaaBi
namespace Go.Proofs.Ytjnjbcigbnjmkaa
open Go.RowKit Pv

abbrev TRx : TypeId := 100
theorem TB_rx : ∀ e, e ∈ TB → e ≠ TRx := by decide
theorem TB_rng : ∀ e, e ∈ TB → e ≠ TRng := by decide
/-- a set just made is the call's own -/
theorem SetQ.made {w : World} {base b0 : Nat} {v : Value} {l : List Rng} (h : OwnSet w b0 v l) (hb : base ≤ b0) (hl : l.length ≤ 140737488355328) : SetQ w base v l := by
  obtain ⟨A, c, us, rfl, ow, rel⟩ := id h
  obtain ⟨A', c', e, hat, hc⟩ := OwnK.sl h hl
  injection e with e1 _ e3
  subst e1; subst e3
  refine ⟨⟨A, c, rfl, hat, hc, fun hp b o e => ?_⟩, fun b o n c' e hn => ?_⟩
  · rcases ow.2 with ⟨hv, h0⟩ | ⟨g, cap, cur, hv, hg, hh, r⟩
    · injection hv with e1; rw [e1] at e; cases e
    · injection hv with e1
      rw [e1] at e
      injection e with e; injection e with e
      subst e
      exact .inr ⟨cur, hh⟩
  · injection e with e1 e2 e3
    rcases ow.2 with ⟨hv, h0⟩ | ⟨g, cap, cur, hv, hg, hh, r⟩
    · injection hv with e4; rw [e4] at e1; cases e1
    · injection hv with e4
      rw [e4] at e1
      injection e1 with e1; injection e1 with e1
      omega

set_option maxHeartbeats 1000000 in
set_option maxRecDepth 100000 in
theorem maker_lead_empty (w0 W : World) (base pm e0 : Nat) (acc : Int) (tA EA : Option Addr) (nt ct ec : Nat) (t : List Rx) (A : Option Addr) (n c : Nat) (a : Au) (s i : Nat) (l : List Rng) (many least most : Int) (ks : List Tr)
    (ht : AtRx w0 tA t) (hbs : w0.heap.size ≤ base) (HT : Hid (t.length = nt)) (HX : Hid (t[i]? = some ⟨0, l, many, least, most⟩)) (h : MkE w0 W base pm e0 acc tA EA nt ct ec t A n c a) (hs : s < n) (hn : n ≤ 255) (he : edgesN a ≤ 65 * n) :
    Calls Try.prog 63 #[.pointer (some ⟨pm, 0, none⟩), .int .i64 i, .int .i64 s] W (MkLead w0 W base pm e0 acc tA EA nt ct ec t (leadT (.mk ⟨0, l, many, least, most⟩ ks) a s)) := by
  have hin : i < nt := by have := lt_of_get HX.out; rwa [HT.out] at this
  obtain ⟨b, off, kd, B, cs, m, l', many', least', most', rfl, H5, hset, HM, hmc, hkd, hma, hle, hmo, HX'⟩ := ht.g5 HT hin
  obtain ⟨rfl, rfl, rfl, rfl, rfl⟩ := Rx.mk.inj (Option.some.inj (HX'.out.symm.trans HX.out))
  obtain ⟨y0, y1, y2, y3, y4, y5⟩ := H5.next h.kp
  obtain ⟨hpm, q2, q3⟩ := h.cells
  have hW1 : Below W.heap.size W (W.alloc (.cells #[.int .u8 0, .slice B m cs, .int .i64 many', .int .i64 least', .int .i64 most'] TRx)) := (Below.refl _ _).alloc (Nat.le_refl _) _
  have hW : Below W.heap.size W ((W.alloc (.cells #[.int .u8 0, .slice B m cs, .int .i64 many', .int .i64 least', .int .i64 most'] TRx)).alloc (.cells #[.int .i64 s] TInt)) := hW1.alloc (by simp) _
  have OO := own_one (W.alloc (.cells #[.int .u8 0, .slice B m cs, .int .i64 many', .int .i64 least', .int .i64 most'] TRx)) W.heap.size (.int .i64 s) (by simp)
  rw [show (W.alloc (.cells #[.int .u8 0, .slice B m cs, .int .i64 many', .int .i64 least', .int .i64 most'] TRx)).heap.size = W.heap.size + 1 by simp] at OO
  have HJ := Lib.hid (maker_join A n c base pm acc _ _ a (some ⟨W.heap.size + 1, 0, none⟩) 1 1 W.heap.size [s] _ (h.next hW).ma (Nat.le_trans h.ge hW.size) (by omega) (by omega) OO (by simpa using hs) (by simp))
  have HW := Lib.hid hW; have HH := Lib.hid h
  have HNL := Lib.hid h.len
  clear h hW hW1 H5 ht hset HX' OO
  go_enter Try.func63, Try.ntmps63
  go_wp2_with fail
  refine HJ.out.mono ?_
  rintro e w1 ⟨A1, c1, rfl, mk1, ch1⟩
  have CH := Lib.hid ((Chg.of_below HW.out).trans ch1)
  have ST := Lib.hid (HH.out.step hbs mk1 CH.out)
  have HR : leadT (.mk ⟨0, l', many', least', most'⟩ ks) a s = (auJoin a [s], a.length) := by rw [leadT, if_pos rfl]; rfl
  have HRR := Lib.hid HR
  clear mk1 ch1 HR
  go_wp2
  go_ret
  rw [HRR.out]
  exact ⟨A1, c1, by rw [← HNL.out]; rfl, by simp only [auJoin_length, ← HNL.out]; exact ST.out, CH.out⟩

set_option maxHeartbeats 1000000 in
set_option maxRecDepth 100000 in
theorem maker_lead_set (w0 W : World) (base pm e0 : Nat) (acc : Int) (tA EA : Option Addr) (nt ct ec : Nat) (t : List Rx) (A : Option Addr) (n c : Nat) (a : Au) (s i : Nat) (l : List Rng) (many least most : Int) (ks : List Tr)
    (ht : AtRx w0 tA t) (hbs : w0.heap.size ≤ base) (HT : Hid (t.length = nt)) (HX : Hid (t[i]? = some ⟨1, l, many, least, most⟩)) (hl : l.length ≤ 256) (h : MkE w0 W base pm e0 acc tA EA nt ct ec t A n c a) (hs : s < n) (hn : n ≤ 255) (he : edgesN a ≤ 65 * n) :
    Calls Try.prog 63 #[.pointer (some ⟨pm, 0, none⟩), .int .i64 i, .int .i64 s] W (MkLead w0 W base pm e0 acc tA EA nt ct ec t (leadT (.mk ⟨1, l, many, least, most⟩ ks) a s)) := by
  have hin : i < nt := by have := lt_of_get HX.out; rwa [HT.out] at this
  obtain ⟨b, off, kd, B, cs, m, l', many', least', most', rfl, H5, hset, HM, hmc, hkd, hma, hle, hmo, HX'⟩ := ht.g5 HT hin
  obtain ⟨rfl, rfl, rfl, rfl, rfl⟩ := Rx.mk.inj (Option.some.inj (HX'.out.symm.trans HX.out))
  obtain ⟨y0, y1, y2, y3, y4, y5⟩ := H5.next h.kp
  obtain ⟨hpm, q2, q3⟩ := h.cells
  have hml : m ≤ 256 := by rw [← HM.out]; exact hl
  have hW1 : Below W.heap.size W (W.alloc (.cells #[.int .u8 1, .slice B m cs, .int .i64 many', .int .i64 least', .int .i64 most'] TRx)) := (Below.refl _ _).alloc (Nat.le_refl _) _
  have hW : Below W.heap.size W (W.alloc (.cells #[.int .u8 1, .slice B m cs, .int .i64 many', .int .i64 least', .int .i64 most'] TRx)).drew := hW1.drew
  have BX := Lib.hid (Blk.new W TRx #[.int .u8 1, .slice B m cs, .int .i64 many', .int .i64 least', .int .i64 most'])
  have K1 : Hid ((W.alloc (.cells #[.int .u8 1, .slice B m cs, .int .i64 many', .int .i64 least', .int .i64 most'] TRx)).drew.cell? ⟨W.heap.size, 1, none⟩ = some (.slice B m cs) ∧ (W.alloc (.cells #[.int .u8 1, .slice B m cs, .int .i64 many', .int .i64 least', .int .i64 most'] TRx)).drew.cell? ⟨W.heap.size, 0, none⟩ = some (.int .u8 1)) := Lib.hid ⟨BX.out.cell 1, BX.out.cell 0⟩
  have HST := Lib.hid (maker_state A n c base pm acc _ _ a _ (h.next hW).ma (Nat.le_trans h.ge hW.size) (by omega))
  have HW := Lib.hid hW; have HH := Lib.hid h
  have HNL := Lib.hid h.len
  have HSET := Lib.hid hset
  have HE := Lib.hid he
  clear h hW hW1 H5 ht hset HX' he
  go_enter Try.func63, Try.ntmps63
  go_wp2_with fail
  refine wp_region_T 9 (fun W1 => W1.cell? ⟨W.heap.size, 1, none⟩ = some (.slice B m cs) ∧ W1.cell? ⟨W.heap.size, 0, none⟩ = some (.int .u8 1)) (by kernel_rfl) ?_
  refine wpAnyT_takeW (i := 0) (v := ?_) rfl (by decide) (by kernel_rfl) (by kernel_rfl) (by kernel_rfl) (fun _ _ _ h => h) (.inl ⟨rfl, ?_⟩) (fun _ => K1.out) ?_
  rotate_left
  · intro W__ _
    go_simp
    (try with_reducible rfl)
  simp only [Act.put, List.setIfInBounds_toArray, List.set_cons_zero, List.set_cons_succ]
  refine wpAnyT_takeW (i := 1) (v := ?_) rfl (by decide) (by kernel_rfl) (by kernel_rfl) (by kernel_rfl) (fun _ _ _ h => h) (.inl ⟨rfl, ?_⟩) (fun _ => K1.out) ?_
  rotate_left
  · intro W__ _
    go_simp
    (try with_reducible rfl)
  simp only [Act.put, List.setIfInBounds_toArray, List.set_cons_zero, List.set_cons_succ]
  refine wpAnyT_takeW (i := 2) (v := ?_) rfl (by decide) (by kernel_rfl) (by kernel_rfl) (by kernel_rfl) (fun _ _ _ h => h) (.inl ⟨rfl, ?_⟩) (fun _ => K1.out) ?_
  rotate_left
  · intro W__ _
    go_simp
    (try with_reducible rfl)
  simp only [Act.put, List.setIfInBounds_toArray, List.set_cons_zero, List.set_cons_succ]
  refine wpAnyT_take (i := 4) (v := ?_) rfl (by kernel_rfl) (by kernel_rfl) (by kernel_rfl) (by kernel_rfl) (by kernel_rfl) (fun _ _ _ h => h) (.inl ⟨rfl, ?_⟩) K1.out ?_
  rotate_left
  · intro W__ hW__
    obtain ⟨h1, h2⟩ := hW__
    go_simp
    (try with_reducible rfl)
  simp only [Act.put, List.setIfInBounds_toArray, List.set_cons_zero, List.set_cons_succ]
  refine wpAnyT_take (i := 5) (v := ?_) rfl (by kernel_rfl) (by kernel_rfl) (by kernel_rfl) (by kernel_rfl) (by kernel_rfl) (fun _ _ _ h => h) (.inl ⟨rfl, ?_⟩) K1.out ?_
  rotate_left
  · intro W__ hW__
    obtain ⟨h1, h2⟩ := hW__
    go_simp
    (try with_reducible rfl)
  simp only [Act.put, List.setIfInBounds_toArray, List.set_cons_zero, List.set_cons_succ]
  refine wpAnyT_one (i := 3) rfl (by kernel_rfl) rfl fun K__ hK__ => ?_
  unfold Oper.wp
  go_simp
  refine HST.out.mono ?_
  rintro e w1 ⟨A1, c1, rfl, mk1, ch1⟩
  have B1 := ch1.blk (show Blk (W.alloc (.cells #[.int .u8 1, .slice B m cs, .int .i64 many', .int .i64 least', .int .i64 most'] TRx)).drew W.heap.size TRx _ from BX.out) TB_rx
  refine hK__ _ _ ⟨B1.cell 1, B1.cell 0⟩ ?_
  have CH1 := Lib.hid ((Chg.of_below HW.out).trans ch1)
  have ST1 := Lib.hid (HH.out.step hbs mk1 CH1.out)
  have HCL := Lib.hid (slices_Clone_rng B cs m l' w1 (AtK.keep HSET.out ST1.out.kp) HM (by omega))
  have BX1 := Lib.hid B1
  clear hK__ mk1 ch1 B1
  try simp only [Act.put, List.setIfInBounds_toArray, List.set_cons_zero, List.set_cons_succ]
  refine wpAnyT_one (i := 6) rfl (by kernel_rfl) rfl fun K__ hK__ => ?_
  unfold Oper.wp
  go_simp
  refine HCL.out.mono ?_
  rintro e w2 ⟨B2, cs2, rfl, own2, hb2⟩
  have BX2 := Lib.hid (BX1.out.below hb2 BX1.out.lt)
  refine hK__ _ _ ⟨BX2.out.cell 1, BX2.out.cell 0⟩ ?_
  have SQ := Lib.hid (SetQ.made own2 ST1.out.ge (by rw [HM.out]; omega))
  have ST2 := Lib.hid (ST1.out.next hb2)
  have CH2 := Lib.hid (CH1.out.then hb2)
  have HED := Lib.hid (maker_edge A1 (n + 1) c1 base pm s acc _ _ (a ++ [[]]) ⟨n, false, l'⟩ B2 m cs2 w2 ST2.out.ma ST2.out.ge (by omega) (by simp only; omega) (by rw [edgesN_state]; have := HE.out; omega) SQ.out)
  have K2 : Hid (w2.cell? ⟨W.heap.size, 1, none⟩ = some (.slice B m cs) ∧ w2.cell? ⟨W.heap.size, 0, none⟩ = some (.int .u8 1)) := Lib.hid ⟨BX2.out.cell 1, BX2.out.cell 0⟩
  clear hK__ own2 hb2
  try simp only [Act.put, List.setIfInBounds_toArray, List.set_cons_zero, List.set_cons_succ]
  refine wpAnyT_takeW (i := 7) (v := ?_) rfl (by decide) (by kernel_rfl) (by kernel_rfl) (by kernel_rfl) (fun _ _ _ h => h) (.inl ⟨rfl, ?_⟩) (fun _ => K2.out) ?_
  rotate_left
  · intro W__ _
    go_simp
    (try with_reducible rfl)
  simp only [Act.put, List.setIfInBounds_toArray, List.set_cons_zero, List.set_cons_succ]
  refine wpAnyT_one (i := 8) rfl (by kernel_rfl) rfl fun K__ hK__ => ?_
  unfold Oper.wp
  go_simp
  refine HED.out.mono ?_
  rintro e w3 ⟨rfl, mk3, ch3⟩
  have B3 := ch3.blk BX2.out TB_rx
  refine hK__ _ _ ⟨B3.cell 1, B3.cell 0⟩ ?_
  have CH3 := Lib.hid (CH2.out.trans ch3)
  have ST3 := Lib.hid (ST2.out.step hbs mk3 ch3)
  clear hK__ mk3 ch3 B3
  try simp only [Act.put, List.setIfInBounds_toArray, List.set_cons_zero, List.set_cons_succ]
  refine wpAnyT_end (i := 9) rfl (by kernel_rfl) rfl (by kernel_rfl) fun K__ hK__ => ?_
  unfold Oper.wp
  go_simp
  refine hK__ _ _ ?_
  clear hK__
  refine wpAnyT_done (by kernel_rfl) ?_ _
  have HRR := Lib.hid (show leadT (.mk ⟨1, l', many', least', most'⟩ ks) a s = (auEdge (a ++ [[]]) s ⟨a.length, false, l'⟩, a.length) by rw [leadT, if_neg (by simp), if_pos rfl])
  go_wp2
  go_ret
  rw [HRR.out, ← HNL.out]
  exact ⟨A1, c1, rfl, by simp only [auEdge_length, List.length_append, List.length_cons, List.length_nil, Nat.zero_add, ← HNL.out]; exact ST3.out, CH3.out⟩

end Go.Proofs.Ytjnjbcigbnjmkaa
