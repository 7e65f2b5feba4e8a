/- Walks: the document's leading through a node that has no nodes. -/
import Derived.Test.YtjnjbcigbnjmkaaGreatAqy
namespace Go.Proofs.YtjnjbcigbnjmkaaGreat
open Go.RowKit Pv

theorem SetIn.old {w0 W : World} {base c m : Nat} {A : Option Addr} {l : List Rng} (h : AtSet w0 A l) (k : Keep w0 W) (hb : w0.heap.size ≤ base) (hm : l.length = m) (hc : m ≤ c) : SetIn W base (.slice A m c) l := by
  subst hm
  refine ⟨A, c, rfl, AtK.keep h k, hc, fun hp b o e => .inl ?_⟩
  obtain ⟨b', o', e', hlt, _⟩ := h.2 hp
  rw [e] at e'
  injection e' with e'
  injection e' with e1 _
  omega
theorem TA_rx : ∀ e, e ∈ TA → e ≠ 25 := by decide
theorem Blk.five {w : World} {g : Nat} {t : TypeId} {a b c d e : Value} (h : Blk w g t #[a, b, c, d, e]) : w.cell? ⟨g, 0, none⟩ = some a ∧ w.cell? ⟨g, 1, none⟩ = some b ∧ w.cell? ⟨g, 2, none⟩ = some c ∧ w.cell? ⟨g, 3, none⟩ = some d ∧ w.cell? ⟨g, 4, none⟩ = some e :=
  ⟨h.cell 0, h.cell 1, h.cell 2, h.cell 3, h.cell 4⟩

set_option maxHeartbeats 4000000 in
set_option maxRecDepth 100000 in
theorem lead_leaf (w w0 : World) (base : Nat) (acc : Int) (tA : Option Addr) (nt ct : Nat) (t : List Rx) (i : Nat) (kd : Int) (fl : Bool) (l : List Rng) (A : Option Addr) (n c : Nat) (a : Au) (s : Nat) (least most : Int) (ks : List Tr) (hbs : w0.heap.size ≤ base) (hb : base ≤ w.heap.size) (hkp : Keep w0 w) (h : AuAt w base A n c a) (hn : n ≤ 256) (hs : s < n) (he : edgesN a ≤ 65 * n)
    (ht : AtRx w0 tA t) (HT : Hid (t.length = nt)) (hnt : nt ≤ 64) (HX : Hid (t[i]? = some ⟨kd, l, 0, least, most⟩)) (hkf : (kd = 0 ∧ fl = true) ∨ (kd = 1 ∧ fl = false)) :
    Calls Tryz.prog 58 #[.agg #[.slice A n c, .int .i64 acc], .slice tA nt ct, .int .i64 i, .int .i64 s] w (LeadPost w base acc (leadR (.mk ⟨kd, l, 0, least, most⟩ ks) a s)) := by
  obtain ⟨i0, hi0, hz0, hs0, hb0⟩ := info_parts info_edge
  have hnl := h.len
  have hin : i < nt := by have := lt_of_get HX.out; rwa [HT.out] at this
  have hR : leadR (.mk ⟨kd, l, 0, least, most⟩ ks) a s = (auEdge (a ++ [[]]) s ⟨n, fl, l⟩, (n : Int)) := by
    rw [leadR_leaf (by rw [← hnl]; omega) (by rcases hkf with h | h <;> simp [h.1]), ← hnl]
    rcases hkf with ⟨rfl, rfl⟩ | ⟨rfl, rfl⟩ <;> simp
  rw [hR]
  have HU := Lib.hid (fun (W : World) (kp : Keep w0 W) => ref07_Under tA ct nt i t ⟨kd, l, 0, least, most⟩ W (AtRx.keep ht kp) HT hnt HX (Lib.hid (fun k hk => by
    have : k = 0 := by simpa using hk
    subst this
    exact ⟨i + 1, by omega, rfl⟩)) (by simp))
  obtain ⟨b, off, kd', S, cs, m, l', many', least', most', rfl, H5, hset, HM, hmc, hkd, hma, hle, hmo, HX'⟩ := ht.g5 HT hin
  obtain ⟨rfl, rfl, rfl, rfl, rfl⟩ := Rx.mk.inj (Option.some.inj (HX'.out.symm.trans HX.out))
  obtain ⟨y0, y1, y2, y3, y4, y5⟩ := H5.next hkp
  have hW : Below w.heap.size w (((w.alloc (.cells #[.slice A n c, .int .i64 acc] TAuto)).alloc (.cells #[.slice none 0 0, .int .i64 0] TAuto)).alloc (.cells #[.int .u8 kd', .slice S m cs, .int .i64 0, .int .i64 least', .int .i64 most'] 25)) := (((Below.refl _ _).alloc (Nat.le_refl _) _).alloc (by simp) _).alloc (by simp; omega) _
  have HW := Lib.hid hW
  have BK := Lib.hid (blk3 w #[.slice A n c, .int .i64 acc] #[.slice none 0 0, .int .i64 0] #[.int .u8 kd', .slice S m cs, .int .i64 0, .int .i64 least', .int .i64 most'] TAuto TAuto 25)
  have HH := Lib.hid h; have HKP := Lib.hid hkp; have HSET := Lib.hid hset
  have HST := Lib.hid (fun (W : World) (hbe : Below w.heap.size w W) => ref09_state A n c base acc a W (h.next hbe) (Nat.le_trans hb hbe.size) (by omega))
  have HE := Lib.hid he
  have HNL := Lib.hid hnl
  clear hR hW h hkp hset HX' ht H5 hnl he
  rcases hkf with ⟨rfl, rfl⟩ | ⟨rfl, rfl⟩
  · go_enter Tryz.func58, Tryz.ntmps58
    go_wp2_with fail
    refine (HU.out _ (HKP.out.trans (Keep.of HW.out))).mono ?_
    rintro e w3 ⟨LB, lc, rfl, _, hb3⟩
    have B0 := Lib.hid (BK.out.1.below hb3 (by simp; omega)); have B1 := Lib.hid (BK.out.2.1.below hb3 (by simp)); have BX := Lib.hid (BK.out.2.2.below hb3 (by simp))
    have W3 := Lib.hid (HW.out.trans (hb3.mono HW.out.size))
    clear hb3 y0 y1 y2 y3 y4 y5
    obtain ⟨x0, x1, x2, x3, x4⟩ := Blk.five BX.out
    obtain ⟨p0, p1, p2, p3⟩ := Blk.two B0.out
    go_wp2_with fail
    refine (HST.out _ W3.out).mono ?_
    rintro e w4 ⟨A4, c4, rfl, au4, ch4⟩
    have AU4 := Lib.hid au4; have CH4 := Lib.hid ((Chg.of_below (T := TA) (base := base) W3.out).trans ch4)
    have C1 := Lib.hid (ch4.blk B1.out TA_auto); have CX := Lib.hid (ch4.blk BX.out TA_rx)
    clear x0 x1 x2 x3 x4 p0 p1 p2 p3 au4 ch4
    obtain ⟨x0, x1, x2, x3, x4⟩ := Blk.five CX.out
    have hbb : Below w4.heap.size w4 (w4.alloc (.cells #[.slice A4 (n + 1) c4, .int .i64 acc] TAuto)) := (Below.refl _ _).alloc (Nat.le_refl _) _
    have hbase4 : base ≤ w4.heap.size := Nat.le_trans hb CH4.out.size
    obtain ⟨rows, ow, hr⟩ := AU4.out.next hbb
    obtain ⟨g, B, mm, cc, us, es, rfl, hbg, hgl, hcell, hfz, hes, hm, hrow, owr, hk⟩ := hr.get (s := s) ow (by omega)
    have hme : mm ≤ 1000000 := by have h1 := le_edgesN hes; have h2 := HE.out; rw [edgesN_state] at h1; omega
    have OW0 := Lib.hid ow; have HR := Lib.hid hr; have HES := Lib.hid hes; have HMM := Lib.hid hm; have HROW := Lib.hid hrow; have OWR := Lib.hid owr; have HK := Lib.hid hk
    have BB := Lib.hid (Blk.new w4 TAuto #[.slice (some ⟨g, 0, none⟩) (n + 1) c4, .int .i64 acc])
    have C15 := Lib.hid (C1.out.alloc (.cells #[.slice (some ⟨g, 0, none⟩) (n + 1) c4, .int .i64 acc] TAuto))
    have CX5 := Lib.hid (CX.out.alloc (.cells #[.slice (some ⟨g, 0, none⟩) (n + 1) c4, .int .i64 acc] TAuto))
    have SI := Lib.hid (SetIn.old (W := w4.alloc (.cells #[.slice (some ⟨g, 0, none⟩) (n + 1) c4, .int .i64 acc] TAuto)) HSET.out (((CH4.out.keep HKP.out hbs hb)).trans (Keep.of hbb)) hbs HM.out hmc)
    have CH5 := Lib.hid (CH4.out.then hbb)
    have OW : Hid ((((w4.alloc (.cells #[.slice (some ⟨g, 0, none⟩) (n + 1) c4, .int .i64 acc] TAuto)).alloc (.cells #[.int .i64 n, .bool true, .slice S m cs] TEdge)).drew).ownsRow base TEdge 3 (.slice B mm cc) mm us) := Lib.hid (owr.alloc (.cells #[.int .i64 n, .bool true, .slice S m cs] TEdge))
    have SRC0 := (Src.many (w := w4.alloc (.cells #[.slice (some ⟨g, 0, none⟩) (n + 1) c4, .int .i64 acc] TAuto)) (arr := #[.int .i64 n, .bool true, .slice S m cs]) (t := TEdge) (size := 3) (by simp [Value.oneCell']) rfl).keep (Keep.drew _)
    rw [show (w4.alloc (.cells #[.slice (some ⟨g, 0, none⟩) (n + 1) c4, .int .i64 acc] TAuto)).heap.size = w4.heap.size + 1 by simp] at SRC0
    have SRC := Lib.hid SRC0
    have Q1 : Hid (mm + 1 ≤ maxLen) := Lib.hid (by simp only [maxLen]; omega)
    have Q2 : Hid ((mm + 1) * 40 ≤ 140737488355328) := Lib.hid (by omega)
    have Q3 : Hid (base ≤ (((w4.alloc (.cells #[.slice (some ⟨g, 0, none⟩) (n + 1) c4, .int .i64 acc] TAuto)).alloc (.cells #[.int .i64 n, .bool true, .slice S m cs] TEdge)).drew).heap.size) := Lib.hid (by simp; omega)
    have hgl2 : g < w4.heap.size + 1 := by simpa using hgl
    have hs1 : (s : Int) < (n : Int) + 1 := by omega
    have hN2 := CX.out.lt
    have HC1 := Lib.hid (((Keep.alloc (w4.alloc (.cells #[.slice (some ⟨g, 0, none⟩) (n + 1) c4, .int .i64 acc] TAuto)) (.cells #[.int .i64 n, .bool true, .slice S m cs] TEdge)).cell g s hgl).trans hcell)
    have HF1 := Lib.hid ((World.frozen?_of_block (a := ⟨g, s, none⟩) (Below.heap_alloc (w4.alloc (.cells #[.slice (some ⟨g, 0, none⟩) (n + 1) c4, .int .i64 acc] TAuto)) (.cells #[.int .i64 n, .bool true, .slice S m cs] TEdge) g hgl)).trans hfz)
    clear ow hr hes hm hrow owr hk SRC0 hbb
    have K1 : Hid ((w4.alloc (.cells #[.slice (some ⟨g, 0, none⟩) (n + 1) c4, .int .i64 acc] TAuto)).drew.cell? ⟨w4.heap.size, 0, none⟩ = some (.slice (some ⟨g, 0, none⟩) (n + 1) c4) ∧ (w4.alloc (.cells #[.slice (some ⟨g, 0, none⟩) (n + 1) c4, .int .i64 acc] TAuto)).drew.cell? ⟨g, s, none⟩ = some (.slice B mm cc) ∧ (w4.alloc (.cells #[.slice (some ⟨g, 0, none⟩) (n + 1) c4, .int .i64 acc] TAuto)).drew.cell? ⟨w.heap.size + 1 + 1, 0, none⟩ = some (.int .u8 0) ∧ (w4.alloc (.cells #[.slice (some ⟨g, 0, none⟩) (n + 1) c4, .int .i64 acc] TAuto)).drew.cell? ⟨w.heap.size + 1 + 1, 1, none⟩ = some (.slice S m cs)) := Lib.hid ⟨BB.out.cell 0, hcell, CX5.out.cell 0, CX5.out.cell 1⟩
    have BB2 := Lib.hid (BB.out.alloc (.cells #[.int .i64 n, .bool true, .slice S m cs] TEdge))
    have CX2 := Lib.hid (CX5.out.alloc (.cells #[.int .i64 n, .bool true, .slice S m cs] TEdge))
    have K2 : Hid (((w4.alloc (.cells #[.slice (some ⟨g, 0, none⟩) (n + 1) c4, .int .i64 acc] TAuto)).alloc (.cells #[.int .i64 n, .bool true, .slice S m cs] TEdge)).drew.cell? ⟨w4.heap.size, 0, none⟩ = some (.slice (some ⟨g, 0, none⟩) (n + 1) c4) ∧ ((w4.alloc (.cells #[.slice (some ⟨g, 0, none⟩) (n + 1) c4, .int .i64 acc] TAuto)).alloc (.cells #[.int .i64 n, .bool true, .slice S m cs] TEdge)).drew.cell? ⟨g, s, none⟩ = some (.slice B mm cc) ∧ ((w4.alloc (.cells #[.slice (some ⟨g, 0, none⟩) (n + 1) c4, .int .i64 acc] TAuto)).alloc (.cells #[.int .i64 n, .bool true, .slice S m cs] TEdge)).drew.cell? ⟨w.heap.size + 1 + 1, 0, none⟩ = some (.int .u8 0) ∧ ((w4.alloc (.cells #[.slice (some ⟨g, 0, none⟩) (n + 1) c4, .int .i64 acc] TAuto)).alloc (.cells #[.int .i64 n, .bool true, .slice S m cs] TEdge)).drew.cell? ⟨w.heap.size + 1 + 1, 1, none⟩ = some (.slice S m cs)) := Lib.hid ⟨BB2.out.cell 0, HC1.out, CX2.out.cell 0, CX2.out.cell 1⟩
    go_wp2
    refine wp_region_T 18 (fun W => W.cell? ⟨w4.heap.size, 0, none⟩ = some (.slice (some ⟨g, 0, none⟩) (n + 1) c4) ∧ W.cell? ⟨g, s, none⟩ = some (.slice B mm cc) ∧ W.cell? ⟨w.heap.size + 1 + 1, 0, none⟩ = some (.int .u8 0) ∧ W.cell? ⟨w.heap.size + 1 + 1, 1, none⟩ = some (.slice S m cs)) (by kernel_rfl) ?_
    refine wpAnyT_take (i := 0) (v := ?_) rfl (by kernel_rfl) (by kernel_rfl) (by kernel_rfl) (by kernel_rfl) (by kernel_rfl) (fun _ _ _ h => h) (.inl ⟨rfl, ?_⟩) K1.out ?_
    rotate_left
    · intro W__ hW__
      obtain ⟨h1, h2, h3, h4⟩ := hW__
      go_simp
      (try with_reducible rfl)
    simp only [Act.put, List.setIfInBounds_toArray, List.set_cons_zero, List.set_cons_succ]
    refine wpAnyT_take (i := 1) (v := ?_) rfl (by kernel_rfl) (by kernel_rfl) (by kernel_rfl) (by kernel_rfl) (by kernel_rfl) (fun _ _ _ h => h) (.inl ⟨rfl, ?_⟩) K1.out ?_
    rotate_left
    · intro W__ hW__
      obtain ⟨h1, h2, h3, h4⟩ := hW__
      go_simp
      (try with_reducible rfl)
    simp only [Act.put, List.setIfInBounds_toArray, List.set_cons_zero, List.set_cons_succ]
    refine wpAnyT_take (i := 2) (v := ?_) rfl (by kernel_rfl) (by kernel_rfl) (by kernel_rfl) (by kernel_rfl) (by kernel_rfl) (fun _ _ _ h => h) (.inl ⟨rfl, ?_⟩) K1.out ?_
    rotate_left
    · intro W__ hW__
      obtain ⟨h1, h2, h3, h4⟩ := hW__
      go_simp
      (try with_reducible rfl)
    simp only [Act.put, List.setIfInBounds_toArray, List.set_cons_zero, List.set_cons_succ]
    refine wpAnyT_take (i := 3) (v := ?_) rfl (by kernel_rfl) (by kernel_rfl) (by kernel_rfl) (by kernel_rfl) (by kernel_rfl) (fun _ _ _ h => h) (.inl ⟨rfl, ?_⟩) K1.out ?_
    rotate_left
    · intro W__ hW__
      obtain ⟨h1, h2, h3, h4⟩ := hW__
      go_simp
      (try with_reducible rfl)
    simp only [Act.put, List.setIfInBounds_toArray, List.set_cons_zero, List.set_cons_succ]
    refine wpAnyT_take (i := 4) (v := ?_) rfl (by kernel_rfl) (by kernel_rfl) (by kernel_rfl) (by kernel_rfl) (by kernel_rfl) (fun _ _ _ h => h) (.inl ⟨rfl, ?_⟩) K1.out ?_
    rotate_left
    · intro W__ hW__
      obtain ⟨h1, h2, h3, h4⟩ := hW__
      go_simp
      (try with_reducible rfl)
    simp only [Act.put, List.setIfInBounds_toArray, List.set_cons_zero, List.set_cons_succ]
    refine wpAnyT_take (i := 5) (v := ?_) rfl (by kernel_rfl) (by kernel_rfl) (by kernel_rfl) (by kernel_rfl) (by kernel_rfl) (fun _ _ _ h => h) (.inl ⟨rfl, ?_⟩) K1.out ?_
    rotate_left
    · intro W__ hW__
      obtain ⟨h1, h2, h3, h4⟩ := hW__
      go_simp
      (try with_reducible rfl)
    simp only [Act.put, List.setIfInBounds_toArray, List.set_cons_zero, List.set_cons_succ]
    refine wpAnyT_take (i := 6) (v := ?_) rfl (by kernel_rfl) (by kernel_rfl) (by kernel_rfl) (by kernel_rfl) (by kernel_rfl) (fun _ _ _ h => h) (.inl ⟨rfl, ?_⟩) K1.out ?_
    rotate_left
    · intro W__ hW__
      obtain ⟨h1, h2, h3, h4⟩ := hW__
      go_simp
      (try with_reducible rfl)
    simp only [Act.put, List.setIfInBounds_toArray, List.set_cons_zero, List.set_cons_succ]
    refine wpAnyT_take (i := 7) (v := ?_) rfl (by kernel_rfl) (by kernel_rfl) (by kernel_rfl) (by kernel_rfl) (by kernel_rfl) (fun _ _ _ h => h) (.inl ⟨rfl, ?_⟩) K1.out ?_
    rotate_left
    · intro W__ hW__
      obtain ⟨h1, h2, h3, h4⟩ := hW__
      go_simp
      (try with_reducible rfl)
    simp only [Act.put, List.setIfInBounds_toArray, List.set_cons_zero, List.set_cons_succ]
    refine wpAnyT_take (i := 8) (v := ?_) rfl (by kernel_rfl) (by kernel_rfl) (by kernel_rfl) (by kernel_rfl) (by kernel_rfl) (fun _ _ _ h => h) (.inl ⟨rfl, ?_⟩) K1.out ?_
    rotate_left
    · intro W__ hW__
      obtain ⟨h1, h2, h3, h4⟩ := hW__
      go_simp
      (try with_reducible rfl)
    simp only [Act.put, List.setIfInBounds_toArray, List.set_cons_zero, List.set_cons_succ]
    refine wpAnyT_take (i := 9) (v := ?_) rfl (by kernel_rfl) (by kernel_rfl) (by kernel_rfl) (by kernel_rfl) (by kernel_rfl) (fun _ _ _ h => h) (.inl ⟨rfl, ?_⟩) K1.out ?_
    rotate_left
    · intro W__ hW__
      obtain ⟨h1, h2, h3, h4⟩ := hW__
      go_simp
      (try with_reducible rfl)
    simp only [Act.put, List.setIfInBounds_toArray, List.set_cons_zero, List.set_cons_succ]
    refine wpAnyT_take (i := 10) (v := ?_) rfl (by kernel_rfl) (by kernel_rfl) (by kernel_rfl) (by kernel_rfl) (by kernel_rfl) (fun _ _ _ h => h) (.inl ⟨rfl, ?_⟩) K1.out ?_
    rotate_left
    · intro W__ hW__
      obtain ⟨h1, h2, h3, h4⟩ := hW__
      go_simp
      (try with_reducible rfl)
    simp only [Act.put, List.setIfInBounds_toArray, List.set_cons_zero, List.set_cons_succ]
    refine wpAnyT_take (i := 11) (v := ?_) rfl (by kernel_rfl) (by kernel_rfl) (by kernel_rfl) (by kernel_rfl) (by kernel_rfl) (fun _ _ _ h => h) (.inl ⟨rfl, ?_⟩) K1.out ?_
    rotate_left
    · intro W__ hW__
      obtain ⟨h1, h2, h3, h4⟩ := hW__
      go_simp
      (try with_reducible rfl)
    simp only [Act.put, List.setIfInBounds_toArray, List.set_cons_zero, List.set_cons_succ]
    refine wpAnyT_take (i := 12) (v := ?_) rfl (by kernel_rfl) (by kernel_rfl) (by kernel_rfl) (by kernel_rfl) (by kernel_rfl) (fun _ _ _ h => h) (.inl ⟨rfl, ?_⟩) K1.out ?_
    rotate_left
    · intro W__ hW__
      obtain ⟨h1, h2, h3, h4⟩ := hW__
      go_simp
      (try with_reducible rfl)
    simp only [Act.put, List.setIfInBounds_toArray, List.set_cons_zero, List.set_cons_succ]
    refine wpAnyT_take (i := 13) (v := ?_) rfl (by kernel_rfl) (by kernel_rfl) (by kernel_rfl) (by kernel_rfl) (by kernel_rfl) (fun _ _ _ h => h) (.inl ⟨rfl, ?_⟩) K1.out ?_
    rotate_left
    · intro W__ hW__
      obtain ⟨h1, h2, h3, h4⟩ := hW__
      go_simp
      (try with_reducible rfl)
    simp only [Act.put, List.setIfInBounds_toArray, List.set_cons_zero, List.set_cons_succ]
    refine wpAnyT_take (i := 14) (v := ?_) rfl (by kernel_rfl) (by kernel_rfl) (by kernel_rfl) (by kernel_rfl) (by kernel_rfl) (fun _ _ _ h => h) (.inl ⟨rfl, ?_⟩) K1.out ?_
    rotate_left
    · intro W__ hW__
      obtain ⟨h1, h2, h3, h4⟩ := hW__
      go_simp
      (try with_reducible rfl)
    simp only [Act.put, List.setIfInBounds_toArray, List.set_cons_zero, List.set_cons_succ]
    refine wpAnyT_one (i := 15) rfl (by kernel_rfl) rfl fun K hK => ?_
    unfold Oper.wp
    go_simp
    refine hK _ _ K2.out ?_
    clear hK
    refine wpAnyT_one (i := 16) rfl (by kernel_rfl) rfl fun K hK => ?_
    refine wp_append_src _ (.tmp 58) (.tmp 66) 101 rfl base TEdge i0 (.agg #[.int .i64 0, .bool false, .slice none 0 0]) 3 40 Tryz.underlying101 hi0 hz0 hs0 hb0 rfl (by decide) B cc mm us (by simp [Act.eval]) OW.out _ 1 1 _ (by simp [Act.eval]) SRC.out Q1.out Q2.out Q3.out ?_
    intro B4 c5 w5 own4 gr4 hnew4
    have ED := Lib.hid (RowsAt.edge (x := ⟨n, true, l'⟩) OW0.out HR.out (by omega) HES.out HMM.out HROW.out OWR.out HK.out SI.out (by simp only; omega) rfl ⟨gr4.os, gr4.tape, gr4.output, gr4.size, gr4.block⟩ own4 hnew4)
    have hne : some g ≠ (Value.slice B mm cc).ownBlock := fun e => by
      rcases own_ne OWR.out OW0.out (by decide) with h' | h'
      · rw [h'] at e; cases e
      · exact h' e.symm
    have hgk := gr4.block g (by simp; omega) hne
    have c4' : w5.cell? ⟨g, s, none⟩ = some (.slice B mm cc) := (World.cell?_of_block (a := ⟨g, s, none⟩) hgk).trans HC1.out
    have f4' : w5.frozen? ⟨g, s, none⟩ = false := (World.frozen?_of_block (a := ⟨g, s, none⟩) hgk).trans HF1.out
    have BK4 := (BB.out.alloc (.cells #[.int .i64 n, .bool true, .slice S m cs] TEdge)).grown (w' := w5) ⟨gr4.os, gr4.tape, gr4.output, gr4.size, gr4.block⟩ (own_blk_ne OWR.out BB.out (by decide))
    have BX4 := (CX5.out.alloc (.cells #[.int .i64 n, .bool true, .slice S m cs] TEdge)).grown (w' := w5) ⟨gr4.os, gr4.tape, gr4.output, gr4.size, gr4.block⟩ (own_blk_ne OWR.out CX5.out (by decide))
    obtain ⟨q0, q1, q2, q3⟩ := Blk.two BK4
    obtain ⟨r0, r1, r2, r3, r4⟩ := Blk.five BX4
    have CB := Lib.hid (ED.out.2.blk BB.out TA_auto)
    have CR := Lib.hid (ED.out.2.blk C15.out TA_auto)
    have S2 := Lib.hid (store2 (.slice (some ⟨g, 0, none⟩) (n + 1) c4) (.int .i64 acc) CR.out ED.out.1 (CH5.out.trans ED.out.2) TA_auto (by decide) hb (Nat.le_succ _))
    obtain ⟨s0, s1, s2, s3⟩ := Blk.two CB.out
    obtain ⟨v0, v1, v2, v3⟩ := Blk.two CR.out
    have K3 := Lib.hid (And.intro q0 (And.intro c4' (And.intro r0 r1)))
    refine hK _ _ K3.out ?_
    clear gr4 own4 hnew4 hne hgk BK4 BX4 hK
    simp only [Act.put, List.setIfInBounds_toArray, List.set_cons_zero, List.set_cons_succ]
    refine wpAnyT_take (i := 17) (v := ?_) rfl (by kernel_rfl) (by kernel_rfl) (by kernel_rfl) (by kernel_rfl) (by kernel_rfl) (fun _ _ _ h => h) (.inl ⟨rfl, ?_⟩) K3.out ?_
    rotate_left
    · intro W__ hW__
      obtain ⟨h1, h2, h3, h4⟩ := hW__
      go_simp
      (try with_reducible rfl)
    simp only [Act.put, List.setIfInBounds_toArray, List.set_cons_zero, List.set_cons_succ]
    refine wpAnyT_end (i := 18) rfl (by kernel_rfl) rfl (by kernel_rfl) fun K__ hK__ => ?_
    unfold Oper.wp
    go_simp
    refine hK__ _ _ ?_
    clear hK__
    refine wpAnyT_done (by kernel_rfl) ?_ _
    obtain ⟨z0, z1, _, _⟩ := Blk.two S2.out.1
    go_wp2
    refine bodyPost_ret (v := .tuple #[.agg #[.slice (some ⟨g, 0, none⟩) (n + 1) c4, .int .i64 acc], .int .i64 n]) (by simp [results, Tryz.results58, go_sem, z0, z1]) rfl ⟨some ⟨g, 0, none⟩, c4, by simp only [auEdge_length, List.length_append, List.length_cons, List.length_nil, Nat.zero_add, ← HNL.out], by simp only [auEdge_length, List.length_append, List.length_cons, List.length_nil, Nat.zero_add, ← HNL.out]; exact S2.out.2.1, S2.out.2.2⟩
  · go_enter Tryz.func58, Tryz.ntmps58
    go_wp2_with fail
    refine (HU.out _ (HKP.out.trans (Keep.of HW.out))).mono ?_
    rintro e w3 ⟨LB, lc, rfl, _, hb3⟩
    have B0 := Lib.hid (BK.out.1.below hb3 (by simp; omega)); have B1 := Lib.hid (BK.out.2.1.below hb3 (by simp)); have BX := Lib.hid (BK.out.2.2.below hb3 (by simp))
    have W3 := Lib.hid (HW.out.trans (hb3.mono HW.out.size))
    clear hb3 y0 y1 y2 y3 y4 y5
    obtain ⟨x0, x1, x2, x3, x4⟩ := Blk.five BX.out
    obtain ⟨p0, p1, p2, p3⟩ := Blk.two B0.out
    go_wp2_with fail
    refine (HST.out _ W3.out).mono ?_
    rintro e w4 ⟨A4, c4, rfl, au4, ch4⟩
    have AU4 := Lib.hid au4; have CH4 := Lib.hid ((Chg.of_below (T := TA) (base := base) W3.out).trans ch4)
    have C1 := Lib.hid (ch4.blk B1.out TA_auto); have CX := Lib.hid (ch4.blk BX.out TA_rx)
    clear x0 x1 x2 x3 x4 p0 p1 p2 p3 au4 ch4
    obtain ⟨x0, x1, x2, x3, x4⟩ := Blk.five CX.out
    have hbb : Below w4.heap.size w4 (w4.alloc (.cells #[.slice A4 (n + 1) c4, .int .i64 acc] TAuto)) := (Below.refl _ _).alloc (Nat.le_refl _) _
    have hbase4 : base ≤ w4.heap.size := Nat.le_trans hb CH4.out.size
    obtain ⟨rows, ow, hr⟩ := AU4.out.next hbb
    obtain ⟨g, B, mm, cc, us, es, rfl, hbg, hgl, hcell, hfz, hes, hm, hrow, owr, hk⟩ := hr.get (s := s) ow (by omega)
    have hme : mm ≤ 1000000 := by have h1 := le_edgesN hes; have h2 := HE.out; rw [edgesN_state] at h1; omega
    have OW0 := Lib.hid ow; have HR := Lib.hid hr; have HES := Lib.hid hes; have HMM := Lib.hid hm; have HROW := Lib.hid hrow; have OWR := Lib.hid owr; have HK := Lib.hid hk
    have BB := Lib.hid (Blk.new w4 TAuto #[.slice (some ⟨g, 0, none⟩) (n + 1) c4, .int .i64 acc])
    have C15 := Lib.hid (C1.out.alloc (.cells #[.slice (some ⟨g, 0, none⟩) (n + 1) c4, .int .i64 acc] TAuto))
    have CX5 := Lib.hid (CX.out.alloc (.cells #[.slice (some ⟨g, 0, none⟩) (n + 1) c4, .int .i64 acc] TAuto))
    have SI := Lib.hid (SetIn.old (W := w4.alloc (.cells #[.slice (some ⟨g, 0, none⟩) (n + 1) c4, .int .i64 acc] TAuto)) HSET.out (((CH4.out.keep HKP.out hbs hb)).trans (Keep.of hbb)) hbs HM.out hmc)
    have CH5 := Lib.hid (CH4.out.then hbb)
    have OW : Hid ((((w4.alloc (.cells #[.slice (some ⟨g, 0, none⟩) (n + 1) c4, .int .i64 acc] TAuto)).alloc (.cells #[.int .i64 n, .bool false, .slice S m cs] TEdge)).drew).ownsRow base TEdge 3 (.slice B mm cc) mm us) := Lib.hid (owr.alloc (.cells #[.int .i64 n, .bool false, .slice S m cs] TEdge))
    have SRC0 := (Src.many (w := w4.alloc (.cells #[.slice (some ⟨g, 0, none⟩) (n + 1) c4, .int .i64 acc] TAuto)) (arr := #[.int .i64 n, .bool false, .slice S m cs]) (t := TEdge) (size := 3) (by simp [Value.oneCell']) rfl).keep (Keep.drew _)
    rw [show (w4.alloc (.cells #[.slice (some ⟨g, 0, none⟩) (n + 1) c4, .int .i64 acc] TAuto)).heap.size = w4.heap.size + 1 by simp] at SRC0
    have SRC := Lib.hid SRC0
    have Q1 : Hid (mm + 1 ≤ maxLen) := Lib.hid (by simp only [maxLen]; omega)
    have Q2 : Hid ((mm + 1) * 40 ≤ 140737488355328) := Lib.hid (by omega)
    have Q3 : Hid (base ≤ (((w4.alloc (.cells #[.slice (some ⟨g, 0, none⟩) (n + 1) c4, .int .i64 acc] TAuto)).alloc (.cells #[.int .i64 n, .bool false, .slice S m cs] TEdge)).drew).heap.size) := Lib.hid (by simp; omega)
    have hgl2 : g < w4.heap.size + 1 := by simpa using hgl
    have hs1 : (s : Int) < (n : Int) + 1 := by omega
    have hN2 := CX.out.lt
    have HC1 := Lib.hid (((Keep.alloc (w4.alloc (.cells #[.slice (some ⟨g, 0, none⟩) (n + 1) c4, .int .i64 acc] TAuto)) (.cells #[.int .i64 n, .bool false, .slice S m cs] TEdge)).cell g s hgl).trans hcell)
    have HF1 := Lib.hid ((World.frozen?_of_block (a := ⟨g, s, none⟩) (Below.heap_alloc (w4.alloc (.cells #[.slice (some ⟨g, 0, none⟩) (n + 1) c4, .int .i64 acc] TAuto)) (.cells #[.int .i64 n, .bool false, .slice S m cs] TEdge) g hgl)).trans hfz)
    clear ow hr hes hm hrow owr hk SRC0 hbb
    have K1 : Hid ((w4.alloc (.cells #[.slice (some ⟨g, 0, none⟩) (n + 1) c4, .int .i64 acc] TAuto)).drew.cell? ⟨w4.heap.size, 0, none⟩ = some (.slice (some ⟨g, 0, none⟩) (n + 1) c4) ∧ (w4.alloc (.cells #[.slice (some ⟨g, 0, none⟩) (n + 1) c4, .int .i64 acc] TAuto)).drew.cell? ⟨g, s, none⟩ = some (.slice B mm cc) ∧ (w4.alloc (.cells #[.slice (some ⟨g, 0, none⟩) (n + 1) c4, .int .i64 acc] TAuto)).drew.cell? ⟨w.heap.size + 1 + 1, 0, none⟩ = some (.int .u8 1) ∧ (w4.alloc (.cells #[.slice (some ⟨g, 0, none⟩) (n + 1) c4, .int .i64 acc] TAuto)).drew.cell? ⟨w.heap.size + 1 + 1, 1, none⟩ = some (.slice S m cs)) := Lib.hid ⟨BB.out.cell 0, hcell, CX5.out.cell 0, CX5.out.cell 1⟩
    have BB2 := Lib.hid (BB.out.alloc (.cells #[.int .i64 n, .bool false, .slice S m cs] TEdge))
    have CX2 := Lib.hid (CX5.out.alloc (.cells #[.int .i64 n, .bool false, .slice S m cs] TEdge))
    have K2 : Hid (((w4.alloc (.cells #[.slice (some ⟨g, 0, none⟩) (n + 1) c4, .int .i64 acc] TAuto)).alloc (.cells #[.int .i64 n, .bool false, .slice S m cs] TEdge)).drew.cell? ⟨w4.heap.size, 0, none⟩ = some (.slice (some ⟨g, 0, none⟩) (n + 1) c4) ∧ ((w4.alloc (.cells #[.slice (some ⟨g, 0, none⟩) (n + 1) c4, .int .i64 acc] TAuto)).alloc (.cells #[.int .i64 n, .bool false, .slice S m cs] TEdge)).drew.cell? ⟨g, s, none⟩ = some (.slice B mm cc) ∧ ((w4.alloc (.cells #[.slice (some ⟨g, 0, none⟩) (n + 1) c4, .int .i64 acc] TAuto)).alloc (.cells #[.int .i64 n, .bool false, .slice S m cs] TEdge)).drew.cell? ⟨w.heap.size + 1 + 1, 0, none⟩ = some (.int .u8 1) ∧ ((w4.alloc (.cells #[.slice (some ⟨g, 0, none⟩) (n + 1) c4, .int .i64 acc] TAuto)).alloc (.cells #[.int .i64 n, .bool false, .slice S m cs] TEdge)).drew.cell? ⟨w.heap.size + 1 + 1, 1, none⟩ = some (.slice S m cs)) := Lib.hid ⟨BB2.out.cell 0, HC1.out, CX2.out.cell 0, CX2.out.cell 1⟩
    go_wp2
    refine wp_region_T 18 (fun W => W.cell? ⟨w4.heap.size, 0, none⟩ = some (.slice (some ⟨g, 0, none⟩) (n + 1) c4) ∧ W.cell? ⟨g, s, none⟩ = some (.slice B mm cc) ∧ W.cell? ⟨w.heap.size + 1 + 1, 0, none⟩ = some (.int .u8 1) ∧ W.cell? ⟨w.heap.size + 1 + 1, 1, none⟩ = some (.slice S m cs)) (by kernel_rfl) ?_
    refine wpAnyT_take (i := 0) (v := ?_) rfl (by kernel_rfl) (by kernel_rfl) (by kernel_rfl) (by kernel_rfl) (by kernel_rfl) (fun _ _ _ h => h) (.inl ⟨rfl, ?_⟩) K1.out ?_
    rotate_left
    · intro W__ hW__
      obtain ⟨h1, h2, h3, h4⟩ := hW__
      go_simp
      (try with_reducible rfl)
    simp only [Act.put, List.setIfInBounds_toArray, List.set_cons_zero, List.set_cons_succ]
    refine wpAnyT_take (i := 1) (v := ?_) rfl (by kernel_rfl) (by kernel_rfl) (by kernel_rfl) (by kernel_rfl) (by kernel_rfl) (fun _ _ _ h => h) (.inl ⟨rfl, ?_⟩) K1.out ?_
    rotate_left
    · intro W__ hW__
      obtain ⟨h1, h2, h3, h4⟩ := hW__
      go_simp
      (try with_reducible rfl)
    simp only [Act.put, List.setIfInBounds_toArray, List.set_cons_zero, List.set_cons_succ]
    refine wpAnyT_take (i := 2) (v := ?_) rfl (by kernel_rfl) (by kernel_rfl) (by kernel_rfl) (by kernel_rfl) (by kernel_rfl) (fun _ _ _ h => h) (.inl ⟨rfl, ?_⟩) K1.out ?_
    rotate_left
    · intro W__ hW__
      obtain ⟨h1, h2, h3, h4⟩ := hW__
      go_simp
      (try with_reducible rfl)
    simp only [Act.put, List.setIfInBounds_toArray, List.set_cons_zero, List.set_cons_succ]
    refine wpAnyT_take (i := 3) (v := ?_) rfl (by kernel_rfl) (by kernel_rfl) (by kernel_rfl) (by kernel_rfl) (by kernel_rfl) (fun _ _ _ h => h) (.inl ⟨rfl, ?_⟩) K1.out ?_
    rotate_left
    · intro W__ hW__
      obtain ⟨h1, h2, h3, h4⟩ := hW__
      go_simp
      (try with_reducible rfl)
    simp only [Act.put, List.setIfInBounds_toArray, List.set_cons_zero, List.set_cons_succ]
    refine wpAnyT_take (i := 4) (v := ?_) rfl (by kernel_rfl) (by kernel_rfl) (by kernel_rfl) (by kernel_rfl) (by kernel_rfl) (fun _ _ _ h => h) (.inl ⟨rfl, ?_⟩) K1.out ?_
    rotate_left
    · intro W__ hW__
      obtain ⟨h1, h2, h3, h4⟩ := hW__
      go_simp
      (try with_reducible rfl)
    simp only [Act.put, List.setIfInBounds_toArray, List.set_cons_zero, List.set_cons_succ]
    refine wpAnyT_take (i := 5) (v := ?_) rfl (by kernel_rfl) (by kernel_rfl) (by kernel_rfl) (by kernel_rfl) (by kernel_rfl) (fun _ _ _ h => h) (.inl ⟨rfl, ?_⟩) K1.out ?_
    rotate_left
    · intro W__ hW__
      obtain ⟨h1, h2, h3, h4⟩ := hW__
      go_simp
      (try with_reducible rfl)
    simp only [Act.put, List.setIfInBounds_toArray, List.set_cons_zero, List.set_cons_succ]
    refine wpAnyT_take (i := 6) (v := ?_) rfl (by kernel_rfl) (by kernel_rfl) (by kernel_rfl) (by kernel_rfl) (by kernel_rfl) (fun _ _ _ h => h) (.inl ⟨rfl, ?_⟩) K1.out ?_
    rotate_left
    · intro W__ hW__
      obtain ⟨h1, h2, h3, h4⟩ := hW__
      go_simp
      (try with_reducible rfl)
    simp only [Act.put, List.setIfInBounds_toArray, List.set_cons_zero, List.set_cons_succ]
    refine wpAnyT_take (i := 7) (v := ?_) rfl (by kernel_rfl) (by kernel_rfl) (by kernel_rfl) (by kernel_rfl) (by kernel_rfl) (fun _ _ _ h => h) (.inl ⟨rfl, ?_⟩) K1.out ?_
    rotate_left
    · intro W__ hW__
      obtain ⟨h1, h2, h3, h4⟩ := hW__
      go_simp
      (try with_reducible rfl)
    simp only [Act.put, List.setIfInBounds_toArray, List.set_cons_zero, List.set_cons_succ]
    refine wpAnyT_take (i := 8) (v := ?_) rfl (by kernel_rfl) (by kernel_rfl) (by kernel_rfl) (by kernel_rfl) (by kernel_rfl) (fun _ _ _ h => h) (.inl ⟨rfl, ?_⟩) K1.out ?_
    rotate_left
    · intro W__ hW__
      obtain ⟨h1, h2, h3, h4⟩ := hW__
      go_simp
      (try with_reducible rfl)
    simp only [Act.put, List.setIfInBounds_toArray, List.set_cons_zero, List.set_cons_succ]
    refine wpAnyT_take (i := 9) (v := ?_) rfl (by kernel_rfl) (by kernel_rfl) (by kernel_rfl) (by kernel_rfl) (by kernel_rfl) (fun _ _ _ h => h) (.inl ⟨rfl, ?_⟩) K1.out ?_
    rotate_left
    · intro W__ hW__
      obtain ⟨h1, h2, h3, h4⟩ := hW__
      go_simp
      (try with_reducible rfl)
    simp only [Act.put, List.setIfInBounds_toArray, List.set_cons_zero, List.set_cons_succ]
    refine wpAnyT_take (i := 10) (v := ?_) rfl (by kernel_rfl) (by kernel_rfl) (by kernel_rfl) (by kernel_rfl) (by kernel_rfl) (fun _ _ _ h => h) (.inl ⟨rfl, ?_⟩) K1.out ?_
    rotate_left
    · intro W__ hW__
      obtain ⟨h1, h2, h3, h4⟩ := hW__
      go_simp
      (try with_reducible rfl)
    simp only [Act.put, List.setIfInBounds_toArray, List.set_cons_zero, List.set_cons_succ]
    refine wpAnyT_take (i := 11) (v := ?_) rfl (by kernel_rfl) (by kernel_rfl) (by kernel_rfl) (by kernel_rfl) (by kernel_rfl) (fun _ _ _ h => h) (.inl ⟨rfl, ?_⟩) K1.out ?_
    rotate_left
    · intro W__ hW__
      obtain ⟨h1, h2, h3, h4⟩ := hW__
      go_simp
      (try with_reducible rfl)
    simp only [Act.put, List.setIfInBounds_toArray, List.set_cons_zero, List.set_cons_succ]
    refine wpAnyT_take (i := 12) (v := ?_) rfl (by kernel_rfl) (by kernel_rfl) (by kernel_rfl) (by kernel_rfl) (by kernel_rfl) (fun _ _ _ h => h) (.inl ⟨rfl, ?_⟩) K1.out ?_
    rotate_left
    · intro W__ hW__
      obtain ⟨h1, h2, h3, h4⟩ := hW__
      go_simp
      (try with_reducible rfl)
    simp only [Act.put, List.setIfInBounds_toArray, List.set_cons_zero, List.set_cons_succ]
    refine wpAnyT_take (i := 13) (v := ?_) rfl (by kernel_rfl) (by kernel_rfl) (by kernel_rfl) (by kernel_rfl) (by kernel_rfl) (fun _ _ _ h => h) (.inl ⟨rfl, ?_⟩) K1.out ?_
    rotate_left
    · intro W__ hW__
      obtain ⟨h1, h2, h3, h4⟩ := hW__
      go_simp
      (try with_reducible rfl)
    simp only [Act.put, List.setIfInBounds_toArray, List.set_cons_zero, List.set_cons_succ]
    refine wpAnyT_take (i := 14) (v := ?_) rfl (by kernel_rfl) (by kernel_rfl) (by kernel_rfl) (by kernel_rfl) (by kernel_rfl) (fun _ _ _ h => h) (.inl ⟨rfl, ?_⟩) K1.out ?_
    rotate_left
    · intro W__ hW__
      obtain ⟨h1, h2, h3, h4⟩ := hW__
      go_simp
      (try with_reducible rfl)
    simp only [Act.put, List.setIfInBounds_toArray, List.set_cons_zero, List.set_cons_succ]
    refine wpAnyT_one (i := 15) rfl (by kernel_rfl) rfl fun K hK => ?_
    unfold Oper.wp
    go_simp
    refine hK _ _ K2.out ?_
    clear hK
    refine wpAnyT_one (i := 16) rfl (by kernel_rfl) rfl fun K hK => ?_
    refine wp_append_src _ (.tmp 58) (.tmp 66) 101 rfl base TEdge i0 (.agg #[.int .i64 0, .bool false, .slice none 0 0]) 3 40 Tryz.underlying101 hi0 hz0 hs0 hb0 rfl (by decide) B cc mm us (by simp [Act.eval]) OW.out _ 1 1 _ (by simp [Act.eval]) SRC.out Q1.out Q2.out Q3.out ?_
    intro B4 c5 w5 own4 gr4 hnew4
    have ED := Lib.hid (RowsAt.edge (x := ⟨n, false, l'⟩) OW0.out HR.out (by omega) HES.out HMM.out HROW.out OWR.out HK.out SI.out (by simp only; omega) rfl ⟨gr4.os, gr4.tape, gr4.output, gr4.size, gr4.block⟩ own4 hnew4)
    have hne : some g ≠ (Value.slice B mm cc).ownBlock := fun e => by
      rcases own_ne OWR.out OW0.out (by decide) with h' | h'
      · rw [h'] at e; cases e
      · exact h' e.symm
    have hgk := gr4.block g (by simp; omega) hne
    have c4' : w5.cell? ⟨g, s, none⟩ = some (.slice B mm cc) := (World.cell?_of_block (a := ⟨g, s, none⟩) hgk).trans HC1.out
    have f4' : w5.frozen? ⟨g, s, none⟩ = false := (World.frozen?_of_block (a := ⟨g, s, none⟩) hgk).trans HF1.out
    have BK4 := (BB.out.alloc (.cells #[.int .i64 n, .bool false, .slice S m cs] TEdge)).grown (w' := w5) ⟨gr4.os, gr4.tape, gr4.output, gr4.size, gr4.block⟩ (own_blk_ne OWR.out BB.out (by decide))
    have BX4 := (CX5.out.alloc (.cells #[.int .i64 n, .bool false, .slice S m cs] TEdge)).grown (w' := w5) ⟨gr4.os, gr4.tape, gr4.output, gr4.size, gr4.block⟩ (own_blk_ne OWR.out CX5.out (by decide))
    obtain ⟨q0, q1, q2, q3⟩ := Blk.two BK4
    obtain ⟨r0, r1, r2, r3, r4⟩ := Blk.five BX4
    have CB := Lib.hid (ED.out.2.blk BB.out TA_auto)
    have CR := Lib.hid (ED.out.2.blk C15.out TA_auto)
    have S2 := Lib.hid (store2 (.slice (some ⟨g, 0, none⟩) (n + 1) c4) (.int .i64 acc) CR.out ED.out.1 (CH5.out.trans ED.out.2) TA_auto (by decide) hb (Nat.le_succ _))
    obtain ⟨s0, s1, s2, s3⟩ := Blk.two CB.out
    obtain ⟨v0, v1, v2, v3⟩ := Blk.two CR.out
    have K3 := Lib.hid (And.intro q0 (And.intro c4' (And.intro r0 r1)))
    refine hK _ _ K3.out ?_
    clear gr4 own4 hnew4 hne hgk BK4 BX4 hK
    simp only [Act.put, List.setIfInBounds_toArray, List.set_cons_zero, List.set_cons_succ]
    refine wpAnyT_take (i := 17) (v := ?_) rfl (by kernel_rfl) (by kernel_rfl) (by kernel_rfl) (by kernel_rfl) (by kernel_rfl) (fun _ _ _ h => h) (.inl ⟨rfl, ?_⟩) K3.out ?_
    rotate_left
    · intro W__ hW__
      obtain ⟨h1, h2, h3, h4⟩ := hW__
      go_simp
      (try with_reducible rfl)
    simp only [Act.put, List.setIfInBounds_toArray, List.set_cons_zero, List.set_cons_succ]
    refine wpAnyT_end (i := 18) rfl (by kernel_rfl) rfl (by kernel_rfl) fun K__ hK__ => ?_
    unfold Oper.wp
    go_simp
    refine hK__ _ _ ?_
    clear hK__
    refine wpAnyT_done (by kernel_rfl) ?_ _
    obtain ⟨z0, z1, _, _⟩ := Blk.two S2.out.1
    go_wp2
    refine bodyPost_ret (v := .tuple #[.agg #[.slice (some ⟨g, 0, none⟩) (n + 1) c4, .int .i64 acc], .int .i64 n]) (by simp [results, Tryz.results58, go_sem, z0, z1]) rfl ⟨some ⟨g, 0, none⟩, c4, by simp only [auEdge_length, List.length_append, List.length_cons, List.length_nil, Nat.zero_add, ← HNL.out], by simp only [auEdge_length, List.length_append, List.length_cons, List.length_nil, Nat.zero_add, ← HNL.out]; exact S2.out.2.1, S2.out.2.2⟩

end Go.Proofs.YtjnjbcigbnjmkaaGreat
