/- Walks: the document's leading through nodes one behind the other. -/
import Derived.Test.YtjnjbcigbnjmkaaGreatAry
namespace Go.Proofs.YtjnjbcigbnjmkaaGreat
open Go.RowKit Pv

abbrev TInt : TypeId := 3
theorem TA_int : ∀ e, e ∈ TA → e ≠ TInt := by decide
theorem ownsRow_chg {T : List TypeId} {base : Nat} {w w' : World} {b e s n : Nat} {v : Value} {us : List Value} (h : w.ownsRow b e s v n us) (hc : Chg T base w w') (ht : ∀ t, t ∈ T → t ≠ e) : w'.ownsRow b e s v n us := by
  refine ⟨h.1, ?_⟩
  rcases h.2 with h2 | ⟨g, cap, cur, hv, hg, hh, r⟩
  · exact .inl h2
  · have hb : Blk w g e cur := hh
    exact .inr ⟨g, cap, cur, hv, hg, hc.blk hb ht, r⟩
theorem own_get {w : World} {b e n k c : Nat} {A : Option Addr} {us : List Value} {u : Value} (h : w.ownsRow b e 1 (.slice A n c) n us) (hk : us[k]? = some u) : ∃ g, A = some ⟨g, 0, none⟩ ∧ g < w.heap.size ∧ w.cell? ⟨g, k, none⟩ = some u := by
  rcases h.2 with ⟨hv, h0⟩ | ⟨g, cap, cur, hv, hg, hh, hnc, hcm, hcs, htk⟩
  · have := h.1; have := lt_of_get hk; omega
  · injection hv with e1 e2 e3
    subst e1
    have hb : Blk w g e cur := hh
    refine ⟨g, rfl, hb.lt, ?_⟩
    rw [hb.cell k]
    rw [← htk, List.getElem?_take] at hk
    split at hk
    · simpa using hk
    · cases hk
theorem starts_len {t : List Rx} {i : Nat} : ∀ q, (starts t i q).length = q
  | 0 => rfl
  | q + 1 => by simp [starts, starts_len q]
theorem starts_get {t : List Rx} {i : Nat} : ∀ {q k : Nat}, k < q → (starts t i q)[k]? = some (bR (again (behind t 16) k i))
  | q + 1, k, h => by
    rw [starts]
    by_cases hk : k < q
    · rw [List.getElem?_append_left (by rw [starts_len]; exact hk)]; exact starts_get hk
    · obtain rfl : k = q := by omega
      rw [List.getElem?_append_right (by rw [starts_len]; omega), starts_len]; simp

/-- The variables of leading, under way. -/
structure LF (w wr : World) (base : Nat) (acc : Int) (A : Option Addr) (n c : Nat) (a : Au) (x : Array Value) (lb : Nat) (LB : Option Addr) (lc q : Nat) (ls : List Value) : Prop where
  b0 : Blk wr w.heap.size TAuto #[.slice A n c, .int .i64 acc]
  b1 : Blk wr (w.heap.size + 1) TAuto #[.slice none 0 0, .int .i64 0]
  bx : Blk wr (w.heap.size + 1 + 1) 25 x
  au : AuAt wr base A n c a
  ow : wr.ownsRow lb TInt 1 (.slice LB q lc) q ls
  ch : Chg TA base w wr


set_option maxHeartbeats 4000000 in
set_option maxRecDepth 100000 in
theorem lead_cat (w w0 : World) (base : Nat) (acc : Int) (tA : Option Addr) (nt ct : Nat) (t : List Rx) (i q : Nat) (least most : Int) (l : List Rng) (A : Option Addr) (n c : Nat) (a : Au) (s : Nat) (ks : List Tr) (hbs : w0.heap.size ≤ base) (hb : base ≤ w.heap.size) (hkp : Keep w0 w) (h : AuAt w base A n c a) (hn : n ≤ 256) (hs : s < n) (he : edgesN a ≤ 65 * n)
    (ht : AtRx w0 tA t) (HT : Hid (t.length = nt)) (hnt : nt ≤ 64) (HX : Hid (t[i]? = some ⟨2, l, q, least, most⟩)) (hq : ks.length = q) (hq64 : q ≤ 64)
    (HK : Hid (∀ j, j ≤ q → again (behind t 16) j (i + 1) = some (i + 1 + sizes (ks.take j)) ∧ i + 1 + sizes (ks.take j) ≤ nt))
    (HL : Hid (∀ j, LOk (statesL (ks.take j)) 17 (leadCat (ks.take j)) a s (catR (ks.take j) a s)))
    (HIH : Hid (∀ j k, ks[j]? = some k → LeadC w0 base acc tA nt ct k (i + 1 + sizes (ks.take j)))) :
    Calls Tryz.prog 58 #[.agg #[.slice A n c, .int .i64 acc], .slice tA nt ct, .int .i64 i, .int .i64 s] w (LeadPost w base acc (leadR (.mk ⟨2, l, q, least, most⟩ ks) a s)) := by
  have hnl := h.len
  have hin : i < nt := by have := lt_of_get HX.out; rwa [HT.out] at this
  rw [leadR_cat (by rw [← hnl]; omega) rfl]
  have HU := Lib.hid (fun (W : World) (kp : Keep w0 W) => ref07_Under tA ct nt i t ⟨2, l, q, least, most⟩ W (AtRx.keep ht kp) HT hnt HX (Lib.hid (fun k hk => ⟨_, (HK.out k (by simpa using hk)).2, (HK.out k (by simpa using hk)).1⟩)) (by simp only; omega))
  simp only [Int.toNat_natCast] at HU
  obtain ⟨b, off, kd', S, cs, m, l', many', least', most', rfl, H5, hset, HM, hmc, hkd, hma, hle, hmo, HX'⟩ := ht.g5 HT hin
  obtain ⟨rfl, rfl, rfl, rfl, rfl⟩ := Rx.mk.inj (Option.some.inj (HX'.out.symm.trans HX.out))
  obtain ⟨y0, y1, y2, y3, y4, y5⟩ := H5.next hkp
  have hW : Below w.heap.size w (((w.alloc (.cells #[.slice A n c, .int .i64 acc] TAuto)).alloc (.cells #[.slice none 0 0, .int .i64 0] TAuto)).alloc (.cells #[.int .u8 2, .slice S m cs, .int .i64 q, .int .i64 least', .int .i64 most'] 25)) := (((Below.refl _ _).alloc (Nat.le_refl _) _).alloc (by simp) _).alloc (by simp; omega) _
  have HW := Lib.hid hW
  have BK := Lib.hid (blk3 w #[.slice A n c, .int .i64 acc] #[.slice none 0 0, .int .i64 0] #[.int .u8 2, .slice S m cs, .int .i64 q, .int .i64 least', .int .i64 most'] TAuto TAuto 25)
  have HH := Lib.hid h; have HKP := Lib.hid hkp
  have HE := Lib.hid he
  have HNL := Lib.hid hnl
  have HQ := Lib.hid hq
  clear hW h hkp hset HX' ht H5 hnl he hq
  go_enter Tryz.func58, Tryz.ntmps58
  go_wp2_with fail
  refine (HU.out _ (HKP.out.trans (Keep.of HW.out))).mono ?_
  rintro e w3 ⟨LB, lc, rfl, owl, hb3⟩
  have W3 := Lib.hid (HW.out.trans (hb3.mono HW.out.size))
  have F3 : Hid (LF w w3 base acc A n c a #[.int .u8 2, .slice S m cs, .int .i64 q, .int .i64 least', .int .i64 most'] _ LB lc q ((starts t (i + 1) q).map (Value.int .i64))) := Lib.hid ⟨BK.out.1.below hb3 (by simp; omega), BK.out.2.1.below hb3 (by simp), BK.out.2.2.below hb3 (by simp), HH.out.next W3.out, owl, Chg.of_below W3.out⟩
  clear owl hb3 y0 y1 y2 y3 y4 y5
  generalize hlb : (((w.alloc (.cells #[.slice A n c, .int .i64 acc] TAuto)).alloc (.cells #[.slice none 0 0, .int .i64 0] TAuto)).alloc (.cells #[.int .u8 2, .slice S m cs, .int .i64 q, .int .i64 least', .int .i64 most'] 25)).heap.size = lb at F3
  clear hlb
  obtain ⟨x0, x1, x2, x3, x4⟩ := Blk.five F3.out.bx
  go_wp2
  go_loopw [3, 14] (fun sv iv wr => ∃ (k : Nat) (A' : Option Addr) (c' : Nat), iv = .int .i64 k ∧ k ≤ q ∧ sv = .int .i64 (catR (ks.take k) a s).2 ∧ LF w wr base acc A' (catR (ks.take k) a s).1.length c' (catR (ks.take k) a s).1 #[.int .u8 2, .slice S m cs, .int .i64 q, .int .i64 least', .int .i64 most'] lb LB lc q ((starts t (i + 1) q).map (Value.int .i64))) (fun _ iv _ => q - (intOf iv).toNat)
  case atStart => exact ⟨0, A, c, rfl, by omega, by simp [catR], by simp only [List.take_zero, catR]; rw [← HNL.out]; exact F3.out⟩
  case round =>
    clear x0 x1 x2 x3 x4
    obtain ⟨k, A', c', rfl, hk, rfl, hf⟩ := hrel
    have HF := Lib.hid hf
    clear hf
    have HLk := Lib.hid (HL.out k)
    obtain ⟨rk, hrk⟩ : ∃ rk, catR (ks.take k) a s = rk := ⟨_, rfl⟩
    rw [hrk] at HF HLk ⊢
    have hlen : rk.1.length ≤ 300 := by have := HLk.out.len; rw [← HNL.out] at this; omega
    have hlt2 := HLk.out.lt
    have hge2 := HLk.out.ge
    have hed : edgesN rk.1 ≤ 65 * rk.1.length := by have := HLk.out.el.e; have h2 := HE.out; rw [← HNL.out] at this; omega
    obtain ⟨p0, p1, p2, p3⟩ := Blk.two HF.out.b0
    by_cases hlt : k < q
    · have hkk : ks[k]? = some (ks[k]'(by rw [HQ.out]; exact hlt)) := List.getElem?_eq_getElem _
      have HCK := Lib.hid (catR_take hkk a s)
      rw [hrk] at HCK
      have HRK := Lib.hid hrk
      obtain ⟨hpk, hple⟩ := HK.out k (by omega)
      have HPK := Lib.hid hpk
      obtain ⟨g, rfl, hgl, hgc⟩ := own_get (k := k) (u := .int .i64 ((i + 1 + sizes (ks.take k) : Nat) : Int)) HF.out.ow (by rw [List.getElem?_map, starts_get hlt, hpk]; rfl)
      have HC := Lib.hid (fun (W : World) (kp : Keep w0 W) (hbW : base ≤ W.heap.size) (au : AuAt W base A' rk.1.length c' rk.1) => HIH.out k _ hkk W A' rk.1.length c' rk.1 rk.2 kp hbW au hge2 hlt2 hlen hed)
      generalize ks[k]'(by rw [HQ.out]; exact hlt) = K at *
      generalize i + 1 + sizes (ks.take k) = p at *
      have HKr := Lib.hid (HF.out.ch.keep HKP.out hbs hb)
      have hbr : base ≤ wr.heap.size := Nat.le_trans hb HF.out.ch.size
      have K1 : Hid (wr.drew.cell? ⟨w.heap.size, 0, none⟩ = some (.slice A' rk.1.length c') ∧ wr.drew.cell? ⟨w.heap.size, 1, none⟩ = some (.int .i64 acc) ∧ wr.drew.cell? ⟨g, k, none⟩ = some (.int .i64 p)) := Lib.hid ⟨p0, p1, hgc⟩
      clear hkk hrk hpk
      go_wp2
      refine wp_region_T 11 (fun W => W.cell? ⟨w.heap.size, 0, none⟩ = some (.slice A' rk.1.length c') ∧ W.cell? ⟨w.heap.size, 1, none⟩ = some (.int .i64 acc) ∧ W.cell? ⟨g, k, none⟩ = some (.int .i64 p)) (by kernel_rfl) ?_
      refine wpAnyT_take (i := 0) (v := ?_) rfl (by kernel_rfl) (by kernel_rfl) (by kernel_rfl) (by kernel_rfl) (by kernel_rfl) (fun _ _ _ h => h) (.inl ⟨rfl, ?_⟩) K1.out ?_
      rotate_left
      · intro W__ hW__
        obtain ⟨h1, h2, h3⟩ := hW__
        go_simp
        (try with_reducible rfl)
      simp only [Act.put, List.setIfInBounds_toArray, List.set_cons_zero, List.set_cons_succ]
      refine wpAnyT_take (i := 1) (v := ?_) rfl (by kernel_rfl) (by kernel_rfl) (by kernel_rfl) (by kernel_rfl) (by kernel_rfl) (fun _ _ _ h => h) (.inl ⟨rfl, ?_⟩) K1.out ?_
      rotate_left
      · intro W__ hW__
        obtain ⟨h1, h2, h3⟩ := hW__
        go_simp
        (try with_reducible rfl)
      simp only [Act.put, List.setIfInBounds_toArray, List.set_cons_zero, List.set_cons_succ]
      refine wpAnyT_take (i := 2) (v := ?_) rfl (by kernel_rfl) (by kernel_rfl) (by kernel_rfl) (by kernel_rfl) (by kernel_rfl) (fun _ _ _ h => h) (.inl ⟨rfl, ?_⟩) K1.out ?_
      rotate_left
      · intro W__ hW__
        obtain ⟨h1, h2, h3⟩ := hW__
        go_simp
        (try with_reducible rfl)
      simp only [Act.put, List.setIfInBounds_toArray, List.set_cons_zero, List.set_cons_succ]
      refine wpAnyT_take (i := 3) (v := ?_) rfl (by kernel_rfl) (by kernel_rfl) (by kernel_rfl) (by kernel_rfl) (by kernel_rfl) (fun _ _ _ h => h) (.inl ⟨rfl, ?_⟩) K1.out ?_
      rotate_left
      · intro W__ hW__
        obtain ⟨h1, h2, h3⟩ := hW__
        go_simp
        (try with_reducible rfl)
      simp only [Act.put, List.setIfInBounds_toArray, List.set_cons_zero, List.set_cons_succ]
      refine wpAnyT_take (i := 4) (v := ?_) rfl (by kernel_rfl) (by kernel_rfl) (by kernel_rfl) (by kernel_rfl) (by kernel_rfl) (fun _ _ _ h => h) (.inl ⟨rfl, ?_⟩) K1.out ?_
      rotate_left
      · intro W__ hW__
        obtain ⟨h1, h2, h3⟩ := hW__
        go_simp
        (try with_reducible rfl)
      simp only [Act.put, List.setIfInBounds_toArray, List.set_cons_zero, List.set_cons_succ]
      refine wpAnyT_take (i := 5) (v := ?_) rfl (by kernel_rfl) (by kernel_rfl) (by kernel_rfl) (by kernel_rfl) (by kernel_rfl) (fun _ _ _ h => h) (.inl ⟨rfl, ?_⟩) K1.out ?_
      rotate_left
      · intro W__ hW__
        obtain ⟨h1, h2, h3⟩ := hW__
        go_simp
        (try with_reducible rfl)
      simp only [Act.put, List.setIfInBounds_toArray, List.set_cons_zero, List.set_cons_succ]
      refine wpAnyT_take (i := 6) (v := ?_) rfl (by kernel_rfl) (by kernel_rfl) (by kernel_rfl) (by kernel_rfl) (by kernel_rfl) (fun _ _ _ h => h) (.inl ⟨rfl, ?_⟩) K1.out ?_
      rotate_left
      · intro W__ hW__
        obtain ⟨h1, h2, h3⟩ := hW__
        go_simp
        (try with_reducible rfl)
      simp only [Act.put, List.setIfInBounds_toArray, List.set_cons_zero, List.set_cons_succ]
      refine wpAnyT_one (i := 7) rfl (by kernel_rfl) rfl fun K__ hK__ => ?_
      unfold Oper.wp
      go_simp
      refine (HC.out _ (HKr.out.trans (Keep.drew _)) hbr (HF.out.au.next (Below.refl _ _).drew)).mono ?_
      rintro e w5 ⟨A5, c5, rfl, au5, ch5⟩
      have B0 := Lib.hid (ch5.blk (show Blk wr.drew _ _ _ from HF.out.b0) TA_auto); have B1 := Lib.hid (ch5.blk (show Blk wr.drew _ _ _ from HF.out.b1) TA_auto); have BX := Lib.hid (ch5.blk (show Blk wr.drew _ _ _ from HF.out.bx) TA_rx)
      have OW := Lib.hid (ownsRow_chg (show wr.drew.ownsRow _ _ _ _ _ _ from HF.out.ow) ch5 TA_int)
      have S2 := Lib.hid (store2 (.slice A5 (leadR K rk.1 rk.2).1.length c5) (.int .i64 acc) B0.out au5 ((HF.out.ch.drew).trans ch5) TA_auto (by decide) hb (Nat.le_refl _))
      obtain ⟨g', e', _, hgc5⟩ := own_get (k := k) (u := .int .i64 (p : Int)) OW.out (by rw [List.getElem?_map, starts_get hlt, HPK.out]; rfl)
      simp only [Option.some.injEq, Addr.mk.injEq, and_true] at e'
      subst e'
      obtain ⟨q0, q1, q2, q3⟩ := Blk.two B0.out
      have K5 : Hid (w5.cell? ⟨w.heap.size, 0, none⟩ = some (.slice A' rk.1.length c') ∧ w5.cell? ⟨w.heap.size, 1, none⟩ = some (.int .i64 acc) ∧ w5.cell? ⟨g, k, none⟩ = some (.int .i64 p)) := Lib.hid ⟨q0, q1, hgc5⟩
      refine hK__ _ _ K5.out ?_
      clear hK__ au5 ch5
      try simp only [Act.put, List.setIfInBounds_toArray, List.set_cons_zero, List.set_cons_succ]
      refine wpAnyT_takeW (i := 8) (v := ?_) rfl (by decide) (by kernel_rfl) (by kernel_rfl) (by kernel_rfl) (fun _ _ _ h => h) (.inl ⟨rfl, ?_⟩) (fun _ => K5.out) ?_
      rotate_left
      · intro W__ _
        go_simp
        (try with_reducible rfl)
      simp only [Act.put, List.setIfInBounds_toArray, List.set_cons_zero, List.set_cons_succ]
      refine wpAnyT_takeW (i := 9) (v := ?_) rfl (by decide) (by kernel_rfl) (by kernel_rfl) (by kernel_rfl) (fun _ _ _ h => h) (.inl ⟨rfl, ?_⟩) (fun _ => K5.out) ?_
      rotate_left
      · intro W__ _
        go_simp
        (try with_reducible rfl)
      simp only [Act.put, List.setIfInBounds_toArray, List.set_cons_zero, List.set_cons_succ]
      refine wpAnyT_takeW (i := 10) (v := ?_) rfl (by decide) (by kernel_rfl) (by kernel_rfl) (by kernel_rfl) (fun _ _ _ h => h) (.inl ⟨rfl, ?_⟩) (fun _ => K5.out) ?_
      rotate_left
      · intro W__ _
        go_simp
        (try with_reducible rfl)
      simp only [Act.put, List.setIfInBounds_toArray, List.set_cons_zero, List.set_cons_succ]
      refine wpAnyT_end (i := 11) rfl (by kernel_rfl) rfl (by kernel_rfl) fun K__ hK__ => ?_
      unfold Oper.wp
      go_simp
      refine hK__ _ _ ?_
      clear hK__
      try simp only [Act.put, List.setIfInBounds_toArray, List.set_cons_zero, List.set_cons_succ]
      refine wpAnyT_end (i := 12) rfl (by kernel_rfl) rfl (by kernel_rfl) fun K__ hK__ => ?_
      unfold Oper.wp
      go_simp
      refine hK__ _ _ ?_
      clear hK__
      refine wpAnyT_done (by kernel_rfl) ?_ _
      clear q0 q1 q2 q3 hgc5 p0 p1 p2 p3 hgc
      go_wp2
      go_roundw
      case rel =>
        refine ⟨k + 1, A5, c5, by go_num, by omega, by rw [HCK.out], ?_⟩
        rw [HCK.out]
        exact ⟨S2.out.1, (B1.out.far (p := ⟨w.heap.size, 0, none⟩) (by simp) _).far (p := ⟨w.heap.size, 1, none⟩) (by simp) _, (BX.out.far (p := ⟨w.heap.size, 0, none⟩) (by simp; omega) _).far (p := ⟨w.heap.size, 1, none⟩) (by simp; omega) _, S2.out.2.1, ownsRow_setFar (ownsRow_setFar OW.out B0.out (by decide) 0 _) (B0.out.set 0 _) (by decide) 1 _, S2.out.2.2⟩
      case measure => simp [intOf]; omega
    · have hkq : k = q := by omega
      subst hkq
      have htk : ks.take k = ks := List.take_of_length_le (by rw [HQ.out]; omega)
      rw [htk] at hrk
      have S2 := Lib.hid (store2 (.slice A' rk.1.length c') (.int .i64 acc) HF.out.b1 HF.out.au HF.out.ch TA_auto (by decide) hb (Nat.le_succ _))
      obtain ⟨v0, v1, v2, v3⟩ := Blk.two HF.out.b1
      obtain ⟨z0, z1, _, _⟩ := Blk.two S2.out.1
      have HRK2 := Lib.hid hrk
      clear hrk htk
      go_wp2
      refine bodyPost_ret (v := .tuple #[.agg #[.slice A' rk.1.length c', .int .i64 acc], .int .i64 rk.2]) (by simp [results, Tryz.results58, go_sem, z0, z1]) rfl (by rw [HRK2.out]; exact ⟨A', c', rfl, S2.out.2.1, S2.out.2.2⟩)

end Go.Proofs.YtjnjbcigbnjmkaaGreat
