/- The variables of the document's leading, with a list of ends under way. -/
import Derived.Test.YtjnjbcigbnjmkaaGreatAsy
import Derived.Test.YtjnjbcigbnjmkaaGreatBfy
namespace Go.Proofs.YtjnjbcigbnjmkaaGreat
open Go.RowKit Pv

theorem Chg.grow {T : List TypeId} {base : Nat} {w W W' : World} {row : Option Nat} (h : Chg T base w W) (g : W.grownBy W' row) (hr : ∀ k, row = some k → w.heap.size ≤ k) : Chg T base w W' :=
  ⟨g.os.trans h.os, g.tape.trans h.tape, g.output.trans h.output, Nat.le_trans h.size g.size, fun b hb hc => (g.block b (Nat.lt_of_lt_of_le hb h.size) (fun e => by have := hr b e.symm; omega)).trans (h.block b hb hc)⟩
theorem AuAt.grow {W W' : World} {base n c e0 m : Nat} {A : Option Addr} {a : Au} {v : Value} {us : List Value} (h : AuAt W base A n c a) (hv : W.ownsRow e0 TInt 1 v m us) (hb : base ≤ e0) (g : W.grownBy W' v.ownBlock) : AuAt W' base A n c a := by
  obtain ⟨rows, h1, h2⟩ := h
  refine ⟨rows, h1.kept g (own_ne h1 hv (by decide)), h2.len, h2.n, fun i es he => ?_, h2.ne⟩
  obtain ⟨r, hr, A', c', us', rfl, ow, hk⟩ := h2.row i es he
  refine ⟨_, hr, A', c', us', rfl, ow.kept g (own_ne ow hv (by decide)), hk.mono fun f x _ hx => ⟨hx.1, hx.2, ?_⟩⟩
  obtain ⟨S, sc, e, hs, hl, hh⟩ := hx.3
  have key : ∀ b o, S = some ⟨b, o, none⟩ → 0 < x.set.length → b < W.heap.size → W'.heap[b]? = W.heap[b]? := fun b o e hp hlt => by
    refine g.block b hlt fun e' => ?_
    rcases hh hp b o e with h3 | ⟨cs, h3⟩
    · have := (hv.lt b e'.symm).1; omega
    · exact own_blk_ne (t := TRng) (cs := cs) hv h3 (by decide) e'
  refine ⟨S, sc, e, AtK.chg hs g.size key, hl, fun hp b o e => ?_⟩
  rcases hh hp b o e with h3 | ⟨cs, h3⟩
  · exact .inl h3
  · obtain ⟨b', o', e', hlt, _⟩ := hs.2 hp
    rw [e] at e'
    injection e' with e'
    injection e' with e1 _
    subst e1
    exact .inr ⟨cs, (key b o e hp hlt).trans h3⟩

/-- The variables of leading, with ends under way. -/
structure LG (w wr : World) (base : Nat) (acc : Int) (A : Option Addr) (n c : Nat) (a : Au) (x : Array Value) (e0 : Nat) (EA : Option Addr) (ne ec : Nat) (es : List Int) : Prop where
  b0 : Blk wr w.heap.size TAuto #[.slice A n c, .int .i64 acc]
  b1 : Blk wr (w.heap.size + 1) TAuto #[.slice none 0 0, .int .i64 0]
  bx : Blk wr (w.heap.size + 1 + 1) 25 x
  au : AuAt wr base A n c a
  ow : wr.ownsRow e0 TInt 1 (.slice EA ne ec) ne (es.map (Value.int .i64))
  ch : Chg TA base w wr
section
variable {w wr w' : World} {base n c e0 ne ec : Nat} {acc : Int} {A EA : Option Addr} {a : Au} {x : Array Value} {es : List Int}
theorem LG.below (h : LG w wr base acc A n c a x e0 EA ne ec es) (hb : Below wr.heap.size wr w') : LG w w' base acc A n c a x e0 EA ne ec es :=
  ⟨h.b0.below hb h.b0.lt, h.b1.below hb h.b1.lt, h.bx.below hb h.bx.lt, h.au.next hb, ownsRow_below h.ow hb, h.ch.then hb⟩
/-- one end more -/
theorem LG.push {EA' : Option Addr} {ec' : Nat} {e : Int} (h : LG w wr base acc A n c a x e0 EA ne ec es) (hb : base ≤ e0) (hw : w.heap.size ≤ e0) (g : wr.grownBy w' (Value.slice EA ne ec).ownBlock) (own : w'.ownsRow e0 TInt 1 (.slice EA' (ne + 1) ec') (ne + 1) (es.map (Value.int .i64) ++ [.int .i64 e])) :
    LG w w' base acc A n c a x e0 EA' (ne + 1) ec' (es ++ [e]) :=
  ⟨h.b0.grown g (own_blk_ne h.ow h.b0 (by decide)), h.b1.grown g (own_blk_ne h.ow h.b1 (by decide)), h.bx.grown g (own_blk_ne h.ow h.bx (by decide)), h.au.grow h.ow hb g, by simpa using own, h.ch.grow g fun k hk => Nat.le_trans hw (h.ow.lt k hk).1⟩
/-- what the box of the automaton is turned to, behind a callee -/
theorem LG.call {A' : Option Addr} {n' c' : Nat} {a' : Au} (h : LG w wr base acc A n c a x e0 EA ne ec es) (hb : base ≤ w.heap.size) (hc : Chg TA base wr w') (au : AuAt w' base A' n' c' a') :
    LG w ((w'.setCell ⟨w.heap.size, 0, none⟩ (.slice A' n' c')).setCell ⟨w.heap.size, 1, none⟩ (.int .i64 acc)) base acc A' n' c' a' x e0 EA ne ec es := by
  have B0 := hc.blk h.b0 TA_auto
  have B1 := hc.blk h.b1 TA_auto
  have BX := hc.blk h.bx TA_rx
  have OW := ownsRow_chg h.ow hc TA_int
  have S2 := store2 (.slice A' n' c') (.int .i64 acc) B0 au (h.ch.trans hc) TA_auto (by decide) hb (Nat.le_refl _)
  exact ⟨S2.1, (B1.far (p := ⟨w.heap.size, 0, none⟩) (by simp) _).far (p := ⟨w.heap.size, 1, none⟩) (by simp) _, (BX.far (p := ⟨w.heap.size, 0, none⟩) (by simp; omega) _).far (p := ⟨w.heap.size, 1, none⟩) (by simp; omega) _, S2.2.1, ownsRow_setFar (ownsRow_setFar OW B0 (by decide) 0 _) (B0.set 0 _) (by decide) 1 _, S2.2.2⟩
end

/-- behind a callee that leaves the header as it is -/
theorem LG.same {w wr w' : World} {base n c e0 ne ec : Nat} {acc : Int} {A EA : Option Addr} {a a' : Au} {x : Array Value} {es : List Int} (h : LG w wr base acc A n c a x e0 EA ne ec es) (hc : Chg TA base wr w') (au : AuAt w' base A n c a') : LG w w' base acc A n c a' x e0 EA ne ec es :=
  ⟨hc.blk h.b0 TA_auto, hc.blk h.b1 TA_auto, hc.blk h.bx TA_rx, au, ownsRow_chg h.ow hc TA_int, h.ch.trans hc⟩
/-- .. with what a callee has left in a new box, wherever that lies -/
structure LM (w wr : World) (base : Nat) (acc : Int) (A : Option Addr) (n c : Nat) (A' : Option Addr) (n' c' : Nat) (a' : Au) (x : Array Value) (e0 : Nat) (EA : Option Addr) (ne ec : Nat) (es : List Int) (bb : Nat) : Prop where
  b0 : Blk wr w.heap.size TAuto #[.slice A n c, .int .i64 acc]
  b1 : Blk wr (w.heap.size + 1) TAuto #[.slice none 0 0, .int .i64 0]
  bx : Blk wr (w.heap.size + 1 + 1) 25 x
  au : AuAt wr base A' n' c' a'
  ow : wr.ownsRow e0 TInt 1 (.slice EA ne ec) ne (es.map (Value.int .i64))
  ch : Chg TA base w wr
  bb : Blk wr bb TAuto #[.slice A' n' c', .int .i64 acc]
section
variable {w wr w5 : World} {base n c e0 ne ec : Nat} {acc : Int} {A EA : Option Addr} {a : Au} {x : Array Value} {es : List Int} {A' : Option Addr} {n' c' : Nat} {a' : Au}
/-- the box laid behind the call -/
theorem LM.late (h : LG w wr base acc A n c a x e0 EA ne ec es) (hc : Chg TA base wr w5) (au : AuAt w5 base A' n' c' a') :
    LM w (w5.alloc (.cells #[.slice A' n' c', .int .i64 acc] TAuto)) base acc A n c A' n' c' a' x e0 EA ne ec es w5.heap.size := by
  have hb : Below w5.heap.size w5 (w5.alloc (.cells #[.slice A' n' c', .int .i64 acc] TAuto)) := (Below.refl _ _).alloc (Nat.le_refl _) _
  exact ⟨(hc.blk h.b0 TA_auto).alloc _, (hc.blk h.b1 TA_auto).alloc _, (hc.blk h.bx TA_rx).alloc _, au.next hb, (ownsRow_chg h.ow hc TA_int).alloc _, (h.ch.trans hc).then hb, Blk.new _ _ _⟩
/-- .. ahead of it -/
theorem LM.early {wa : World} (hwa : wa = wr.alloc (.cells #[.slice none 0 0, .int .i64 0] TAuto)) (h : LG w wr base acc A n c a x e0 EA ne ec es) (hb : base ≤ w.heap.size) (hw : w.heap.size ≤ e0) (hwe : w.heap.size + 1 + 1 < wr.heap.size) (hc : Chg TA base wa w5) (au : AuAt w5 base A' n' c' a') :
    LM w ((w5.setCell ⟨wr.heap.size, 0, none⟩ (.slice A' n' c')).setCell ⟨wr.heap.size, 1, none⟩ (.int .i64 acc)) base acc A n c A' n' c' a' x e0 EA ne ec es wr.heap.size := by
  subst hwa
  have hba : Below wr.heap.size wr (wr.alloc (.cells #[.slice none 0 0, .int .i64 0] TAuto)) := (Below.refl _ _).alloc (Nat.le_refl _) _
  have h2 := h.below hba
  have B0 := hc.blk h2.b0 TA_auto
  have B1 := hc.blk h2.b1 TA_auto
  have BX := hc.blk h2.bx TA_rx
  have BB := hc.blk (Blk.new wr TAuto #[.slice none 0 0, .int .i64 0]) TA_auto
  have OW := ownsRow_chg h2.ow hc TA_int
  have S2 := store2 (.slice A' n' c') (.int .i64 acc) BB au (h2.ch.trans hc) TA_auto (by decide) hb (by have := h.ch.size; omega)
  exact ⟨(B0.far (p := ⟨wr.heap.size, 0, none⟩) (by simp; omega) _).far (p := ⟨wr.heap.size, 1, none⟩) (by simp; omega) _, (B1.far (p := ⟨wr.heap.size, 0, none⟩) (by simp; omega) _).far (p := ⟨wr.heap.size, 1, none⟩) (by simp; omega) _, (BX.far (p := ⟨wr.heap.size, 0, none⟩) (by simp; omega) _).far (p := ⟨wr.heap.size, 1, none⟩) (by simp; omega) _,
    S2.2.1, ownsRow_setFar (ownsRow_setFar OW BB (by decide) 0 _) (BB.set 0 _) (by decide) 1 _, S2.2.2, S2.1⟩
/-- the box's contents put where the automaton lies -/
theorem LM.put {bb : Nat} (h : LM w wr base acc A n c A' n' c' a' x e0 EA ne ec es bb) (hb : base ≤ w.heap.size) :
    LG w ((wr.setCell ⟨w.heap.size, 0, none⟩ (.slice A' n' c')).setCell ⟨w.heap.size, 1, none⟩ (.int .i64 acc)) base acc A' n' c' a' x e0 EA ne ec es := by
  have S2 := store2 (.slice A' n' c') (.int .i64 acc) h.b0 h.au h.ch TA_auto (by decide) hb (Nat.le_refl _)
  exact ⟨S2.1, (h.b1.far (p := ⟨w.heap.size, 0, none⟩) (by simp) _).far (p := ⟨w.heap.size, 1, none⟩) (by simp) _, (h.bx.far (p := ⟨w.heap.size, 0, none⟩) (by simp; omega) _).far (p := ⟨w.heap.size, 1, none⟩) (by simp; omega) _, S2.2.1, ownsRow_setFar (ownsRow_setFar h.ow h.b0 (by decide) 0 _) (h.b0.set 0 _) (by decide) 1 _, S2.2.2⟩
end

set_option maxHeartbeats 4000000 in
set_option maxRecDepth 100000 in
theorem lead_alt (w w0 : World) (base : Nat) (acc : Int) (tA : Option Addr) (nt ct : Nat) (t : List Rx) (i q : Nat) (least most : Int) (l : List Rng) (A : Option Addr) (n c : Nat) (a : Au) (s : Nat) (ks : List Tr) (hbs : w0.heap.size ≤ base) (hb : base ≤ w.heap.size) (hkp : Keep w0 w) (h : AuAt w base A n c a) (hn : n ≤ 256) (hs : s < n) (he : edgesN a ≤ 65 * n)
    (ht : AtRx w0 tA t) (HT : Hid (t.length = nt)) (hnt : nt ≤ 64) (HX : Hid (t[i]? = some ⟨3, l, q, least, most⟩)) (hq : ks.length = q) (hq64 : q ≤ 64)
    (HK : Hid (∀ j, j ≤ q → again (behind t 16) j (i + 1) = some (i + 1 + sizes (ks.take j)) ∧ i + 1 + sizes (ks.take j) ≤ nt))
    (HL : Hid (∀ j, AOk (statesL (ks.take j)) 17 (leadAlt (ks.take j) a s) a s 64 (altR (ks.take j) a s)))
    (HIH : Hid (∀ j k, ks[j]? = some k → LeadC w0 base acc tA nt ct k (i + 1 + sizes (ks.take j)))) :
    Calls Tryz.prog 58 #[.agg #[.slice A n c, .int .i64 acc], .slice tA nt ct, .int .i64 i, .int .i64 s] w (LeadPost w base acc (leadR (.mk ⟨3, l, q, least, most⟩ ks) a s)) := by
  obtain ⟨i0, hi0, hz0, hs0, hb0⟩ := info_parts info_int
  have hnl := h.len
  have hin : i < nt := by have := lt_of_get HX.out; rwa [HT.out] at this
  rw [leadR_alt (by rw [← hnl]; omega) rfl]
  have HU := Lib.hid (fun (W : World) (kp : Keep w0 W) => ref07_Under tA ct nt i t ⟨3, l, q, least, most⟩ W (AtRx.keep ht kp) HT hnt HX (Lib.hid (fun k hk => ⟨_, (HK.out k (by simpa using hk)).2, (HK.out k (by simpa using hk)).1⟩)) (by simp only; omega))
  simp only [Int.toNat_natCast] at HU
  obtain ⟨b, off, kd', S, cs, m, l', many', least', most', rfl, H5, hset, HM, hmc, hkd, hma, hle, hmo, HX'⟩ := ht.g5 HT hin
  obtain ⟨rfl, rfl, rfl, rfl, rfl⟩ := Rx.mk.inj (Option.some.inj (HX'.out.symm.trans HX.out))
  obtain ⟨y0, y1, y2, y3, y4, y5⟩ := H5.next hkp
  have hW : Below w.heap.size w (((w.alloc (.cells #[.slice A n c, .int .i64 acc] TAuto)).alloc (.cells #[.slice none 0 0, .int .i64 0] TAuto)).alloc (.cells #[.int .u8 3, .slice S m cs, .int .i64 q, .int .i64 least', .int .i64 most'] 25)) := (((Below.refl _ _).alloc (Nat.le_refl _) _).alloc (by simp) _).alloc (by simp; omega) _
  have HW := Lib.hid hW
  have BK := Lib.hid (blk3 w #[.slice A n c, .int .i64 acc] #[.slice none 0 0, .int .i64 0] #[.int .u8 3, .slice S m cs, .int .i64 q, .int .i64 least', .int .i64 most'] TAuto TAuto 25)
  have HH := Lib.hid h; have HKP := Lib.hid hkp
  have HE := Lib.hid he
  have HNL := Lib.hid hnl
  have HQ := Lib.hid hq
  clear hW h hkp hset HX' ht H5 hnl he hq
  go_enter Tryz.func58, Tryz.ntmps58
  go_wp2_with fail
  refine (HU.out _ (HKP.out.trans (Keep.of HW.out))).mono ?_
  rintro e w3 ⟨LB, lc, rfl, owl, hb3⟩
  have W3 := Lib.hid (HW.out.trans (hb3.mono HW.out.size))
  have F3 : Hid (LG w w3 base acc A n c a #[.int .u8 3, .slice S m cs, .int .i64 q, .int .i64 least', .int .i64 most'] w3.heap.size none 0 0 []) := Lib.hid ⟨BK.out.1.below hb3 (by simp; omega), BK.out.2.1.below hb3 (by simp), BK.out.2.2.below hb3 (by simp), HH.out.next W3.out, World.ownsRow_nil _ _ _ _, Chg.of_below W3.out⟩
  have HLB := Lib.hid (fun g hg => (owl.lt g hg).2)
  have OL := Lib.hid owl
  generalize hlb : (((w.alloc (.cells #[.slice A n c, .int .i64 acc] TAuto)).alloc (.cells #[.slice none 0 0, .int .i64 0] TAuto)).alloc (.cells #[.int .u8 3, .slice S m cs, .int .i64 q, .int .i64 least', .int .i64 most'] 25)).heap.size = lb at OL
  clear hlb
  have hws : w.heap.size ≤ w3.heap.size := W3.out.size
  clear owl hb3 y0 y1 y2 y3 y4 y5
  obtain ⟨x0, x1, x2, x3, x4⟩ := Blk.five F3.out.bx
  go_wp2
  go_loopw [15, 16] (fun ev iv wr => ∃ (k : Nat) (A' : Option Addr) (c' : Nat) (EA : Option Addr) (ec : Nat), iv = .int .i64 k ∧ k ≤ q ∧ ev = .slice EA k ec ∧ LG w wr base acc A' (altR (ks.take k) a s).1.length c' (altR (ks.take k) a s).1 #[.int .u8 3, .slice S m cs, .int .i64 q, .int .i64 least', .int .i64 most'] w3.heap.size EA k ec (altR (ks.take k) a s).2 ∧ wr.ownsRow lb TInt 1 (.slice LB q lc) q ((starts t (i + 1) q).map (Value.int .i64)) ∧ w3.heap.size ≤ wr.heap.size) (fun _ iv _ => q - (intOf iv).toNat)
  case atStart => exact ⟨0, A, c, none, 0, rfl, by omega, rfl, by simp only [List.take_zero, altR]; rw [← HNL.out]; exact F3.out, OL.out, Nat.le_refl _⟩
  case round =>
    clear x0 x1 x2 x3 x4
    obtain ⟨k, A', c', EA, ec, rfl, hk, rfl, hf, hol, hsz⟩ := hrel
    have HF := Lib.hid hf
    have HOL := Lib.hid hol
    clear hf hol
    have HLk := Lib.hid (HL.out k)
    obtain ⟨rk, hrk⟩ : ∃ rk, altR (ks.take k) a s = rk := ⟨_, rfl⟩
    rw [hrk] at HF HLk
    have hlen : rk.1.length ≤ 290 := by have := HLk.out.len; rw [← HNL.out] at this; omega
    have hgrow : n ≤ rk.1.length := by have := HLk.out.el.l; rw [← HNL.out] at this; exact this
    have hed : edgesN rk.1 ≤ 65 * rk.1.length := by have := HLk.out.el.e; have h2 := HE.out; rw [← HNL.out] at this; omega
    obtain ⟨p0, p1, p2, p3⟩ := Blk.two HF.out.b0
    by_cases hlt : k < q
    · have hkk : ks[k]? = some (ks[k]'(by rw [HQ.out]; exact hlt)) := List.getElem?_eq_getElem _
      have HCK := Lib.hid (altR_take hkk a s)
      rw [hrk] at HCK
      obtain ⟨hpk, hple⟩ := HK.out k (by omega)
      obtain ⟨g, rfl, hgl, hgc⟩ := own_get (k := k) (u := .int .i64 ((i + 1 + sizes (ks.take k) : Nat) : Int)) HOL.out (by rw [List.getElem?_map, starts_get hlt, hpk]; rfl)
      have HPK := Lib.hid hpk
      have HC := Lib.hid (fun (W : World) (kp : Keep w0 W) (hbW : base ≤ W.heap.size) (au : AuAt W base A' rk.1.length c' rk.1) => HIH.out k _ hkk W A' rk.1.length c' rk.1 s kp hbW au (by omega) (by omega) (by omega) hed)
      generalize ks[k]'(by rw [HQ.out]; exact hlt) = K at *
      generalize i + 1 + sizes (ks.take k) = p at *
      have HKr := Lib.hid (HF.out.ch.keep HKP.out hbs hb)
      have hbr : base ≤ wr.heap.size := Nat.le_trans hb HF.out.ch.size
      have HSZ := Lib.hid hsz
      have K1 : Hid (wr.drew.cell? ⟨w.heap.size, 0, none⟩ = some (.slice A' rk.1.length c') ∧ wr.drew.cell? ⟨w.heap.size, 1, none⟩ = some (.int .i64 acc) ∧ wr.drew.cell? ⟨g, k, none⟩ = some (.int .i64 p)) := Lib.hid ⟨p0, p1, hgc⟩
      clear hkk hrk hpk
      go_wp2
      refine wp_region_T 12 (fun W => W.cell? ⟨w.heap.size, 0, none⟩ = some (.slice A' rk.1.length c') ∧ W.cell? ⟨w.heap.size, 1, none⟩ = some (.int .i64 acc) ∧ W.cell? ⟨g, k, none⟩ = some (.int .i64 p)) (by kernel_rfl) ?_
      refine wpAnyT_take (i := 0) (v := ?_) rfl (by kernel_rfl) (by kernel_rfl) (by kernel_rfl) (by kernel_rfl) (by kernel_rfl) (fun _ _ _ h => h) (.inl ⟨rfl, ?_⟩) K1.out ?_
      rotate_left
      · intro W__ hW__
        obtain ⟨h1, h2, h3⟩ := hW__
        go_simp
        (try with_reducible rfl)
      simp only [Act.put, List.setIfInBounds_toArray, List.set_cons_zero, List.set_cons_succ]
      refine wpAnyT_take (i := 1) (v := ?_) rfl (by kernel_rfl) (by kernel_rfl) (by kernel_rfl) (by kernel_rfl) (by kernel_rfl) (fun _ _ _ h => h) (.inl ⟨rfl, ?_⟩) K1.out ?_
      rotate_left
      · intro W__ hW__
        obtain ⟨h1, h2, h3⟩ := hW__
        go_simp
        (try with_reducible rfl)
      simp only [Act.put, List.setIfInBounds_toArray, List.set_cons_zero, List.set_cons_succ]
      refine wpAnyT_take (i := 2) (v := ?_) rfl (by kernel_rfl) (by kernel_rfl) (by kernel_rfl) (by kernel_rfl) (by kernel_rfl) (fun _ _ _ h => h) (.inl ⟨rfl, ?_⟩) K1.out ?_
      rotate_left
      · intro W__ hW__
        obtain ⟨h1, h2, h3⟩ := hW__
        go_simp
        (try with_reducible rfl)
      simp only [Act.put, List.setIfInBounds_toArray, List.set_cons_zero, List.set_cons_succ]
      refine wpAnyT_take (i := 3) (v := ?_) rfl (by kernel_rfl) (by kernel_rfl) (by kernel_rfl) (by kernel_rfl) (by kernel_rfl) (fun _ _ _ h => h) (.inl ⟨rfl, ?_⟩) K1.out ?_
      rotate_left
      · intro W__ hW__
        obtain ⟨h1, h2, h3⟩ := hW__
        go_simp
        (try with_reducible rfl)
      simp only [Act.put, List.setIfInBounds_toArray, List.set_cons_zero, List.set_cons_succ]
      refine wpAnyT_take (i := 4) (v := ?_) rfl (by kernel_rfl) (by kernel_rfl) (by kernel_rfl) (by kernel_rfl) (by kernel_rfl) (fun _ _ _ h => h) (.inl ⟨rfl, ?_⟩) K1.out ?_
      rotate_left
      · intro W__ hW__
        obtain ⟨h1, h2, h3⟩ := hW__
        go_simp
        (try with_reducible rfl)
      simp only [Act.put, List.setIfInBounds_toArray, List.set_cons_zero, List.set_cons_succ]
      refine wpAnyT_take (i := 5) (v := ?_) rfl (by kernel_rfl) (by kernel_rfl) (by kernel_rfl) (by kernel_rfl) (by kernel_rfl) (fun _ _ _ h => h) (.inl ⟨rfl, ?_⟩) K1.out ?_
      rotate_left
      · intro W__ hW__
        obtain ⟨h1, h2, h3⟩ := hW__
        go_simp
        (try with_reducible rfl)
      simp only [Act.put, List.setIfInBounds_toArray, List.set_cons_zero, List.set_cons_succ]
      refine wpAnyT_take (i := 6) (v := ?_) rfl (by kernel_rfl) (by kernel_rfl) (by kernel_rfl) (by kernel_rfl) (by kernel_rfl) (fun _ _ _ h => h) (.inl ⟨rfl, ?_⟩) K1.out ?_
      rotate_left
      · intro W__ hW__
        obtain ⟨h1, h2, h3⟩ := hW__
        go_simp
        (try with_reducible rfl)
      simp only [Act.put, List.setIfInBounds_toArray, List.set_cons_zero, List.set_cons_succ]
      refine wpAnyT_two (i := 7) (j := 11) rfl rfl (by kernel_rfl) rfl rfl (fun K__ hK__ => ?_) (fun K__ hK__ => ?_)
      · unfold Oper.wp
        go_simp
        refine (HC.out _ (HKr.out.trans (Keep.drew _)) hbr (HF.out.au.next (Below.refl _ _).drew)).mono ?_
        rintro e w5 ⟨A5, c5, rfl, au5, ch5⟩
        have HFd := HF.out.below (Below.refl wr.heap.size wr).drew
        have MID0 := Lib.hid (LM.late HFd ch5 au5)
        have OL5 := ownsRow_chg (show wr.drew.ownsRow _ _ _ _ _ _ from HOL.out) ch5 TA_int
        have OL60 := Lib.hid (OL5.alloc (.cells #[.slice A5 (leadR K rk.1 s).1.length c5, .int .i64 acc] TAuto))
        have q01 := Blk.two (ch5.blk HFd.b0 TA_auto)
        obtain ⟨_, e', _, hgc5⟩ := own_get (k := k) (u := .int .i64 (p : Int)) OL5 (by rw [List.getElem?_map, starts_get hlt, HPK.out]; rfl)
        simp only [Option.some.injEq, Addr.mk.injEq, and_true] at e'
        subst e'
        have hs6 : w3.heap.size ≤ (w5.alloc (.cells #[.slice A5 (leadR K rk.1 s).1.length c5, .int .i64 acc] TAuto)).heap.size := by have h1 := ch5.size; have h2 := HSZ.out; simp at h1 ⊢; omega
        have K5 : Hid (w5.cell? ⟨w.heap.size, 0, none⟩ = some (.slice A' rk.1.length c') ∧ w5.cell? ⟨w.heap.size, 1, none⟩ = some (.int .i64 acc) ∧ w5.cell? ⟨g, k, none⟩ = some (.int .i64 p)) := Lib.hid ⟨q01.1, q01.2.1, hgc5⟩
        have K6 : Hid ((w5.alloc (.cells #[.slice none 0 0, .int .i64 0] TAuto)).cell? ⟨w.heap.size, 0, none⟩ = some (.slice A' rk.1.length c') ∧ (w5.alloc (.cells #[.slice none 0 0, .int .i64 0] TAuto)).cell? ⟨w.heap.size, 1, none⟩ = some (.int .i64 acc) ∧ (w5.alloc (.cells #[.slice none 0 0, .int .i64 0] TAuto)).cell? ⟨g, k, none⟩ = some (.int .i64 p)) := Lib.hid ⟨((ch5.blk HFd.b0 TA_auto).alloc _).cell 0, ((ch5.blk HFd.b0 TA_auto).alloc _).cell 1, ((Keep.alloc _ _).cell _ _ (World.block_lt_of_cell? _ _ hgc5)).trans hgc5⟩
        refine hK__ _ _ K5.out ?_
        clear hK__ au5 ch5 OL5 q01 hgc5 HFd
        try simp only [Act.put, List.setIfInBounds_toArray, List.set_cons_zero, List.set_cons_succ]
        refine wpAnyT_takeW (i := 8) (v := ?_) rfl (by decide) (by kernel_rfl) (by kernel_rfl) (by kernel_rfl) (fun _ _ _ h => h) (.inl ⟨rfl, ?_⟩) (fun _ => K5.out) ?_
        rotate_left
        · intro W__ _
          go_simp
          (try with_reducible rfl)
        simp only [Act.put, List.setIfInBounds_toArray, List.set_cons_zero, List.set_cons_succ]
        refine wpAnyT_takeW (i := 9) (v := ?_) rfl (by decide) (by kernel_rfl) (by kernel_rfl) (by kernel_rfl) (fun _ _ _ h => h) (.inl ⟨rfl, ?_⟩) (fun _ => K5.out) ?_
        rotate_left
        · intro W__ _
          go_simp
          (try with_reducible rfl)
        simp only [Act.put, List.setIfInBounds_toArray, List.set_cons_zero, List.set_cons_succ]
        refine wpAnyT_takeW (i := 10) (v := ?_) rfl (by decide) (by kernel_rfl) (by kernel_rfl) (by kernel_rfl) (fun _ _ _ h => h) (.inl ⟨rfl, ?_⟩) (fun _ => K5.out) ?_
        rotate_left
        · intro W__ _
          go_simp
          (try with_reducible rfl)
        simp only [Act.put, List.setIfInBounds_toArray, List.set_cons_zero, List.set_cons_succ]
        refine wpAnyT_one (i := 11) rfl (by kernel_rfl) rfl fun K__ hK__ => ?_
        unfold Oper.wp
        go_simp
        refine hK__ _ _ (K6.out) ?_
        clear hK__
        refine wpAnyT_end (i := 12) rfl (by kernel_rfl) rfl (by kernel_rfl) fun K__ hK__ => ?_
        unfold Oper.wp
        go_simp
        refine hK__ _ _ ?_
        clear hK__
        refine wpAnyT_end (i := 13) rfl (by kernel_rfl) rfl (by kernel_rfl) fun K__ hK__ => ?_
        unfold Oper.wp
        go_simp
        refine hK__ _ _ ?_
        clear hK__
        refine wpAnyT_done (by kernel_rfl) ?_ _
        generalize w5.alloc (.cells #[.slice A5 (leadR K rk.1 s).1.length c5, .int .i64 acc] TAuto) = w6 at *
        have MID := MID0
        have OL6 := OL60
        clear K5 K6
        clear K1 p0 p1 p2 p3 hgc
        obtain ⟨m0, m1, m2, m3⟩ := Blk.two MID.out.b0
        obtain ⟨n0, n1, _, _⟩ := Blk.two MID.out.bb
        have PUT := Lib.hid (MID.out.put hb)
        have PUTA := Lib.hid (PUT.out.below (w' := ((w6.setCell ⟨w.heap.size, 0, none⟩ (.slice A5 (leadR K rk.1 s).1.length c5)).setCell ⟨w.heap.size, 1, none⟩ (.int .i64 acc)).alloc (.cells #[.int .i64 (leadR K rk.1 s).2] TInt)) ((Below.refl _ _).alloc (Nat.le_refl _) _))
        have OL7 := Lib.hid ((ownsRow_setFar (ownsRow_setFar OL6.out MID.out.b0 (by decide) 0 (.slice A5 (leadR K rk.1 s).1.length c5)) (MID.out.b0.set 0 (.slice A5 (leadR K rk.1 s).1.length c5)) (by decide) 1 (.int .i64 acc)).alloc (.cells #[.int .i64 (leadR K rk.1 s).2] TInt))
        have SRC0 := Src.one (w := (w6.setCell ⟨w.heap.size, 0, none⟩ (.slice A5 (leadR K rk.1 s).1.length c5)).setCell ⟨w.heap.size, 1, none⟩ (.int .i64 acc)) (x := .int .i64 (leadR K rk.1 s).2) (t := TInt) rfl
        rw [show ((w6.setCell ⟨w.heap.size, 0, none⟩ (.slice A5 (leadR K rk.1 s).1.length c5)).setCell ⟨w.heap.size, 1, none⟩ (.int .i64 acc)).heap.size = w6.heap.size by simp] at SRC0
        have SRC := Lib.hid SRC0
        have Q1 : Hid (k + 1 ≤ maxLen) := Lib.hid (by simp only [maxLen]; omega)
        have Q2 : Hid ((k + 1) * 8 ≤ 140737488355328) := Lib.hid (by omega)
        have Q3 : Hid (w3.heap.size ≤ (((w6.setCell ⟨w.heap.size, 0, none⟩ (.slice A5 (leadR K rk.1 s).1.length c5)).setCell ⟨w.heap.size, 1, none⟩ (.int .i64 acc)).alloc (.cells #[.int .i64 (leadR K rk.1 s).2] TInt)).heap.size) := Lib.hid (by have := hs6; simp; omega)
        clear SRC0
        go_wp2_with (at_builtin
                     go_must (refine wpList_append_src _ rfl (.tmp 113) (.tmp 115) 26 rfl w3.heap.size TInt i0 (.int .i64 0) 1 8 Tryz.underlying26 hi0 hz0 hs0 hb0 rfl (by decide) EA ec k _ rfl PUTA.out.ow _ 1 1 _ rfl SRC.out Q1.out Q2.out Q3.out ?_)
                     intro E8 ec8 w8 own8 gr8 _
                     have PUSH := Lib.hid (PUTA.out.push (Nat.le_trans hb hws) hws gr8 own8)
                     have OL8 := Lib.hid (OL7.out.kept gr8 (by
                       cases hq : (Value.slice (some ⟨g, 0, none⟩) q lc).ownBlock with
                       | none => exact .inl rfl
                       | some z => exact .inr fun e => by have h1 := HLB.out z hq; have h2 := (PUTA.out.ow.lt z e.symm).1; omega))
                     have S8 := gr8.size
                     clear gr8 own8)
        go_roundw
        case rel =>
          refine ⟨k + 1, A5, c5, E8, ec8, by go_num, by omega, rfl, ?_, OL8.out, Nat.le_trans hs6 (Nat.le_trans (by simp) S8)⟩
          rw [HCK.out]
          exact PUSH.out
        case measure => simp [intOf]; omega
      · unfold Oper.wp
        go_simp
        have hba : Below wr.heap.size wr (wr.alloc (.cells #[.slice none 0 0, .int .i64 0] TAuto)) := (Below.refl _ _).alloc (Nat.le_refl _) _
        have HFa := HF.out.below hba
        have KA : Hid ((wr.alloc (.cells #[.slice none 0 0, .int .i64 0] TAuto)).drew.cell? ⟨w.heap.size, 0, none⟩ = some (.slice A' rk.1.length c') ∧ (wr.alloc (.cells #[.slice none 0 0, .int .i64 0] TAuto)).drew.cell? ⟨w.heap.size, 1, none⟩ = some (.int .i64 acc) ∧ (wr.alloc (.cells #[.slice none 0 0, .int .i64 0] TAuto)).drew.cell? ⟨g, k, none⟩ = some (.int .i64 p)) := Lib.hid ⟨HFa.b0.cell 0, HFa.b0.cell 1, ((Keep.alloc _ _).cell _ _ (World.block_lt_of_cell? _ _ hgc)).trans hgc⟩
        refine hK__ _ _ KA.out ?_
        clear hK__
        refine wpAnyT_one (i := 7) rfl (by kernel_rfl) rfl fun K__ hK__ => ?_
        unfold Oper.wp
        go_simp
        refine (HC.out _ (HKr.out.trans ((Keep.of hba).trans (Keep.drew _))) (Nat.le_trans hbr (by simp)) (HFa.au.next (Below.refl _ _).drew)).mono ?_
        rintro e w5 ⟨A5, c5, rfl, au5, ch50⟩
        have ch5 : Chg TA base (wr.alloc (.cells #[.slice none 0 0, .int .i64 0] TAuto)) w5 := (Chg.of_below (Below.refl _ _).drew).trans ch50
        have MID0 := Lib.hid (LM.early rfl HF.out hb hws HF.out.bx.lt ch5 au5)
        have BB := ch5.blk (Blk.new wr TAuto #[.slice none 0 0, .int .i64 0]) TA_auto
        have OL5 := ownsRow_chg (HOL.out.alloc (.cells #[.slice none 0 0, .int .i64 0] TAuto)) ch5 TA_int
        have OL60 := Lib.hid (ownsRow_setFar (ownsRow_setFar OL5 BB (by decide) 0 (.slice A5 (leadR K rk.1 s).1.length c5)) (BB.set 0 (.slice A5 (leadR K rk.1 s).1.length c5)) (by decide) 1 (.int .i64 acc))
        have q01 := Blk.two (ch5.blk HFa.b0 TA_auto)
        obtain ⟨_, e', _, hgc5⟩ := own_get (k := k) (u := .int .i64 (p : Int)) OL5 (by rw [List.getElem?_map, starts_get hlt, HPK.out]; rfl)
        simp only [Option.some.injEq, Addr.mk.injEq, and_true] at e'
        subst e'
        have hs6 : w3.heap.size ≤ ((w5.setCell ⟨wr.heap.size, 0, none⟩ (.slice A5 (leadR K rk.1 s).1.length c5)).setCell ⟨wr.heap.size, 1, none⟩ (.int .i64 acc)).heap.size := by have h1 := ch5.size; have h2 := HSZ.out; simp at h1 ⊢; omega
        have K5 : Hid (w5.cell? ⟨w.heap.size, 0, none⟩ = some (.slice A' rk.1.length c') ∧ w5.cell? ⟨w.heap.size, 1, none⟩ = some (.int .i64 acc) ∧ w5.cell? ⟨g, k, none⟩ = some (.int .i64 p)) := Lib.hid ⟨q01.1, q01.2.1, hgc5⟩
        obtain ⟨z0, z1, z2, z3⟩ := Blk.two BB
        refine hK__ _ _ K5.out ?_
        clear hK__ au5 ch5 ch50 OL5 q01 hgc5 HFa hba BB
        try simp only [Act.put, List.setIfInBounds_toArray, List.set_cons_zero, List.set_cons_succ]
        refine wpAnyT_takeW (i := 8) (v := ?_) rfl (by decide) (by kernel_rfl) (by kernel_rfl) (by kernel_rfl) (fun _ _ _ h => h) (.inl ⟨rfl, ?_⟩) (fun _ => K5.out) ?_
        rotate_left
        · intro W__ _
          go_simp
          (try with_reducible rfl)
        simp only [Act.put, List.setIfInBounds_toArray, List.set_cons_zero, List.set_cons_succ]
        refine wpAnyT_takeW (i := 9) (v := ?_) rfl (by decide) (by kernel_rfl) (by kernel_rfl) (by kernel_rfl) (fun _ _ _ h => h) (.inl ⟨rfl, ?_⟩) (fun _ => K5.out) ?_
        rotate_left
        · intro W__ _
          go_simp
          (try with_reducible rfl)
        simp only [Act.put, List.setIfInBounds_toArray, List.set_cons_zero, List.set_cons_succ]
        refine wpAnyT_takeW (i := 10) (v := ?_) rfl (by decide) (by kernel_rfl) (by kernel_rfl) (by kernel_rfl) (fun _ _ _ h => h) (.inl ⟨rfl, ?_⟩) (fun _ => K5.out) ?_
        rotate_left
        · intro W__ _
          go_simp
          (try with_reducible rfl)
        simp only [Act.put, List.setIfInBounds_toArray, List.set_cons_zero, List.set_cons_succ]
        refine wpAnyT_end (i := 12) rfl (by kernel_rfl) rfl (by kernel_rfl) fun K__ hK__ => ?_
        unfold Oper.wp
        go_simp
        refine hK__ _ _ ?_
        clear hK__
        refine wpAnyT_end (i := 13) rfl (by kernel_rfl) rfl (by kernel_rfl) fun K__ hK__ => ?_
        unfold Oper.wp
        go_simp
        refine hK__ _ _ ?_
        clear hK__
        refine wpAnyT_done (by kernel_rfl) ?_ _
        clear z0 z1 z2 z3
        generalize (w5.setCell ⟨wr.heap.size, 0, none⟩ (.slice A5 (leadR K rk.1 s).1.length c5)).setCell ⟨wr.heap.size, 1, none⟩ (.int .i64 acc) = w6 at *
        have MID := MID0
        have OL6 := OL60
        clear K5 KA
        clear K1 p0 p1 p2 p3 hgc
        obtain ⟨m0, m1, m2, m3⟩ := Blk.two MID.out.b0
        obtain ⟨n0, n1, _, _⟩ := Blk.two MID.out.bb
        have PUT := Lib.hid (MID.out.put hb)
        have PUTA := Lib.hid (PUT.out.below (w' := ((w6.setCell ⟨w.heap.size, 0, none⟩ (.slice A5 (leadR K rk.1 s).1.length c5)).setCell ⟨w.heap.size, 1, none⟩ (.int .i64 acc)).alloc (.cells #[.int .i64 (leadR K rk.1 s).2] TInt)) ((Below.refl _ _).alloc (Nat.le_refl _) _))
        have OL7 := Lib.hid ((ownsRow_setFar (ownsRow_setFar OL6.out MID.out.b0 (by decide) 0 (.slice A5 (leadR K rk.1 s).1.length c5)) (MID.out.b0.set 0 (.slice A5 (leadR K rk.1 s).1.length c5)) (by decide) 1 (.int .i64 acc)).alloc (.cells #[.int .i64 (leadR K rk.1 s).2] TInt))
        have SRC0 := Src.one (w := (w6.setCell ⟨w.heap.size, 0, none⟩ (.slice A5 (leadR K rk.1 s).1.length c5)).setCell ⟨w.heap.size, 1, none⟩ (.int .i64 acc)) (x := .int .i64 (leadR K rk.1 s).2) (t := TInt) rfl
        rw [show ((w6.setCell ⟨w.heap.size, 0, none⟩ (.slice A5 (leadR K rk.1 s).1.length c5)).setCell ⟨w.heap.size, 1, none⟩ (.int .i64 acc)).heap.size = w6.heap.size by simp] at SRC0
        have SRC := Lib.hid SRC0
        have Q1 : Hid (k + 1 ≤ maxLen) := Lib.hid (by simp only [maxLen]; omega)
        have Q2 : Hid ((k + 1) * 8 ≤ 140737488355328) := Lib.hid (by omega)
        have Q3 : Hid (w3.heap.size ≤ (((w6.setCell ⟨w.heap.size, 0, none⟩ (.slice A5 (leadR K rk.1 s).1.length c5)).setCell ⟨w.heap.size, 1, none⟩ (.int .i64 acc)).alloc (.cells #[.int .i64 (leadR K rk.1 s).2] TInt)).heap.size) := Lib.hid (by have := hs6; simp; omega)
        clear SRC0
        go_wp2_with (at_builtin
                     go_must (refine wpList_append_src _ rfl (.tmp 113) (.tmp 115) 26 rfl w3.heap.size TInt i0 (.int .i64 0) 1 8 Tryz.underlying26 hi0 hz0 hs0 hb0 rfl (by decide) EA ec k _ rfl PUTA.out.ow _ 1 1 _ rfl SRC.out Q1.out Q2.out Q3.out ?_)
                     intro E8 ec8 w8 own8 gr8 _
                     have PUSH := Lib.hid (PUTA.out.push (Nat.le_trans hb hws) hws gr8 own8)
                     have OL8 := Lib.hid (OL7.out.kept gr8 (by
                       cases hq : (Value.slice (some ⟨g, 0, none⟩) q lc).ownBlock with
                       | none => exact .inl rfl
                       | some z => exact .inr fun e => by have h1 := HLB.out z hq; have h2 := (PUTA.out.ow.lt z e.symm).1; omega))
                     have S8 := gr8.size
                     clear gr8 own8)
        go_roundw
        case rel =>
          refine ⟨k + 1, A5, c5, E8, ec8, by go_num, by omega, rfl, ?_, OL8.out, Nat.le_trans hs6 (Nat.le_trans (by simp) S8)⟩
          rw [HCK.out]
          exact PUSH.out
        case measure => simp [intOf]; omega
    · have hkq : k = q := by omega
      subst hkq
      have htk : ks.take k = ks := List.take_of_length_le (by rw [HQ.out]; omega)
      rw [htk] at hrk
      obtain ⟨ra, rl⟩ := rk
      have HRK := Lib.hid hrk
      simp only at hlen hgrow hed
      have hra : base ≤ wr.heap.size := Nat.le_trans hb HF.out.ch.size
      have HST := Lib.hid (ref09_state A' ra.length c' base acc ra wr HF.out.au hra (by omega))
      have hrl : rl.length ≤ 64 := HLk.out.few
      have HLT := Lib.hid HLk.out.lt
      have HOW := HF.out.ow.1
      simp only [List.length_map, Nat.mul_one] at HOW
      clear hrk htk
      go_wp2_with fail
      refine HST.out.mono ?_
      rintro e w5 ⟨A5, c5, rfl, au5, ch5⟩
      have F5 := Lib.hid (HF.out.call hb ch5 au5)
      obtain ⟨q0, q1, q2, q3⟩ := Blk.two (ch5.blk HF.out.b0 TA_auto)
      have HM5 : Hid ((ra ++ [[]] : Au).length = ra.length + 1) := Lib.hid (by simp)
      clear au5 ch5 p0 p1 p2 p3
      go_wp2
      go_loopw [22] (fun iv wr => ∃ kk : Nat, iv = .int .i64 kk ∧ kk ≤ k ∧ LG w wr base acc A5 (ra.length + 1) c5 (freesR ra.length (ra ++ [[]]) (rl.take kk)).1 #[.int .u8 3, .slice S m cs, .int .i64 k, .int .i64 least', .int .i64 most'] w3.heap.size EA k ec rl ∧ (∀ e, e ∈ rl.take kk → 0 ≤ e)) (fun iv _ => k - (intOf iv).toNat)
      case atStart => exact ⟨0, rfl, by omega, by simpa [freesR] using F5.out, by simp⟩
      case round =>
        clear q0 q1 q2 q3
        obtain ⟨kk, rfl, hkk, hf, hpos⟩ := hrel
        have HF6 := Lib.hid hf
        have HPOS := Lib.hid hpos
        clear hf hpos
        have FO := Lib.hid (frees_ok ra.length (rl.take kk) (ra ++ [[]]) (fun e he => by have h1 := HLT.out e (List.mem_of_mem_take he); (try simp only at h1); rw [HM5.out]; omega))
        obtain ⟨p0, p1, p2, p3⟩ := Blk.two HF6.out.b0
        by_cases hlt2 : kk < k
        · have hg : rl[kk]? = some (rl[kk]'(by omega)) := List.getElem?_eq_getElem _
          generalize rl[kk]'(by omega) = ee at hg
          have HG := Lib.hid hg
          have hlee := HLT.out ee (mem_of_get hg)
          (try simp only at hlee)
          obtain ⟨g2, rfl, hgl2, hgc2⟩ := own_get (k := kk) (u := .int .i64 ee) HF6.out.ow (by rw [List.getElem?_map, hg]; rfl)
          clear hg
          by_cases hneg : ee < 0
          · have HR := Lib.hid (show shutR ⟨3, l', (k : Nat), least', most'⟩ (leadHdR ks) (ra, rl) = ((freesR ra.length (ra ++ [[]]) (rl.take kk)).1, -1) by
              have h1 := frees_neg (m := ra.length) (a := ra ++ [[]]) HG.out HPOS.out hneg
              rw [shut_neg (by rw [h1]; simp), h1])
            have S2 := Lib.hid (store2 (.slice A5 (ra.length + 1) c5) (.int .i64 acc) HF6.out.b1 HF6.out.au HF6.out.ch TA_auto (by decide) hb (Nat.le_succ _))
            obtain ⟨v0, v1, v2, v3⟩ := Blk.two HF6.out.b1
            obtain ⟨z0, z1, _, _⟩ := Blk.two S2.out.1
            have HL6 := Lib.hid HF6.out.au.len
            go_wp2
            refine bodyPost_ret (v := .tuple #[.agg #[.slice A5 (ra.length + 1) c5, .int .i64 acc], .int .i64 (-1)]) (by simp [results, Tryz.results58, go_sem, z0, z1]) rfl (by rw [HRK.out, HR.out]; exact ⟨A5, c5, by simp only; rw [← HL6.out], by simp only; rw [← HL6.out]; exact S2.out.2.1, S2.out.2.2⟩)
          · obtain ⟨e', rfl⟩ := Int.eq_ofNat_of_zero_le (show 0 ≤ ee by omega)
            have HFR := Lib.hid (fun (W : World) (hbW : base ≤ W.heap.size) (au : AuAt W base A5 (ra.length + 1) c5 (freesR ra.length (ra ++ [[]]) (rl.take kk)).1) => ref09_free A5 (ra.length + 1) c5 base e' ra.length acc _ W au hbW (by omega) (by omega) (by
              have h1 := FO.out.2.2.2; rw [edgesN_state] at h1; have : (rl.take kk).length ≤ 64 := by rw [List.length_take]; omega
              omega))
            have HSTEP := Lib.hid (frees_step (m := ra.length) (a := ra ++ [[]]) HG.out HPOS.out (by omega))
            have hb6 : base ≤ wr.heap.size := Nat.le_trans hb HF6.out.ch.size
            have K1 : Hid (wr.drew.cell? ⟨w.heap.size, 0, none⟩ = some (.slice A5 (ra.length + 1) c5) ∧ wr.drew.cell? ⟨w.heap.size, 1, none⟩ = some (.int .i64 acc) ∧ wr.drew.cell? ⟨g2, kk, none⟩ = some (.int .i64 e')) := Lib.hid ⟨p0, p1, hgc2⟩
            go_wp2
            refine wp_region_T 6 (fun W => W.cell? ⟨w.heap.size, 0, none⟩ = some (.slice A5 (ra.length + 1) c5) ∧ W.cell? ⟨w.heap.size, 1, none⟩ = some (.int .i64 acc) ∧ W.cell? ⟨g2, kk, none⟩ = some (.int .i64 e')) (by kernel_rfl) ?_
            refine wpAnyT_take (i := 0) (v := ?_) rfl (by kernel_rfl) (by kernel_rfl) (by kernel_rfl) (by kernel_rfl) (by kernel_rfl) (fun _ _ _ h => h) (.inl ⟨rfl, ?_⟩) K1.out ?_
            rotate_left
            · intro W__ hW__
              obtain ⟨h1, h2, h3⟩ := hW__
              go_simp
              (try with_reducible rfl)
            simp only [Act.put, List.setIfInBounds_toArray, List.set_cons_zero, List.set_cons_succ]
            refine wpAnyT_takeW (i := 1) (v := ?_) rfl (by decide) (by kernel_rfl) (by kernel_rfl) (by kernel_rfl) (fun _ _ _ h => h) (.inl ⟨rfl, ?_⟩) (fun _ => K1.out) ?_
            rotate_left
            · intro W__ _
              go_simp
              (try with_reducible rfl)
            simp only [Act.put, List.setIfInBounds_toArray, List.set_cons_zero, List.set_cons_succ]
            refine wpAnyT_takeW (i := 2) (v := ?_) rfl (by decide) (by kernel_rfl) (by kernel_rfl) (by kernel_rfl) (fun _ _ _ h => h) (.inl ⟨rfl, ?_⟩) (fun _ => K1.out) ?_
            rotate_left
            · intro W__ _
              go_simp
              (try with_reducible rfl)
            simp only [Act.put, List.setIfInBounds_toArray, List.set_cons_zero, List.set_cons_succ]
            refine wpAnyT_takeW (i := 3) (v := ?_) rfl (by decide) (by kernel_rfl) (by kernel_rfl) (by kernel_rfl) (fun _ _ _ h => h) (.inl ⟨rfl, ?_⟩) (fun _ => K1.out) ?_
            rotate_left
            · intro W__ _
              go_simp
              (try with_reducible rfl)
            simp only [Act.put, List.setIfInBounds_toArray, List.set_cons_zero, List.set_cons_succ]
            refine wpAnyT_take (i := 4) (v := ?_) rfl (by kernel_rfl) (by kernel_rfl) (by kernel_rfl) (by kernel_rfl) (by kernel_rfl) (fun _ _ _ h => h) (.inl ⟨rfl, ?_⟩) K1.out ?_
            rotate_left
            · intro W__ hW__
              obtain ⟨h1, h2, h3⟩ := hW__
              go_simp
              (try with_reducible rfl)
            simp only [Act.put, List.setIfInBounds_toArray, List.set_cons_zero, List.set_cons_succ]
            refine wpAnyT_takeW (i := 5) (v := ?_) rfl (by decide) (by kernel_rfl) (by kernel_rfl) (by kernel_rfl) (fun _ _ _ h => h) (.inl ⟨rfl, ?_⟩) (fun _ => K1.out) ?_
            rotate_left
            · intro W__ _
              go_simp
              (try with_reducible rfl)
            simp only [Act.put, List.setIfInBounds_toArray, List.set_cons_zero, List.set_cons_succ]
            refine wpAnyT_end (i := 6) rfl (by kernel_rfl) rfl (by kernel_rfl) fun K__ hK__ => ?_
            unfold Oper.wp
            go_simp
            refine (HFR.out wr.drew hb6 (HF6.out.au.next (Below.refl _ _).drew)).mono ?_
            rintro e w7 ⟨⟨v, rfl⟩, au7, ch7⟩
            have F7 := Lib.hid ((HF6.out.below (Below.refl wr.heap.size wr).drew).same ch7 au7)
            refine hK__ _ _ ?_
            clear hK__ au7 ch7 K1 p0 p1 p2 p3 hgc2
            refine wpAnyT_done (by kernel_rfl) ?_ _
            go_wp2
            go_roundw
            case rel =>
              refine ⟨kk + 1, by go_num, by omega, ?_, fun e he => ?_⟩
              · rw [HSTEP.out]; exact F7.out
              · rw [take_snoc HG.out] at he
                rcases List.mem_append.1 he with he | he
                · exact HPOS.out e he
                · simp at he; omega
            case measure => simp [intOf]; omega
        · have hke : kk = k := by omega
          subst hke
          have htl : rl.take kk = rl := List.take_of_length_le (by omega)
          have HR := Lib.hid (show shutR ⟨3, l', (kk : Nat), least', most'⟩ (leadHdR ks) (ra, rl) = ((freesR ra.length (ra ++ [[]]) rl).1, (ra.length : Int)) from shut_plain (by have := HPOS.out; rwa [htl] at this) (by simp))
          rw [htl] at HF6
          have S2 := Lib.hid (store2 (.slice A5 (ra.length + 1) c5) (.int .i64 acc) HF6.out.b1 HF6.out.au HF6.out.ch TA_auto (by decide) hb (Nat.le_succ _))
          obtain ⟨v0, v1, v2, v3⟩ := Blk.two HF6.out.b1
          obtain ⟨z0, z1, _, _⟩ := Blk.two S2.out.1
          obtain ⟨xx0, xx1, xx2, xx3, xx4⟩ := Blk.five HF6.out.bx
          have HL6 := Lib.hid HF6.out.au.len
          clear htl
          go_wp2
          refine bodyPost_ret (v := .tuple #[.agg #[.slice A5 (ra.length + 1) c5, .int .i64 acc], .int .i64 ra.length]) (by simp [results, Tryz.results58, go_sem, z0, z1]) rfl (by rw [HRK.out, HR.out]; exact ⟨A5, c5, by simp only; rw [← HL6.out], by simp only; rw [← HL6.out]; exact S2.out.2.1, S2.out.2.2⟩)

end Go.Proofs.YtjnjbcigbnjmkaaGreat
