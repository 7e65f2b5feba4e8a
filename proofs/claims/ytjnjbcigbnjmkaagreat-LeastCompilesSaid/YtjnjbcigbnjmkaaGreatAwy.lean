/- Walks: the document's leading through a node that is repeated. -/
import Derived.Test.YtjnjbcigbnjmkaaGreatAty
namespace Go.Proofs.YtjnjbcigbnjmkaaGreat
open Go.RowKit Pv

set_option maxHeartbeats 4000000 in
set_option maxRecDepth 100000 in
theorem lead_rep (w w0 : World) (base : Nat) (acc : Int) (tA : Option Addr) (nt ct : Nat) (t : List Rx) (i lz : Nat) (most : Int) (l : List Rng) (A : Option Addr) (n c : Nat) (a : Au) (s : Nat) (K : Tr) (hbs : w0.heap.size ≤ base) (hb : base ≤ w.heap.size) (hkp : Keep w0 w) (h : AuAt w base A n c a) (hn : n ≤ 256) (hs : s < n) (he : edgesN a ≤ 65 * n)
    (ht : AtRx w0 tA t) (HT : Hid (t.length = nt)) (hnt : nt ≤ 64) (HX : Hid (t[i]? = some ⟨4, l, 1, lz, most⟩)) (hlz : lz ≤ 16) (hmo : -1 ≤ most ∧ most ≤ 16)
    (HK : Hid (∀ j, j ≤ 1 → ∃ e, e ≤ nt ∧ again (behind t 16) j (i + 1) = some e))
    (HL : Hid (∀ k a' (s' : Int), -1 ≤ s' → s' < a'.length → LOk (statesT K * k) 17 (iter (leadT K) k) a' s' (iterR (leadHdR [K]) k a' s')))
    (HA : Hid (AOk (statesT K * lz + statesT K * (most - lz).toNat) 17 (iters (leadT K) (most - lz).toNat (iter (leadT K) lz a s).1 (iter (leadT K) lz a s).2) a s ((most - lz).toNat + 1) (itersR (leadHdR [K]) (most - lz).toNat (iterR (leadHdR [K]) lz a s).1 (iterR (leadHdR [K]) lz a s).2)))
    (HIH : Hid (LeadC w0 base acc tA nt ct K (i + 1))) :
    Calls Tryz.prog 58 #[.agg #[.slice A n c, .int .i64 acc], .slice tA nt ct, .int .i64 i, .int .i64 s] w (LeadPost w base acc (leadR (.mk ⟨4, l, 1, lz, most⟩ [K]) a s)) := by
  obtain ⟨i0, hi0, hz0, hs0, hb0⟩ := info_parts info_int
  have hnl := h.len
  have hin : i < nt := by have := lt_of_get HX.out; rwa [HT.out] at this
  rw [leadR_rep (by rw [← hnl]; omega) rfl]
  rw [show (⟨4, l, 1, (lz : Int), most⟩ : Rx).least.toNat = lz from Int.toNat_natCast lz]
  obtain ⟨RT, hRT⟩ : ∃ RT, shutR ⟨4, l, 1, lz, most⟩ (leadHdR [K]) (itersR (leadHdR [K]) (most - lz).toNat (iterR (leadHdR [K]) lz a s).1 (iterR (leadHdR [K]) lz a s).2) = RT := ⟨_, rfl⟩
  show Calls Tryz.prog 58 #[.agg #[.slice A n c, .int .i64 acc], .slice tA nt ct, .int .i64 i, .int .i64 s] w (LeadPost w base acc (shutR ⟨4, l, 1, lz, most⟩ (leadHdR [K]) (itersR (leadHdR [K]) (most - lz).toNat (iterR (leadHdR [K]) lz a s).1 (iterR (leadHdR [K]) lz a s).2)))
  rw [hRT]
  have HRT := Lib.hid hRT
  clear hRT
  have HU := Lib.hid (fun (W : World) (kp : Keep w0 W) => ref07_Under tA ct nt i t ⟨4, l, 1, lz, most⟩ W (AtRx.keep ht kp) HT hnt HX (Lib.hid (fun k hk => HK.out k (by simpa using hk))) (by simp))
  obtain ⟨b, off, kd', S, cs, m, l', many', least', most', rfl, H5, hset, HM, hmc, hkd, hma, hle, hmo', HX'⟩ := ht.g5 HT hin
  obtain ⟨rfl, rfl, rfl, rfl, rfl⟩ := Rx.mk.inj (Option.some.inj (HX'.out.symm.trans HX.out))
  obtain ⟨y0, y1, y2, y3, y4, y5⟩ := H5.next hkp
  have hW : Below w.heap.size w (((w.alloc (.cells #[.slice A n c, .int .i64 acc] TAuto)).alloc (.cells #[.slice none 0 0, .int .i64 0] TAuto)).alloc (.cells #[.int .u8 4, .slice S m cs, .int .i64 1, .int .i64 lz, .int .i64 most'] 25)) := (((Below.refl _ _).alloc (Nat.le_refl _) _).alloc (by simp) _).alloc (by simp; omega) _
  have HW := Lib.hid hW
  have BK := Lib.hid (blk3 w #[.slice A n c, .int .i64 acc] #[.slice none 0 0, .int .i64 0] #[.int .u8 4, .slice S m cs, .int .i64 1, .int .i64 lz, .int .i64 most'] TAuto TAuto 25)
  have HH := Lib.hid h; have HKP := Lib.hid hkp
  have HE := Lib.hid he
  have HNL := Lib.hid hnl
  have HC := Lib.hid (fun (W : World) (A' : Option Addr) (n' c' : Nat) (a' : Au) (s' : Int) (kp : Keep w0 W) (hbW : base ≤ W.heap.size) (au : AuAt W base A' n' c' a') (h1 : -1 ≤ s') (h2 : s' < n') (h3 : n' ≤ 300) (h4 : edgesN a' ≤ 65 * n') =>
    show Calls Tryz.prog 58 #[.agg #[.slice A' n' c', .int .i64 acc], .slice (some ⟨b, off, none⟩) nt ct, .int .i64 ((i : Int) + 1), .int .i64 s'] W (LeadPost W base acc (leadR K a' s')) from HIH.out W A' n' c' a' s' kp hbW au h1 h2 h3 h4)
  clear hW h hkp hset HX' ht H5 hnl he
  have hl0 : ((lz : Int) < 0) = False := by simp
  go_enter Tryz.func58, Tryz.ntmps58
  go_wp2_with fail
  refine (HU.out _ (HKP.out.trans (Keep.of HW.out))).mono ?_
  rintro e w3 ⟨LB, lc, rfl, _, hb3⟩
  have W3 := Lib.hid (HW.out.trans (hb3.mono HW.out.size))
  have F3 : Hid (LG w w3 base acc A n c a #[.int .u8 4, .slice S m cs, .int .i64 1, .int .i64 lz, .int .i64 most'] w3.heap.size none 0 0 []) := Lib.hid ⟨BK.out.1.below hb3 (by simp; omega), BK.out.2.1.below hb3 (by simp), BK.out.2.2.below hb3 (by simp), HH.out.next W3.out, World.ownsRow_nil _ _ _ _, Chg.of_below W3.out⟩
  have hws : w.heap.size ≤ w3.heap.size := W3.out.size
  clear hb3 y0 y1 y2 y3 y4 y5
  obtain ⟨x0, x1, x2, x3, x4⟩ := Blk.five F3.out.bx
  go_wp2
  go_loopw [3, 19] (fun sv iv wr => ∃ (k : Nat) (A' : Option Addr) (c' : Nat), iv = .int .i64 k ∧ k ≤ lz ∧ sv = .int .i64 (iterR (leadHdR [K]) k a s).2 ∧ LG w wr base acc A' (iterR (leadHdR [K]) k a s).1.length c' (iterR (leadHdR [K]) k a s).1 #[.int .u8 4, .slice S m cs, .int .i64 1, .int .i64 lz, .int .i64 most'] w3.heap.size none 0 0 [] ∧ w3.heap.size ≤ wr.heap.size) (fun _ iv _ => lz - (intOf iv).toNat)
  case atStart => exact ⟨0, A, c, rfl, by omega, rfl, by simp only [iterR]; rw [← HNL.out]; exact F3.out, Nat.le_refl _⟩
  case round =>
    clear x0 x1 x2 x3 x4
    obtain ⟨k, A', c', rfl, hk, rfl, hf, hsz⟩ := hrel
    have HF := Lib.hid hf
    clear hf
    have HLk := Lib.hid (HL.out k a s (by omega) (by rw [← HNL.out]; omega))
    obtain ⟨rk, hrk⟩ : ∃ rk, iterR (leadHdR [K]) k a s = rk := ⟨_, rfl⟩
    rw [hrk] at HF HLk ⊢
    have hlen : rk.1.length ≤ 274 := by have := HLk.out.len; rw [← HNL.out] at this; omega
    have hgrow : n ≤ rk.1.length := by have := HLk.out.el.l; rw [← HNL.out] at this; exact this
    have hlt2 := HLk.out.lt
    have hge2 := HLk.out.ge
    have hed : edgesN rk.1 ≤ 65 * rk.1.length := by have := HLk.out.el.e; have h2 := HE.out; rw [← HNL.out] at this; omega
    have HRK := Lib.hid hrk
    obtain ⟨p0, p1, p2, p3⟩ := Blk.two HF.out.b0
    obtain ⟨x0, x1, x2, x3, x4⟩ := Blk.five HF.out.bx
    have hbr : base ≤ wr.heap.size := Nat.le_trans hb HF.out.ch.size
    have HKr := Lib.hid (HF.out.ch.keep HKP.out hbs hb)
    clear hrk
    by_cases hlt : k < lz
    · go_wp2_with fail
      refine (HC.out wr A' rk.1.length c' rk.1 rk.2 HKr.out hbr HF.out.au hge2 hlt2 (by omega) hed).mono ?_
      rintro e w5 ⟨A5, c5, rfl, au5, ch5⟩
      have F5 := Lib.hid (HF.out.call hb ch5 au5)
      have hsz5 : w3.heap.size ≤ w5.heap.size := Nat.le_trans hsz ch5.size
      clear p0 p1 p2 p3 x0 x1 x2 x3 x4
      obtain ⟨q0, q1, q2, q3⟩ := Blk.two (ch5.blk HF.out.b0 TA_auto)
      clear au5 ch5
      go_wp2
      go_roundw
      case rel =>
        have hst : iterR (leadHdR [K]) (k + 1) a s = leadR K rk.1 rk.2 := by rw [iterR, HRK.out, leadHdR]
        refine ⟨k + 1, A5, c5, by go_num, by omega, by rw [hst], ?_, by simpa using hsz5⟩
        rw [hst]; exact F5.out
      case measure => simp [intOf]; omega
    · have hkl : k = lz := by omega
      subst hkl
      clear p0 p1 p2 p3
      have SRC := Lib.hid (Src.one (w := wr) (x := .int .i64 rk.2) (t := TInt) rfl)
      have FA := Lib.hid (HF.out.below (w' := wr.alloc (.cells #[.int .i64 rk.2] TInt)) ((Below.refl _ _).alloc (Nat.le_refl _) _))
      have Q1 : Hid (0 + 1 ≤ maxLen) := Lib.hid (by simp only [maxLen]; omega)
      have Q2 : Hid ((0 + 1) * 8 ≤ 140737488355328) := Lib.hid (by omega)
      have Q3 : Hid (w3.heap.size ≤ (wr.alloc (.cells #[.int .i64 rk.2] TInt)).heap.size) := Lib.hid (by simp; omega)
      go_wp2_with (at_builtin
                   go_must (refine wpList_append_src _ rfl (.tmp 132) (.tmp 134) 26 rfl w3.heap.size TInt i0 (.int .i64 0) 1 8 Tryz.underlying26 hi0 hz0 hs0 hb0 rfl (by decide) none 0 0 _ rfl FA.out.ow _ 1 1 _ rfl SRC.out Q1.out Q2.out Q3.out ?_)
                   intro E8 ec8 w8 own8 gr8 _
                   have PUSH := Lib.hid (FA.out.push (Nat.le_trans hb hws) hws gr8 own8)
                   have hs8 : w3.heap.size ≤ w8.heap.size := Nat.le_trans Q3.out gr8.size
                   simp only [Nat.zero_add]
                   clear gr8 own8 x0 x1 x2 x3 x4
                   obtain ⟨x0, x1, x2, x3, x4⟩ := Blk.five PUSH.out.bx)
      clear HF FA SRC Q1 Q2 Q3 HKr hbr hsz
      go_loopw [3, 15, 20] (fun sv ev iv wr => ∃ (j : Nat) (A' : Option Addr) (c' : Nat) (EA : Option Addr) (ec : Nat), iv = .int .i64 ((k + j : Nat) : Int) ∧ j ≤ (most' - k).toNat ∧ sv = .int .i64 (iterR (leadHdR [K]) j rk.1 rk.2).2 ∧ ev = .slice EA (j + 1) ec ∧ LG w wr base acc A' (iterR (leadHdR [K]) j rk.1 rk.2).1.length c' (iterR (leadHdR [K]) j rk.1 rk.2).1 #[.int .u8 4, .slice S m cs, .int .i64 1, .int .i64 k, .int .i64 most'] w3.heap.size EA (j + 1) ec (itersR (leadHdR [K]) j rk.1 rk.2).2 ∧ w3.heap.size ≤ wr.heap.size) (fun _ _ iv _ => (most' - intOf iv).toNat)
      case atStart => exact ⟨0, A', c', E8, ec8, by simp, by omega, rfl, rfl, PUSH.out, hs8⟩
      case round =>
        clear x0 x1 x2 x3 x4
        obtain ⟨j, A6, c6, EA, ec, rfl, hj, rfl, rfl, hf6, hsz⟩ := hrel
        have HF := Lib.hid hf6
        clear hf6
        have HLj := Lib.hid (HL.out j rk.1 rk.2 hge2 hlt2)
        have HIT := Lib.hid (itersR_fst (leadHdR [K]) j rk.1 rk.2)
        obtain ⟨rj, hrj⟩ : ∃ rj, iterR (leadHdR [K]) j rk.1 rk.2 = rj := ⟨_, rfl⟩
        rw [hrj] at HF HLj HIT ⊢
        have hlenj : rj.1.length ≤ 291 := by have := HLj.out.len; omega
        have hltj := HLj.out.lt
        have hgej := HLj.out.ge
        have hgrj := HLj.out.el.l
        have hedj : edgesN rj.1 ≤ 65 * rj.1.length := by have := HLj.out.el.e; omega
        have HRJ := Lib.hid hrj
        obtain ⟨p0, p1, p2, p3⟩ := Blk.two HF.out.b0
        obtain ⟨x0, x1, x2, x3, x4⟩ := Blk.five HF.out.bx
        have hbr : base ≤ wr.heap.size := Nat.le_trans hb HF.out.ch.size
        have HKr := Lib.hid (HF.out.ch.keep HKP.out hbs hb)
        clear hrj
        by_cases hlt : ((k + j : Nat) : Int) < most'
        · go_wp2_with fail
          refine (HC.out wr A6 rj.1.length c6 rj.1 rj.2 HKr.out hbr HF.out.au hgej hltj (by omega) hedj).mono ?_
          rintro e w5 ⟨A5, c5, rfl, au5, ch5⟩
          have F5 := Lib.hid (HF.out.call hb ch5 au5)
          have hsz5 : w3.heap.size ≤ w5.heap.size := Nat.le_trans hsz ch5.size
          clear p0 p1 p2 p3 x0 x1 x2 x3 x4
          obtain ⟨q0, q1, q2, q3⟩ := Blk.two (ch5.blk HF.out.b0 TA_auto)
          clear au5 ch5
          have SRC0 := Src.one (w := (w5.setCell ⟨w.heap.size, 0, none⟩ (.slice A5 (leadR K rj.1 rj.2).1.length c5)).setCell ⟨w.heap.size, 1, none⟩ (.int .i64 acc)) (x := .int .i64 (leadR K rj.1 rj.2).2) (t := TInt) rfl
          rw [show ((w5.setCell ⟨w.heap.size, 0, none⟩ (.slice A5 (leadR K rj.1 rj.2).1.length c5)).setCell ⟨w.heap.size, 1, none⟩ (.int .i64 acc)).heap.size = w5.heap.size by simp] at SRC0
          have SRC := Lib.hid SRC0
          have FA := Lib.hid (F5.out.below (w' := ((w5.setCell ⟨w.heap.size, 0, none⟩ (.slice A5 (leadR K rj.1 rj.2).1.length c5)).setCell ⟨w.heap.size, 1, none⟩ (.int .i64 acc)).alloc (.cells #[.int .i64 (leadR K rj.1 rj.2).2] TInt)) ((Below.refl _ _).alloc (Nat.le_refl _) _))
          have Q1 : Hid (j + 1 + 1 ≤ maxLen) := Lib.hid (by simp only [maxLen]; omega)
          have Q2 : Hid ((j + 1 + 1) * 8 ≤ 140737488355328) := Lib.hid (by omega)
          have Q3 : Hid (w3.heap.size ≤ (((w5.setCell ⟨w.heap.size, 0, none⟩ (.slice A5 (leadR K rj.1 rj.2).1.length c5)).setCell ⟨w.heap.size, 1, none⟩ (.int .i64 acc)).alloc (.cells #[.int .i64 (leadR K rj.1 rj.2).2] TInt)).heap.size) := Lib.hid (by simp; omega)
          clear SRC0
          go_wp2_with (at_builtin
                       go_must (refine wpList_append_src _ rfl (.tmp 153) (.tmp 155) 26 rfl w3.heap.size TInt i0 (.int .i64 0) 1 8 Tryz.underlying26 hi0 hz0 hs0 hb0 rfl (by decide) EA ec (j + 1) _ rfl FA.out.ow _ 1 1 _ rfl SRC.out Q1.out Q2.out Q3.out ?_)
                       intro E9 ec9 w9 own9 gr9 _
                       have PUSH9 := Lib.hid (FA.out.push (Nat.le_trans hb hws) hws gr9 own9)
                       have hs9 : w3.heap.size ≤ w9.heap.size := Nat.le_trans Q3.out gr9.size
                       clear gr9 own9 q0 q1 q2 q3)
          go_roundw
          case rel =>
            have hst : iterR (leadHdR [K]) (j + 1) rk.1 rk.2 = leadR K rj.1 rj.2 := by rw [iterR, HRJ.out, leadHdR]
            have hst2 : (itersR (leadHdR [K]) (j + 1) rk.1 rk.2).2 = (itersR (leadHdR [K]) j rk.1 rk.2).2 ++ [(leadR K rj.1 rj.2).2] := by simp only [itersR]; rw [HIT.out, HRJ.out, leadHdR]
            refine ⟨j + 1, A5, c5, E9, ec9, by go_num, by omega, by rw [hst], rfl, ?_, hs9⟩
            rw [hst, hst2]; exact PUSH9.out
          case measure => simp [intOf]; omega
        · have hjM : j = (most' - k).toNat := by omega
          have HSX : Hid (itersR (leadHdR [K]) (most' - k).toNat (iterR (leadHdR [K]) k a s).1 (iterR (leadHdR [K]) k a s).2 = (rj.1, (itersR (leadHdR [K]) j rk.1 rk.2).2)) := Lib.hid (by rw [HRK.out, ← hjM, ← HIT.out])
          have HA2 := Lib.hid HA.out
          rw [HSX.out] at HA2
          obtain ⟨ra, sj⟩ := rj
          simp only at hlenj hltj hgej hgrj hedj
          generalize hrl0 : (itersR (leadHdR [K]) j rk.1 rk.2).2 = rl at *
          have hra : base ≤ wr.heap.size := hbr
          have HST := Lib.hid (ref09_state A6 ra.length c6 base acc ra wr HF.out.au hra (by omega))
          have hrl : rl.length ≤ 64 := by have h1 := HA2.out.few; (try simp only at h1); omega
          have HLT := Lib.hid HA2.out.lt
          have HOW := HF.out.ow.1
          simp only [List.length_map, Nat.mul_one] at HOW
          have HGR2 : n ≤ ra.length := by omega
          clear HIT hrl0 HRJ
          go_wp2_with fail
          refine HST.out.mono ?_
          rintro e w5 ⟨A5, c5, rfl, au5, ch5⟩
          have F5 := Lib.hid (HF.out.call hb ch5 au5)
          have HKP5 := Lib.hid (Keep.refl w0)
          obtain ⟨q0, q1, q2, q3⟩ := Blk.two (ch5.blk HF.out.b0 TA_auto)
          have HM5 : Hid ((ra ++ [[]] : Au).length = ra.length + 1) := Lib.hid (by simp)
          clear au5 ch5 p0 p1 p2 p3 x0 x1 x2 x3 x4
          go_wp2
          go_loopw [22] (fun iv wr => ∃ kk : Nat, iv = .int .i64 kk ∧ kk ≤ j + 1 ∧ LG w wr base acc A5 (ra.length + 1) c5 (freesR ra.length (ra ++ [[]]) (rl.take kk)).1 #[.int .u8 4, .slice S m cs, .int .i64 1, .int .i64 k, .int .i64 most'] w3.heap.size EA (j + 1) ec rl ∧ (∀ e, e ∈ rl.take kk → 0 ≤ e)) (fun iv _ => (j + 1) - (intOf iv).toNat)
          case atStart => exact ⟨0, rfl, by omega, by simpa [freesR] using F5.out, by simp⟩
          case round =>
            clear q0 q1 q2 q3
            obtain ⟨kk, rfl, hkk, hf, hpos⟩ := hrel
            have HF6 := Lib.hid hf
            have HPOS := Lib.hid hpos
            clear hf hpos
            have FO := Lib.hid (frees_ok ra.length (rl.take kk) (ra ++ [[]]) (fun e he => by have h1 := HLT.out e (List.mem_of_mem_take he); (try simp only at h1); rw [HM5.out]; omega))
            obtain ⟨p0, p1, p2, p3⟩ := Blk.two HF6.out.b0
            obtain ⟨x0, x1, x2, x3, x4⟩ := Blk.five HF6.out.bx
            by_cases hlt2' : kk < j + 1
            · have hg : rl[kk]? = some (rl[kk]'(by omega)) := List.getElem?_eq_getElem _
              generalize rl[kk]'(by omega) = ee at hg
              have HG := Lib.hid hg
              have hlee := HLT.out ee (mem_of_get hg)
              (try simp only at hlee)
              obtain ⟨g2, rfl, hgl2, hgc2⟩ := own_get (k := kk) (u := .int .i64 ee) HF6.out.ow (by rw [List.getElem?_map, hg]; rfl)
              clear hg
              by_cases hneg : ee < 0
              · have HR := Lib.hid (show shutR ⟨4, l', 1, (k : Nat), most'⟩ (leadHdR [K]) (ra, rl) = ((freesR ra.length (ra ++ [[]]) (rl.take kk)).1, -1) by
                  have h1 := frees_neg (m := ra.length) (a := ra ++ [[]]) HG.out HPOS.out hneg
                  rw [shut_neg (by rw [h1]; simp), h1])
                have S2 := Lib.hid (store2 (.slice A5 (ra.length + 1) c5) (.int .i64 acc) HF6.out.b1 HF6.out.au HF6.out.ch TA_auto (by decide) hb (Nat.le_succ _))
                obtain ⟨v0, v1, v2, v3⟩ := Blk.two HF6.out.b1
                obtain ⟨z0, z1, _, _⟩ := Blk.two S2.out.1
                have HL6 := Lib.hid HF6.out.au.len
                go_wp2
                refine bodyPost_ret (v := .tuple #[.agg #[.slice A5 (ra.length + 1) c5, .int .i64 acc], .int .i64 (-1)]) (by simp [results, Tryz.results58, go_sem, z0, z1]) rfl (by rw [← HRT.out, HSX.out, HR.out]; exact ⟨A5, c5, by simp only; rw [← HL6.out], by simp only; rw [← HL6.out]; exact S2.out.2.1, S2.out.2.2⟩)
              · obtain ⟨e', rfl⟩ := Int.eq_ofNat_of_zero_le (show 0 ≤ ee by omega)
                have HFR := Lib.hid (fun (W : World) (hbW : base ≤ W.heap.size) (au : AuAt W base A5 (ra.length + 1) c5 (freesR ra.length (ra ++ [[]]) (rl.take kk)).1) => ref09_free A5 (ra.length + 1) c5 base e' ra.length acc _ W au hbW (by omega) (by omega) (by
                  have h1 := FO.out.2.2.2; rw [edgesN_state] at h1; have : (rl.take kk).length ≤ 64 := by rw [List.length_take]; omega
                  omega))
                have HSTEP := Lib.hid (frees_step (m := ra.length) (a := ra ++ [[]]) HG.out HPOS.out (by omega))
                have hb6 : base ≤ wr.heap.size := Nat.le_trans hb HF6.out.ch.size
                have K1 : Hid (wr.drew.cell? ⟨w.heap.size, 0, none⟩ = some (.slice A5 (ra.length + 1) c5) ∧ wr.drew.cell? ⟨w.heap.size, 1, none⟩ = some (.int .i64 acc) ∧ wr.drew.cell? ⟨g2, kk, none⟩ = some (.int .i64 e')) := Lib.hid ⟨p0, p1, hgc2⟩
                go_wp2
                refine wp_region_T 6 (fun W => W.cell? ⟨w.heap.size, 0, none⟩ = some (.slice A5 (ra.length + 1) c5) ∧ W.cell? ⟨w.heap.size, 1, none⟩ = some (.int .i64 acc) ∧ W.cell? ⟨g2, kk, none⟩ = some (.int .i64 e')) (by kernel_rfl) ?_
                refine wpAnyT_take (i := 0) (v := ?_) rfl (by kernel_rfl) (by kernel_rfl) (by kernel_rfl) (by kernel_rfl) (by kernel_rfl) (fun _ _ _ h => h) (.inl ⟨rfl, ?_⟩) K1.out ?_
                rotate_left
                · intro W__ hW__
                  obtain ⟨h1, h2, h3⟩ := hW__
                  go_simp
                  (try with_reducible rfl)
                simp only [Act.put, List.setIfInBounds_toArray, List.set_cons_zero, List.set_cons_succ]
                refine wpAnyT_takeW (i := 1) (v := ?_) rfl (by decide) (by kernel_rfl) (by kernel_rfl) (by kernel_rfl) (fun _ _ _ h => h) (.inl ⟨rfl, ?_⟩) (fun _ => K1.out) ?_
                rotate_left
                · intro W__ _
                  go_simp
                  (try with_reducible rfl)
                simp only [Act.put, List.setIfInBounds_toArray, List.set_cons_zero, List.set_cons_succ]
                refine wpAnyT_takeW (i := 2) (v := ?_) rfl (by decide) (by kernel_rfl) (by kernel_rfl) (by kernel_rfl) (fun _ _ _ h => h) (.inl ⟨rfl, ?_⟩) (fun _ => K1.out) ?_
                rotate_left
                · intro W__ _
                  go_simp
                  (try with_reducible rfl)
                simp only [Act.put, List.setIfInBounds_toArray, List.set_cons_zero, List.set_cons_succ]
                refine wpAnyT_takeW (i := 3) (v := ?_) rfl (by decide) (by kernel_rfl) (by kernel_rfl) (by kernel_rfl) (fun _ _ _ h => h) (.inl ⟨rfl, ?_⟩) (fun _ => K1.out) ?_
                rotate_left
                · intro W__ _
                  go_simp
                  (try with_reducible rfl)
                simp only [Act.put, List.setIfInBounds_toArray, List.set_cons_zero, List.set_cons_succ]
                refine wpAnyT_take (i := 4) (v := ?_) rfl (by kernel_rfl) (by kernel_rfl) (by kernel_rfl) (by kernel_rfl) (by kernel_rfl) (fun _ _ _ h => h) (.inl ⟨rfl, ?_⟩) K1.out ?_
                rotate_left
                · intro W__ hW__
                  obtain ⟨h1, h2, h3⟩ := hW__
                  go_simp
                  (try with_reducible rfl)
                simp only [Act.put, List.setIfInBounds_toArray, List.set_cons_zero, List.set_cons_succ]
                refine wpAnyT_takeW (i := 5) (v := ?_) rfl (by decide) (by kernel_rfl) (by kernel_rfl) (by kernel_rfl) (fun _ _ _ h => h) (.inl ⟨rfl, ?_⟩) (fun _ => K1.out) ?_
                rotate_left
                · intro W__ _
                  go_simp
                  (try with_reducible rfl)
                simp only [Act.put, List.setIfInBounds_toArray, List.set_cons_zero, List.set_cons_succ]
                refine wpAnyT_end (i := 6) rfl (by kernel_rfl) rfl (by kernel_rfl) fun K__ hK__ => ?_
                unfold Oper.wp
                go_simp
                refine (HFR.out wr.drew hb6 (HF6.out.au.next (Below.refl _ _).drew)).mono ?_
                rintro e w7 ⟨⟨v, rfl⟩, au7, ch7⟩
                have F7 := Lib.hid ((HF6.out.below (Below.refl wr.heap.size wr).drew).same ch7 au7)
                refine hK__ _ _ ?_
                clear hK__ au7 ch7 K1 p0 p1 p2 p3 hgc2
                refine wpAnyT_done (by kernel_rfl) ?_ _
                go_wp2
                go_roundw
                case rel =>
                  refine ⟨kk + 1, by go_num, by omega, ?_, fun e he => ?_⟩
                  · rw [HSTEP.out]; exact F7.out
                  · rw [take_snoc HG.out] at he
                    rcases List.mem_append.1 he with he | he
                    · exact HPOS.out e he
                    · simp at he; omega
                case measure => simp [intOf]; omega
            · have hke : kk = j + 1 := by omega
              subst hke
              have htl : rl.take (j + 1) = rl := List.take_of_length_le (by omega)
              rw [htl] at HF6
              have HPA := Lib.hid HPOS.out
              rw [htl] at HPA
              rw [htl] at FO
              clear htl
              have S2 := Lib.hid (store2 (.slice A5 (ra.length + 1) c5) (.int .i64 acc) HF6.out.b1 HF6.out.au HF6.out.ch TA_auto (by decide) hb (Nat.le_succ _))
              obtain ⟨v0, v1, v2, v3⟩ := Blk.two HF6.out.b1
              have HL6 := Lib.hid HF6.out.au.len
              by_cases hmn : most' < 0
              case neg =>
                have HR := Lib.hid (show shutR ⟨4, l', 1, (k : Nat), most'⟩ (leadHdR [K]) (ra, rl) = ((freesR ra.length (ra ++ [[]]) rl).1, (ra.length : Int)) from shut_plain HPA.out (by simp only; omega))
                obtain ⟨z0, z1, _, _⟩ := Blk.two S2.out.1
                go_wp2
                refine bodyPost_ret (v := .tuple #[.agg #[.slice A5 (ra.length + 1) c5, .int .i64 acc], .int .i64 ra.length]) (by simp [results, Tryz.results58, go_sem, z0, z1]) rfl (by rw [← HRT.out, HSX.out, HR.out]; exact ⟨A5, c5, by simp only; rw [← HL6.out], by simp only; rw [← HL6.out]; exact S2.out.2.1, S2.out.2.2⟩)
              obtain ⟨af, haf⟩ : ∃ af, (freesR ra.length (ra ++ [[]]) rl).1 = af := ⟨_, rfl⟩
              have HAF := Lib.hid haf
              rw [haf] at HF6 HL6 FO
              have hafl : af.length = ra.length + 1 := HL6.out.symm
              have hafe : edgesN af ≤ 65 * (ra.length + 1) := by have h1 := FO.out.2.2.2; rw [edgesN_state] at h1; omega
              have HZ := Lib.hid (HL.out 1 af ra.length (by omega) (by omega))
              rw [show iterR (leadHdR [K]) 1 af ra.length = leadR K af ra.length by simp [iterR, leadHdR]] at HZ
              obtain ⟨r9, hr9⟩ : ∃ r9, leadR K af ra.length = r9 := ⟨_, rfl⟩
              have HR9 := Lib.hid hr9
              rw [hr9] at HZ
              have hb6 : base ≤ wr.heap.size := Nat.le_trans hb HF6.out.ch.size
              have HC9 := Lib.hid (HC.out wr A5 (ra.length + 1) c5 af ra.length (HF6.out.ch.keep HKP.out hbs hb) hb6 HF6.out.au (by omega) (by omega) (by omega) hafe)
              rw [hr9] at HC9
              have hz1 := HZ.out.lt; have hz2 := HZ.out.ge
              have hz3 : r9.1.length ≤ 320 := by have := HZ.out.len; omega
              have hz4 : edgesN r9.1 ≤ 30000 := by have := HZ.out.el.e; omega
              clear haf hr9 S2 v0 v1 v2 v3
              go_wp2_with fail
              refine HC9.out.mono ?_
              rintro e w9 ⟨A9, c9, rfl, au9, ch9⟩
              have hbb : Below w9.heap.size w9 (w9.alloc (.cells #[.slice A9 r9.1.length c9, .int .i64 acc] TAuto)) := (Below.refl _ _).alloc (Nat.le_refl _) _
              have AU9 := Lib.hid (au9.next hbb)
              have B19 := Lib.hid ((ch9.blk HF6.out.b1 TA_auto).alloc (.cells #[.slice A9 r9.1.length c9, .int .i64 acc] TAuto))
              have CH9 := Lib.hid ((HF6.out.ch.trans ch9).then hbb)
              have BB9 := Lib.hid (Blk.new w9 TAuto #[.slice A9 r9.1.length c9, .int .i64 acc])
              have B190 := Lib.hid (ch9.blk HF6.out.b1 TA_auto)
              have S20 := Lib.hid (store2 (.slice A9 r9.1.length c9) (.int .i64 (acc)) B190.out au9 (HF6.out.ch.trans ch9) TA_auto (by decide) hb (Nat.le_succ _))
              have hb9 : base ≤ w9.heap.size := Nat.le_trans hb6 ch9.size
              have hN1 : w.heap.size + 1 < w9.heap.size := Nat.lt_of_lt_of_le HF6.out.b1.lt ch9.size
              clear p0 p1 p2 p3 x0 x1 x2 x3 x4 au9 ch9 hbb
              by_cases hneg9 : r9.2 < 0
              · have h91 : r9.2 = -1 := (HZ.out.no hneg9).1
                have HR := Lib.hid (show shutR ⟨4, l', 1, (k : Nat), most'⟩ (leadHdR [K]) (ra, rl) = (r9.1, -1) by
                  rw [shut_star_neg HPA.out ⟨rfl, hmn⟩ (by rw [HAF.out, leadHdR, HR9.out]; exact hneg9), HAF.out, leadHdR, HR9.out])
                have hbz : Below ((w9.setCell ⟨w.heap.size + 1, 0, none⟩ (.slice A9 r9.1.length c9)).setCell ⟨w.heap.size + 1, 1, none⟩ (.int .i64 acc)).heap.size ((w9.setCell ⟨w.heap.size + 1, 0, none⟩ (.slice A9 r9.1.length c9)).setCell ⟨w.heap.size + 1, 1, none⟩ (.int .i64 acc)) (((w9.setCell ⟨w.heap.size + 1, 0, none⟩ (.slice A9 r9.1.length c9)).setCell ⟨w.heap.size + 1, 1, none⟩ (.int .i64 acc)).alloc (.cells #[.slice A9 r9.1.length c9, .int .i64 acc] TAuto)) := (Below.refl _ _).alloc (Nat.le_refl _) _
                have S2 := Lib.hid (And.intro (S20.out.2.1.next hbz) (S20.out.2.2.then hbz))
                obtain ⟨v0, v1, v2, v3⟩ := Blk.two B190.out
                obtain ⟨z0, z1, _, _⟩ := Blk.two (S20.out.1.alloc (.cells #[.slice A9 r9.1.length c9, .int .i64 acc] TAuto))
                clear hbz
                clear h91
                go_wp2
                refine bodyPost_ret (v := .tuple #[.agg #[.slice A9 r9.1.length c9, .int .i64 acc], .int .i64 (-1)]) (by simp [results, Tryz.results58, go_sem, z0, z1]) rfl (by rw [← HRT.out, HSX.out, HR.out]; exact ⟨A9, c9, rfl, S2.out.1, S2.out.2⟩)
              · obtain ⟨r91, r92⟩ := r9
                simp only at hz1 hz2 hz3 hz4 hneg9
                obtain ⟨z9, rfl⟩ := Int.eq_ofNat_of_zero_le (show 0 ≤ r92 by omega)
                have HR := Lib.hid (show shutR ⟨4, l', 1, (k : Nat), most'⟩ (leadHdR [K]) (ra, rl) = (auEdge r91 z9 ⟨ra.length, true, []⟩, (ra.length : Int)) by
                  rw [shut_star HPA.out ⟨rfl, hmn⟩ (by rw [HAF.out, leadHdR, HR9.out]; exact hneg9), HAF.out, leadHdR, HR9.out]; simp)
                have HFR := Lib.hid (ref09_free A9 r91.length c9 base z9 ra.length acc r91 _ AU9.out (Nat.le_trans hb9 (by simp)) (by omega) (by omega) (by omega))
                go_wp2_with fail
                refine HFR.out.mono ?_
                rintro e w10 ⟨⟨v, rfl⟩, au10, ch10⟩
                have S2 := Lib.hid (store2 (.slice A9 r91.length c9) (.int .i64 acc) (ch10.blk B19.out TA_auto) au10 (CH9.out.trans ch10) TA_auto (by decide) hb (Nat.le_succ _))
                obtain ⟨v0, v1, v2, v3⟩ := Blk.two (ch10.blk B19.out TA_auto)
                obtain ⟨u0, u1, _, _⟩ := Blk.two (ch10.blk BB9.out TA_auto)
                obtain ⟨z0, z1, _, _⟩ := Blk.two S2.out.1
                clear au10 ch10
                go_wp2
                refine bodyPost_ret (v := .tuple #[.agg #[.slice A9 r91.length c9, .int .i64 acc], .int .i64 ra.length]) (by simp [results, Tryz.results58, go_sem, z0, z1]) rfl (by rw [← HRT.out, HSX.out, HR.out]; exact ⟨A9, c9, by simp only [auEdge_length], by simp only [auEdge_length]; exact S2.out.2.1, S2.out.2.2⟩)

end Go.Proofs.YtjnjbcigbnjmkaaGreat
