/- Walks: the program's leading: what is repeated. -/
import Derived.Test.YtjnjbcigbnjmkaaBl
namespace Go.Proofs.Ytjnjbcigbnjmkaa
open Go.RowKit Pv

set_option maxHeartbeats 4000000 in
set_option maxRecDepth 100000 in
theorem maker_repeat (w0 W : World) (base pm e0 : Nat) (acc : Int) (tA EA : Option Addr) (nt ct ec : Nat) (t : List Rx) (A : Option Addr) (n c : Nat) (a : Au) (s i k : Nat) (most : Int) (l : List Rng) (B : Option Addr) (mm cs : Nat) (K : Tr)
    (hbs : w0.heap.size ≤ base) (h : MkE w0 W base pm e0 acc tA EA nt ct ec t A n c a) (hs : s < n) (hk : k ≤ 16) (hm : most = -1 ∨ ((k : Int) ≤ most ∧ most ≤ 16))
    (hn : n + (statesT K * timesOf ⟨4, l, 1, k, most⟩ + 1) ≤ 256) (hi : i + 1 ≤ 64) (HI : Hid (∀ q a' s', s' < a'.length → a'.length + statesT K * q ≤ 256 → (iter (leadT K) q a' s').1.length = a'.length + statesT K * q ∧ (iter (leadT K) q a' s').2 < (iter (leadT K) q a' s').1.length ∧ EL a' (iter (leadT K) q a' s').1))
    (HIH : Hid (PLead w0 base pm e0 acc tA EA nt ct ec t K (i + 1))) (he : edgesN a ≤ 65 * n) :
    Calls Try.prog 110 #[.pointer (some ⟨pm, 0, none⟩), .int .i64 i, .int .i64 s, .agg #[.int .u8 4, .slice B mm cs, .int .i64 1, .int .i64 k, .int .i64 most]] W (MkLead w0 W base pm e0 acc tA EA nt ct ec t (leadT (.mk ⟨4, l, 1, k, most⟩ [K]) a s)) := by
  obtain ⟨i0, hi0, hz0, hs0, hb0⟩ := info_parts info_int
  have F0 := Lib.hid (PL.start h #[.int .u8 4, .slice B mm cs, .int .i64 1, .int .i64 k, .int .i64 most])
  have FAR := Lib.hid (fun g hg => (h.oe.lt g hg).2)
  have HNL := Lib.hid h.len
  have HGE := Lib.hid h.ge
  have hleft : n + statesT K * k ≤ 256 := by
    have h1 : statesT K * k ≤ statesT K * timesOf ⟨4, l, 1, k, most⟩ := Nat.mul_le_mul_left _ (by unfold timesOf; simp only [Int.toNat_natCast]; split <;> omega)
    omega
  have HLEFT := Lib.hid (fun q (hq : q ≤ k) => (show n + statesT K * q ≤ 256 by have := Nat.mul_le_mul_left (statesT K) hq; omega))
  have HE := Lib.hid he
  have hF : leadHd [K] = leadT K := by funext a s; rw [leadHd]
  have HRS := Lib.hid (fun (h : most < 0) => (show leadT (.mk ⟨4, l, 1, k, most⟩ [K]) a s = starOf (leadT K) (iter (leadT K) k a s) by rw [leadT, if_neg (by simp), if_neg (by simp), if_neg (by simp), if_neg (by simp), if_pos h, hF]; simp))
  have HRJ := Lib.hid (fun (h : ¬ most < 0) => (show leadT (.mk ⟨4, l, 1, k, most⟩ [K]) a s = joinOf (iters (leadT K) (most - k).toNat (iter (leadT K) k a s).1 (iter (leadT K) k a s).2) by rw [leadT, if_neg (by simp), if_neg (by simp), if_neg (by simp), if_neg (by simp), if_neg h, hF]; simp))
  obtain ⟨x0, x1, x2, x3, x4⟩ := Blk.five F0.out.bx
  clear h he hF
  go_enter Try.func110, Try.ntmps110
  go_wp2
  go_loopw [2, 12] (fun sv kv wr => ∃ (q : Nat) (A' : Option Addr) (c' : Nat), q ≤ k ∧ kv = .int .i64 q ∧ sv = .int .i64 (iter (leadT K) q a s).2 ∧ PL w0 W wr base pm e0 acc tA EA nt ct ec t A' (iter (leadT K) q a s).1.length c' (iter (leadT K) q a s).1 #[.int .u8 4, .slice B mm cs, .int .i64 1, .int .i64 k, .int .i64 most] none 0 0 []) (fun _ kv _ => k - (intOf kv).toNat)
  case atStart => exact ⟨0, A, c, by omega, rfl, rfl, by simp only [iter]; rw [← HNL.out]; exact F0.out⟩
  case round =>
    clear x0 x1 x2 x3 x4
    obtain ⟨q, A', c', hq, rfl, rfl, hpl⟩ := hrel
    have PP := Lib.hid hpl
    clear hpl
    obtain ⟨x0, x1, x2, x3, x4⟩ := Blk.five PP.out.bx
    obtain ⟨g1, g2, g3⟩ := HI.out q a s (by rw [← HNL.out]; exact hs) (by rw [← HNL.out]; exact HLEFT.out q hq)
    by_cases hlt : q < k
    · have hq1 := HLEFT.out (q + 1) (by omega)
      rw [Nat.mul_add] at hq1
      have HC := Lib.hid (HIH.out wr A' _ c' _ (iter (leadT K) q a s).2 PP.out.me g2 (by rw [g1, ← HNL.out]; omega) (g3.few HNL.out HE.out))
      have HS := Lib.hid (iter_snoc (leadT K) q a s)
      clear g1 g2 g3
      go_wp2_with fail
      refine HC.out.mono ?_
      rintro e w1 ⟨A1, c1, rfl, mk1, ch1⟩
      have P1 := Lib.hid (PP.out.call mk1 ch1)
      clear mk1 ch1
      go_wp2
      go_roundw
      case rel => exact ⟨q + 1, A1, c1, by omega, by go_num, by rw [HS.out], by rw [HS.out]; exact P1.out⟩
      case measure => simp [intOf]; omega
    have hqk : q = k := by omega
    subst hqk
    obtain ⟨r1, hr1⟩ : ∃ r1, iter (leadT K) q a s = r1 := ⟨_, rfl⟩
    rw [hr1] at PP HRS HRJ g1 g2 g3
    rw [hr1]
    have G1 := Lib.hid g1; have G3 := Lib.hid (g3.few HNL.out HE.out)
    have hb1 : base ≤ wr.heap.size := PP.out.me.ge
    have hsz : W.heap.size + 1 ≤ wr.heap.size := PP.out.bx.lt
    rw [← HNL.out] at g1
    have hl1 : r1.1.length ≤ 256 := by omega
    have GL := Lib.hid g1
    clear hr1 HLEFT g3 g1
    by_cases hms : most < 0
    · have hn2 : r1.1.length + 1 + statesT K ≤ 256 := by
        have : timesOf ⟨4, l, 1, q, most⟩ = q + 1 := by unfold timesOf; simp [hms]
        rw [this, Nat.mul_add] at hn; have := GL.out; omega
      have hWa : Below wr.heap.size wr (wr.alloc (.cells #[.int .i64 r1.2] TInt)) := (Below.refl _ _).alloc (Nat.le_refl _) _
      have PA := Lib.hid (PP.out.below hWa)
      have HJ := Lib.hid (maker_join A' r1.1.length c' base pm acc _ _ r1.1 (some ⟨wr.heap.size, 0, none⟩) 1 1 base [r1.2] _ PA.out.me.ma PA.out.me.ge (by omega) (by have := G3.out; omega) (own_one wr base (.int .i64 r1.2) hb1) (by simpa using g2) (by simp))
      have HRS2 := Lib.hid (HRS.out hms)
      clear hWa HRJ HRS
      go_wp2_with fail
      refine HJ.out.mono ?_
      rintro e w2 ⟨A2, c2, rfl, mk2, ch2⟩
      have P2 := Lib.hid (PA.out.call (PA.out.me.step hbs mk2 ch2) ch2)
      have HED := Lib.hid (show edgesN (auJoin r1.1 [r1.2]) ≤ 65 * (r1.1.length + 1) by
        unfold auJoin
        rw [frees_edges _ _ _ (by intro e he; simp at he ⊢; omega), edgesN_state]
        have := G3.out; simp; omega)
      have HC := Lib.hid (HIH.out w2 A2 _ c2 _ r1.1.length P2.out.me (by omega) (by omega) HED.out)
      have HLT := Lib.hid (leadT_leads K (auJoin r1.1 [r1.2]) r1.1.length (by rw [auJoin_length]; omega))
      clear mk2 ch2 x0 x1 x2 x3 x4
      go_wp2_with fail
      refine HC.out.mono ?_
      rintro e w3 ⟨A3, c3, rfl, mk3, ch3⟩
      have P3 := Lib.hid (P2.out.call mk3 ch3)
      have HEL := Lib.hid (HI.out 1 (auJoin r1.1 [r1.2]) r1.1.length (by rw [auJoin_length]; omega) (by rw [auJoin_length]; omega)).2.2
      rw [show (iter (leadT K) 1 (auJoin r1.1 [r1.2]) r1.1.length).1 = (leadT K (auJoin r1.1 [r1.2]) r1.1.length).1 from rfl] at HEL
      have HR := Lib.hid HRS2.out
      rw [starOf] at HR
      obtain ⟨r3, hr3⟩ : ∃ r3, leadT K (auJoin r1.1 [r1.2]) r1.1.length = r3 := ⟨_, rfl⟩
      rw [hr3] at HR P3 HEL HLT
      rw [hr3]
      have h3l : r3.1.length ≤ 256 := by have := HLT.out.1; rw [auJoin_length] at this; omega
      have h3s : r3.2 < r3.1.length := HLT.out.2
      have h3e : edgesN r3.1 ≤ 1000000 := by have h1 := HEL.out.e; have h2 := HED.out; have h4 : (auJoin r1.1 [r1.2]).length = r1.1.length + 1 := auJoin_length _ _; omega
      have HE3 := Lib.hid (maker_edge A3 r3.1.length c3 base pm r3.2 acc _ _ r3.1 ⟨(r1.1.length : Nat), true, []⟩ none 0 0 w3 P3.out.me.ma P3.out.me.ge h3s (by simp only; omega) h3e (SetQ.nil _ _))
      clear mk3 ch3 hr3
      go_wp2_with fail
      refine HE3.out.mono ?_
      rintro e w4 ⟨rfl, mk4, ch4⟩
      have P4 := Lib.hid (P3.out.call (P3.out.me.step hbs mk4 ch4) ch4)
      clear mk4 ch4
      go_wp2
      go_ret
      rw [HR.out]
      exact ⟨A3, c3, rfl, by simp only [auEdge_length]; exact P4.out.me, P4.out.ch⟩
    · obtain ⟨p, hp⟩ := Int.eq_ofNat_of_zero_le (show 0 ≤ most - (q : Int) by omega)
      have hp16 : p ≤ 16 := by omega
      have hmo : 0 ≤ most ∧ most ≤ 16 := by omega
      have HP := Lib.hid hp
      have hsum : r1.1.length + statesT K * p + 1 ≤ 256 := by
        have : timesOf ⟨4, l, 1, q, most⟩ = q + p := by unfold timesOf; simp [hms, hp]
        rw [this, Nat.mul_add] at hn; have := GL.out; omega
      have HLEFT := Lib.hid (fun j (hj : j ≤ p) => (show r1.1.length + statesT K * j + 1 ≤ 256 by have := Nat.mul_le_mul_left (statesT K) hj; omega))
      have HRJ2 := Lib.hid (HRJ.out (by omega))
      rw [hp] at HRJ2
      have HIS := Lib.hid ((leadT_leads K).iters p r1.1 r1.2 g2)
      have HG1 := Lib.hid (fun j (hj : j ≤ p) => HI.out j r1.1 r1.2 g2 (by have := HLEFT.out j hj; omega))
      have hWa : Below wr.heap.size wr (wr.alloc (.cells #[.int .i64 r1.2] TInt)) := (Below.refl _ _).alloc (Nat.le_refl _) _
      have PA := Lib.hid (PP.out.below hWa)
      have P0 : Hid (PL w0 W (wr.alloc (.cells #[.int .i64 r1.2] TInt)) base pm e0 acc tA EA nt ct ec t A' r1.1.length c' r1.1 #[.int .u8 4, .slice B mm cs, .int .i64 1, .int .i64 q, .int .i64 most] (some ⟨wr.heap.size, 0, none⟩) 1 1 [r1.2]) := Lib.hid ⟨PA.out.me, PA.out.ch, PA.out.bx, own_one wr (W.heap.size + 1) (.int .i64 r1.2) hsz⟩
      obtain ⟨x0', x1', x2', x3', x4'⟩ := Blk.five P0.out.bx
      clear hWa HRS HRJ hn hp hsum hm
      go_wp2
      go_loopw [2, 9, 43] (fun sv lv jv wr => ∃ (j : Nat) (A' : Option Addr) (c' : Nat) (LA : Option Addr) (lc : Nat), j ≤ p ∧ jv = .int .i64 j ∧ sv = .int .i64 (iter (leadT K) j r1.1 r1.2).2 ∧ lv = .slice LA (j + 1) lc ∧ PL w0 W wr base pm e0 acc tA EA nt ct ec t A' (iter (leadT K) j r1.1 r1.2).1.length c' (iter (leadT K) j r1.1 r1.2).1 #[.int .u8 4, .slice B mm cs, .int .i64 1, .int .i64 q, .int .i64 most] LA (j + 1) lc (iters (leadT K) j r1.1 r1.2).2) (fun _ _ jv _ => p - (intOf jv).toNat)
      case atStart => exact ⟨0, A', c', some ⟨wr.heap.size, 0, none⟩, 1, by omega, rfl, rfl, rfl, P0.out⟩
      case round =>
        clear x0' x1' x2' x3' x4' x0 x1 x2 x3 x4
        obtain ⟨j, A5, c5, LA, lc, hj, rfl, rfl, rfl, hpl⟩ := hrel
        have P5 := Lib.hid hpl
        clear hpl
        have GJ := Lib.hid (HG1.out j hj)
        obtain ⟨rj, hrj⟩ : ∃ rj, iter (leadT K) j r1.1 r1.2 = rj := ⟨_, rfl⟩
        obtain ⟨lj, hlj⟩ : ∃ lj, (iters (leadT K) j r1.1 r1.2).2 = lj := ⟨_, rfl⟩
        have hel : edgesN rj.1 ≤ 65 * rj.1.length := by have h1 := GJ.out.2.2; rw [hrj] at h1; exact h1.few rfl G3.out
        by_cases hlt : j < p
        · have hd : (j : Int) < most - (q : Int) := by have := HP.out; omega
          have HS1 := Lib.hid (iter_snoc (leadT K) j r1.1 r1.2)
          have HS2 := Lib.hid (congrArg Prod.snd (iters_snoc (leadT K) j r1.1 r1.2))
          simp only at HS2
          rw [hrj] at P5 GJ HS1 HS2
          rw [hlj] at P5 HS2
          rw [hrj]
          have hq1 := HLEFT.out (j + 1) (by omega)
          rw [Nat.mul_add] at hq1
          have HC := Lib.hid (HIH.out wr A5 rj.1.length c5 rj.1 rj.2 P5.out.me GJ.out.2.1 (by have := GJ.out.1; omega) hel)
          clear hrj hlj hq1
          go_wp2_with fail
          refine HC.out.mono ?_
          rintro e w1 ⟨A1, c1, rfl, mk1, ch1⟩
          have P1 := Lib.hid (P5.out.call mk1 ch1)
          obtain ⟨rk, hrk⟩ : ∃ rk, leadT K rj.1 rj.2 = rk := ⟨_, rfl⟩
          rw [hrk] at P1 HS1 HS2
          rw [hrk]
          have hal : Below w1.heap.size w1 (w1.alloc (.cells #[.int .i64 rk.2] TInt)) := (Below.refl _ _).alloc (Nat.le_refl _) _
          have PB := Lib.hid (P1.out.below hal)
          have SRC := Lib.hid (Src.one (w := w1) (x := .int .i64 rk.2) (t := TInt) rfl)
          have Q1 : Hid (j + 1 + 1 ≤ maxLen) := Lib.hid (by simp only [maxLen]; omega)
          have Q2 : Hid ((j + 1 + 1) * 8 ≤ 140737488355328) := Lib.hid (by omega)
          have Q3 : Hid (W.heap.size + 1 ≤ (w1.alloc (.cells #[.int .i64 rk.2] TInt)).heap.size) := Lib.hid (by have := P1.out.bx.lt; simp; omega)
          clear mk1 ch1 hal hrk
          go_wp2_with (at_builtin
                       go_must (refine wpList_append_src _ rfl (.tmp 50) (.tmp 52) 22 rfl (W.heap.size + 1) TInt i0 (.int .i64 0) 1 8 Try.underlying22 hi0 hz0 hs0 hb0 rfl (by decide) LA lc (j + 1) _ rfl PB.out.ow _ 1 1 _ rfl SRC.out Q1.out Q2.out Q3.out ?_)
                       intro A8 lc8 w8 own8 gr8 _
                       have P8 := Lib.hid (PB.out.push HGE.out hbs FAR.out gr8 own8)
                       clear gr8 own8)
          go_roundw
          case rel => exact ⟨j + 1, A1, c1, A8, lc8, by omega, by go_num, by rw [HS1.out], rfl, by rw [HS1.out, HS2.out]; exact P8.out⟩
          case measure => simp [intOf]; omega
        · have hjp : j = p := by omega
          subst hjp
          have hd : ¬ (j : Int) < most - (q : Int) := by have := HP.out; omega
          have HFS := Lib.hid (iters_fst (leadT K) j r1.1 r1.2)
          rw [hrj] at P5 GJ HFS
          rw [hlj] at P5
          rw [Int.toNat_natCast, joinOf, hlj] at HRJ2
          rw [HFS.out] at HRJ2
          rw [hlj, HFS.out] at HIS
          rw [hrj]
          have hjlen : rj.1.length ≤ 255 := by have h1 := GJ.out.1; have h2 := HLEFT.out j (Nat.le_refl _); omega
          have HLJ := Lib.hid (show lj.length = j + 1 by rw [← hlj, iters_len])
          have HJ := Lib.hid (maker_join A5 rj.1.length c5 base pm acc _ _ rj.1 LA (j + 1) lc (W.heap.size + 1) lj wr P5.out.me.ma P5.out.me.ge (by omega) (by omega) P5.out.ow HIS.out.2 (by have := HLJ.out; omega))
          clear hrj hlj
          go_wp2_with fail
          refine HJ.out.mono ?_
          rintro e w2 ⟨A2, c2, rfl, mk2, ch2⟩
          have P2 := Lib.hid (P5.out.call (P5.out.me.step hbs mk2 ch2) ch2)
          clear mk2 ch2
          go_wp2
          go_ret
          rw [HRJ2.out]
          exact ⟨A2, c2, rfl, by simp only [auJoin_length]; exact P2.out.me, P2.out.ch⟩

end Go.Proofs.Ytjnjbcigbnjmkaa
