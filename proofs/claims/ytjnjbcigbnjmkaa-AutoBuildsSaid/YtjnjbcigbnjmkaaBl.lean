/- Walks: the program's leading: nodes one behind the other, or side by side. -/
import Derived.Test.YtjnjbcigbnjmkaaBj
namespace Go.Proofs.Ytjnjbcigbnjmkaa
open Go.RowKit Pv

theorem SetIn.grow {w w' : World} {base e0 m : Nat} {v rv : Value} {l : List Rng} {us : List Value} (h : SetIn w base v l) (hv : w.ownsRow e0 TInt 1 rv m us) (hb : base ≤ e0) (g : w.grownBy w' rv.ownBlock) : SetIn w' base v l := by
  obtain ⟨S, sc, e, hs, hl, hh⟩ := h
  have key : ∀ b o, S = some ⟨b, o, none⟩ → 0 < l.length → b < w.heap.size → w'.heap[b]? = w.heap[b]? := fun b o e hp hlt => by
    refine g.block b hlt fun e' => ?_
    rcases hh hp b o e with h3 | ⟨cs, h3⟩
    · have := (hv.lt b e'.symm).1; omega
    · exact own_blk_ne (t := TRng) (cs := cs) hv h3 (by decide) e'
  refine ⟨S, sc, e, AtK.chg hs g.size key, hl, fun hp b o e => ?_⟩
  rcases hh hp b o e with h3 | ⟨cs, h3⟩
  · exact .inl h3
  · obtain ⟨b', o', e', hlt, _⟩ := hs.2 hp
    rw [e] at e'
    injection e' with e'
    injection e' with e1 _
    subst e1
    exact .inr ⟨cs, (key b o e hp hlt).trans h3⟩
theorem AuQ.grow {W W' : World} {base n c e0 m : Nat} {A : Option Addr} {a : Au} {v : Value} {us : List Value} (h : AuQ W base A n c a) (hv : W.ownsRow e0 TInt 1 v m us) (hb : base ≤ e0) (g : W.grownBy W' v.ownBlock) : AuQ W' base A n c a := by
  obtain ⟨rows, h1, h2⟩ := h
  refine ⟨rows, h1.kept g (own_ne h1 hv (by decide)), h2.len, h2.n, fun i es he => ?_, h2.ne⟩
  obtain ⟨r, hr, A', c', us', rfl, ow, hk⟩ := h2.row i es he
  exact ⟨_, hr, A', c', us', rfl, ow.kept g (own_ne ow hv (by decide)), hk.mono fun f x _ hx => ⟨hx.1, hx.2, hx.3.1.grow hv hb g, hx.3.2⟩⟩
theorem MkE.grow {w0 w w' : World} {base pm e0 : Nat} {acc : Int} {tA EA : Option Addr} {nt ct ec : Nat} {t : List Rx} {A : Option Addr} {n c : Nat} {a : Au} {b1 m : Nat} {v : Value} {us : List Value} (h : MkE w0 w base pm e0 acc tA EA nt ct ec t A n c a) (hv : w.ownsRow b1 TInt 1 v m us) (hb : base ≤ b1) (hbs : w0.heap.size ≤ base)
    (hne : (Value.slice EA nt ec).ownBlock = none ∨ (Value.slice EA nt ec).ownBlock ≠ v.ownBlock) (g : w.grownBy w' v.ownBlock) : MkE w0 w' base pm e0 acc tA EA nt ct ec t A n c a :=
  ⟨⟨h.ma.b.grown g (own_blk_ne hv h.ma.b (by decide)), h.ma.au.grow hv hb g, h.ma.ge⟩, h.kp.trans' g.size (fun x o hx => World.cell?_of_block (a := ⟨x, o, none⟩) (g.block x (by have := h.ge; omega) fun e => by have := (hv.lt x e.symm).1; omega)), h.oe.kept g hne, Nat.le_trans h.ge g.size⟩

/-- The variables of leading, under way: the maker, the node, the ends. -/
structure PL (w0 W wr : World) (base pm e0 : Nat) (acc : Int) (tA EA : Option Addr) (nt ct ec : Nat) (t : List Rx) (A : Option Addr) (n c : Nat) (a : Au) (x : Array Value) (LA : Option Addr) (m lc : Nat) (l : List Nat) : Prop where
  me : MkE w0 wr base pm e0 acc tA EA nt ct ec t A n c a
  ch : Chg TB base W wr
  bx : Blk wr W.heap.size TRx x
  ow : wr.ownsRow (W.heap.size + 1) TInt 1 (.slice LA m lc) m (l.map fun (z : Nat) => Value.int .i64 (z : Int))
section
variable {w0 W wr w' : World} {base pm e0 : Nat} {acc : Int} {tA EA : Option Addr} {nt ct ec : Nat} {t : List Rx} {A : Option Addr} {n c : Nat} {a : Au} {x : Array Value} {LA : Option Addr} {m lc : Nat} {l : List Nat}
theorem PL.below (h : PL w0 W wr base pm e0 acc tA EA nt ct ec t A n c a x LA m lc l) (hb : Below wr.heap.size wr w') : PL w0 W w' base pm e0 acc tA EA nt ct ec t A n c a x LA m lc l := ⟨h.me.next hb, h.ch.then hb, h.bx.below hb h.bx.lt, ownsRow_below h.ow hb⟩
/-- behind a callee -/
theorem PL.call {A' : Option Addr} {n' c' : Nat} {a' : Au} (h : PL w0 W wr base pm e0 acc tA EA nt ct ec t A n c a x LA m lc l) (mk : MkE w0 w' base pm e0 acc tA EA nt ct ec t A' n' c' a') (hc : Chg TB base wr w') : PL w0 W w' base pm e0 acc tA EA nt ct ec t A' n' c' a' x LA m lc l := ⟨mk, h.ch.trans hc, hc.blk h.bx TB_rx, ownsRow_chg h.ow hc TB_int⟩
/-- one end more -/
theorem PL.push {LA' : Option Addr} {lc' z : Nat} (h : PL w0 W wr base pm e0 acc tA EA nt ct ec t A n c a x LA m lc l) (hb : base ≤ W.heap.size) (hbs : w0.heap.size ≤ base) (far : ∀ g, (Value.slice EA nt ec).ownBlock = some g → g < W.heap.size) (g : wr.grownBy w' (Value.slice LA m lc).ownBlock)
    (own : w'.ownsRow (W.heap.size + 1) TInt 1 (.slice LA' (m + 1) lc') (m + 1) ((l.map fun (z : Nat) => Value.int .i64 (z : Int)) ++ [.int .i64 (z : Int)])) : PL w0 W w' base pm e0 acc tA EA nt ct ec t A n c a x LA' (m + 1) lc' (l ++ [z]) :=
  ⟨h.me.grow h.ow (Nat.le_trans hb (Nat.le_succ _)) hbs (by
      cases hq : (Value.slice EA nt ec).ownBlock with
      | none => exact .inl rfl
      | some q => exact .inr fun e => by have h1 := far q hq; have h2 := (h.ow.lt q e.symm).1; omega) g,
    h.ch.grow g (fun k hk => Nat.le_trans (Nat.le_succ _) (h.ow.lt k hk).1), h.bx.grown g (own_blk_ne h.ow h.bx (by decide)), by simpa using own⟩
theorem PL.start (h : MkE w0 W base pm e0 acc tA EA nt ct ec t A n c a) (x : Array Value) : PL w0 W (W.alloc (.cells x TRx)) base pm e0 acc tA EA nt ct ec t A n c a x none 0 0 [] :=
  have hb : Below W.heap.size W (W.alloc (.cells x TRx)) := (Below.refl _ _).alloc (Nat.le_refl _) _
  ⟨h.next hb, Chg.of_below hb, Blk.new W TRx x, World.ownsRow_nil _ _ _ _⟩
end

set_option maxHeartbeats 2000000 in
set_option maxRecDepth 100000 in
theorem maker_lead_walk (w0 W : World) (base pm e0 : Nat) (acc : Int) (tA EA : Option Addr) (nt ct ec : Nat) (t : List Rx) (A : Option Addr) (n c : Nat) (a : Au) (s i : Nat) (cat : Bool) (l : List Rng) (many least most : Int) (ks : List Tr)
    (ht : AtRx w0 tA t) (hbs : w0.heap.size ≤ base) (HT : Hid (t.length = nt)) (hnt : nt ≤ 64) (HX : Hid (t[i]? = some ⟨if cat then 2 else 3, l, many, least, most⟩)) (h : MkE w0 W base pm e0 acc tA EA nt ct ec t A n c a) (hs : s < n)
    (HN : Hid (n + statesL ks + (if cat then 0 else 1) ≤ 256))
    (HZ : Hid ((endsL t)[i]? = some ((i + 1 + sizes ks : Nat) : Int)))
    (HEND : Hid (∀ (j : Nat) (k : Tr), ks[j]? = some k → (endsL t)[i + 1 + sizes (ks.take j)]? = some ((i + 1 + sizes (ks.take (j + 1)) : Nat) : Int) ∧ i + 1 + sizes (ks.take j) < nt))
    (HG : Hid (∀ j, WG a (statesL (ks.take j)) (ks.take j).length (walkG cat (ks.take j) a s)))
    (HIH : Hid (∀ j k, ks[j]? = some k → PLead w0 base pm e0 acc tA EA nt ct ec t k (i + 1 + sizes (ks.take j)))) (hzs : i + 1 + sizes ks ≤ 64) (hk64 : ks.length ≤ 64) (he : edgesN a ≤ 65 * n) :
    Calls Try.prog 63 #[.pointer (some ⟨pm, 0, none⟩), .int .i64 i, .int .i64 s] W (MkLead w0 W base pm e0 acc tA EA nt ct ec t (leadT (.mk ⟨if cat then 2 else 3, l, many, least, most⟩ ks) a s)) := by
  obtain ⟨i0, hi0, hz0, hs0, hb0⟩ := info_parts info_int
  have hin : i < nt := by have := lt_of_get HX.out; rwa [HT.out] at this
  have hn1 : n + statesL ks ≤ 256 := by have := HN.out; omega
  obtain ⟨b, off, kd, B, cs, m, l', many', least', most', rfl, H5, hset, HM, hmc, hkd, hma, hle, hmo, HX'⟩ := ht.g5 HT hin
  obtain ⟨hkk, rfl, rfl, rfl, rfl⟩ := Rx.mk.inj (Option.some.inj (HX'.out.symm.trans HX.out))
  obtain ⟨y0, y1, y2, y3, y4, y5⟩ := H5.next h.kp
  obtain ⟨hpm, q2, q3⟩ := h.cells
  have F0 := Lib.hid (PL.start h #[.int .u8 kd, .slice B m cs, .int .i64 many', .int .i64 least', .int .i64 most'])
  have FAR := Lib.hid (fun g hg => (h.oe.lt g hg).2)
  have HNL := Lib.hid h.len
  have HGE := Lib.hid h.ge
  have HKK := Lib.hid hkk
  have t0 : (kd == 0) = false := by rw [hkk]; cases cat <;> rfl
  have t1 : (kd == 1) = false := by rw [hkk]; cases cat <;> rfl
  have t4 : (kd == 4) = false := by rw [hkk]; cases cat <;> rfl
  obtain ⟨R, hR⟩ : ∃ R, leadT (.mk ⟨if cat then 2 else 3, l', many', least', most'⟩ ks) a s = R := ⟨_, rfl⟩
  rw [hR]
  have HRES := Lib.hid (show R = if cat then ((walkG cat ks a s).1, (walkG cat ks a s).2.1) else (auJoin (walkG cat ks a s).1 (walkG cat ks a s).2.2, (walkG cat ks a s).1.length) from by
    rw [← hR]
    cases cat with
    | true => rw [leadT, if_neg (by simp), if_neg (by simp), if_pos (by simp)]; simp only [if_true]; obtain ⟨h1, h2⟩ := walkG_cat ks a s; exact Prod.ext h1.symm h2.symm
    | false => rw [leadT, if_neg (by simp), if_neg (by simp), if_neg (by simp), if_pos (by simp)]; rw [walkG_alt]; rfl)
  have HST := Lib.hid (statesL_take ks)
  have HE := Lib.hid he
  have HZE : Hid (∀ z, (endsL t)[i]? = some z → z = ((i + 1 + sizes ks : Nat) : Int)) := Lib.hid (fun z h => Option.some.inj (h.symm.trans HZ.out))
  clear h H5 ht hset HX' hkk he hR
  go_enter Try.func63, Try.ntmps63
  go_wp2
  go_loopw [2, 8, 9] (fun sv lv kv wr => ∃ (j : Nat) (A' : Option Addr) (c' : Nat) (LA : Option Addr) (lc : Nat), j ≤ ks.length ∧ kv = .int .i64 ((i + 1 + sizes (ks.take j) : Nat) : Int) ∧ sv = .int .i64 (walkG cat (ks.take j) a s).2.1 ∧ lv = .slice LA j lc ∧ PL w0 W wr base pm e0 acc (some ⟨b, off, none⟩) EA nt ct ec t A' (walkG cat (ks.take j) a s).1.length c' (walkG cat (ks.take j) a s).1 #[.int .u8 kd, .slice B m cs, .int .i64 many', .int .i64 least', .int .i64 most'] LA j lc (walkG cat (ks.take j) a s).2.2) (fun _ _ kv _ => (i + 1 + sizes ks) - (intOf kv).toNat)
  case atStart => exact ⟨0, A, c, none, 0, by omega, by simp [sizes, flats], by simp [walkG], rfl, by simp only [List.take_zero, walkG]; rw [← HNL.out]; exact F0.out⟩
  case round =>
    clear y0 y1 y2 y3 y4 y5 q2 q3
    obtain ⟨j, A', c', LA, lc, hj, rfl, rfl, rfl, hpl⟩ := hrel
    have PP := Lib.hid hpl
    clear hpl
    obtain ⟨hpm', p2, p3⟩ := PP.out.me.cells
    obtain ⟨x0, x1, x2, x3, x4⟩ := Blk.five PP.out.bx
    obtain ⟨eg, eE, egl, egc⟩ := own_int PP.out.me.oe HZ.out
    subst eE
    obtain ⟨ze, hze⟩ : ∃ ze, i + 1 + sizes ks = ze := ⟨_, rfl⟩
    rw [hze] at egc
    have GJ := Lib.hid (HG.out j)
    obtain ⟨rj, hrj⟩ : ∃ rj, walkG cat (ks.take j) a s = rj := ⟨_, rfl⟩
    rw [hrj] at PP GJ
    rw [hrj]
    by_cases hlt : j < ks.length
    · have hkk : ks[j]? = some (ks[j]) := List.getElem?_eq_getElem hlt
      have hps := sizes_take_lt hlt
      generalize ks[j] = k0 at hkk
      obtain ⟨hen1, hen2⟩ := HEND.out j k0 hkk
      have hst : sizes (ks.take j) < sizes (ks.take (j + 1)) := by
        rw [take_snoc hkk]
        show _ < (flats (ks.take j ++ [k0])).length
        rw [flats_app, List.length_append]
        have := k0.size_pos
        simp only [flats, List.append_nil, sizes]
        simp only [Tr.size] at this
        omega
      have hst2 := sizes_take_le (ks := ks) (j + 1)
      have hsl : statesL (ks.take j) + statesT k0 ≤ statesL ks := by
        have h1 := HST.out (j + 1)
        rw [take_snoc hkk] at h1
        have h2 : ∀ l : List Tr, statesL (l ++ [k0]) = statesL l + statesT k0 := fun l => by
          induction l with
          | nil => simp [statesL]
          | cons y l ih => simp only [List.cons_append, statesL]; rw [ih]; omega
        rw [h2] at h1
        exact h1
      have HC := Lib.hid (HIH.out j k0 hkk wr A' rj.1.length c' rj.1 rj.2.1 PP.out.me GJ.out.lt (by have := GJ.out.len; have := HNL.out; omega) (GJ.out.el.few HNL.out HE.out))
      have HSN := Lib.hid (show walkG cat (ks.take (j + 1)) a s = ((leadT k0 rj.1 rj.2.1).1, (if cat then (leadT k0 rj.1 rj.2.1).2 else rj.2.1), rj.2.2 ++ [(leadT k0 rj.1 rj.2.1).2]) by rw [take_snoc hkk, walkG_snoc, hrj])
      obtain ⟨eg2, eE2, _, egc2⟩ := own_int PP.out.me.oe hen1
      have HEN1 := Lib.hid hen1
      have HKT := Lib.hid hrj
      generalize hp : i + 1 + sizes (ks.take j) = p at *
      have HP := Lib.hid hp
      have hpz : p < ze := by omega
      have HZE2 := Lib.hid hze
      clear hkk hen1 hp hze hrj eE2 egc2
      have T2 := Lib.hid (show ((kd == 2) = true ∧ cat = true) ∨ ((kd == 2) = false ∧ cat = false) by rw [HKK.out]; cases cat <;> simp)
      have hjl : j ≤ 64 := by omega
      go_wp2_with fail
      refine HC.out.mono ?_
      rintro e w1 ⟨A1, c1, rfl, mk1, ch1⟩
      have P1 := Lib.hid (PP.out.call mk1 ch1)
      obtain ⟨rk, hrk⟩ : ∃ rk, leadT k0 rj.1 rj.2.1 = rk := ⟨_, rfl⟩
      rw [hrk] at P1 HSN
      rw [hrk]
      have hal : Below w1.heap.size w1 (w1.alloc (.cells #[.int .i64 rk.2] TInt)) := (Below.refl _ _).alloc (Nat.le_refl _) _
      have PA := Lib.hid (P1.out.below hal)
      have SRC := Lib.hid (Src.one (w := w1) (x := .int .i64 rk.2) (t := TInt) rfl)
      have Q1 : Hid (j + 1 ≤ maxLen) := Lib.hid (by simp only [maxLen]; omega)
      have Q2 : Hid ((j + 1) * 8 ≤ 140737488355328) := Lib.hid (by omega)
      have Q3 : Hid (W.heap.size + 1 ≤ (w1.alloc (.cells #[.int .i64 rk.2] TInt)).heap.size) := Lib.hid (by have := P1.out.bx.lt; simp; omega)
      clear mk1 ch1 hal hrk x0 x1 x2 x3 x4 p2 p3 egc
      rcases T2.out with ⟨t2, hc⟩ | ⟨t2, hc⟩
      all_goals
        have HC2 := Lib.hid hc
        clear hc
        go_wp2_with (at_builtin
                     go_must (refine wpList_append_src _ rfl (.tmp 66) (.tmp 68) 22 rfl (W.heap.size + 1) TInt i0 (.int .i64 0) 1 8 Try.underlying22 hi0 hz0 hs0 hb0 rfl (by decide) LA lc j _ rfl PA.out.ow _ 1 1 _ rfl SRC.out Q1.out Q2.out Q3.out ?_)
                     intro A8 lc8 w8 own8 gr8 _
                     have P8 := Lib.hid (PA.out.push HGE.out hbs FAR.out gr8 own8)
                     obtain ⟨_, p2, p3⟩ := P8.out.me.cells
                     obtain ⟨x0, x1, x2, x3, x4⟩ := Blk.five P8.out.bx
                     obtain ⟨eg2, eE2, _, egc2⟩ := own_int P8.out.me.oe HEN1.out
                     simp only [Option.some.injEq, Addr.mk.injEq, and_true] at eE2
                     subst eE2
                     clear gr8 own8)
        go_roundw
        case rel => exact ⟨j + 1, A1, c1, A8, lc8, by omega, rfl, by rw [HSN.out]; simp [HC2.out], by go_num, by rw [HSN.out]; exact P8.out⟩
        case measure => have := HZE2.out; have h2 := HP.out; simp [intOf]; omega
    · have hjl : j = ks.length := by omega
      subst hjl
      have htk : ks.take ks.length = ks := List.take_of_length_le (by omega)
      rw [htk] at hrj
      rw [htk]
      rw [htk] at GJ
      have hdz : ¬ ((i + 1 + sizes ks : Nat) : Int) < (ze : Int) := by omega
      have T2 := Lib.hid (show ((kd == 2) = true ∧ cat = true) ∨ ((kd == 2) = false ∧ cat = false) by rw [HKK.out]; cases cat <;> simp)
      rw [hrj] at HRES
      rw [hze]
      have HLEN := Lib.hid GJ.out.len
      rw [← HNL.out] at HLEN
      have hlen : rj.1.length ≤ 256 := by have := HLEN.out; omega
      have hel := GJ.out.el.few HNL.out HE.out
      clear htk hrj
      rcases T2.out with ⟨t2, hc⟩ | ⟨t2, hc⟩
      · rw [hc] at HRES
        clear hc
        go_wp2
        go_ret
        rw [HRES.out]
        exact ⟨A', c', rfl, PP.out.me, PP.out.ch⟩
      · have HN2 := HN.out
        rw [hc] at HRES HN2
        have HJ := Lib.hid (maker_join A' rj.1.length c' base pm acc _ _ rj.1 LA ks.length lc (W.heap.size + 1) rj.2.2 wr PP.out.me.ma PP.out.me.ge (by simp at HN2; omega) (by omega) PP.out.ow GJ.out.all (by have := GJ.out.ne; omega))
        clear hc HN2
        go_wp2_with fail
        refine HJ.out.mono ?_
        rintro e w2 ⟨A2, c2, rfl, mk2, ch2⟩
        have P2 := Lib.hid (PP.out.call (PP.out.me.step hbs mk2 ch2) ch2)
        clear mk2 ch2
        go_wp2
        go_ret
        rw [HRES.out]
        exact ⟨A2, c2, rfl, by simp only [Bool.false_eq_true, if_false, auJoin_length]; exact P2.out.me, P2.out.ch⟩

end Go.Proofs.Ytjnjbcigbnjmkaa
