/- Walks: the first word that tells two automata apart (the program's): the classes of both. PUT1 -/
import Derived.Test.YtilhicefhhgecaaGreatDoorHcn
import Derived.Test.YtilhicefhhgecaaGreatDoorWhn
import Derived.Test.YtilhicefhhgecaaGreatDoorGxn
import Derived.Test.YtilhicefhhgecaaGreatDoorGin
import Derived.Test.YtilhicefhhgecaaGreatDoorGnn
namespace Pv
open Go Go.RowKit
/-- The word, if both may be. -/
noncomputable def apW (d o : Dfa) : Option (List Int) := if yes (d.Ok ∧ o.Ok) = true then wordD d o else none
noncomputable def apE (d o : Dfa) : Int := if yes (d.Ok ∧ o.Ok) = true then 0 else 8
end Pv
namespace Go.Proofs.YtilhicefhhgecaaGreatDoor
open Go.RowKit Go.Maps Pv

theorem MapQ.grown {α : Type} {enc : α → Value} {ok : α → Prop} {val : Nat → Int} {W W' : World} {mb b n k : Nat} {keys : List α} {e : TypeId} {v : Value} {us : List Value} (h : MapQ enc ok val W mb keys) (hr : W.ownsRow b e k v n us) (hg : W.grownBy W' v.ownBlock) : MapQ enc ok val W' mb keys :=
  h.of_block (hg.block mb h.lt fun e => by
    rcases hr.2 with ⟨h2, _⟩ | ⟨g, cap, cur, h2, _, hh, _⟩
    · rw [h2] at e; cases e
    · rw [h2] at e
      injection e with e
      subst e
      exact h.ne (show Blk _ _ _ cur from hh) rfl)
theorem rowP_get {d o : Dfa} {x y : Pr} {l : List Pr} {i : Nat} (h : l[i]? = some y) (ps : List Int) : (rowP d o x l ps)[i]? = some y := by
  obtain ⟨t, ht⟩ := rowP_pre d o x ps l
  rw [← ht, List.getElem?_append_left (lt_of_get h)]; exact h
/-- How it ends. -/
def ApartR (d o : Dfa) (w : World) (e : Ending) (w' : World) : Prop := ∃ v, e = .returned (.tuple #[v, .bool (apW d o).isSome, .int .i64 (apE d o)]) ∧ OwnI w' w.heap.size v ((apW d o).getD []) ∧ Below w.heap.size w w'
theorem apart_no {d o : Dfa} (h : ¬ (d.Ok ∧ o.Ok)) {w w' : World} (hb : Below w.heap.size w w') : ApartR d o w (.returned (.tuple #[.slice none 0 0, .bool false, .int .i64 8])) w' := by
  have h1 : apW d o = none := by unfold apW; rw [if_neg (by rw [yes_f h]; simp)]
  have h2 : apE d o = 8 := by unfold apE; rw [if_neg (by rw [yes_f h]; simp)]
  exact ⟨_, by rw [h1, h2]; rfl, by rw [h1]; exact OwnI.nil _ _, hb⟩
theorem off_lt {w : World} {n M : Nat} {v rv : Value} {e : TypeId} {us : List Value} {s : Nat} (hr : w.ownsRow M e s rv n us) (h : ∀ g, v.ownBlock = some g → g < M) : v.ownBlock = none ∨ v.ownBlock ≠ rv.ownBlock := by
  cases hv : v.ownBlock with
  | none => exact .inl rfl
  | some g => exact .inr fun e => by have := (hr.lt g e.symm).1; have := h g hv; omega

abbrev TWay : TypeId := 105
theorem info_way : (Tryz.prog.info? 105).map (fun i => (i.zero, i.size, i.bytes)) = some (some (.agg #[.int .i64 0, .int .i64 0, .int .i64 0, .int .i64 0]), 4, 32) := by kernel_rfl
def RWy (f : Nat → Value) (x : Wy) : Prop := f 0 = .int .i64 (x.a : Int) ∧ f 1 = .int .i64 (x.b : Int) ∧ f 2 = .int .i64 x.fr ∧ f 3 = .int .i64 x.vi
abbrev Ws (w : World) (base : Nat) (v : Value) (l : List Wy) : Prop := OwnK w base TWay 4 RWy v l
theorem Ws.one {w : World} {base : Nat} (hb : base ≤ w.heap.size) : Ws (w.alloc (.cells #[.int .i64 0, .int .i64 0, .int .i64 (-1), .int .i64 0] TWay)) base (.slice (some ⟨w.heap.size, 0, none⟩) 1 1) [⟨0, 0, -1, 0⟩] :=
  ⟨_, 1, [.int .i64 0, .int .i64 0, .int .i64 (-1), .int .i64 0], rfl, ⟨rfl, .inr ⟨w.heap.size, 1, #[.int .i64 0, .int .i64 0, .int .i64 (-1), .int .i64 0], rfl, hb, Blk.new w TWay _, Nat.le_refl _, by simp [maxLen], rfl, rfl⟩⟩,
    RelK.one (f := fun j => match j with | 0 => .int .i64 0 | 1 => .int .i64 0 | 2 => .int .i64 (-1) | _ => .int .i64 0) rfl (fun j hj => by
      match j, hj with
      | 0, _ => rfl
      | 1, _ => rfl
      | 2, _ => rfl
      | 3, _ => rfl) ⟨rfl, rfl, rfl, rfl⟩⟩
theorem Ws.of_block {w w1 w' : World} {base n c g : Nat} {l : List Wy} (hblk : w'.heap[g]? = w1.heap[g]?) (h : Ws w base (.slice (some ⟨g, 0, none⟩) n c) l) (he : w1.heap[g]? = w.heap[g]?) : Ws w' base (.slice (some ⟨g, 0, none⟩) n c) l := by
  obtain ⟨A, c', us, e, h1, h2⟩ := h
  refine ⟨A, c', us, e, ⟨h1.1, ?_⟩, h2⟩
  rcases h1.2 with ⟨h5, _⟩ | ⟨g', cap, cur, hv, hg, hh, r⟩
  · rw [← e] at h5; cases h5
  · have : g' = g := by rw [← e] at hv; injection hv with hv; injection hv with hv; injection hv with hv; exact hv.symm
    subst this
    exact .inr ⟨g', cap, cur, hv, hg, by rw [hblk, he]; exact hh, r⟩

theorem Ws.gt {w : World} {base n k c : Nat} {A : Option Addr} {ws : List Wy} (h : Ws w base (.slice A n c) ws) (HL : Hid (ws.length = n)) (hn : n ≤ 1000000) (hk : k < n) :
    ∃ b off x, A = some ⟨b, off, none⟩ ∧ b < w.heap.size ∧ (w.cell? ⟨b, off + k * 4, none⟩ = some (.int .i64 (x.a : Int)) ∧ w.cell? ⟨b, off + k * 4 + 1, none⟩ = some (.int .i64 (x.b : Int)) ∧ w.cell? ⟨b, off + k * 4 + 2, none⟩ = some (.int .i64 x.fr) ∧ w.cell? ⟨b, off + k * 4 + 3, none⟩ = some (.int .i64 x.vi)) ∧ Hid (ws[k]? = some x) ∧ n ≤ c := by
  obtain ⟨A', c', us, e, h1, h2⟩ := h
  rw [HL.out] at e h1
  injection e with e1 _ e3
  subst e1; subst e3
  obtain ⟨hc', hat⟩ := AtK.of_own h1 h2 HL.out.symm (by rw [HL.out]; omega)
  obtain ⟨b, off, f, x, e, hb, hc, ⟨f0, f1, f2, f3⟩, hx⟩ := AtK.gt hat HL hk
  have c0 := hc 0 (by omega); have c1 := hc 1 (by omega); have c2 := hc 2 (by omega); have c3 := hc 3 (by omega)
  rw [f0] at c0; rw [f1] at c1; rw [f2] at c2; rw [f3] at c3
  exact ⟨b, off, x, e, hb, ⟨c0, c1, c2, c3⟩, hx, hc'⟩
theorem Ws.lt {w : World} {base : Nat} {v : Value} {l : List Wy} (h : Ws w base v l) {g : Nat} (hg : v.ownBlock = some g) : base ≤ g ∧ g < w.heap.size := by
  obtain ⟨A, c, us, rfl, h1, _⟩ := h
  exact h1.lt g hg
theorem Ws.push {w w2 : World} {base n c c2 : Nat} {A A2 : Option Addr} {us : List Value} {ws : List Wy} {x : Wy} (_ : w.ownsRow base TWay 4 (.slice A n c) n us) (h2 : RelK 4 RWy us ws) (HL : Hid (ws.length = n))
    (own : w2.ownsRow base TWay 4 (.slice A2 (n + 1) c2) (n + 1) (us ++ [.int .i64 (x.a : Int), .int .i64 (x.b : Int), .int .i64 x.fr, .int .i64 x.vi])) : Ws w2 base (.slice A2 (n + 1) c2) (ws ++ [x]) := by
  refine ⟨A2, c2, us ++ [.int .i64 (x.a : Int), .int .i64 (x.b : Int), .int .i64 x.fr, .int .i64 x.vi], by simp [HL.out], by rw [List.length_append, HL.out]; exact own, RelK.app h2 ?_⟩
  exact RelK.one (f := fun j => match j with | 0 => .int .i64 (x.a : Int) | 1 => .int .i64 (x.b : Int) | 2 => .int .i64 x.fr | _ => .int .i64 x.vi) rfl (fun j hj => by
    match j, hj with
    | 0, _ => rfl
    | 1, _ => rfl
    | 2, _ => rfl
    | 3, _ => rfl) ⟨rfl, rfl, rfl, rfl⟩
/-- What stays: the classes' rows, the cuts, the automata's boxes. -/
structure ApE (w W : World) (M G na gc xc yc : Nat) (XA YA : Option Addr) (L xs ys : List Int) (av bv : Array Value) : Prop where
  x : W.ownsRow M TLI 1 (.slice XA na xc) na (xs.map (Value.int .i64))
  y : W.ownsRow M TLI 1 (.slice YA na yc) na (ys.map (Value.int .i64))
  v : OwnI W w.heap.size (.slice (some ⟨G, 0, none⟩) na gc) L
  t : Two w W av bv
  m : w.heap.size ≤ M
section
variable {w W W' : World} {M G na gc xc yc : Nat} {XA YA : Option Addr} {L xs ys : List Int} {av bv : Array Value}
theorem ApE.next (h : ApE w W M G na gc xc yc XA YA L xs ys av bv) (hb : Below W.heap.size W W') : ApE w W' M G na gc xc yc XA YA L xs ys av bv :=
  ⟨ownsRow_below h.x hb, ownsRow_below h.y hb, OwnI.below h.v hb, h.t.next hb, h.m⟩
theorem ApE.grown {k s : Nat} {t : TypeId} {rv : Value} {us : List Value} (h : ApE w W M G na gc xc yc XA YA L xs ys av bv) (hr : W.ownsRow M t s rv k us) (h1 : TLI ≠ t) (h2 : t ≠ TDfa) (hg : W.grownBy W' rv.ownBlock) : ApE w W' M G na gc xc yc XA YA L xs ys av bv := by
  refine ⟨h.x.kept hg (own_ne h.x hr h1), h.y.kept hg (own_ne h.y hr h1), OwnI.keepQ h.v hr h1 hg, h.t.grown hr h2 hg h.m, h.m⟩
theorem ApE.map (h : ApE w W M G na gc xc yc XA YA L xs ys av bv) (ho : Oth 107 W W') (hb : Below w.heap.size W W') : ApE w W' M G na gc xc yc XA YA L xs ys av bv :=
  ⟨ho.own (by decide) h.x, ho.own (by decide) h.y, ho.ownI (by decide) h.v, ⟨ho.blk _ _ _ (by decide) h.t.a, ho.blk _ _ _ (by decide) h.t.b, h.t.be.trans hb⟩, h.m⟩
end

set_option maxHeartbeats 8000000 in
set_option maxRecDepth 100000 in
theorem least_Apart (A1 A2 A3 B1 B2 B3 : Option Addr) (c1 c2 c3 n1 n n3 d1 d2 d3 m1 m m3 : Nat) (d o : Dfa) (w : World) (H : DfaAt w A1 A2 A3 n1 n n3 d) (K : DfaAt w B1 B2 B3 m1 m m3 o) :
    Calls Tryz.prog 21 #[.agg #[.slice A1 n1 c1, .slice A2 n c2, .slice A3 n3 c3], .agg #[.slice B1 m1 d1, .slice B2 m d2, .slice B3 m3 d3]] w (ApartR d o w) := by
  have HD := Lib.hid H; have HO := Lib.hid K
  have KK := blk2 w #[.slice A1 n1 c1, .slice A2 n c2, .slice A3 n3 c3] #[.slice B1 m1 d1, .slice B2 m d2, .slice B3 m3 d3] TDfa TDfa
  have HT0 := Lib.hid (show Two w _ _ _ from ⟨KK.1, KK.2, ((Below.refl w.heap.size w).alloc (Nat.le_refl _) (.cells #[.slice A1 n1 c1, .slice A2 n c2, .slice A3 n3 c3] TDfa)).alloc (by simp) (.cells #[.slice B1 m1 d1, .slice B2 m d2, .slice B3 m3 d3] TDfa)⟩)
  have HK1 := Lib.hid (subset_Check A1 A2 A3 c1 c2 c3 n1 n n3 d _ (H.keep (Keep.of HT0.out.be)))
  clear KK
  by_cases hok : d.Ok
  case neg =>
    rw [Dfa.checkE_no (Dfa.okB_no hok)] at HK1
    have HNO := Lib.hid (show ¬ (d.Ok ∧ o.Ok) from fun h => hok h.1)
    clear hok H K
    go_enter Tryz.func21, Tryz.ntmps21
    go_wp2_with fail
    refine HK1.out.mono ?_
    rintro e w1 ⟨rfl, hb1⟩
    have HB1 := Lib.hid (HT0.out.next hb1).be
    clear hb1
    go_wp2
    exact bodyPost_ret (v := .tuple #[.slice none 0 0, .bool false, .int .i64 8]) (by simp [results, Tryz.results21, go_sem]) rfl (apart_no HNO.out HB1.out)
  rw [Dfa.checkE_yes (Dfa.okB_yes hok)] at HK1
  have HK2 := Lib.hid (fun W (hb : Below w.heap.size w W) => subset_Check B1 B2 B3 d1 d2 d3 m1 m m3 o W (K.keep (Keep.of hb)))
  by_cases hoo : o.Ok
  case neg =>
    rw [Dfa.checkE_no (Dfa.okB_no hoo)] at HK2
    have HNO := Lib.hid (show ¬ (d.Ok ∧ o.Ok) from fun h => hoo h.2)
    clear hok hoo H K
    go_enter Tryz.func21, Tryz.ntmps21
    go_wp2_with fail
    refine HK1.out.mono ?_
    rintro e w1 ⟨rfl, hb1⟩
    have HT1 := Lib.hid (HT0.out.next hb1)
    obtain ⟨p0, p1, p2, _, _, _⟩ := Blk.three HT1.out.b
    have hN := HT1.out.b.lt
    clear hb1
    go_wp2_with fail
    refine (HK2.out _ HT1.out.be).mono ?_
    rintro e w2 ⟨rfl, hb2⟩
    have HB2 := Lib.hid (HT1.out.next hb2).be
    clear hb2 p0 p1 p2 hN
    go_wp2
    exact bodyPost_ret (v := .tuple #[.slice none 0 0, .bool false, .int .i64 8]) (by simp [results, Tryz.results21, go_sem]) rfl (apart_no HNO.out HB2.out)
  rw [Dfa.checkE_yes (Dfa.okB_yes hoo)] at HK2
  obtain ⟨b2, o2, b3, o3, e2, e3, hb2, hb3, e4, hrow, hacc⟩ := H.rows hok
  obtain ⟨a2, q2, a3, q3, e5, e6, ha2, ha3, e7, krow, kacc⟩ := K.rows hoo
  subst e2; subst e3; subst e5; subst e6
  obtain rfl := e4.symm
  obtain rfl := e7.symm
  have hn : n ≤ 64 := by have := hok.n2; have := H.hn.out; omega
  have hm : m ≤ 64 := by have := hoo.n2; have := K.hn.out; omega
  have hn1 : 1 ≤ n := by have := hok.n1; have := H.hn.out; omega
  have hm1' : 1 ≤ m := by have := hoo.n1; have := K.hn.out; omega
  have hc : n1 ≤ 256 := by have := hok.c2; have := H.hc.out; omega
  have hc' : m1 ≤ 256 := by have := hoo.c2; have := K.hc.out; omega
  have hc1 : 1 ≤ n1 := by have := hok.c1; have := H.hc.out; omega
  have HNN := H.hn; have HNC := H.hc; have HMN := K.hn; have HMC := K.hc
  have HOK := Lib.hid hok; have HOO := Lib.hid hoo; have HA := Lib.hid hacc; have HA' := Lib.hid kacc; have HR := Lib.hid hrow; have HR' := Lib.hid krow
  obtain ⟨i0, hi0, hz0, hs0, hb0⟩ := info_parts info_int9
  obtain ⟨L, hL⟩ : ∃ L, mergeL d.cuts o.cuts = L := ⟨_, rfl⟩
  have HL := Lib.hid hL
  have HLB : Hid (∀ x, x ∈ L → 0 ≤ x ∧ x ≤ 1114111) := Lib.hid (fun x hx => by rw [← hL] at hx; exact mergeL_bd hok hoo hx)
  have HLL : Hid (L.length ≤ n1 + m1) := Lib.hid (by rw [← hL, ← HNC.out, ← HMC.out]; exact mergeL_len _ _)
  have HCM : Hid (Lib.compact ((d.cuts ++ o.cuts).mergeSort fun x y => decide (x ≤ y)) = L) := Lib.hid (by rw [← hL]; exact sortc_eq hok.rise hoo.rise)
  have HAW : Hid (apW d o = wordD d o ∧ apE d o = 0) := Lib.hid ⟨by unfold apW; rw [if_pos (yes_t ⟨hok, hoo⟩)], by unfold apE; rw [if_pos (yes_t ⟨hok, hoo⟩)]⟩
  clear H K hL hok hoo hacc kacc hrow krow
  go_enter Tryz.func21, Tryz.ntmps21
  go_wp2_with fail
  refine HK1.out.mono ?_
  rintro e w1 ⟨rfl, hb1⟩
  have HT1 := Lib.hid (HT0.out.next hb1)
  obtain ⟨p0, p1, p2, _, _, _⟩ := Blk.three HT1.out.b
  have hN := HT1.out.b.lt
  clear hb1
  go_wp2_with fail
  refine (HK2.out _ HT1.out.be).mono ?_
  rintro e w2 ⟨rfl, hb2'⟩
  have HT2 := Lib.hid (HT1.out.next hb2')
  clear p0 p1 p2 hN hb2' HT1 HT0 HK1 HK2
  obtain ⟨p0, p1, p2, _, _, _⟩ := Blk.three HT2.out.a
  obtain ⟨r0, r1, r2, _, _, _⟩ := Blk.three HT2.out.b
  have hNa := HT2.out.a.lt; have hNb := HT2.out.b.lt
  have ba := (Below.refl w2.heap.size w2).alloc (Nat.le_refl _) (.cells #[.slice A1 n1 c1, .slice B1 m1 d1] TLL)
  have BL := Blk.new w2 TLL #[.slice A1 n1 c1, .slice B1 m1 d1]
  have HT3 := Lib.hid (HT2.out.next ba)
  have HCC := Lib.hid (concat2 A1 B1 w2.heap.size 2 c1 d1 n1 m1 d.cuts o.cuts _ (BL.cell 0) (BL.cell 1) (HD.out.c.keep (Keep.of HT3.out.be)) (HO.out.c.keep (Keep.of HT3.out.be)) HNC HMC hc hc' hc1)
  clear ba BL
  go_wp2_with fail
  refine HCC.out.mono ?_
  rintro e w3 ⟨G, gc, rfl, own3, hb3'⟩
  have HT4 := Lib.hid (HT3.out.next hb3')
  have HLN : Hid ((d.cuts ++ o.cuts).length = n1 + m1) := Lib.hid (by rw [List.length_append, HNC.out, HMC.out])
  have HSO := Lib.hid (sortO own3 HLN (by omega))
  have HO3 := Lib.hid own3
  clear own3 hb3' HCC HT3 p0 p1 p2 r0 r1 r2 hNa hNb
  go_wp2_with fail
  refine HSO.out.mono ?_
  rintro e w4 ⟨rfl, own4, gr4⟩
  have HT5 := Lib.hid (HT4.out.grown (v := .slice (some ⟨G, 0, none⟩) (n1 + m1) gc) HO3.out (by decide) gr4 (by have := HT2.out.be.size; simp; omega))
  have HCO := Lib.hid (compactO own4 (Lib.hid (by rw [List.length_mergeSort]; exact HLN.out)))
  have HO4 := Lib.hid own4
  clear own4 gr4 HSO
  go_wp2_with fail
  refine HCO.out.mono ?_
  rintro e w5 ⟨rfl, own5, gr5⟩
  have HT6 := Lib.hid (HT5.out.grown (v := .slice (some ⟨G, 0, none⟩) (n1 + m1) gc) HO4.out (by decide) gr5 (by have := HT2.out.be.size; simp; omega))
  rw [HCM.out] at own5
  rw [HCM.out]
  obtain ⟨na, HNA⟩ : ∃ na, Hid (L.length = na) := ⟨_, Lib.hid rfl⟩
  rw [HNA.out] at own5
  rw [HNA.out]
  have hna : na ≤ 512 := by have := HLL.out; rw [HNA.out] at this; omega
  have hGl : G < w5.heap.size := (own5.lt G rfl).2
  have HV5 : Hid (OwnI w5 w.heap.size (.slice (some ⟨G, 0, none⟩) na gc) L) := Lib.hid (OwnI.lower ⟨_, gc, by rw [HNA.out], by rw [HNA.out]; exact own5⟩ (by have := HT2.out.be.size; simp; omega))
  clear HO3 HO4 HT4 HT5 HCO own5 gr5 HT2
  have HLB2 : Hid (∀ x, x ∈ L → -9223372036854775808 ≤ x ∧ x ≤ 9223372036854775807) := Lib.hid (fun x hx => by have := HLB.out x hx; omega)
  have HWM := Lib.hid HT6.out.be.size
  go_wp2
  obtain ⟨M, hM⟩ : ∃ M, w5.heap.size = M := ⟨_, rfl⟩
  rw [hM] at hGl HWM
  have HM := Lib.hid (show w5.heap.size = M from hM)
  clear hM
  go_loopw [45, 11, 12] (fun iv xv yv W => ∃ (i xc yc : Nat) (XA YA : Option Addr), iv = .int .i64 i ∧ xv = .slice XA i xc ∧ yv = .slice YA i yc ∧ i ≤ na ∧ Hid (W.ownsRow M TLI 1 (.slice XA i xc) i ((numI ((L.take i).map (clsO d))).map (Value.int .i64))) ∧ Hid (W.ownsRow M TLI 1 (.slice YA i yc) i ((numI ((L.take i).map (clsO o))).map (Value.int .i64))) ∧
    Hid ((Value.slice YA i yc).ownBlock = none ∨ (Value.slice YA i yc).ownBlock ≠ (Value.slice XA i xc).ownBlock) ∧ Hid (OwnI W w.heap.size (.slice (some ⟨G, 0, none⟩) na gc) L) ∧
    Hid (Two w W #[.slice A1 n1 c1, .slice (some ⟨b2, o2, none⟩) n c2, .slice (some ⟨b3, o3, none⟩) n c3] #[.slice B1 m1 d1, .slice (some ⟨a2, q2, none⟩) m d2, .slice (some ⟨a3, q3, none⟩) m d3]) ∧ Hid (M ≤ W.heap.size)) (fun iv _ _ _ => na - (intOf iv).toNat)
  case atStart => exact ⟨0, 0, 0, none, none, rfl, rfl, rfl, by omega, Lib.hid (World.ownsRow_nil _ _ _ _), Lib.hid (World.ownsRow_nil _ _ _ _), Lib.hid (.inl rfl), HV5, HT6, Lib.hid (by rw [HM.out]; exact Nat.le_refl _)⟩
  case round =>
    clear HV5 HT6 HM
    obtain ⟨i, xc, yc, XA, YA, rfl, rfl, rfl, hi, HX, HY, HNE, HV, HT, HMW⟩ := hrel
    have i1 : (0 : Int) ≤ (i : Int) := by omega
    obtain ⟨p0, p1, p2, _, _, _⟩ := Blk.three HT.out.a
    obtain ⟨r0, r1, r2, _, _, _⟩ := Blk.three HT.out.b
    have hNa := HT.out.a.lt; have hNb := HT.out.b.lt
    have hat := OwnI.atL HV.out HLB2.out HNA (by omega)
    by_cases hil : i < na
    · have i2 : (i : Int) < (na : Int) := by omega
      obtain ⟨bL, oL, uL, y, eL, hbL, cL, ⟨rfl, _, _⟩, HYL⟩ := hat.gt HNA hil
      injection eL with eL
      injection eL with eL1 eL2
      subst eL1; subst eL2
      rw [Nat.zero_add] at cL
      have hyb := HLB.out y (mem_of_get HYL.out)
      have HCX := Lib.hid (fun W (hb : Below w.heap.size w W) => apart_class A1 (some ⟨b2, o2, none⟩) (some ⟨b3, o3, none⟩) c1 c2 c3 n1 n n d y W (HD.out.keep (Keep.of hb)) HOK.out hyb.1 hyb.2)
      have HCY := Lib.hid (fun W (hb : Below w.heap.size w W) => apart_class B1 (some ⟨a2, q2, none⟩) (some ⟨a3, q3, none⟩) d1 d2 d3 m1 m m o y W (HO.out.keep (Keep.of hb)) HOO.out hyb.1 hyb.2)
      obtain ⟨kx, hkx⟩ : ∃ k, clsO d y = k := ⟨_, rfl⟩
      obtain ⟨ky, hky⟩ : ∃ k, clsO o y = k := ⟨_, rfl⟩
      rw [hkx] at HCX
      rw [hky] at HCY
      have HKX := Lib.hid hkx; have HKY := Lib.hid hky
      have HS : Hid ((wr.drew.cell? ⟨w.heap.size, 0, none⟩ = some (.slice A1 n1 c1) ∧ wr.drew.cell? ⟨w.heap.size, 1, none⟩ = some (.slice (some ⟨b2, o2, none⟩) n c2) ∧ wr.drew.cell? ⟨w.heap.size, 2, none⟩ = some (.slice (some ⟨b3, o3, none⟩) n c3)) ∧
          (wr.drew.cell? ⟨w.heap.size + 1, 0, none⟩ = some (.slice B1 m1 d1) ∧ wr.drew.cell? ⟨w.heap.size + 1, 1, none⟩ = some (.slice (some ⟨a2, q2, none⟩) m d2) ∧ wr.drew.cell? ⟨w.heap.size + 1, 2, none⟩ = some (.slice (some ⟨a3, q3, none⟩) m d3))) := Lib.hid ⟨⟨p0, p1, p2⟩, r0, r1, r2⟩
      have STW : Hid (∀ W, Two w W #[.slice A1 n1 c1, .slice (some ⟨b2, o2, none⟩) n c2, .slice (some ⟨b3, o3, none⟩) n c3] #[.slice B1 m1 d1, .slice (some ⟨a2, q2, none⟩) m d2, .slice (some ⟨a3, q3, none⟩) m d3] → (W.cell? ⟨w.heap.size, 0, none⟩ = some (.slice A1 n1 c1) ∧ W.cell? ⟨w.heap.size, 1, none⟩ = some (.slice (some ⟨b2, o2, none⟩) n c2) ∧ W.cell? ⟨w.heap.size, 2, none⟩ = some (.slice (some ⟨b3, o3, none⟩) n c3)) ∧
          (W.cell? ⟨w.heap.size + 1, 0, none⟩ = some (.slice B1 m1 d1) ∧ W.cell? ⟨w.heap.size + 1, 1, none⟩ = some (.slice (some ⟨a2, q2, none⟩) m d2) ∧ W.cell? ⟨w.heap.size + 1, 2, none⟩ = some (.slice (some ⟨a3, q3, none⟩) m d3))) := Lib.hid (fun W h => ⟨⟨h.a.cell 0, h.a.cell 1, h.a.cell 2⟩, h.b.cell 0, h.b.cell 1, h.b.cell 2⟩)
      have HXD := Lib.hid (ownsRow_drew HX.out); have HYD := Lib.hid (ownsRow_drew HY.out)
      have HVD := Lib.hid (OwnI.below HV.out (Below.refl _ _).drew)
      have HTD := Lib.hid (HT.out.next (Below.refl _ _).drew)
      have hMD : M ≤ wr.drew.heap.size := HMW.out
      have HVL : Hid (∀ g, (Value.slice (some ⟨G, 0, none⟩) na gc).ownBlock = some g → g < M) := Lib.hid (fun g hg => by simp [Value.ownBlock] at hg; omega)
      have Q1 : Hid (i + 1 ≤ maxLen) := Lib.hid (by simp only [maxLen]; omega)
      have Q2 : Hid ((i + 1) * 8 ≤ 140737488355328) := Lib.hid (by omega)
      clear hat hkx hky hyb HX HY HV HT HMW
      go_wp2
      refine wp_region_T 15 (fun W => (W.cell? ⟨w.heap.size, 0, none⟩ = some (.slice A1 n1 c1) ∧ W.cell? ⟨w.heap.size, 1, none⟩ = some (.slice (some ⟨b2, o2, none⟩) n c2) ∧ W.cell? ⟨w.heap.size, 2, none⟩ = some (.slice (some ⟨b3, o3, none⟩) n c3)) ∧
          (W.cell? ⟨w.heap.size + 1, 0, none⟩ = some (.slice B1 m1 d1) ∧ W.cell? ⟨w.heap.size + 1, 1, none⟩ = some (.slice (some ⟨a2, q2, none⟩) m d2) ∧ W.cell? ⟨w.heap.size + 1, 2, none⟩ = some (.slice (some ⟨a3, q3, none⟩) m d3))) (by kernel_rfl) ?_
      clear p0 p1 p2 r0 r1 r2 hNa hNb hbL cL
      generalize wr.drew = W at *
      refine wpAnyT_take (i := 0) (v := ?_) rfl (by kernel_rfl) (by kernel_rfl) (by kernel_rfl) (by kernel_rfl) (by kernel_rfl) (fun _ _ _ h => h) (.inl ⟨rfl, ?_⟩) HS.out ?_
      rotate_left
      · intro W__ hW__
        obtain ⟨⟨h1, h2, h3⟩, h4, h5, h6⟩ := hW__
        go_simp
        (try with_reducible rfl)
      try simp only [Act.put]
      refine wpAnyT_take (i := 1) (v := ?_) rfl (by kernel_rfl) (by kernel_rfl) (by kernel_rfl) (by kernel_rfl) (by kernel_rfl) (fun _ _ _ h => h) (.inl ⟨rfl, ?_⟩) HS.out ?_
      rotate_left
      · intro W__ hW__
        obtain ⟨⟨h1, h2, h3⟩, h4, h5, h6⟩ := hW__
        go_simp
        (try with_reducible rfl)
      try simp only [Act.put]
      refine wpAnyT_take (i := 2) (v := ?_) rfl (by kernel_rfl) (by kernel_rfl) (by kernel_rfl) (by kernel_rfl) (by kernel_rfl) (fun _ _ _ h => h) (.inl ⟨rfl, ?_⟩) HS.out ?_
      rotate_left
      · intro W__ hW__
        obtain ⟨⟨h1, h2, h3⟩, h4, h5, h6⟩ := hW__
        go_simp
        (try with_reducible rfl)
      try simp only [Act.put]
      refine wpAnyT_take (i := 3) (v := ?_) rfl (by kernel_rfl) (by kernel_rfl) (by kernel_rfl) (by kernel_rfl) (by kernel_rfl) (fun _ _ _ h => h) (.inl ⟨rfl, ?_⟩) HS.out ?_
      rotate_left
      · intro W__ hW__
        obtain ⟨⟨h1, h2, h3⟩, h4, h5, h6⟩ := hW__
        go_simp
        (try with_reducible rfl)
      try simp only [Act.put]
      refine wpAnyT_take (i := 7) (v := ?_) rfl (by kernel_rfl) (by kernel_rfl) (by kernel_rfl) (by kernel_rfl) (by kernel_rfl) (fun _ _ _ h => h) (.inl ⟨rfl, ?_⟩) HS.out ?_
      rotate_left
      · intro W__ hW__
        obtain ⟨⟨h1, h2, h3⟩, h4, h5, h6⟩ := hW__
        go_simp
        (try with_reducible rfl)
      try simp only [Act.put]
      refine wpAnyT_take (i := 8) (v := ?_) rfl (by kernel_rfl) (by kernel_rfl) (by kernel_rfl) (by kernel_rfl) (by kernel_rfl) (fun _ _ _ h => h) (.inl ⟨rfl, ?_⟩) HS.out ?_
      rotate_left
      · intro W__ hW__
        obtain ⟨⟨h1, h2, h3⟩, h4, h5, h6⟩ := hW__
        go_simp
        (try with_reducible rfl)
      try simp only [Act.put]
      refine wpAnyT_take (i := 9) (v := ?_) rfl (by kernel_rfl) (by kernel_rfl) (by kernel_rfl) (by kernel_rfl) (by kernel_rfl) (fun _ _ _ h => h) (.inl ⟨rfl, ?_⟩) HS.out ?_
      rotate_left
      · intro W__ hW__
        obtain ⟨⟨h1, h2, h3⟩, h4, h5, h6⟩ := hW__
        go_simp
        (try with_reducible rfl)
      try simp only [Act.put]
      refine wpAnyT_take (i := 10) (v := ?_) rfl (by kernel_rfl) (by kernel_rfl) (by kernel_rfl) (by kernel_rfl) (by kernel_rfl) (fun _ _ _ h => h) (.inl ⟨rfl, ?_⟩) HS.out ?_
      rotate_left
      · intro W__ hW__
        obtain ⟨⟨h1, h2, h3⟩, h4, h5, h6⟩ := hW__
        go_simp
        (try with_reducible rfl)
      try simp only [Act.put]
      refine wpAnyT_one (i := 4) rfl (by kernel_rfl) rfl fun K__ hK__ => ?_
      unfold Oper.wp
      go_simp
      refine (HCX.out W HTD.out.be).mono ?_
      rintro e w6 ⟨rfl, hbx⟩
      have HSZ6 := Lib.hid (Nat.le_trans hMD hbx.size)
      have HX6 := Lib.hid (ownsRow_below HXD.out hbx); have HY6 := Lib.hid (ownsRow_below HYD.out hbx)
      have HV6 := Lib.hid (OwnI.below HVD.out hbx); have HT6 := Lib.hid (HTD.out.next hbx)
      refine hK__ _ _ (STW.out _ HT6.out) ?_
      clear hK__ hbx
      try simp only [Act.put]
      refine wpAnyT_one (i := 5) rfl (by kernel_rfl) rfl fun K__ hK__ => ?_
      unfold Oper.wp
      go_simp
      have ba := (Below.refl w6.heap.size w6).alloc (Nat.le_refl _) (.cells #[.int .i64 (kx : Int)] TLI)
      have HSZ7 : Hid (M ≤ (w6.alloc (.cells #[.int .i64 (kx : Int)] TLI)).heap.size) := Lib.hid (by have := HSZ6.out; simp; omega)
      have SR7 := Lib.hid (Pv.Src.one (w := w6) (x := .int .i64 (kx : Int)) (t := TLI) rfl)
      have HX7 := Lib.hid (ownsRow_below HX6.out ba); have HY7 := Lib.hid (ownsRow_below HY6.out ba)
      have HV7 := Lib.hid (OwnI.below HV6.out ba); have HT7 := Lib.hid (HT6.out.next ba)
      refine hK__ _ _ (STW.out _ HT7.out) ?_
      clear hK__ ba
      try simp only [Act.put]
      have hM7 : M ≤ (w6.alloc (.cells #[.int .i64 (kx : Int)] TLI)).heap.size := by have := HT7.out.be.size; have := HSZ7.out; omega
      refine wpAnyT_one (i := 6) rfl (by kernel_rfl) rfl fun K__ hK__ => ?_
      refine wp_append_src _ (.tmp 49) (.tmp 54) 22 rfl M TLI i0 (.int .i64 0) 1 8 Tryz.underlying22 hi0 hz0 hs0 hb0 rfl (by decide) XA xc i _ (by simp [Act.eval]) HX7.out _ 1 1 _ (by simp [Act.eval]) SR7.out Q1.out Q2.out hM7 ?_
      intro A9 c9 w8 own9 gr9 hn9
      have HX8 := Lib.hid own9
      have HY8 := Lib.hid (HY7.out.kept gr9 HNE.out)
      have HN8 := Lib.hid (off_new (v := .slice YA i yc) (s := (Value.slice A9 (i + 1) c9).ownBlock) HNE.out (fun k hk => (HY7.out.lt k hk).2) hn9)
      have HV8 := Lib.hid (OwnI.grown HV7.out gr9 (off_lt HX7.out HVL.out))
      have HT8 := Lib.hid (HT7.out.grown HX7.out (by decide) gr9 HWM.out)
      have hM8 : M ≤ w8.heap.size := Nat.le_trans hM7 gr9.size
      refine hK__ _ _ (STW.out _ HT8.out) ?_
      clear hK__ own9 gr9 hn9
      try simp only [Act.put]
      refine wpAnyT_one (i := 11) rfl (by kernel_rfl) rfl fun K__ hK__ => ?_
      unfold Oper.wp
      go_simp
      refine (HCY.out w8 HT8.out.be).mono ?_
      rintro e w9 ⟨rfl, hbx⟩
      have HSZ9 := Lib.hid (Nat.le_trans hM8 hbx.size)
      have HX9 := Lib.hid (ownsRow_below HX8.out hbx); have HY9 := Lib.hid (ownsRow_below HY8.out hbx)
      have HV9 := Lib.hid (OwnI.below HV8.out hbx); have HT9 := Lib.hid (HT8.out.next hbx)
      refine hK__ _ _ (STW.out _ HT9.out) ?_
      clear hK__ hbx
      try simp only [Act.put]
      refine wpAnyT_one (i := 12) rfl (by kernel_rfl) rfl fun K__ hK__ => ?_
      unfold Oper.wp
      go_simp
      have ba := (Below.refl w9.heap.size w9).alloc (Nat.le_refl _) (.cells #[.int .i64 (ky : Int)] TLI)
      have HSZ10 : Hid (M ≤ (w9.alloc (.cells #[.int .i64 (ky : Int)] TLI)).heap.size) := Lib.hid (by have := HSZ9.out; simp; omega)
      have SR10 := Lib.hid (Pv.Src.one (w := w9) (x := .int .i64 (ky : Int)) (t := TLI) rfl)
      have HX10 := Lib.hid (ownsRow_below HX9.out ba); have HY10 := Lib.hid (ownsRow_below HY9.out ba)
      have HV10 := Lib.hid (OwnI.below HV9.out ba); have HT10 := Lib.hid (HT9.out.next ba)
      refine hK__ _ _ (STW.out _ HT10.out) ?_
      clear hK__ ba
      try simp only [Act.put]
      have hM10 : M ≤ (w9.alloc (.cells #[.int .i64 (ky : Int)] TLI)).heap.size := by have := HSZ10.out; omega
      refine wpAnyT_one (i := 13) rfl (by kernel_rfl) rfl fun K__ hK__ => ?_
      refine wp_append_src _ (.tmp 56) (.tmp 61) 22 rfl M TLI i0 (.int .i64 0) 1 8 Tryz.underlying22 hi0 hz0 hs0 hb0 rfl (by decide) YA yc i _ (by simp [Act.eval]) HY10.out _ 1 1 _ (by simp [Act.eval]) SR10.out Q1.out Q2.out hM10 ?_
      intro A11 c11 w11 own11 gr11 hn11
      have HY11 := Lib.hid own11
      have HX11 := Lib.hid (HX10.out.kept gr11 (off_symm HN8.out))
      have HN11 := Lib.hid (off_symm (off_new (v := .slice A9 (i + 1) c9) (s := (Value.slice A11 (i + 1) c11).ownBlock) (off_symm HN8.out) (fun k hk => (HX10.out.lt k hk).2) hn11))
      have HV11 := Lib.hid (OwnI.grown HV10.out gr11 (off_lt HY10.out HVL.out))
      have HT11 := Lib.hid (HT10.out.grown HY10.out (by decide) gr11 HWM.out)
      have HM11 := Lib.hid (show M ≤ w11.heap.size from Nat.le_trans hM10 gr11.size)
      refine hK__ _ _ (STW.out _ HT11.out) ?_
      clear hK__ own11 gr11 hn11
      try simp only [Act.put]
      have HS11 := Lib.hid (STW.out _ HT11.out)
      refine wpAnyT_take (i := 14) (v := ?_) rfl (by kernel_rfl) (by kernel_rfl) (by kernel_rfl) (by kernel_rfl) (by kernel_rfl) (fun _ _ _ h => h) (.inl ⟨rfl, ?_⟩) HS11.out ?_
      rotate_left
      · intro W__ hW__
        obtain ⟨⟨h1, h2, h3⟩, h4, h5, h6⟩ := hW__
        go_simp
        (try with_reducible rfl)
      try simp only [Act.put]
      refine wpAnyT_end (i := 15) rfl (by kernel_rfl) rfl (by kernel_rfl) fun K__ hK__ => ?_
      unfold Oper.wp
      go_simp
      refine hK__ _ _ ?_
      clear hK__
      refine wpAnyT_done (by kernel_rfl) ?_ _
      clear hM7 hM8 hM10 hMD
      go_wp2
      go_roundw
      case rel => exact ⟨i + 1, c9, c11, A9, A11, by go_num, rfl, rfl, by omega, Lib.hid (by have e : (numI ((L.take (i + 1)).map (clsO d))).map (Value.int .i64) = (numI ((L.take i).map (clsO d))).map (Value.int .i64) ++ [.int .i64 (kx : Int)] := by { rw [take_snoc HYL.out]; simp [HKX.out] }; rw [e]; exact HX11.out), Lib.hid (by have e : (numI ((L.take (i + 1)).map (clsO o))).map (Value.int .i64) = (numI ((L.take i).map (clsO o))).map (Value.int .i64) ++ [.int .i64 (ky : Int)] := by { rw [take_snoc HYL.out]; simp [HKY.out] }; rw [e]; exact HY11.out), HN11, HV11, HT11, HM11⟩
      case measure => simp [intOf]; omega
    · obtain rfl : na = i := by omega
      have HTK : Hid (L.take na = L) := Lib.hid (List.take_of_length_le (by rw [HNA.out]; exact Nat.le_refl _))
      rw [HTK.out] at HX HY
      have hmm := @run_makeMap Tryz.prog
      have b1 := (Below.refl wr.heap.size wr).alloc (Nat.le_refl _) (.cells #[.int .i64 0, .int .i64 0, .int .i64 (-1), .int .i64 0] TWay)
      have e1 : (wr.alloc (.cells #[.int .i64 0, .int .i64 0, .int .i64 (-1), .int .i64 0] TWay)).heap.size = wr.heap.size + 1 := by simp
      have b2' := b1.alloc (by rw [e1]; omega) (.map #[] 0)
      have M0 := MapQ.nil (enc := encB) (ok := okB) (val := fun _ => 1) (wr.alloc (.cells #[.int .i64 0, .int .i64 0, .int .i64 (-1), .int .i64 0] TWay))
      rw [e1] at M0
      obtain ⟨W', hput, hM', f1, f2, f3, f4, hblk⟩ := MapQ.put keyB Tryz.underlying107 M0 (x := (0, 0)) ⟨by simp, by simp⟩ (by simp) (v := 1) rfl
      have b3' : Below wr.heap.size wr W' := b2'.trans ⟨f1, f2, f3, by rw [f4]; exact Nat.le_refl _, fun g hg => hblk g (by omega)⟩
      have HM1 := Lib.hid hM'
      have hput2 : (Instr.mapUpdate 107 (.map (some (wr.heap.size + 1))) (.agg #[.int .i64 0, .int .i64 0]) (.int .i64 1)).run Tryz.prog ((wr.alloc (.cells #[.int .i64 0, .int .i64 0, .int .i64 (-1), .int .i64 0] TWay)).alloc (.map #[] 0)) = .ok () W' := hput
      have HQ0 : Hid (Ws W' M (.slice (some ⟨wr.heap.size, 0, none⟩) 1 1) [⟨0, 0, -1, 0⟩]) := Lib.hid (Ws.of_block (hblk wr.heap.size (by omega)) (Ws.one HMW.out) (Below.heap_alloc _ (.map #[] 0) _ (by rw [e1]; omega)))
      have HX1 := Lib.hid (ownsRow_below HX.out b3'); have HY1 := Lib.hid (ownsRow_below HY.out b3')
      have HV1 := Lib.hid (OwnI.below HV.out b3'); have HT1 := Lib.hid (HT.out.next b3')
      have HMW1 := Lib.hid (Nat.le_trans HMW.out b3'.size)
      have HGE : Hid (M ≤ wr.heap.size + 1) := Lib.hid (by have := HMW.out; omega)
      clear p0 p1 p2 r0 r1 r2 hNa hNb hat e1 b1 b2' b3' M0 hM' f1 f2 f3 f4 hblk HX HY HV HT HMW HNE
      have HE0 : Hid (ApE w W' M G na gc xc yc XA YA L (numI (L.map (clsO d))) (numI (L.map (clsO o))) #[.slice A1 n1 c1, .slice (some ⟨b2, o2, none⟩) n c2, .slice (some ⟨b3, o3, none⟩) n c3] #[.slice B1 m1 d1, .slice (some ⟨a2, q2, none⟩) m d2, .slice (some ⟨a3, q3, none⟩) m d3]) := Lib.hid ⟨HX1.out, HY1.out, HV1.out, HT1.out, HWM.out⟩
      clear hput HX1 HY1 HV1 HT1
      go_wp2
      clear hput2
      obtain ⟨F, hF⟩ : ∃ F, n * m = F := ⟨_, rfl⟩
      have HF0 := Lib.hid hF
      have hF2 : F ≤ 4096 := by rw [← hF]; exact Nat.mul_le_mul hn hm
      obtain ⟨R, hR⟩ : ∃ R, wordD d o = R := ⟨_, rfl⟩
      have HRR := Lib.hid hR
      have HRE0 : Hid (wordF d o L (F + 1) 0 [⟨0, 0, []⟩] = R) := Lib.hid (by rw [← hR, wordD, HL.out, HNN.out, HMN.out, hF])
      clear hF hR
      generalize wr.heap.size + 1 = mb at *
      obtain ⟨i9, hi9, hz9, hs9, hb9⟩ := info_parts info_way
      go_loopw [17, 15, 4] (fun iv qv wv W => ∃ (i k qc : Nat) (Q : Option Addr) (ws : List Wy) (l : List Pr), iv = .int .i64 i ∧ qv = .slice Q k qc ∧ wv = .slice none 0 0 ∧ i ≤ k ∧ k ≤ F ∧ Hid (l.length = k) ∧ Hid (ws.length = k) ∧ Hid (PrOk d o l) ∧ Hid (wordF d o L (F + 1 - i) i l = R) ∧ Hid (WOk l) ∧ Hid (WyOk ws l) ∧ Hid (Ws W M (.slice Q k qc) ws) ∧
        Hid (MapQ encB okB (fun _ => 1) W mb (l.map fun x => (x.a, x.b))) ∧ Hid (ApE w W M G na gc xc yc XA YA L (numI (L.map (clsO d))) (numI (L.map (clsO o))) #[.slice A1 n1 c1, .slice (some ⟨b2, o2, none⟩) n c2, .slice (some ⟨b3, o3, none⟩) n c3] #[.slice B1 m1 d1, .slice (some ⟨a2, q2, none⟩) m d2, .slice (some ⟨a3, q3, none⟩) m d3])) (fun iv _ _ _ => F + 1 - (intOf iv).toNat)
      case atStart => exact ⟨0, 1, 1, _, _, _, rfl, rfl, rfl, by omega, by rw [← HF0.out]; exact Nat.mul_le_mul hn1 hm1', Lib.hid rfl, Lib.hid rfl, Lib.hid (PrOk.one HOK.out HOO.out), HRE0, Lib.hid (by intro x hx; simp at hx; subst hx; simp), Lib.hid WyOk.one, HQ0, HM1, HE0⟩
      case round =>
        clear HE0 HM1 HQ0 HRE0
        obtain ⟨i, k, qc, Q, ws, l, rfl, rfl, rfl, hik, hkF, HKL, HKW, HPO, HRE, HWO, HWY, HQS, HMP, HE⟩ := hrel
        have i1 : (0 : Int) ≤ (i : Int) := by omega
        obtain ⟨p0, p1, p2, _, _, _⟩ := Blk.three HE.out.t.a
        obtain ⟨r0, r1, r2, _, _, _⟩ := Blk.three HE.out.t.b
        have hNa := HE.out.t.a.lt; have hNb := HE.out.t.b.lt
        by_cases hlt : i < k
        · have i2 : (i : Int) < (k : Int) := by omega
          obtain ⟨bq, oq, ⟨xa, xb, xf, xv⟩, eQ, hbq, ⟨x0, x1, x2, x3⟩, HX, hkc⟩ := HQS.out.gt HKW (by omega) hlt
          subst eQ
          obtain ⟨⟨pa, pb', xw⟩, HPX⟩ : ∃ x, Hid (l[i]? = some x) := ⟨_, Lib.hid (List.getElem?_eq_getElem (by rw [HKL.out]; exact hlt))⟩
          have hwy := HWY.out.2 i _ _ HX.out HPX.out
          obtain ⟨rfl, rfl, hwy3⟩ : xa = pa ∧ xb = pb' ∧ _ := hwy
          have HW3 := Lib.hid hwy3
          have hpr := HPO.out.lt _ (mem_of_get HPX.out)
          have hxa : xa < n := by rw [← HNN.out]; exact hpr.1
          have hxb : xb < m := by rw [← HMN.out]; exact hpr.2
          have HXQ : Hid (xw.length ≤ 4096) := Lib.hid (by have h1 := HWO.out _ (mem_of_get HPX.out); rw [HKL.out] at h1; simp only at h1; omega)
          have y1 := ((Keep.of HE.out.t.be).cell _ _ hb3).trans (HA.out xa hxa)
          have y2 := ((Keep.of HE.out.t.be).cell _ _ ha3).trans (HA'.out xb hxb)
          have l3 : b3 < wr.heap.size := World.block_lt_of_cell? _ _ y1
          have l3' : a3 < wr.heap.size := World.block_lt_of_cell? _ _ y2
          have a0 : (0 : Int) ≤ (xa : Int) := by omega
          have a1 : (xa : Int) < (n : Int) := by omega
          have a0' : (0 : Int) ≤ (xb : Int) := by omega
          have a1' : (xb : Int) < (m : Int) := by omega
          obtain ⟨pb, hpb⟩ : ∃ pb, d.acc xa = pb := ⟨_, rfl⟩
          rw [hpb] at y1
          have b9 := (Below.refl wr.heap.size wr).alloc (Nat.le_refl _) (.cells #[.int .i64 xa, .int .i64 xb, .int .i64 xf, .int .i64 xv] TWay)
          have HQ9 := Lib.hid (fun nq => (OwnK.below HQS.out b9).below (below_drewN (Below.refl _ _) nq))
          have HM9 := Lib.hid (fun nq => (HMP.out.below b9).below (below_drewN (Below.refl _ _) nq))
          have HE9 := Lib.hid (fun nq => (HE.out.next b9).next (below_drewN (Below.refl _ _) nq))
          have HX9 := Lib.hid (fun nq => (Blk.new wr TWay #[.int .i64 xa, .int .i64 xb, .int .i64 xf, .int .i64 xv]).drewN nq)
          have HNQ : Hid ((Value.slice (some ⟨bq, oq, none⟩) k qc).ownBlock ≠ some wr.heap.size) := Lib.hid (fun e => by have := (HQS.out.lt e).2; omega)
          by_cases hab : o.acc xb = pb
          case neg =>
            have hrb : o.acc xb = !pb := by cases pb <;> simpa using hab
            rw [hrb] at y2
            have HW : Hid (R = some xw) := Lib.hid (by
              rw [← HRE.out, show F + 1 - i = (F - i) + 1 by omega]
              exact wordF_word HPX.out (fun e => hab (by rw [← hpb]; exact e.symm)))
            clear hpr hpb hab hrb hwy3 b9
            go_wp2
            go_quiet (fail)
            go_wp2
            obtain ⟨W9, hW9⟩ : ∃ W9, W9 = (wr.alloc (.cells #[.int .i64 xa, .int .i64 xb, .int .i64 xf, .int .i64 xv] TWay)).drewN nq := ⟨_, rfl⟩
            have HQb := Lib.hid (HQ9.out nq); have HEb := Lib.hid (HE9.out nq)
            rw [← hW9] at HQb HEb
            rw [← hW9]
            have HBb : Hid (Below w.heap.size w W9 ∧ M ≤ W9.heap.size) := Lib.hid ⟨HEb.out.t.be, Nat.le_of_lt (by have := (Ws.lt HQb.out (g := bq) rfl); omega)⟩
            clear hW9 HQ9 HM9 HE9 HX9 p0 p1 p2 r0 r1 r2 hNa hNb x0 x1 x2 x3 y1 y2 l3 l3' hbq HE HMP HQS HNQ
            go_loopw [19, 4] (fun kv wv W => ∃ (j q rc : Nat) (Rw : Option Addr) (rw : List Int), kv = .int .i64 j ∧ wv = .slice Rw q rc ∧ j ≤ i ∧ Hid (rw.length = q) ∧ Hid (∃ p, l[j]? = some p ∧ p.w ++ rw.reverse = xw) ∧ Hid (W.ownsRow M TLI 1 (.slice Rw q rc) q (rw.map (Value.int .i64))) ∧ Hid (Ws W M (.slice (some ⟨bq, oq, none⟩) k qc) ws) ∧ Hid (Below w.heap.size w W ∧ M ≤ W.heap.size)) (fun kv _ _ => (intOf kv).toNat)
            case atStart => exact ⟨i, 0, 0, none, [], rfl, rfl, Nat.le_refl _, Lib.hid rfl, Lib.hid ⟨_, HPX.out, by simp⟩, Lib.hid (World.ownsRow_nil _ _ _ _), HQb, HBb⟩
            case round =>
              clear HQb HEb HBb
              obtain ⟨j, q, rc, Rw, rw', rfl, rfl, hji, HQL, HPJ, HO, HQS, HB⟩ := hrel
              have j1 : (0 : Int) ≤ (j : Int) := by omega
              have j2 : (j : Int) < (k : Int) := by omega
              obtain ⟨bz, oz, ⟨za, zb, zf, zv⟩, eQ, hbz, ⟨z0, z1, z2, z3⟩, HZ, _⟩ := HQS.out.gt HKW (by omega) (show j < k by omega)
              injection eQ with eQ
              injection eQ with eQ1 eQ2
              subst eQ1; subst eQ2
              obtain ⟨pj, hpj, hpw⟩ := HPJ.out
              obtain ⟨_, _, hwz⟩ := HWY.out.2 j _ _ HZ.out hpj
              have hql : q ≤ 4096 := by
                have h1 := congrArg List.length hpw
                rw [List.length_append, List.length_reverse, HQL.out] at h1
                have := HXQ.out
                omega
              rcases hwz with ⟨hj0, hf, hw0⟩ | ⟨f, pf, hfj, hf, hpf, hwf⟩
              · have HRV : Hid (rw'.reverse = xw) := Lib.hid (by rw [← hpw, hw0]; rfl)
                simp only at hf
                subst hf
                clear hj0 hw0 hpw hpj z0 z1 z3
                rcases HO.out.2 with ⟨hv0, hq0⟩ | ⟨g, cap, cur, hv0, hg, _⟩
                · injection hv0 with e1 e2 e3
                  subst e1; subst e2; subst e3
                  have hx0 : xw = [] := by rw [← HRV.out, List.eq_nil_of_length_eq_zero HQL.out]; rfl
                  have HX0 := Lib.hid hx0
                  have HRX := Lib.hid (reverse0 wr)
                  clear hq0 hx0
                  go_wp2_with fail
                  refine HRX.out.mono ?_
                  rintro e w7 ⟨rfl, rfl⟩
                  go_wp2
                  exact bodyPost_ret (v := .tuple #[.slice none 0 0, .bool true, .int .i64 0]) (by simp [results, Tryz.results21, go_sem]) rfl ⟨.slice none 0 0, by rw [HAW.out.1, HAW.out.2, HRR.out, HW.out]; rfl, by rw [HAW.out.1, HRR.out, HW.out, HX0.out]; exact OwnI.nil _ _, HB.out.1⟩
                · injection hv0 with e1 e2 e3
                  subst e1; subst e3
                  have HRX := Lib.hid (reverseO HO.out HQL)
                  have HGM := Lib.hid hg
                  clear hg
                  go_wp2_with fail
                  refine HRX.out.mono ?_
                  rintro e w7 ⟨rfl, own7, gr7⟩
                  have HB7 := Lib.hid (HB.out.1.grown gr7 HB.out.1.size (fun b hb => by injection hb with hb; have := HGM.out; have := HWM.out; omega))
                  have HO7 := Lib.hid own7
                  clear own7 gr7
                  go_wp2
                  exact bodyPost_ret (v := .tuple #[.slice (some ⟨g, 0, none⟩) q rc, .bool true, .int .i64 0]) (by simp [results, Tryz.results21, go_sem]) rfl ⟨_, by rw [HAW.out.1, HAW.out.2, HRR.out, HW.out]; rfl, by
                    rw [HAW.out.1, HRR.out, HW.out]
                    show OwnI _ _ _ xw
                    refine OwnI.lower (b := M) ⟨some ⟨g, 0, none⟩, rc, ?_, ?_⟩ HWM.out
                    · rw [← HRV.out]; simp [HQL.out]
                    · show World.ownsRow _ _ _ _ _ xw.length (xw.map _)
                      rw [show xw.length = q by rw [← HRV.out, List.length_reverse]; exact HQL.out, ← HRV.out]; exact HO7.out, HB7.out⟩
              · simp only at hf hwf
                subst hf
                have f0 : (0 : Int) ≤ (f : Int) := by omega
                have HPF : Hid (∃ p, l[f]? = some p ∧ p.w ++ (rw' ++ [zv]).reverse = xw) := Lib.hid ⟨pf, hpf, by rw [← hpw, hwf]; simp⟩
                have OWA := Lib.hid (HO.out.alloc (.cells #[.int .i64 zv] TLI))
                have SRA := Lib.hid (Pv.Src.one (w := wr) (x := .int .i64 zv) (t := TLI) rfl)
                have Q1 : Hid (q + 1 ≤ maxLen) := Lib.hid (by simp only [maxLen]; omega)
                have Q2 : Hid ((q + 1) * 8 ≤ 140737488355328) := Lib.hid (by omega)
                have hMw := HB.out.2
                have Z1 : Hid (M ≤ (wr.alloc (.cells #[.int .i64 zv] TLI)).heap.size) := Lib.hid (by simp; omega)
                have HWA := Lib.hid (OwnK.alloc HQS.out (.cells #[.int .i64 zv] TLI))
                have HBA := Lib.hid (HB.out.1.alloc HB.out.1.size (.cells #[.int .i64 zv] TLI))
                clear hpw hwf hpf hpj
                go_wp2_with (first
                | (at_builtin
                   go_must (refine wpList_append_src _ rfl (.tmp 106) (.tmp 112) 22 rfl M TLI i0 (.int .i64 0) 1 8 Tryz.underlying22 hi0 hz0 hs0 hb0 rfl (by decide) Rw rc q _ rfl OWA.out _ 1 1 _ rfl SRA.out Q1.out Q2.out Z1.out ?_)
                   intro A9 c9 w9 own9 gr9 _
                   have HO9 := Lib.hid own9
                   have hq9 := OwnK.grown HWA.out OWA.out (by decide) gr9
                   have HQ9 := Lib.hid hq9
                   have HB9 := Lib.hid (show Below w.heap.size w w9 ∧ M ≤ w9.heap.size from ⟨HBA.out.grown gr9 HBA.out.size (fun g hg => by have := (OWA.out.lt g hg).1; have := HWM.out; omega), Nat.le_trans Z1.out gr9.size⟩)
                   obtain ⟨bz', oz', ⟨ya, yb, yf, yv⟩, eQ', hbz', ⟨t0, t1, t2, t3⟩, HZ', _⟩ := Ws.gt hq9 HKW (by omega) (show j < k by omega)
                   injection eQ' with eQ'
                   injection eQ' with eQ1' eQ2'
                   subst eQ1'; subst eQ2'
                   obtain ⟨rfl, rfl, rfl, rfl⟩ : za = ya ∧ zb = yb ∧ (f : Int) = yf ∧ zv = yv := by have := HZ.out.symm.trans HZ'.out; simpa using this
                   clear own9 gr9 hq9))
                go_roundw
                case rel => exact ⟨f, q + 1, c9, A9, rw' ++ [zv], rfl, rfl, by omega, Lib.hid (by rw [List.length_append, HQL.out]; rfl), HPF, Lib.hid (by rw [List.map_append]; exact HO9.out), HQ9, HB9⟩
                case measure => simp [intOf]; omega
          rw [hab] at y2
          have HRE2 : Hid (wordF d o L (F - i) (i + 1) (rowP d o ⟨xa, xb, xw⟩ l L) = R) := Lib.hid (by
            rw [← HRE.out, show F + 1 - i = (F - i) + 1 by omega]
            exact (wordF_row HPX.out (by show d.acc xa = o.acc xb; rw [hpb]; exact hab.symm)).symm)
          have HWO2 : Hid (WOk (rowP d o ⟨xa, xb, xw⟩ l L)) := Lib.hid (HWO.out.row L (HWO.out _ (mem_of_get HPX.out)))
          clear hpr hpb hab hwy3 b9
          go_wp2
          go_quiet (fail)
          go_wp2
          clear p0 p1 p2 r0 r1 r2 hNa hNb x0 x1 x2 x3 y1 y2 l3 l3' hbq
          have HQ10 := Lib.hid (HQ9.out nq); have HM10 := Lib.hid (HM9.out nq); have HE10 := Lib.hid (HE9.out nq); have HX10 := Lib.hid (HX9.out nq)
          have HXM := Lib.hid (show M ≤ wr.heap.size from Nat.le_of_lt (by have := (Ws.lt HQS.out (g := bq) rfl); omega))
          clear HQ9 HM9 HE9 HX9 HE HMP HQS
          generalize wr.heap.size = X at *
          go_loopw [119, 15] (fun pv qv W => ∃ (p k qc : Nat) (Q : Option Addr) (ws : List Wy), pv = .int .i64 p ∧ qv = .slice Q k qc ∧ p ≤ na ∧ i < k ∧ k ≤ F ∧ Hid ((rowP d o ⟨xa, xb, xw⟩ l (L.take p)).length = k) ∧ Hid (ws.length = k) ∧ Hid (PrOk d o (rowP d o ⟨xa, xb, xw⟩ l (L.take p))) ∧ Hid (WyOk ws (rowP d o ⟨xa, xb, xw⟩ l (L.take p))) ∧ Hid (Ws W M (.slice Q k qc) ws) ∧ Hid ((Value.slice Q k qc).ownBlock ≠ some X) ∧
            Hid (MapQ encB okB (fun _ => 1) W mb ((rowP d o ⟨xa, xb, xw⟩ l (L.take p)).map fun x => (x.a, x.b))) ∧ Hid (ApE w W M G na gc xc yc XA YA L (numI (L.map (clsO d))) (numI (L.map (clsO o))) #[.slice A1 n1 c1, .slice (some ⟨b2, o2, none⟩) n c2, .slice (some ⟨b3, o3, none⟩) n c3] #[.slice B1 m1 d1, .slice (some ⟨a2, q2, none⟩) m d2, .slice (some ⟨a3, q3, none⟩) m d3]) ∧ Hid (Blk W X TWay #[.int .i64 xa, .int .i64 xb, .int .i64 xf, .int .i64 xv])) (fun pv _ _ => na - (intOf pv).toNat)
          case atStart => exact ⟨0, k, qc, _, ws, rfl, rfl, by omega, hlt, hkF, HKL, HKW, HPO, HWY, HQ10, HNQ, HM10, HE10, HX10⟩
          case round =>
            clear HQ10 HNQ HM10 HE10 HX10 HWY HPO HKL HKW hik hkF hlt i2 HRE HX
            obtain ⟨p, k, qc, Q, ws, rfl, rfl, hpa, hik, hkF, HKL, HKW, HPO, HWY, HQS, HNQ, HMP, HE, HXB⟩ := hrel
            have i3 : (0 : Int) ≤ (p : Int) := by omega
            have hGn : G < M := hGl
            have hMw : M ≤ wr.heap.size := by have := HXM.out; have := HXB.out.lt; omega
            by_cases hpl : p < na
            · have i4 : (p : Int) < (na : Int) := by omega
              obtain ⟨bL, oL, uL, y, eL, hbL, cL, ⟨rfl, _, _⟩, HY⟩ := (OwnI.atL HE.out.v HLB2.out HNA (by omega)).gt HNA hpl
              injection eL with eL
              injection eL with eL1 eL2
              subst eL1; subst eL2
              rw [Nat.zero_add] at cL
              have hkx : clsO d y < n1 := by have h := lastLe_lt d.cuts y d.cuts.length (by rw [HNC.out]; omega); rw [HNC.out] at h; unfold clsO; rw [HNC.out]; exact h
              have hky : clsO o y < m1 := by have h := lastLe_lt o.cuts y o.cuts.length (by have := HOO.out.c1; omega); rw [HMC.out] at h; unfold clsO; rw [HMC.out]; exact h
              have hlx : (L.map (clsO d)).length = na := by rw [List.length_map]; exact HNA.out
              have hly : (L.map (clsO o)).length = na := by rw [List.length_map]; exact HNA.out
              have clt : ∀ (e : Dfa), e.Ok → ∀ s, s ∈ L.map (clsO e) → s < 256 := fun e he s hs => by
                obtain ⟨z, _, rfl⟩ := List.mem_map.1 hs
                have h1 := lastLe_lt e.cuts z e.cuts.length he.c1
                have h2 := he.c2
                unfold clsO
                omega
              obtain ⟨hax, _⟩ := own_states HE.out.x (clt d HOK.out) (by omega) hlx (by omega)
              obtain ⟨hay, _⟩ := own_states HE.out.y (clt o HOO.out) (by omega) hly (by omega)
              obtain ⟨bx, ox, ux, x', eX, hbx, cX, ⟨rfl, _, _⟩, HXX⟩ := hax.gt (n := na) (Lib.hid (by simp; exact HNA.out)) hpl
              obtain ⟨by1, oy, uy, y', eY, hby, cY, ⟨rfl, _, _⟩, HYY⟩ := hay.gt (n := na) (Lib.hid (by simp; exact HNA.out)) hpl
              have hx' : x' = (clsO d y : Int) := by
                have h1 := HXX.out
                rw [List.getElem?_map, List.getElem?_map, HY.out] at h1
                exact (Option.some.inj h1).symm
              have hy' : y' = (clsO o y : Int) := by
                have h1 := HYY.out
                rw [List.getElem?_map, List.getElem?_map, HY.out] at h1
                exact (Option.some.inj h1).symm
              subst hx'; subst hy'
              obtain ⟨rb, ro, rc, hrb, k1, k2⟩ := HR.out xa hxa
              obtain ⟨k3, k4⟩ := k2 (clsO d y) hkx
              obtain ⟨rb', ro', rc', hrb', k5, k6⟩ := HR'.out xb hxb
              obtain ⟨k7, k8⟩ := k6 (clsO o y) hky
              have kw := fun b o v (h : w.cell? ⟨b, o, none⟩ = some v) => ((Keep.of HE.out.t.be).cell b o (World.block_lt_of_cell? _ _ h)).trans h
              have k1 := kw _ _ _ k1; have k3 := kw _ _ _ k3; have k5 := kw _ _ _ k5; have k7 := kw _ _ _ k7
              obtain ⟨ya, hya⟩ : ∃ ya, d.go xa (clsO d y) = ya := ⟨_, rfl⟩
              obtain ⟨yb, hyb⟩ : ∃ yb, o.go xb (clsO o y) = yb := ⟨_, rfl⟩
              rw [hya] at k3 k4
              rw [hyb] at k7 k8
              have HYA := Lib.hid (show d.step xa y = ya from hya); have HYB := Lib.hid (show o.step xb y = yb from hyb)
              obtain ⟨kx, hkx'⟩ : ∃ kx, clsO d y = kx := ⟨_, rfl⟩
              obtain ⟨ky, hky'⟩ : ∃ ky, clsO o y = ky := ⟨_, rfl⟩
              rw [hkx'] at cX k3 hkx
              rw [hky'] at cY k7 hky
              have f1 : (0 : Int) ≤ (kx : Int) := by omega
              have f2 : (kx : Int) < (n1 : Int) := by omega
              have f3 : (0 : Int) ≤ (ky : Int) := by omega
              have f4 : (ky : Int) < (m1 : Int) := by omega
              have HYL := Lib.hid (show ya < n ∧ yb < m from ⟨k4, k8⟩)
              subst eX; subst eY
              have HSN : Hid (rowP d o ⟨xa, xb, xw⟩ l (L.take (p + 1)) = addP (rowP d o ⟨xa, xb, xw⟩ l (L.take p)) ⟨ya, yb, xw ++ [y]⟩) := Lib.hid (by
                rw [take_snoc HY.out, rowP_snoc]
                show addP _ (nxtPr d o ⟨xa, xb, xw⟩ y) = _
                unfold nxtPr
                rw [← HYA.out, ← HYB.out])
              obtain ⟨lp, hlp⟩ : ∃ lp, (rowP d o ⟨xa, xb, xw⟩ l (L.take p)) = lp := ⟨_, rfl⟩
              rw [hlp] at HKL HPO HWY HMP HSN
              have HLP := Lib.hid hlp
              have HPI : Hid (lp[i]? = some ⟨xa, xb, xw⟩) := Lib.hid (by rw [← hlp]; exact rowP_get HPX.out _)
              obtain ⟨p0, p1, p2, _, _, _⟩ := Blk.three HE.out.t.a
              obtain ⟨r0, r1, r2, _, _, _⟩ := Blk.three HE.out.t.b
              have hNa := HE.out.t.a.lt; have hNb := HE.out.t.b.lt
              have bz : Below wr.heap.size wr (wr.alloc (.cells #[.int .i64 ya, .int .i64 yb] TBoth)).drew := ((Below.refl wr.heap.size wr).alloc (Nat.le_refl _) (.cells #[.int .i64 ya, .int .i64 yb] TBoth)).drew
              have HZ0 := Lib.hid ((Blk.new wr TBoth #[.int .i64 ya, .int .i64 yb]).below (Below.refl _ _).drew (Blk.new wr TBoth #[.int .i64 ya, .int .i64 yb]).lt)
              have HE2 := Lib.hid (HE.out.next bz); have HM2 := Lib.hid (HMP.out.below bz); have HQ2 := Lib.hid (OwnK.below HQS.out bz); have HX2 := Lib.hid (HXB.out.below bz HXB.out.lt)
              have HS : Hid (wr.drew.cell? ⟨w.heap.size, 1, none⟩ = some (.slice (some ⟨b2, o2, none⟩) n c2) ∧ wr.drew.cell? ⟨X, 0, none⟩ = some (.int .i64 xa) ∧ wr.drew.cell? ⟨b2, o2 + xa, none⟩ = some (.slice (some ⟨rb, ro, none⟩) n1 rc) ∧ wr.drew.cell? ⟨bx, ox + p, none⟩ = some (.int .i64 kx) ∧ wr.drew.cell? ⟨rb, ro + kx, none⟩ = some (.int .i64 ya) ∧
                  wr.drew.cell? ⟨w.heap.size + 1, 1, none⟩ = some (.slice (some ⟨a2, q2, none⟩) m d2) ∧ wr.drew.cell? ⟨X, 1, none⟩ = some (.int .i64 xb) ∧ wr.drew.cell? ⟨a2, q2 + xb, none⟩ = some (.slice (some ⟨rb', ro', none⟩) m1 rc') ∧ wr.drew.cell? ⟨by1, oy + p, none⟩ = some (.int .i64 ky) ∧ wr.drew.cell? ⟨rb', ro' + ky, none⟩ = some (.int .i64 yb)) := Lib.hid
                ⟨p1, HXB.out.cell 0, k1, cX, k3, r1, HXB.out.cell 1, k5, cY, k7⟩
              have e9 : wr.drew.heap.size = wr.heap.size := rfl
              clear hax hay clt hlx hly HXX HYY k2 k6 kw hya hyb hkx hky hkx' hky' hlp HE HMP HQS HXB
              go_wp2
              refine wp_region_T 28 (fun W => W.cell? ⟨w.heap.size, 1, none⟩ = some (.slice (some ⟨b2, o2, none⟩) n c2) ∧ W.cell? ⟨X, 0, none⟩ = some (.int .i64 xa) ∧ W.cell? ⟨b2, o2 + xa, none⟩ = some (.slice (some ⟨rb, ro, none⟩) n1 rc) ∧ W.cell? ⟨bx, ox + p, none⟩ = some (.int .i64 kx) ∧ W.cell? ⟨rb, ro + kx, none⟩ = some (.int .i64 ya) ∧
                  W.cell? ⟨w.heap.size + 1, 1, none⟩ = some (.slice (some ⟨a2, q2, none⟩) m d2) ∧ W.cell? ⟨X, 1, none⟩ = some (.int .i64 xb) ∧ W.cell? ⟨a2, q2 + xb, none⟩ = some (.slice (some ⟨rb', ro', none⟩) m1 rc') ∧ W.cell? ⟨by1, oy + p, none⟩ = some (.int .i64 ky) ∧ W.cell? ⟨rb', ro' + ky, none⟩ = some (.int .i64 yb)) (by kernel_rfl) ?_
              clear p0 p1 p2 r0 r1 r2 hNa hNb cL hbL cX cY k1 k3 k5 k7 hbx hby
              refine wpAnyT_take (i := 0) (v := ?_) rfl (by kernel_rfl) (by kernel_rfl) (by kernel_rfl) (by kernel_rfl) (by kernel_rfl) (fun _ _ _ h => h) (.inl ⟨rfl, ?_⟩) HS.out ?_
              rotate_left
              · intro W__ hW__
                obtain ⟨h1, h2, h3, h4, h5, h6, h7, h8, h9, h10⟩ := hW__
                go_simp
                (try with_reducible rfl)
              try simp only [Act.put]
              refine wpAnyT_take (i := 1) (v := ?_) rfl (by kernel_rfl) (by kernel_rfl) (by kernel_rfl) (by kernel_rfl) (by kernel_rfl) (fun _ _ _ h => h) (.inl ⟨rfl, ?_⟩) HS.out ?_
              rotate_left
              · intro W__ hW__
                obtain ⟨h1, h2, h3, h4, h5, h6, h7, h8, h9, h10⟩ := hW__
                go_simp
                (try with_reducible rfl)
              try simp only [Act.put]
              refine wpAnyT_take (i := 2) (v := ?_) rfl (by kernel_rfl) (by kernel_rfl) (by kernel_rfl) (by kernel_rfl) (by kernel_rfl) (fun _ _ _ h => h) (.inl ⟨rfl, ?_⟩) HS.out ?_
              rotate_left
              · intro W__ hW__
                obtain ⟨h1, h2, h3, h4, h5, h6, h7, h8, h9, h10⟩ := hW__
                go_simp
                (try with_reducible rfl)
              try simp only [Act.put]
              refine wpAnyT_take (i := 3) (v := ?_) rfl (by kernel_rfl) (by kernel_rfl) (by kernel_rfl) (by kernel_rfl) (by kernel_rfl) (fun _ _ _ h => h) (.inl ⟨rfl, ?_⟩) HS.out ?_
              rotate_left
              · intro W__ hW__
                obtain ⟨h1, h2, h3, h4, h5, h6, h7, h8, h9, h10⟩ := hW__
                go_simp
                (try with_reducible rfl)
              try simp only [Act.put]
              refine wpAnyT_take (i := 4) (v := ?_) rfl (by kernel_rfl) (by kernel_rfl) (by kernel_rfl) (by kernel_rfl) (by kernel_rfl) (fun _ _ _ h => h) (.inl ⟨rfl, ?_⟩) HS.out ?_
              rotate_left
              · intro W__ hW__
                obtain ⟨h1, h2, h3, h4, h5, h6, h7, h8, h9, h10⟩ := hW__
                go_simp
                (try with_reducible rfl)
              try simp only [Act.put]
              refine wpAnyT_take (i := 5) (v := ?_) rfl (by kernel_rfl) (by kernel_rfl) (by kernel_rfl) (by kernel_rfl) (by kernel_rfl) (fun _ _ _ h => h) (.inl ⟨rfl, ?_⟩) HS.out ?_
              rotate_left
              · intro W__ hW__
                obtain ⟨h1, h2, h3, h4, h5, h6, h7, h8, h9, h10⟩ := hW__
                go_simp
                (try with_reducible rfl)
              try simp only [Act.put]
              refine wpAnyT_take (i := 6) (v := ?_) rfl (by kernel_rfl) (by kernel_rfl) (by kernel_rfl) (by kernel_rfl) (by kernel_rfl) (fun _ _ _ h => h) (.inl ⟨rfl, ?_⟩) HS.out ?_
              rotate_left
              · intro W__ hW__
                obtain ⟨h1, h2, h3, h4, h5, h6, h7, h8, h9, h10⟩ := hW__
                go_simp
                (try with_reducible rfl)
              try simp only [Act.put]
              refine wpAnyT_take (i := 7) (v := ?_) rfl (by kernel_rfl) (by kernel_rfl) (by kernel_rfl) (by kernel_rfl) (by kernel_rfl) (fun _ _ _ h => h) (.inl ⟨rfl, ?_⟩) HS.out ?_
              rotate_left
              · intro W__ hW__
                obtain ⟨h1, h2, h3, h4, h5, h6, h7, h8, h9, h10⟩ := hW__
                go_simp
                (try with_reducible rfl)
              try simp only [Act.put]
              refine wpAnyT_take (i := 8) (v := ?_) rfl (by kernel_rfl) (by kernel_rfl) (by kernel_rfl) (by kernel_rfl) (by kernel_rfl) (fun _ _ _ h => h) (.inl ⟨rfl, ?_⟩) HS.out ?_
              rotate_left
              · intro W__ hW__
                obtain ⟨h1, h2, h3, h4, h5, h6, h7, h8, h9, h10⟩ := hW__
                go_simp
                (try with_reducible rfl)
              try simp only [Act.put]
              refine wpAnyT_take (i := 9) (v := ?_) rfl (by kernel_rfl) (by kernel_rfl) (by kernel_rfl) (by kernel_rfl) (by kernel_rfl) (fun _ _ _ h => h) (.inl ⟨rfl, ?_⟩) HS.out ?_
              rotate_left
              · intro W__ hW__
                obtain ⟨h1, h2, h3, h4, h5, h6, h7, h8, h9, h10⟩ := hW__
                go_simp
                (try with_reducible rfl)
              try simp only [Act.put]
              refine wpAnyT_take (i := 10) (v := ?_) rfl (by kernel_rfl) (by kernel_rfl) (by kernel_rfl) (by kernel_rfl) (by kernel_rfl) (fun _ _ _ h => h) (.inl ⟨rfl, ?_⟩) HS.out ?_
              rotate_left
              · intro W__ hW__
                obtain ⟨h1, h2, h3, h4, h5, h6, h7, h8, h9, h10⟩ := hW__
                go_simp
                (try with_reducible rfl)
              try simp only [Act.put]
              refine wpAnyT_take (i := 11) (v := ?_) rfl (by kernel_rfl) (by kernel_rfl) (by kernel_rfl) (by kernel_rfl) (by kernel_rfl) (fun _ _ _ h => h) (.inl ⟨rfl, ?_⟩) HS.out ?_
              rotate_left
              · intro W__ hW__
                obtain ⟨h1, h2, h3, h4, h5, h6, h7, h8, h9, h10⟩ := hW__
                go_simp
                (try with_reducible rfl)
              try simp only [Act.put]
              refine wpAnyT_take (i := 12) (v := ?_) rfl (by kernel_rfl) (by kernel_rfl) (by kernel_rfl) (by kernel_rfl) (by kernel_rfl) (fun _ _ _ h => h) (.inl ⟨rfl, ?_⟩) HS.out ?_
              rotate_left
              · intro W__ hW__
                obtain ⟨h1, h2, h3, h4, h5, h6, h7, h8, h9, h10⟩ := hW__
                go_simp
                (try with_reducible rfl)
              try simp only [Act.put]
              refine wpAnyT_take (i := 13) (v := ?_) rfl (by kernel_rfl) (by kernel_rfl) (by kernel_rfl) (by kernel_rfl) (by kernel_rfl) (fun _ _ _ h => h) (.inl ⟨rfl, ?_⟩) HS.out ?_
              rotate_left
              · intro W__ hW__
                obtain ⟨h1, h2, h3, h4, h5, h6, h7, h8, h9, h10⟩ := hW__
                go_simp
                (try with_reducible rfl)
              try simp only [Act.put]
              refine wpAnyT_take (i := 14) (v := ?_) rfl (by kernel_rfl) (by kernel_rfl) (by kernel_rfl) (by kernel_rfl) (by kernel_rfl) (fun _ _ _ h => h) (.inl ⟨rfl, ?_⟩) HS.out ?_
              rotate_left
              · intro W__ hW__
                obtain ⟨h1, h2, h3, h4, h5, h6, h7, h8, h9, h10⟩ := hW__
                go_simp
                (try with_reducible rfl)
              try simp only [Act.put]
              refine wpAnyT_take (i := 15) (v := ?_) rfl (by kernel_rfl) (by kernel_rfl) (by kernel_rfl) (by kernel_rfl) (by kernel_rfl) (fun _ _ _ h => h) (.inl ⟨rfl, ?_⟩) HS.out ?_
              rotate_left
              · intro W__ hW__
                obtain ⟨h1, h2, h3, h4, h5, h6, h7, h8, h9, h10⟩ := hW__
                go_simp
                (try with_reducible rfl)
              try simp only [Act.put]
              refine wpAnyT_take (i := 16) (v := ?_) rfl (by kernel_rfl) (by kernel_rfl) (by kernel_rfl) (by kernel_rfl) (by kernel_rfl) (fun _ _ _ h => h) (.inl ⟨rfl, ?_⟩) HS.out ?_
              rotate_left
              · intro W__ hW__
                obtain ⟨h1, h2, h3, h4, h5, h6, h7, h8, h9, h10⟩ := hW__
                go_simp
                (try with_reducible rfl)
              try simp only [Act.put]
              refine wpAnyT_take (i := 17) (v := ?_) rfl (by kernel_rfl) (by kernel_rfl) (by kernel_rfl) (by kernel_rfl) (by kernel_rfl) (fun _ _ _ h => h) (.inl ⟨rfl, ?_⟩) HS.out ?_
              rotate_left
              · intro W__ hW__
                obtain ⟨h1, h2, h3, h4, h5, h6, h7, h8, h9, h10⟩ := hW__
                go_simp
                (try with_reducible rfl)
              try simp only [Act.put]
              refine wpAnyT_take (i := 18) (v := ?_) rfl (by kernel_rfl) (by kernel_rfl) (by kernel_rfl) (by kernel_rfl) (by kernel_rfl) (fun _ _ _ h => h) (.inl ⟨rfl, ?_⟩) HS.out ?_
              rotate_left
              · intro W__ hW__
                obtain ⟨h1, h2, h3, h4, h5, h6, h7, h8, h9, h10⟩ := hW__
                go_simp
                (try with_reducible rfl)
              try simp only [Act.put]
              refine wpAnyT_take (i := 19) (v := ?_) rfl (by kernel_rfl) (by kernel_rfl) (by kernel_rfl) (by kernel_rfl) (by kernel_rfl) (fun _ _ _ h => h) (.inl ⟨rfl, ?_⟩) HS.out ?_
              rotate_left
              · intro W__ hW__
                obtain ⟨h1, h2, h3, h4, h5, h6, h7, h8, h9, h10⟩ := hW__
                go_simp
                (try with_reducible rfl)
              try simp only [Act.put]
              refine wpAnyT_take (i := 20) (v := ?_) rfl (by kernel_rfl) (by kernel_rfl) (by kernel_rfl) (by kernel_rfl) (by kernel_rfl) (fun _ _ _ h => h) (.inl ⟨rfl, ?_⟩) HS.out ?_
              rotate_left
              · intro W__ hW__
                obtain ⟨h1, h2, h3, h4, h5, h6, h7, h8, h9, h10⟩ := hW__
                go_simp
                (try with_reducible rfl)
              try simp only [Act.put]
              refine wpAnyT_take (i := 21) (v := ?_) rfl (by kernel_rfl) (by kernel_rfl) (by kernel_rfl) (by kernel_rfl) (by kernel_rfl) (fun _ _ _ h => h) (.inl ⟨rfl, ?_⟩) HS.out ?_
              rotate_left
              · intro W__ hW__
                obtain ⟨h1, h2, h3, h4, h5, h6, h7, h8, h9, h10⟩ := hW__
                go_simp
                (try with_reducible rfl)
              try simp only [Act.put]
              refine wpAnyT_take (i := 22) (v := ?_) rfl (by kernel_rfl) (by kernel_rfl) (by kernel_rfl) (by kernel_rfl) (by kernel_rfl) (fun _ _ _ h => h) (.inl ⟨rfl, ?_⟩) HS.out ?_
              rotate_left
              · intro W__ hW__
                obtain ⟨h1, h2, h3, h4, h5, h6, h7, h8, h9, h10⟩ := hW__
                go_simp
                (try with_reducible rfl)
              try simp only [Act.put]
              refine wpAnyT_take (i := 23) (v := ?_) rfl (by kernel_rfl) (by kernel_rfl) (by kernel_rfl) (by kernel_rfl) (by kernel_rfl) (fun _ _ _ h => h) (.inl ⟨rfl, ?_⟩) HS.out ?_
              rotate_left
              · intro W__ hW__
                obtain ⟨h1, h2, h3, h4, h5, h6, h7, h8, h9, h10⟩ := hW__
                go_simp
                (try with_reducible rfl)
              try simp only [Act.put]
              refine wpAnyT_take (i := 24) (v := ?_) rfl (by kernel_rfl) (by kernel_rfl) (by kernel_rfl) (by kernel_rfl) (by kernel_rfl) (fun _ _ _ h => h) (.inl ⟨rfl, ?_⟩) HS.out ?_
              rotate_left
              · intro W__ hW__
                obtain ⟨h1, h2, h3, h4, h5, h6, h7, h8, h9, h10⟩ := hW__
                go_simp
                (try with_reducible rfl)
              try simp only [Act.put]
              refine wpAnyT_take (i := 25) (v := ?_) rfl (by kernel_rfl) (by kernel_rfl) (by kernel_rfl) (by kernel_rfl) (by kernel_rfl) (fun _ _ _ h => h) (.inl ⟨rfl, ?_⟩) HS.out ?_
              rotate_left
              · intro W__ hW__
                obtain ⟨h1, h2, h3, h4, h5, h6, h7, h8, h9, h10⟩ := hW__
                go_simp
                (try with_reducible rfl)
              try simp only [Act.put]
              refine wpAnyT_take (i := 26) (v := ?_) rfl (by kernel_rfl) (by kernel_rfl) (by kernel_rfl) (by kernel_rfl) (by kernel_rfl) (fun _ _ _ h => h) (.inl ⟨rfl, ?_⟩) HS.out ?_
              rotate_left
              · intro W__ hW__
                obtain ⟨h1, h2, h3, h4, h5, h6, h7, h8, h9, h10⟩ := hW__
                go_simp
                (try with_reducible rfl)
              try simp only [Act.put]
              refine wpAnyT_one (i := 27) rfl (by kernel_rfl) rfl fun K__ hK__ => ?_
              unfold Oper.wp
              go_simp
              have ba := (Below.refl wr.drew.heap.size wr.drew).alloc (Nat.le_refl _) (.cells #[.int .i64 0, .int .i64 0] TBoth)
              have kb := fun b o v (h : wr.drew.cell? ⟨b, o, none⟩ = some v) => ((Keep.of ba).cell b o (World.block_lt_of_cell? _ _ h)).trans h
              obtain ⟨s1, s2, s3, s4, s5, s6, s7, s8, s9, s10⟩ := HS.out
              refine hK__ _ _ ⟨kb _ _ _ s1, kb _ _ _ s2, kb _ _ _ s3, kb _ _ _ s4, kb _ _ _ s5, kb _ _ _ s6, kb _ _ _ s7, kb _ _ _ s8, kb _ _ _ s9, kb _ _ _ s10⟩ ?_
              clear hK__ ba kb s1 s2 s3 s4 s5 s6 s7 s8 s9 s10
              try simp only [Act.put]
              refine wpAnyT_end (i := 28) rfl (by kernel_rfl) rfl (by kernel_rfl) fun K__ hK__ => ?_
              unfold Oper.wp
              go_simp
              refine hK__ _ _ ?_
              clear hK__
              refine wpAnyT_done (by kernel_rfl) ?_ _
              clear bz HS e9
              generalize (wr.alloc (.cells #[.int .i64 ya, .int .i64 yb] TBoth)).drew = W2 at *
              obtain ⟨Zb, hZb⟩ : ∃ Zb, wr.heap.size = Zb := ⟨_, rfl⟩
              have HZL := Lib.hid (show M ≤ Zb by omega)
              rw [hZb] at HZ0 ⊢
              clear hZb
              obtain ⟨zc0, zc1, _, _⟩ := Blk.two HZ0.out
              have hZl := HZ0.out.lt
              have hkb : okB (ya, yb) := ⟨by have := HYL.out.1; simp only; omega, by have := HYL.out.2; simp only; omega⟩
              by_cases hkn : knownP lp ya yb
              · have HRN : Hid ((rowP d o ⟨xa, xb, xw⟩ l (L.take (p + 1))) = lp) := Lib.hid (by rw [HSN.out, addP_in hkn])
                have hmem : (ya, yb) ∈ lp.map (fun x => (x.a, x.b)) := by obtain ⟨x, h1, h2, h3⟩ := hkn; exact List.mem_map.2 ⟨x, h1, by rw [h2, h3]⟩
                obtain ⟨kk, hkk⟩ := List.getElem?_of_mem hmem
                have hlk := (HM2.out.in keyB Tryz.underlying107 zero_int9 hkb hkk).2
                have hlk2 : (Instr.lookup 107 (.map (some mb)) (.agg #[.int .i64 ya, .int .i64 yb]) false).run Tryz.prog W2 = .ok (.int .i64 1) W2 := hlk
                clear hlk hkk hmem hkn
                go_wp2
                go_roundw
                case rel => exact ⟨p + 1, k, qc, Q, ws, by go_num, rfl, by omega, hik, hkF, Lib.hid (by rw [HRN.out]; exact HKL.out), HKW, Lib.hid (by rw [HRN.out]; exact HPO.out), Lib.hid (by rw [HRN.out]; exact HWY.out), HQ2, HNQ, Lib.hid (by rw [HRN.out]; exact HM2.out), HE2, HX2⟩
                case measure => simp [intOf]; omega
              · have HRN : Hid ((rowP d o ⟨xa, xb, xw⟩ l (L.take (p + 1))) = lp ++ [⟨ya, yb, xw ++ [y]⟩]) := Lib.hid (by rw [HSN.out, addP_new hkn])
                have HPN : Hid (PrOk d o (lp ++ [⟨ya, yb, xw ++ [y]⟩])) := Lib.hid (by
                  have h := HPO.out.add (x := ⟨ya, yb, xw ++ [y]⟩) (by rw [HNN.out]; exact HYL.out.1) (by rw [HMN.out]; exact HYL.out.2)
                  rwa [addP_new hkn] at h)
                have hk1 : k + 1 ≤ F := by
                  have h := HPN.out.len
                  rw [List.length_append, HKL.out, HNN.out, HMN.out, HF0.out] at h
                  simpa using h
                have hout : (ya, yb) ∉ lp.map (fun x => (x.a, x.b)) := fun h => by
                  obtain ⟨x, h1, h2⟩ := List.mem_map.1 h
                  injection h2 with h3 h4
                  exact hkn ⟨x, h1, h3, h4⟩
                have hlk := (HM2.out.out keyB Tryz.underlying107 zero_int9 hkb hout).2
                have hlk2 : (Instr.lookup 107 (.map (some mb)) (.agg #[.int .i64 ya, .int .i64 yb]) false).run Tryz.prog W2 = .ok (.int .i64 0) W2 := hlk
                obtain ⟨W3, hput, hM3, f1', f2', f3', f4', hblk⟩ := MapQ.put keyB Tryz.underlying107 HM2.out hkb hout (v := 1) rfl
                have hput2 : (Instr.mapUpdate 107 (.map (some mb)) (.agg #[.int .i64 ya, .int .i64 yb]) (.int .i64 1)).run Tryz.prog W2 = .ok () W3 := hput
                have hot : Oth 107 W2 W3 := ⟨f1', f2', f3', by rw [f4']; exact Nat.le_refl _, fun g t cs ht hb => (hblk g (HM2.out.ne hb)).trans hb⟩
                have hbl : Below w.heap.size W2 W3 := ⟨f1', f2', f3', by rw [f4']; exact Nat.le_refl _, fun g hg => hblk g (by have := HGE.out; have := HWM.out; omega)⟩
                have HE3 := Lib.hid (HE2.out.map hot hbl)
                obtain ⟨Qx, qx, us, eqv, owq0, relq⟩ := HQ2.out
                have owq := hot.own (by decide) owq0
                rw [HKW.out] at eqv owq
                injection eqv with eq1 _ eq3
                subst eq1; subst eq3
                have HX3 := Lib.hid (hot.blk _ _ _ (by decide) HX2.out)
                have HZ3 := hot.blk _ _ _ (by decide) HZ0.out
                obtain ⟨zd0, zd1, _, _⟩ := Blk.two HZ3
                have hZl3 := HZ3.lt
                have HM3 := Lib.hid hM3
                have OWA := Lib.hid (owq.alloc (.cells #[.int .i64 ya, .int .i64 yb, .int .i64 i, .int .i64 y] TWay))
                have OWQ := Lib.hid owq; have RLQ := Lib.hid relq
                have SRA := Lib.hid (Go.Proofs.YtilhicefhhgecaaGreatDoor.Src.many (w := W3) (arr := #[.int .i64 ya, .int .i64 yb, .int .i64 i, .int .i64 y]) (t := TWay) (size := 4) (by simp [Value.oneCell']) rfl)
                have BA3 := Lib.hid ((Below.refl W3.heap.size W3).alloc (Nat.le_refl _) (.cells #[.int .i64 ya, .int .i64 yb, .int .i64 i, .int .i64 y] TWay))
                have HEA := Lib.hid (HE3.out.next BA3.out); have HMA := Lib.hid (HM3.out.below BA3.out); have HXA := Lib.hid (HX3.out.below BA3.out HX3.out.lt)
                have Z9 : Hid (M ≤ (W3.alloc (.cells #[.int .i64 ya, .int .i64 yb, .int .i64 i, .int .i64 y] TWay)).heap.size) := Lib.hid (by have := HXM.out; have := HX3.out.lt; simp; omega)
                have Q3 : Hid (k + 1 ≤ maxLen) := Lib.hid (by simp only [maxLen]; omega)
                have Q4 : Hid ((k + 1) * 32 ≤ 140737488355328) := Lib.hid (by omega)
                clear hlk hput hM3 f1' f2' f3' f4' hblk hot hbl owq0 owq relq hout hkn HZ3 HE2 HM2 HX2
                go_wp2_with (first
                | (at_builtin
                   go_must (refine wpList_append_src _ rfl (.tmp 157) (.tmp 162) 106 rfl M TWay i9 (.agg #[.int .i64 0, .int .i64 0, .int .i64 0, .int .i64 0]) 4 32 Tryz.underlying106 hi9 hz9 hs9 hb9 rfl (by decide) Q qc k _ rfl OWA.out _ 1 1 _ rfl SRA.out Q3.out Q4.out Z9.out ?_)
                   intro A13 c13 w13 own13 gr13 hn13
                   have HQ13 := Lib.hid (Ws.push (x := ⟨ya, yb, i, y⟩) OWQ.out RLQ.out HKW own13)
                   have HE13 := Lib.hid (HEA.out.grown OWA.out (by decide) (by decide) gr13)
                   have HM13 := Lib.hid (MapQ.grown HMA.out OWA.out gr13)
                   have HX13 := Lib.hid (HXA.out.grown gr13 (fun e => HNQ.out e.symm))
                   have HN13 : Hid ((Value.slice A13 (k + 1) c13).ownBlock ≠ some X) := Lib.hid (by
                     rcases hn13 with e | e
                     · rw [e]; exact HNQ.out
                     · rw [e]; have := HX3.out.lt; simp; omega)
                   clear own13 gr13 hn13))
                go_roundw
                case rel => exact ⟨p + 1, k + 1, c13, A13, ws ++ [⟨ya, yb, i, y⟩], by go_num, rfl, by omega, by omega, hk1, Lib.hid (by rw [HRN.out, List.length_append, HKL.out]; rfl), Lib.hid (by rw [List.length_append, HKW.out]; rfl), Lib.hid (by rw [HRN.out]; exact HPN.out), Lib.hid (by rw [HRN.out]; exact HWY.out.add HPI.out), HQ13, HN13, Lib.hid (by rw [HRN.out, List.map_append]; exact HM13.out), HE13, HX13⟩
                case measure => simp [intOf]; omega
            · obtain rfl : na = p := by omega
              rw [HTK.out] at HKL HPO HWY HMP
              have HRE3 : Hid (wordF d o L (F + 1 - (i + 1)) (i + 1) (rowP d o ⟨xa, xb, xw⟩ l L) = R) := Lib.hid (by
                rw [show F + 1 - (i + 1) = F - i by omega]; exact HRE2.out)
              go_wp2
              go_roundw
              case rel => exact ⟨i + 1, k, qc, Q, ws, _, by go_num, rfl, rfl, by omega, hkF, HKL, HKW, HPO, HRE3, HWO2, HWY, HQS, HMP, HE⟩
              case measure => simp [intOf]; omega
        · have hki : k = i := by omega
          have HN : Hid (R = none) := Lib.hid (by rw [← HRE.out]; exact wordF_end (by rw [HKL.out, hki]; exact Nat.le_refl _))
          have g1 : ¬ (i : Int) < (k : Int) := by omega
          clear hki
          go_wp2
          exact bodyPost_ret (v := .tuple #[.slice none 0 0, .bool false, .int .i64 0]) (by simp [results, Tryz.results21, go_sem]) rfl ⟨.slice none 0 0, by rw [HAW.out.1, HAW.out.2, HRR.out, HN.out]; rfl, by rw [HAW.out.1, HRR.out, HN.out]; exact OwnI.nil _ _, HE.out.t.be⟩
end Go.Proofs.YtilhicefhhgecaaGreatDoor
