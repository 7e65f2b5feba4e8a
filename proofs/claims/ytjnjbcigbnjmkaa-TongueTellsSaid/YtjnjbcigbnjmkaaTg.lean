/- Walks: the tables of a tree (the document's): one behind the other, or side by side; any tree. -/
import Derived.Test.YtjnjbcigbnjmkaaTg0
namespace Go.Proofs.Ytjnjbcigbnjmkaa
open Go.RowKit Pv

/-- Nodes one behind the other, or side by side. -/
def wk (pts : List Int) (cat : Bool) (ks : List Tr) (i j : Nat) : Prop := if cat = true then spCat pts ks i j else spAlt pts ks i j
theorem wk_fwd (pts : List Int) (cat : Bool) (ks : List Tr) : Fwd (wk pts cat ks) := fun i j h => by
  cases cat with
  | true => exact spCat_fwd pts ks i j (by simpa [wk] using h)
  | false => exact spAlt_fwd pts ks i j (by simpa [wk] using h)
theorem wk_cat (pts : List Int) (k : Tr) (ks : List Tr) (i j : Nat) : Th (wk pts true ks) (spT pts k) i j ↔ wk pts true (ks ++ [k]) i j := by
  simp only [wk, if_true]
  rw [spCat_snoc]
  exact ⟨fun ⟨m, _, _, h1, h2⟩ => ⟨m, h1, h2⟩, fun ⟨m, h1, h2⟩ => ⟨m, spCat_fwd pts ks i m h1, spT_fwd pts k m j h2, h1, h2⟩⟩
theorem wk_alt (pts : List Int) (k : Tr) (ks : List Tr) (i j : Nat) : (wk pts false ks i j ∨ spT pts k i j) ↔ wk pts false (ks ++ [k]) i j := by
  simp only [wk, Bool.false_eq_true, if_false]
  rw [spAlt_snoc]

set_option maxHeartbeats 2000000 in
set_option maxRecDepth 100000 in
theorem spans_walk (w0 : World) (tA : Option Addr) (nt ct : Nat) (t : List Rx) (pA : Option Addr) (np cp : Nat) (pts : List Int) (i q : Nat) (cat : Bool) (l : List Rng) (least most : Int) (ks : List Tr)
    (ht : AtRx w0 tA t) (HT : Hid (t.length = nt)) (hnt : nt ≤ 64) (HX : Hid (t[i]? = some ⟨if cat then 2 else 3, l, q, least, most⟩)) (hn : np ≤ 1000) (HQ : Hid (ks.length = q)) (hq : q ≤ 64)
    (HK : Hid (∀ j, j ≤ q → again (behind t 16) j (i + 1) = some (i + 1 + sizes (ks.take j)) ∧ i + 1 + sizes (ks.take j) ≤ nt))
    (HIH : Hid (∀ j k, ks[j]? = some k → SpanC w0 tA nt ct pA np cp pts k (i + 1 + sizes (ks.take j)))) : SpanC w0 tA nt ct pA np cp pts (.mk ⟨if cat then 2 else 3, l, q, least, most⟩ ks) i := by
  intro W kp
  have hin : i < nt := by have := lt_of_get HX.out; rwa [HT.out] at this
  have HU := Lib.hid (fun (W : World) (kp : Keep w0 W) => ref07_Under tA ct nt i t ⟨if cat then 2 else 3, l, q, least, most⟩ W (AtRx.keep ht kp) HT hnt HX (Lib.hid (fun k hk => ⟨_, (HK.out k (by simpa using hk)).2, (HK.out k (by simpa using hk)).1⟩)) (by simp only; omega))
  simp only [Int.toNat_natCast] at HU
  obtain ⟨b, off, kd, B, cs, m, l', many', least', most', rfl, H5, hset, HM, hmc, hkd, hma, hle, hmo, HX'⟩ := ht.g5 HT hin
  obtain ⟨hkk, rfl, rfl, rfl, rfl⟩ := Rx.mk.inj (Option.some.inj (HX'.out.symm.trans HX.out))
  obtain ⟨y0, y1, y2, y3, y4, y5⟩ := H5.next kp
  have t0 : (kd == 0) = false := by rw [hkk]; cases cat <;> rfl
  have t1 : (kd == 1) = false := by rw [hkk]; cases cat <;> rfl
  have t4 : (kd == 4) = false := by rw [hkk]; cases cat <;> rfl
  have hW : Below W.heap.size W (W.alloc (.cells #[.int .u8 kd, .slice B m cs, .int .i64 q, .int .i64 least', .int .i64 most'] 100)) := (Below.refl _ _).alloc (Nat.le_refl _) _
  have HN := Lib.hid (ref08_none np hn (W.alloc (.cells #[.int .u8 kd, .slice B m cs, .int .i64 q, .int .i64 least', .int .i64 most'] 100)))
  have HW := Lib.hid hW; have KP := Lib.hid kp
  have BX0 := Lib.hid (Blk.new W 100 #[.int .u8 kd, .slice B m cs, .int .i64 q, .int .i64 least', .int .i64 most'])
  obtain ⟨RR, hRR⟩ : ∃ RR, spT pts (.mk ⟨if cat then 2 else 3, l', q, least', most'⟩ ks) = RR := ⟨_, rfl⟩
  rw [hRR]
  have HR := Lib.hid (show ∀ a c, wk pts cat ks a c ↔ RR a c from fun a c => by
    rw [← hRR, spT]
    cases cat with
    | true => rw [if_neg (by simp), if_neg (by simp), if_pos (by simp)]; simp [wk]
    | false => rw [if_neg (by simp), if_neg (by simp), if_neg (by simp), if_pos (by simp)]; simp [wk])
  have T2 := Lib.hid (show ((kd == 2) = true ∧ cat = true) ∨ ((kd == 2) = false ∧ cat = false) by rw [hkk]; cases cat <;> simp)
  clear H5 ht hset HX' kp hW hRR hkk
  rcases T2.out with ⟨t2, hc⟩ | ⟨t2, hc⟩
  · subst hc
    clear T2
    go_enter Try.func73, Try.ntmps73
    go_wp2_with fail
    refine HN.out.mono ?_
    rintro e w1 ⟨g, rfl, hg, tb, hb⟩
    have B0 := Lib.hid (HW.out.trans (hb.mono HW.out.size))
    have X0 := Lib.hid (BX0.out.below hb BX0.out.lt)
    have hg' : W.heap.size ≤ g := Nat.le_trans HW.out.size hg
    clear tb hb
    obtain ⟨x0, x1, x2, x3, x4⟩ := blk_five X0.out
    have HST := Lib.hid (ref08_still np hn w1)
    go_wp2_with fail
    refine HST.out.mono ?_
    rintro e wv ⟨gv, rfl, hgv, tb, hb⟩
    have TT := Lib.hid (tb.congr (R' := wk pts true []) (fun a c _ _ => by simp [wk, spCat]))
    have BV := Lib.hid (B0.out.trans (hb.mono B0.out.size))
    have XV := Lib.hid (X0.out.below hb X0.out.lt)
    have hgw : W.heap.size ≤ gv := Nat.le_trans B0.out.size hgv
    clear tb hb x0 x1 x2 x3 x4
    have HUV := Lib.hid (HU.out wv (KP.out.trans (Keep.of BV.out)))
    go_wp2_with fail
    refine HUV.out.mono ?_
    rintro e w3 ⟨LB, lc, rfl, owl, hb3⟩
    have T3 := Lib.hid (TT.out.next hb3)
    have B3 := Lib.hid (BV.out.trans (hb3.mono BV.out.size))
    have X3 := Lib.hid (XV.out.below hb3 XV.out.lt)
    have OL := Lib.hid owl
    generalize wv.heap.size = lb at OL
    clear owl hb3 
    go_wp2
    go_loopw [11, 13] (fun ov jv wr => ∃ (j g : Nat), jv = .int .i64 j ∧ j ≤ q ∧ ov = .slice (some ⟨g, 0, none⟩) (np + 1) (np + 1) ∧ Tab wr g np (wk pts true (ks.take j)) ∧ W.heap.size ≤ g ∧ Below W.heap.size W wr ∧ Blk wr W.heap.size 100 #[.int .u8 kd, .slice B m cs, .int .i64 q, .int .i64 least', .int .i64 most'] ∧ wr.ownsRow lb 3 1 (.slice LB q lc) q ((starts t (i + 1) q).map (Value.int .i64))) (fun _ jv _ => q - (intOf jv).toNat)
    case atStart => exact ⟨0, gv, rfl, by omega, rfl, by simpa using T3.out, hgw, B3.out, X3.out, OL.out⟩
    case round =>
      obtain ⟨j, g5, rfl, hj, rfl, htb, hg5, hbel, hbx, hol⟩ := hrel
      have T5 := Lib.hid htb; have B5 := Lib.hid hbel; have X5 := Lib.hid hbx; have O5 := Lib.hid hol
      clear htb hbel hbx hol
      obtain ⟨x0, x1, x2, x3, x4⟩ := blk_five X5.out
      by_cases hlt : j < q
      · have hkk : ks[j]? = some (ks[j]'(by rw [HQ.out]; exact hlt)) := List.getElem?_eq_getElem _
        generalize ks[j]'(by rw [HQ.out]; exact hlt) = K at hkk
        obtain ⟨hpk, hple⟩ := HK.out j (by omega)
        obtain ⟨gl, rfl, hgl, hgc⟩ := own_get1 (k := j) (u := .int .i64 ((i + 1 + sizes (ks.take j) : Nat) : Int)) O5.out (by rw [List.getElem?_map, starts_get1 hlt, hpk]; rfl)
        have HC := Lib.hid (HIH.out j K hkk wr (KP.out.trans (Keep.of B5.out)))
        have HTK := Lib.hid (take_snoc hkk)
        generalize i + 1 + sizes (ks.take j) = pp at *
        clear hkk hpk
        go_wp2_with fail
        refine HC.out.mono ?_
        rintro e w6 ⟨g6, rfl, hg6, tb, hb⟩
        have T6 := Lib.hid (T5.out.next hb)
        have B6 := Lib.hid (B5.out.trans (hb.mono B5.out.size))
        have X6 := Lib.hid (X5.out.below hb X5.out.lt)
        have O6 := Lib.hid (ownsRow_below O5.out hb)
        have HD := Lib.hid (ref08_then g5 g6 np (wk pts true (ks.take j)) (spT pts K) hn w6 T6.out tb)
        clear tb hb x0 x1 x2 x3 x4 hgc
        obtain ⟨x0, x1, x2, x3, x4⟩ := blk_five X6.out
        go_wp2_with fail
        refine HD.out.mono ?_
        rintro e w7 ⟨g7, rfl, hg7, tb, hb⟩
        have T7 := Lib.hid (tb.congr (R' := wk pts true (ks.take (j + 1))) (fun a c _ _ => by rw [HTK.out]; exact wk_cat pts K _ a c))
        have B7 := Lib.hid (B6.out.trans (hb.mono B6.out.size))
        have X7 := Lib.hid (X6.out.below hb X6.out.lt)
        have O7 := Lib.hid (ownsRow_below O6.out hb)
        have hg7' : W.heap.size ≤ g7 := Nat.le_trans B6.out.size hg7
        clear tb hb x0 x1 x2 x3 x4
        go_wp2
        go_roundw
        case rel => exact ⟨j + 1, g7, by go_num, by omega, rfl, T7.out, hg7', B7.out, X7.out, O7.out⟩
        case measure => simp [intOf]; omega
      · have hjq : j = q := by omega
        have TZ := Lib.hid (T5.out.congr (R' := RR) (fun a c _ _ => by rw [← HR.out, List.take_of_length_le (by rw [HQ.out, hjq]; exact Nat.le_refl _)]))
        clear hjq
        go_wp2
        go_ret
        exact ⟨g5, rfl, hg5, TZ.out, B5.out⟩
  · subst hc
    clear T2
    go_enter Try.func73, Try.ntmps73
    go_wp2_with fail
    refine HN.out.mono ?_
    rintro e w1 ⟨g, rfl, hg, tb, hb⟩
    have B0 := Lib.hid (HW.out.trans (hb.mono HW.out.size))
    have X0 := Lib.hid (BX0.out.below hb BX0.out.lt)
    have hg' : W.heap.size ≤ g := Nat.le_trans HW.out.size hg
    have TT := Lib.hid (tb.congr (R' := wk pts false []) (fun a c _ _ => by simp [wk, spAlt]))
    have BV := Lib.hid B0.out
    have XV := Lib.hid X0.out
    have hgw := hg'
    obtain ⟨gv, hgv⟩ : ∃ gv, g = gv := ⟨_, rfl⟩
    subst hgv
    clear tb hb
    obtain ⟨x0, x1, x2, x3, x4⟩ := blk_five XV.out
    have HUV := Lib.hid (HU.out w1 (KP.out.trans (Keep.of BV.out)))
    go_wp2_with fail
    refine HUV.out.mono ?_
    rintro e w3 ⟨LB, lc, rfl, owl, hb3⟩
    have T3 := Lib.hid (TT.out.next hb3)
    have B3 := Lib.hid (BV.out.trans (hb3.mono BV.out.size))
    have X3 := Lib.hid (XV.out.below hb3 XV.out.lt)
    have OL := Lib.hid owl
    generalize w1.heap.size = lb at OL
    clear owl hb3 x0 x1 x2 x3 x4
    go_wp2
    go_loopw [11, 13] (fun ov jv wr => ∃ (j g : Nat), jv = .int .i64 j ∧ j ≤ q ∧ ov = .slice (some ⟨g, 0, none⟩) (np + 1) (np + 1) ∧ Tab wr g np (wk pts false (ks.take j)) ∧ W.heap.size ≤ g ∧ Below W.heap.size W wr ∧ Blk wr W.heap.size 100 #[.int .u8 kd, .slice B m cs, .int .i64 q, .int .i64 least', .int .i64 most'] ∧ wr.ownsRow lb 3 1 (.slice LB q lc) q ((starts t (i + 1) q).map (Value.int .i64))) (fun _ jv _ => q - (intOf jv).toNat)
    case atStart => exact ⟨0, g, rfl, by omega, rfl, by simpa using T3.out, hgw, B3.out, X3.out, OL.out⟩
    case round =>
      obtain ⟨j, g5, rfl, hj, rfl, htb, hg5, hbel, hbx, hol⟩ := hrel
      have T5 := Lib.hid htb; have B5 := Lib.hid hbel; have X5 := Lib.hid hbx; have O5 := Lib.hid hol
      clear htb hbel hbx hol
      obtain ⟨x0, x1, x2, x3, x4⟩ := blk_five X5.out
      by_cases hlt : j < q
      · have hkk : ks[j]? = some (ks[j]'(by rw [HQ.out]; exact hlt)) := List.getElem?_eq_getElem _
        generalize ks[j]'(by rw [HQ.out]; exact hlt) = K at hkk
        obtain ⟨hpk, hple⟩ := HK.out j (by omega)
        obtain ⟨gl, rfl, hgl, hgc⟩ := own_get1 (k := j) (u := .int .i64 ((i + 1 + sizes (ks.take j) : Nat) : Int)) O5.out (by rw [List.getElem?_map, starts_get1 hlt, hpk]; rfl)
        have HC := Lib.hid (HIH.out j K hkk wr (KP.out.trans (Keep.of B5.out)))
        have HTK := Lib.hid (take_snoc hkk)
        generalize i + 1 + sizes (ks.take j) = pp at *
        clear hkk hpk
        go_wp2_with fail
        refine HC.out.mono ?_
        rintro e w6 ⟨g6, rfl, hg6, tb, hb⟩
        have T6 := Lib.hid (T5.out.next hb)
        have B6 := Lib.hid (B5.out.trans (hb.mono B5.out.size))
        have X6 := Lib.hid (X5.out.below hb X5.out.lt)
        have O6 := Lib.hid (ownsRow_below O5.out hb)
        have HD := Lib.hid (ref08_either g5 g6 np (wk pts false (ks.take j)) (spT pts K) (wk_fwd pts false _) (spT_fwd pts K) hn w6 T6.out tb)
        clear tb hb x0 x1 x2 x3 x4 hgc
        obtain ⟨x0, x1, x2, x3, x4⟩ := blk_five X6.out
        go_wp2_with fail
        refine HD.out.mono ?_
        rintro e w7 ⟨g7, rfl, hg7, tb, hb⟩
        have T7 := Lib.hid (tb.congr (R' := wk pts false (ks.take (j + 1))) (fun a c _ _ => by rw [HTK.out]; exact wk_alt pts K _ a c))
        have B7 := Lib.hid (B6.out.trans (hb.mono B6.out.size))
        have X7 := Lib.hid (X6.out.below hb X6.out.lt)
        have O7 := Lib.hid (ownsRow_below O6.out hb)
        have hg7' : W.heap.size ≤ g7 := Nat.le_trans B6.out.size hg7
        clear tb hb x0 x1 x2 x3 x4
        go_wp2
        go_roundw
        case rel => exact ⟨j + 1, g7, by go_num, by omega, rfl, T7.out, hg7', B7.out, X7.out, O7.out⟩
        case measure => simp [intOf]; omega
      · have hjq : j = q := by omega
        have TZ := Lib.hid (T5.out.congr (R' := RR) (fun a c _ _ => by rw [← HR.out, List.take_of_length_le (by rw [HQ.out, hjq]; exact Nat.le_refl _)]))
        clear hjq
        go_wp2
        go_ret
        exact ⟨g5, rfl, hg5, TZ.out, B5.out⟩

theorem spans_all (w0 : World) (tA : Option Addr) (nt ct : Nat) (t : List Rx) (pA : Option Addr) (np cp : Nat) (pts : List Int) (ht : AtRx w0 tA t) (hp : At w0 pA RI pts) (HP : Hid (pts.length = np)) (HT : Hid (t.length = nt)) (hnt : nt ≤ 64) (hn : np ≤ 1000) :
    ∀ (d : Nat), d ≤ 16 → ∀ (T : Tr) (i : Nat) (r : List Rx), T.Ok d → T.size ≤ 64 → t.drop i = T.flat ++ r → SpanC w0 tA nt ct pA np cp pts T i := by
  intro d
  induction d using Nat.strongRecOn with
  | _ d ih =>
  intro hd T i r hT hz hdr
  obtain ⟨x, ks⟩ := T
  have hone := hT.one
  have hlen := hT.len
  have hkid : ∀ k, k ∈ ks → k.Ok (d - 1) := fun k hk => hT.kid hk
  simp only [Tr.flat, List.cons_append] at hdr
  obtain ⟨hx, hdr2⟩ := drop_head hdr
  have hil := lt_of_get hx
  rw [Tr.size_mk] at hz
  have hk64 : ks.length ≤ 63 := by
    have : ∀ l : List Tr, l.length ≤ sizes l := fun l => by
      induction l with
      | nil => simp
      | cons k l ih => rw [sizes_cons, List.length_cons]; have := k.size_pos; omega
    have := this ks; omega
  have hk16 : ∀ k, k ∈ ks → k.Ok 16 := fun k hk => (hkid k hk).up (by omega)
  have hat := fun j hj => kids_at hdr2 hk16 j hj
  have hle := fun j => sizes_le hdr2 j (by omega)
  have hd1 : 1 < x.kind → 0 < d := fun hk => by
    cases d with
    | zero => obtain ⟨_, hm, _⟩ := hT; rcases hone with h | h | h | h <;> omega
    | succ d => omega
  have hmem : ∀ k, k ∈ ks → k.size ≤ sizes ks := fun k hk => by
    have : ∀ l : List Tr, k ∈ l → k.size ≤ sizes l := fun l => by
      induction l with
      | nil => simp
      | cons j l ih =>
        intro h
        rw [sizes_cons]
        rcases List.mem_cons.1 h with rfl | h
        · omega
        · have := ih h; omega
    exact this ks hk
  have HIH : 1 < x.kind → ∀ j k, ks[j]? = some k → SpanC w0 tA nt ct pA np cp pts k (i + 1 + sizes (ks.take j)) := fun hk j k hj => by
    have hjl := lt_of_get hj
    have h5 := (hat j (by omega)).2
    rw [drop_cons hj] at h5
    simp only [flats, List.append_assoc] at h5
    exact ih (d - 1) (by have := hd1 hk; omega) (by omega) k _ _ (hkid k (mem_of_get hj)) (by have := hmem k (mem_of_get hj); omega) h5
  obtain ⟨kind, set, many, least, most⟩ := x
  simp only at hone hlen hd1 HIH
  by_cases h0 : kind = 0
  · subst h0; exact spans_empty w0 tA nt ct t pA np cp pts i set many least most ks ht HT (Lib.hid hx) hn
  by_cases h1 : kind = 1
  · subst h1; exact spans_set w0 tA nt ct t pA np cp pts i set many least most ks ht hp HP HT (Lib.hid hx) hn
  have hk2 : 1 < kind := by rcases hone with h | h | h | h <;> simp only at h <;> omega
  have HK : Hid (∀ j, j ≤ ks.length → again (behind t 16) j (i + 1) = some (i + 1 + sizes (ks.take j)) ∧ i + 1 + sizes (ks.take j) ≤ nt) := Lib.hid fun j hj => ⟨(hat j hj).1, by have := hle j; have := HT.out; omega⟩
  have hq : many = (ks.length : Nat) := by omega
  by_cases h2k : kind = 2
  · subst h2k; subst hq
    exact spans_walk w0 tA nt ct t pA np cp pts i ks.length true set least most ks ht HT hnt (Lib.hid hx) hn rfl (by omega) HK (Lib.hid (HIH hk2))
  by_cases h3k : kind = 3
  · subst h3k; subst hq
    exact spans_walk w0 tA nt ct t pA np cp pts i ks.length false set least most ks ht HT hnt (Lib.hid hx) hn rfl (by omega) HK (Lib.hid (HIH hk2))
  have hr : kind = 4 ∧ set = [] ∧ many = 1 ∧ 0 ≤ least ∧ least ≤ 16 ∧ (most = -1 ∨ (least ≤ most ∧ most ≤ 16)) := by rcases hone with h | h | h | h <;> simp only at h <;> first | omega | exact h
  obtain ⟨rfl, rfl, rfl, hl0, hl1, hm⟩ := hr
  obtain ⟨lz, rfl⟩ := Int.eq_ofNat_of_zero_le hl0
  match ks, hlen with
  | [K], _ =>
    refine spans_rep w0 tA nt ct t pA np cp pts i [] lz most K ht HT (Lib.hid hx) hn (by omega) hm (by have := HT.out; omega) (Lib.hid ?_)
    have := HIH hk2 0 K rfl
    simpa [sizes, flats] using this

end Go.Proofs.Ytjnjbcigbnjmkaa
