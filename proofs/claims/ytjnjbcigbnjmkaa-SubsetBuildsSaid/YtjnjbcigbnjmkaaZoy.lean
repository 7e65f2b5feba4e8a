/- Walks: an automaton in new memory (the document's). PUT1 -/
import Derived.Test.YtjnjbcigbnjmkaaZny
namespace Go.Proofs.Ytjnjbcigbnjmkaa
open Go.RowKit Pv

/-- An edge of the call's own: its set too. -/
structure OEd (w : World) (base : Nat) (f : Nat → Value) (x : Ed) : Prop where
  to : RI (f 0) x.to
  free : f 1 = .bool x.free
  set : OwnSet w base (f 2) x.set
theorem OEd.up {w w' : World} {base base' : Nat} {f : Nat → Value} {x : Ed} (h : OEd w base f x) (hu : ∀ v l, OwnSet w base v l → OwnSet w' base' v l) : OEd w' base' f x := ⟨h.1, h.2, hu _ _ h.3⟩
theorem OEd.re {w : World} {base : Nat} {f : Nat → Value} {x : Ed} (h : OEd w base f x) (hl : x.set.length ≤ 140737488355328) : RE w f x := ⟨h.1, h.2, OwnK.sl h.3 hl⟩
abbrev OwnEs (w : World) (base : Nat) (v : Value) (es : List Ed) : Prop := OwnK w base TEdge 3 (OEd w base) v es
section
variable {w w' : World} {base : Nat} {v : Value} {es : List Ed}
theorem OwnEs.below (h : OwnEs w base v es) (hb : Below w.heap.size w w') : OwnEs w' base v es := (OwnK.below h hb).monoR fun _ _ _ h => h.up fun _ _ h => OwnK.below h hb
theorem OwnEs.grownRow (h : OwnEs w base v es) {b' n' : Nat} {v' : Value} {us' : List Value} (h' : w.ownsRow b' TRow 1 v' n' us') (hg : w.grownBy w' v'.ownBlock) : OwnEs w' base v es :=
  (OwnK.grown h h' (by decide) hg).monoR fun _ _ _ h => h.up fun _ _ h => OwnK.grown h h' (by decide) hg
theorem OwnEs.setFar (h : OwnEs w base v es) {g : Nat} {cs : Array Value} (hb : Blk w g TAuto cs) (i : Nat) (u : Value) : OwnEs (w.setCell ⟨g, i, none⟩ u) base v es :=
  (OwnK.setFar h hb (by decide) i u).monoR fun _ _ _ h => h.up fun _ _ h => OwnK.setFar h hb (by decide) i u
theorem OwnEs.lower {b' : Nat} (h : OwnEs w base v es) (hb : b' ≤ base) : OwnEs w b' v es := (OwnK.lower h hb).monoR fun _ _ _ h => h.up fun _ _ h => OwnK.lower h hb
end

/-- What a round over a row's edges does. -/
theorem edge_step {w wr w1 w4 : World} {t : List Ed} {k : Nat} {A A' : Option Addr} {c c' : Nat} {us : List Value} {x : Ed} {B B' : Option Addr} {m s s' : Nat} {bx : List Value}
    (hbx : bx = [.int .i64 x.to, .bool x.free, .slice B' m s'])
    (hx : t[k]? = some x) (hlen : (t.take k).length = k) (hbel : Below w.heap.size w wr) (hown : wr.ownsRow w.heap.size TEdge 3 (.slice A k c) k us) (hrel : RelK 3 (OEd wr w.heap.size) us (t.take k))
    (hb1 : Below (wr.alloc (.cells #[.int .i64 x.to, .bool x.free, .slice B m s] TEdge)).heap.size (wr.alloc (.cells #[.int .i64 x.to, .bool x.free, .slice B m s] TEdge)) w1)
    (hset : OwnSet w1 (wr.alloc (.cells #[.int .i64 x.to, .bool x.free, .slice B m s] TEdge)).heap.size (.slice B' m s') x.set)
    (hm : -9223372036854775808 ≤ x.to ∧ x.to ≤ 9223372036854775807)
    (own4 : w4.ownsRow w.heap.size TEdge 3 (.slice A' (k + 1) c') (k + 1) (us ++ bx))
    (gr4 : ((w1.setCell ⟨wr.heap.size, 2, none⟩ (.slice B' m s')).alloc (.cells #[.int .i64 x.to, .bool x.free, .slice B' m s'] TEdge)).grownBy w4 (Value.slice A k c).ownBlock) :
    RelK 3 (OEd w4 w.heap.size) (us ++ bx) (t.take (k + 1)) ∧ Below w.heap.size w w4 := by
  subst hbx
  have hb0 : Below wr.heap.size wr w1 := ((Below.refl _ _).alloc (Nat.le_refl _) _).trans (hb1.mono (by simp))
  have b1 : Blk w1 wr.heap.size TEdge #[.int .i64 x.to, .bool x.free, .slice B m s] := (Blk.new _ _ _).below hb1 (by simp)
  have hne : (Value.slice A k c).ownBlock ≠ some wr.heap.size := fun h => by have := (hown.lt _ h).2; omega
  have o1 : (w1.setCell ⟨wr.heap.size, 2, none⟩ (.slice B' m s')).ownsRow w.heap.size TEdge 3 (.slice A k c) k us := ownsRow_setNe (ownsRow_below hown hb0) hne 2 _
  have o3 := o1.alloc (.cells #[.int .i64 x.to, .bool x.free, .slice B' m s'] TEdge)
  have up : ∀ v l, OwnSet wr w.heap.size v l → OwnSet w4 w.heap.size v l := fun v l h => (((h.below hb0).setFar b1 (by decide) 2 _).alloc _).grown o3 (by decide) gr4
  have new : OwnSet w4 w.heap.size (.slice B' m s') x.set := (((OwnK.lower hset (by simp; have := hbel.size; omega)).setFar b1 (by decide) 2 _).alloc _).grown o3 (by decide) gr4
  refine ⟨?_, ?_⟩
  · rw [take_snoc hx]
    refine (hrel.mono fun f y _ h => h.up up).app (RelK.one (f := fun j => [Value.int .i64 x.to, .bool x.free, .slice B' m s'].getD j undef) rfl ?_ ⟨⟨rfl, hm⟩, rfl, new⟩)
    intro j hj
    match j, hj with
    | 0, _ => rfl
    | 1, _ => rfl
    | 2, _ => rfl
  · have h1 : Below w.heap.size w (w1.setCell ⟨wr.heap.size, 2, none⟩ (.slice B' m s')) := (hbel.trans (hb0.mono hbel.size)).setCell (by simp only; exact hbel.size) _
    exact (h1.alloc h1.size _).grown gr4 (by simp; have := h1.size; simp at this; omega) (fun g hg => (o3.lt g hg).1)

set_option maxHeartbeats 4000000 in
set_option maxRecDepth 100000 in
theorem ref09_Twin (A : Option Addr) (c n : Nat) (acc : Int) (a : Au) (w : World) (ha : AtAu w A a) (HL : Hid (a.length = n)) (hn : n ≤ 1000) (HQL : Hid (∀ es, es ∈ a → es.length * 40 ≤ 140737488355328 ∧ ∀ x, x ∈ es → x.set.length * 16 ≤ 140737488355328)) :
    Calls Try.prog 33 #[.agg #[.slice A n c, .int .i64 acc]] w fun e w' => ∃ A' c', e = .returned (.agg #[.slice A' n c', .int .i64 acc]) ∧ AtAu w' A' a ∧ Below w.heap.size w w' := by
  obtain ⟨i0, hi0, hz0, hs0, hb0⟩ := info_parts info_edge2
  obtain ⟨j0, hj0, hy0, ht0, hd0⟩ := info_parts info_row2
  have HA := Lib.hid ha
  have HB0 := Lib.hid ((((Below.refl w.heap.size w).alloc (Nat.le_refl _) (.cells #[.slice A n c, .int .i64 acc] TAuto)).alloc (by simp) (.cells #[.slice none 0 0, .int .i64 0] TAuto)).alloc (by simp; omega) (.cells #[.slice none 0 0, .int .i64 acc] TAuto))
  have KK := blk3 w #[.slice A n c, .int .i64 acc] #[.slice none 0 0, .int .i64 0] #[.slice none 0 0, .int .i64 acc] TAuto TAuto TAuto
  have K0 := Lib.hid KK.1; have K1 := Lib.hid KK.2.1; have K2 := Lib.hid KK.2.2
  clear ha KK
  go_enter Try.func33, Try.ntmps33
  go_wp2
  go_loopw [4] (fun iv wr => ∃ (i : Nat) (A' : Option Addr) (c' : Nat) (us : List Value), iv = .int .i64 i ∧ i ≤ n ∧ Hid (wr.ownsRow w.heap.size TRow 1 (.slice A' i c') i us) ∧ Hid (∀ (k : Nat) es, k < i → a[k]? = some es → ∃ v, us[k]? = some v ∧ OwnEs wr w.heap.size v es) ∧ Hid (Blk wr w.heap.size TAuto #[.slice A n c, .int .i64 acc]) ∧ Hid (Blk wr (w.heap.size + 1) TAuto #[.slice none 0 0, .int .i64 0]) ∧ Hid (Blk wr (w.heap.size + 1 + 1) TAuto #[.slice A' i c', .int .i64 acc]) ∧ Hid (Below w.heap.size w wr)) (fun iv _ => n - (intOf iv).toNat)
  case atStart => exact ⟨0, none, 0, [], rfl, by omega, Lib.hid (World.ownsRow_nil _ _ _ _), Lib.hid (by intros; omega), K0, K1, K2, HB0⟩
  case round =>
    obtain ⟨wo, hwo⟩ : ∃ wo : World, wo = wr := ⟨_, rfl⟩
    subst hwo
    obtain ⟨i, A', c', us, rfl, hi, HOW, HRW, HK0, HK1, HK2, HB⟩ := hrel
    obtain ⟨p0, p1, _, _⟩ := Blk.two HK0.out
    obtain ⟨q0, q1, q2, q3⟩ := Blk.two HK2.out
    have hN := HK0.out.lt; have hN1 := HK1.out.lt; have hN2 := HK2.out.lt
    by_cases hlt : i < n
    · obtain ⟨b2, o2, S, q, cs, es, rfl, hb2, c2, hS, HQ, hqc, HY⟩ := AtAu.gt HA.out HL hlt
      have HES := Lib.hid hS
      have hq : q ≤ 140737488355328 := by have := hS.1; rwa [HQ.out] at this
      have hq40 : q * 40 ≤ 140737488355328 := by have := (HQL.out es (mem_of_get HY.out)).1; rwa [HQ.out] at this
      have HC2 := Lib.hid c2; have HH2 := Lib.hid hb2
      have c2 := ((Keep.of HB.out).cell _ _ hb2).trans c2
      have hb2 := Nat.lt_of_lt_of_le hb2 HB.out.size
      have i1 : (0 : Int) ≤ (i : Int) := by omega
      have i2 : (i : Int) < (n : Int) := by omega
      clear hS
      go_wp2
      go_loopw [6, 5] (fun kv lv wr => ∃ (k : Nat) (A1 : Option Addr) (c1 : Nat) (vs : List Value), kv = .int .i64 k ∧ k ≤ q ∧ lv = .slice A1 k c1 ∧ Hid (wr.ownsRow wo.heap.size TEdge 3 (.slice A1 k c1) k vs) ∧ Hid (RelK 3 (OEd wr wo.heap.size) vs (es.take k)) ∧ Hid (Below wo.heap.size wo wr)) (fun kv _ _ => q - (intOf kv).toNat)
      case atStart => exact ⟨0, none, 0, [], rfl, by omega, rfl, Lib.hid (World.ownsRow_nil _ _ _ _), Lib.hid RelK.nil, Lib.hid (Below.refl _ _)⟩
      case round =>
        clear p0 p1 q0 q1 q2 q3 c2 hb2
        obtain ⟨k, A1, c1, vs, rfl, hk, rfl, HO, HR, HBI⟩ := hrel
        have HBW := Lib.hid (HB.out.trans (HBI.out.mono HB.out.size))
        obtain ⟨p0, p1, _, _⟩ := Blk.two (HK0.out.below HBI.out HK0.out.lt)
        obtain ⟨q0, q1, q2, q3⟩ := Blk.two (HK2.out.below HBI.out HK2.out.lt)
        have c2 := ((Keep.of HBW.out).cell _ _ HH2.out).trans HC2.out
        have hb2 := Nat.lt_of_lt_of_le HH2.out HBW.out.size
        have hsz := HBI.out.size
        by_cases hkt : k < q
        · obtain ⟨b3, o3, to, fr, T, tq, tc, sl, rfl, hb3, ⟨d0, d1, d2⟩, hset, HTQ, htc, hto, HZ⟩ := AtEd.gt (AtEd.keep HES.out (Keep.of HBW.out)) HQ hkt
          have i5 : (0 : Int) ≤ (k : Int) := by omega
          have i6 : (k : Int) < (q : Int) := by omega
          have htq : tq * 16 ≤ 140737488355328 := by have := (HQL.out es (mem_of_get HY.out)).2 _ (mem_of_get HZ.out); simp only [HTQ.out] at this; exact this
          have HC := Lib.hid (fun (W : World) (kp : Below wr.heap.size wr W) => ref06_Twin T tc tq sl W (hset.keep (Keep.of kp)) HTQ htq)
          have HNEW := Lib.hid ((Below.refl wr.heap.size wr).alloc (Nat.le_refl _) (.cells #[.int .i64 to, .bool fr, .slice T tq tc] TEdge))
          have HLK := Lib.hid (show (es.take k).length = k by rw [List.length_take, HQ.out]; omega)
          clear hset htq
          go_wp2_with fail
          refine (HC.out _ HNEW.out).mono ?_
          rintro e w1 ⟨B', s', rfl, hset, hb1⟩
          obtain ⟨z0, z1, z2, z4, _⟩ := box3 hb1
          have BK := Lib.hid (Blk.below (Blk.new wr TEdge #[.int .i64 to, .bool fr, .slice T tq tc]) hb1 (by simp))
          have fz := BK.out.frozen 2
          have HB1 := Lib.hid hb1
          have HSET := Lib.hid hset
          clear hb1 hset
          have OW := Lib.hid ((ownsRow_setNe (ownsRow_below HO.out (((Below.refl _ _).alloc (Nat.le_refl _) _).trans (HB1.out.mono (by simp)))) (g := wr.heap.size) (fun h => by have := (HO.out.lt _ h).2; omega) 2 (.slice B' tq s')).alloc (.cells #[.int .i64 to, .bool fr, .slice B' tq s'] TEdge))
          have Q1 : Hid (k + 1 ≤ maxLen) := Lib.hid (by simp only [maxLen]; omega)
          have Q2 : Hid ((k + 1) * 40 ≤ 140737488355328) := Lib.hid (by omega)
          have Q3 : Hid (wo.heap.size ≤ ((w1.setCell ⟨wr.heap.size, 2, none⟩ (.slice B' tq s')).alloc (.cells #[.int .i64 to, .bool fr, .slice B' tq s'] TEdge)).heap.size) := Lib.hid (by have h2 := HB1.out.size; simp at h2; simp; omega)
          have SRC0 := (Src.many (w := w1.setCell ⟨wr.heap.size, 2, none⟩ (.slice B' tq s')) (arr := #[.int .i64 to, .bool fr, .slice B' tq s']) (t := TEdge) (size := 3) (by simp [Value.oneCell']) rfl)
          rw [show (w1.setCell ⟨wr.heap.size, 2, none⟩ (.slice B' tq s')).heap.size = w1.heap.size by simp] at SRC0
          have SRC := Lib.hid SRC0
          clear SRC0
          go_wp2_with (at_builtin
                       go_must (refine wpList_append_src _ rfl (.tmp 40) (.tmp 42) 56 rfl wo.heap.size TEdge i0 (.agg #[.int .i64 0, .bool false, .slice none 0 0]) 3 40 Try.underlying56 hi0 hz0 hs0 hb0 rfl (by decide) A1 c1 k vs rfl OW.out _ 1 1 _ rfl SRC.out Q1.out Q2.out Q3.out ?_)
                       intro A4 c4 w4 own4 gr4 _
                       have G4 := Lib.hid gr4; have O4 := Lib.hid own4
                       clear gr4 own4)
          go_roundw
          case rel =>
            obtain ⟨r1, r2⟩ := edge_step (x := ⟨to, fr, sl⟩) rfl HZ.out HLK.out HBI.out HO.out HR.out HB1.out HSET.out hto O4.out G4.out
            exact ⟨k + 1, A4, c4, _, by go_num, by omega, rfl, O4, Lib.hid r1, Lib.hid r2⟩
          case measure => simp [intOf]; omega
        · obtain rfl : k = q := by omega
          have hel : es.take k = es := List.take_of_length_le (by rw [HQ.out]; omega)
          have HEL := Lib.hid hel
          have HNR : Hid (OwnEs wr wo.heap.size (.slice A1 k c1) es) := Lib.hid ⟨A1, c1, vs, by rw [HQ.out], by rw [HQ.out]; exact HO.out, by have := HR.out; rwa [HEL.out] at this⟩
          clear hel
          have Q1 : Hid (i + 1 ≤ maxLen) := Lib.hid (by simp only [maxLen]; omega)
          have Q2 : Hid ((i + 1) * 24 ≤ 140737488355328) := Lib.hid (by omega)
          have Q3 : Hid (w.heap.size ≤ (wr.alloc (.cells #[.slice A1 k c1] TRow)).heap.size) := Lib.hid (by have h1 := HB.out.size; simp; omega)
          have OW := Lib.hid ((ownsRow_below HOW.out HBI.out).alloc (.cells #[.slice A1 k c1] TRow))
          have SRC := Lib.hid (Src.one (w := wr) (x := .slice A1 k c1) (t := TRow) rfl)
          have BA := Lib.hid (HBI.out.alloc hsz (.cells #[.slice A1 k c1] TRow))
          have NA := Lib.hid ((Below.refl wr.heap.size wr).alloc (Nat.le_refl _) (.cells #[.slice A1 k c1] TRow))
          go_wp2_with (at_builtin
                       go_must (refine wpList_append_src _ rfl (.tmp 45) (.tmp 47) 48 rfl w.heap.size TRow j0 (.slice none 0 0) 1 24 Try.underlying48 hj0 hy0 ht0 hd0 rfl (by decide) A' c' i us rfl OW.out _ 1 1 _ rfl SRC.out Q1.out Q2.out Q3.out ?_)
                       intro A5 c5 w5 own5 gr5 _
                       have G5 := Lib.hid gr5; have O5 := Lib.hid own5
                       have B0 := Lib.hid ((HK0.out.below BA.out HK0.out.lt).grown gr5 (own_blk_ne OW.out (HK0.out.below BA.out HK0.out.lt) (by decide)))
                       have B1 := Lib.hid ((HK1.out.below BA.out HK1.out.lt).grown gr5 (own_blk_ne OW.out (HK1.out.below BA.out HK1.out.lt) (by decide)))
                       have B2 := Lib.hid ((HK2.out.below BA.out HK2.out.lt).grown gr5 (own_blk_ne OW.out (HK2.out.below BA.out HK2.out.lt) (by decide)))
                       have BB := Lib.hid ((HB.out.trans (BA.out.mono HB.out.size)).grown gr5 Q3.out (own_ge OW.out))
                       have x0 := B2.out.cell 0
                       have x1 := B2.out.frozen 0
                       simp at x0
                       clear gr5 own5)
          have HN5 : Hid (∀ (k' : Nat) es', k' < i + 1 → a[k']? = some es' → ∃ v, (us ++ [.slice A1 k c1])[k']? = some v ∧ OwnEs (w5.setCell ⟨w.heap.size + 1 + 1, 0, none⟩ (.slice A5 (i + 1) c5)) w.heap.size v es') := Lib.hid (by
            intro k' es' hk' he'
            have hul : us.length = i := by have := HOW.out.1; simpa using this
            by_cases e : k' = i
            · subst e
              obtain rfl := Option.some.inj (he'.symm.trans HY.out)
              exact ⟨_, by rw [List.getElem?_append_right (by omega), hul]; simp, (((HNR.out.lower HB.out.size).below NA.out).grownRow OW.out G5.out).setFar B2.out 0 _⟩
            · obtain ⟨v, hv, ho⟩ := HRW.out k' es' (by omega) he'
              exact ⟨v, by rw [List.getElem?_append_left (by omega)]; exact hv, ((ho.below BA.out).grownRow OW.out G5.out).setFar B2.out 0 _⟩)
          have F0 := Lib.hid (B0.out.far (p := ⟨w.heap.size + 1 + 1, 0, none⟩) (by simp; omega) (.slice A5 (i + 1) c5))
          have F1 := Lib.hid (B1.out.far (p := ⟨w.heap.size + 1 + 1, 0, none⟩) (by simp) (.slice A5 (i + 1) c5))
          have F2 := Lib.hid (B2.out.set 0 (.slice A5 (i + 1) c5))
          have FB := Lib.hid (BB.out.setCell (p := ⟨w.heap.size + 1 + 1, 0, none⟩) (by simp; omega) (.slice A5 (i + 1) c5))
          have FO := Lib.hid (ownsRow_setFar O5.out B2.out (by decide) 0 (.slice A5 (i + 1) c5))
          go_roundw
          case rel => exact ⟨i + 1, A5, c5, _, by go_num, by omega, FO, HN5, F0, F1, F2, FB⟩
          case measure => simp [intOf]; omega
    · obtain rfl : i = n := by omega
      obtain ⟨r0, r1, r2, r3⟩ := Blk.two HK1.out
      have B2 := HK1.out.set 0 (.slice A' i c')
      have FO := Lib.hid (ownsRow_setFar (ownsRow_setFar HOW.out HK1.out (by decide) 0 (.slice A' i c')) B2 (by decide) 1 (.int .i64 acc))
      have HREL : Hid (Rel (IsRow ((wo.setCell ⟨w.heap.size + 1, 0, none⟩ (.slice A' i c')).setCell ⟨w.heap.size + 1, 1, none⟩ (.int .i64 acc))) us a) := Lib.hid ⟨by have := HOW.out.1; rw [HL.out]; simpa using this, fun k u es hu he => by
        obtain ⟨v, hv, ho⟩ := HRW.out k es (by have := lt_of_get he; rwa [HL.out] at this) he
        obtain rfl := Option.some.inj (hu.symm.trans hv)
        have hb := HQL.out es (mem_of_get he)
        have ho2 := (ho.setFar HK1.out 0 (.slice A' i c')).setFar B2 1 (.int .i64 acc)
        exact OwnK.sl (ho2.monoR fun f y hy h => h.re (by have := hb.2 y hy; omega)) (by have := hb.1; omega)⟩
      have FB := Lib.hid ((HB.out.setCell (p := ⟨w.heap.size + 1, 0, none⟩) (by simp) (.slice A' i c')).setCell (p := ⟨w.heap.size + 1, 1, none⟩) (by simp) (.int .i64 acc))
      have HF := (B2.set 1 (.int .i64 acc))
      have f0 := HF.cell 0
      have f1 := HF.cell 1
      simp at f0 f1
      have HFIN := Lib.hid (At.of_own FO.out HREL.out (by rw [HL.out]; omega)).2.2
      clear B2 HF
      go_wp2
      refine bodyPost_ret (v := .agg #[.slice A' i c', .int .i64 acc]) (by simp [results, Try.results33, go_sem, f0, f1]) rfl ⟨A', c', rfl, HFIN.out, FB.out⟩
end Go.Proofs.Ytjnjbcigbnjmkaa
