/- Walks: table.Twin. PUT1 -/
import Derived.Test.YtbdkedjgfihamaaGreatDoorV32u
namespace Go.Proofs.YtbdkedjgfihamaaGreatDoor
open Go.RowKit Pv Go.Maps
theorem info_rec : (Tryz.prog.info? TRe).map (fun i => (i.zero, i.size, i.bytes)) = some (some (.agg #[.string ByteArray.empty, .slice none 0 0]), 2, 40) := by kernel_rfl
theorem mk_rec (n : Nat) (hn : n ≤ 100000) : ∃ cs : Array Value, cs.size = n * 2 ∧ ∀ W, (Instr.makeSlice 45 (.int .i64 (n : Int)) (.int .i64 (n : Int))).run Tryz.prog W = .ok (.slice (some ⟨W.heap.size, 0, none⟩) n n) (W.alloc (.cells cs TRe)) := by
  obtain ⟨i0, hi0, hz0, hs0, hb0⟩ := info_parts info_rec
  refine ⟨madeCells (Value.agg #[.string ByteArray.empty, .slice none 0 0]).cells (n * 2), size_madeCells _ _, fun W => ?_⟩
  have h := run_makeSlice (P := Tryz.prog) W 45 TRe i0 _ Tryz.underlying45 hi0 hz0 .i64 .i64 n n (by omega) (Int.le_refl _) (by rw [hs0]; simp; omega) (by rw [hb0]; omega) (by omega)
  rw [hs0] at h
  simpa using h
/-- The first q rows twinned. -/
def TwinR (W : World) (base : Nat) (l : List Rec) (q : Nat) (cs : Array Value) : Prop := ∀ i x, i < q → l[i]? = some x → ∃ f : Nat → Value, (∀ j, j < 2 → cs[i * 2 + j]? = some (f j)) ∧ ORec W base TCe f x
theorem TwinR.next {W W' : World} {base : Nat} {l : List Rec} {q : Nat} {cs : Array Value} (h : TwinR W base l q cs) (hk : ∀ f x, ORec W base TCe f x → ORec W' base TCe f x) : TwinR W' base l q cs := fun i x hi hx => by
  obtain ⟨f, hf, ho⟩ := h i x hi hx
  exact ⟨f, hf, hk f x ho⟩
theorem TwinR.put {W : World} {base : Nat} {l : List Rec} {q n : Nat} {cs : Array Value} (h : TwinR W base l q cs) (hs : cs.size = n * 2) (hq : q < n) {x : Rec} (hx : l[q]? = some x) {g : Nat → Value} (ho : ORec W base TCe g x) : TwinR W base l (q + 1) ((cs.setIfInBounds (q * 2) (g 0)).setIfInBounds (q * 2 + 1) (g 1)) := fun i y hi hy => by
  rcases Nat.lt_or_ge i q with h1 | h1
  · obtain ⟨f, hf, ho'⟩ := h i y h1 hy
    refine ⟨f, fun j hj => ?_, ho'⟩
    rw [Array.getElem?_setIfInBounds_ne (by omega), Array.getElem?_setIfInBounds_ne (by omega)]
    exact hf j hj
  · obtain rfl : i = q := by omega
    rw [hx] at hy
    obtain rfl := Option.some.inj hy
    refine ⟨g, fun j hj => ?_, ho⟩
    match j, hj with
    | 0, _ =>
      rw [Array.getElem?_setIfInBounds_ne (by omega), Nat.add_zero, Array.getElem?_setIfInBounds_self_of_lt (by omega)]
    | 1, _ =>
      rw [Array.getElem?_setIfInBounds_self_of_lt (by simp; omega)]
/-- Where the walk through the rows stands. -/
structure TwSt (w W : World) (g : Nat) (V : Option Addr) (un vc rn : Nat) (t : Tab) (q : Nat) (cs : Array Value) : Prop where
  blk : Blk W g TRe cs
  sz : cs.size = rn * 2
  ge : w.heap.size ≤ g
  tw : TwinR W w.heap.size t.rows q cs
  own : Own W w.heap.size TSt RStr (.slice V un vc) t.uniques
  b1 : Blk W (w.heap.size + 1) TTb #[.string ⟨#[]⟩, .int .i64 0, .slice none 0 0, .slice none 0 0]
  b2 : Blk W (w.heap.size + 1 + 1) TTb #[.string t.name, .int .i64 t.most, .slice V un vc, .slice (some ⟨g, 0, none⟩) rn rn]
  k : Below w.heap.size w W
theorem TwSt.next {w W W' : World} {g : Nat} {V : Option Addr} {un vc rn : Nat} {t : Tab} {q : Nat} {cs : Array Value} (h : TwSt w W g V un vc rn t q cs) (k : Below W.heap.size W W') : TwSt w W' g V un vc rn t q cs :=
  ⟨h.blk.below k h.blk.lt, h.sz, h.ge, h.tw.next fun _ _ ho => ho.below k, h.own.below k, h.b1.below k h.b1.lt, h.b2.below k h.b2.lt, h.k.trans (k.mono h.k.size)⟩
theorem TwSt.put {w W : World} {g : Nat} {V : Option Addr} {un vc rn : Nat} {t : Tab} {q : Nat} {cs : Array Value} (h : TwSt w W g V un vc rn t q cs) (hq : q < rn) {x : Rec} (hx : t.rows[q]? = some x) {f : Nat → Value} (ho : ORec W w.heap.size TCe f x) :
    TwSt w ((W.setCell ⟨g, q * 2, none⟩ (f 0)).setCell ⟨g, q * 2 + 1, none⟩ (f 1)) g V un vc rn t (q + 1) ((cs.setIfInBounds (q * 2) (f 0)).setIfInBounds (q * 2 + 1) (f 1)) := by
  have hb := h.blk.set (q * 2) (f 0)
  have n1 : w.heap.size + 1 ≠ g := fun e => (h.b1.ne h.blk (by decide)) e
  have n2 : w.heap.size + 1 + 1 ≠ g := fun e => (h.b2.ne h.blk (by decide)) e
  refine ⟨hb.set (q * 2 + 1) (f 1), by simp [h.sz], h.ge, TwinR.put (h.tw.next fun _ _ ho' => (ho'.far h.blk (by decide)).far hb (by decide)) h.sz hq hx ((ho.far h.blk (by decide)).far hb (by decide)), (h.own.setFar h.blk (by decide) _ _).setFar hb (by decide) _ _, (h.b1.far (p := ⟨g, q * 2, none⟩) n1 _).far (p := ⟨g, q * 2 + 1, none⟩) n1 _, (h.b2.far (p := ⟨g, q * 2, none⟩) n2 _).far (p := ⟨g, q * 2 + 1, none⟩) n2 _, (h.k.setCell h.ge _).setCell h.ge _⟩
abbrev set4 (w : World) (b : Nat) (v0 v1 v2 v3 : Value) : World := (((w.setCell ⟨b, 0, none⟩ v0).setCell ⟨b, 1, none⟩ v1).setCell ⟨b, 2, none⟩ v2).setCell ⟨b, 3, none⟩ v3
theorem set4_blk {w : World} {b : Nat} {T : TypeId} {z0 z1 z2 z3 : Value} (h : Blk w b T #[z0, z1, z2, z3]) (v0 v1 v2 v3 : Value) : RowSet w (set4 w b v0 v1 v2 v3) b T #[v0, v1, v2, v3] := by
  have h4 := (((h.set 0 v0).set 1 v1).set 2 v2).set 3 v3
  refine ⟨by simpa using h4, rfl, rfl, rfl, by simp [World.setCell], fun k hk => ?_⟩
  show (set4 w b v0 v1 v2 v3).heap[k]? = _
  unfold set4
  rw [Below.heap_setCell _ _ _ _ (by simpa using hk), Below.heap_setCell _ _ _ _ (by simpa using hk), Below.heap_setCell _ _ _ _ (by simpa using hk), Below.heap_setCell _ _ _ _ (by simpa using hk)]
theorem TwSt.fin {w W : World} {g : Nat} {V : Option Addr} {un vc rn : Nat} {t : Tab} {cs : Array Value} (h : TwSt w W g V un vc rn t rn cs) (hl : t.rows.length = rn) (hrn : rn ≤ 100000) (v0 v1 v2 v3 : Value) :
    Blk (set4 W (w.heap.size + 1) v0 v1 v2 v3) (w.heap.size + 1) TTb #[v0, v1, v2, v3] ∧ Own (set4 W (w.heap.size + 1) v0 v1 v2 v3) w.heap.size TSt RStr (.slice V un vc) t.uniques ∧
      OwnK (set4 W (w.heap.size + 1) v0 v1 v2 v3) w.heap.size TRe 2 (ORec (set4 W (w.heap.size + 1) v0 v1 v2 v3) w.heap.size TCe) (.slice (some ⟨g, 0, none⟩) rn rn) t.rows ∧ Below w.heap.size w (set4 W (w.heap.size + 1) v0 v1 v2 v3) := by
  have hr := set4_blk h.b1 v0 v1 v2 v3
  have a0 := h.b1
  have a1 := a0.set 0 v0; have a2 := a1.set 1 v1; have a3 := a2.set 2 v2
  refine ⟨hr.blk, (((h.own.setFar a0 (by decide) _ _).setFar a1 (by decide) _ _).setFar a2 (by decide) _ _).setFar a3 (by decide) _ _, ?_, hr.below h.k (by omega)⟩
  have hb := hr.far h.blk (h.blk.ne h.b1 (by decide))
  refine ⟨_, rn, cs.toList, by rw [hl], by rw [hl]; exact own_of_blk hb h.ge h.sz (by simp only [maxLen]; omega), by rw [Array.length_toList, h.sz, hl], fun i x hx => ?_⟩
  obtain ⟨f, hf, ho⟩ := h.tw i x (by have := lt_of_get hx; omega) hx
  exact ⟨f, fun j hj => by rw [Array.getElem?_toList]; exact hf j hj, (((ho.far a0 (by decide)).far a1 (by decide)).far a2 (by decide)).far a3 (by decide)⟩
set_option maxHeartbeats 8000000 in
set_option maxRecDepth 100000 in
theorem table_Twin (U : Option Addr) (un uc : Nat) (R : Option Addr) (rn rc : Nat) (t : Tab) (w : World) (ht : TabAt w U un R rn t) (hun : un ≤ 100000) (hrn : rn ≤ 100000) (hdl : ∀ r, r ∈ t.rows → r.data.length ≤ 100000) :
    Calls Tryz.prog 61 #[.agg #[.string t.name, .int .i64 t.most, .slice U un uc, .slice R rn rc]] w fun e w' => ∃ V vc g, e = .returned (.agg #[.string t.name, .int .i64 t.most, .slice V un vc, .slice (some ⟨g, 0, none⟩) rn rn]) ∧ Own w' w.heap.size TSt RStr (.slice V un vc) t.uniques ∧ OwnK w' w.heap.size TRe 2 (ORec w' w.heap.size TCe) (.slice (some ⟨g, 0, none⟩) rn rn) t.rows ∧ Below w.heap.size w w' := by
  obtain ⟨cs, hcs, hmk⟩ := mk_rec rn hrn
  have hk0 : Below w.heap.size w (((w.alloc (.cells #[.string t.name, .int .i64 t.most, .slice U un uc, .slice R rn rc] TTb)).alloc (.cells #[.string ⟨#[]⟩, .int .i64 0, .slice none 0 0, .slice none 0 0] TTb)).alloc (.cells #[.string t.name, .int .i64 t.most, .slice U un uc, .slice R rn rc] TTb)) := (((Below.refl _ _).alloc (Nat.le_refl _) _).alloc (by simp) _).alloc (by simp; omega) _
  obtain ⟨b0, b1, b2⟩ := blk3 w #[.string t.name, .int .i64 t.most, .slice U un uc, .slice R rn rc] #[.string ⟨#[]⟩, .int .i64 0, .slice none 0 0, .slice none 0 0] #[.string t.name, .int .i64 t.most, .slice U un uc, .slice R rn rc] TTb TTb TTb
  have HCL := Lib.hid (clone_strs U uc un t.uniques _ (ht.uniques.keep (Keep.of hk0)) ht.un (by omega))
  have HT := Lib.hid ht
  have HB0 := Lib.hid b0; have HB1 := Lib.hid b1; have HB2 := Lib.hid b2
  have HK0 := Lib.hid hk0
  have p2 := b0.cell 2; have pl := b0.lt
  clear ht hk0 b0 b1 b2
  go_enter Tryz.func61, Tryz.ntmps61
  go_wp2_with fail
  refine HCL.out.mono ?_
  rintro e w1 ⟨V, vc, rfl, k1, k2⟩
  have HOV := Lib.hid k1
  have HB01 := Lib.hid (HB0.out.below k2 HB0.out.lt); have HB11 := Lib.hid (HB1.out.below k2 HB1.out.lt); have HB21 := Lib.hid (HB2.out.below k2 HB2.out.lt)
  have HK1 := Lib.hid (HK0.out.trans (k2.mono HK0.out.size))
  have q0 := HB21.out.cell 2; have q1 := HB21.out.frozen 2; have q2 := HB21.out.lt
  have q3 := HB21.out.cell 3; have q4 := HB21.out.frozen 3
  have HST : Hid (TwSt w (((w1.setCell ⟨w.heap.size + 1 + 1, 2, none⟩ (.slice V un vc)).setCell ⟨w.heap.size + 1 + 1, 3, none⟩ (.slice (some ⟨w1.heap.size, 0, none⟩) rn rn)).alloc (.cells cs TRe)) w1.heap.size V un vc rn t 0 cs) := Lib.hid (by
    have a1 := HB21.out.set 2 (.slice V un vc)
    have a2 := a1.set 3 (.slice (some ⟨w1.heap.size, 0, none⟩) rn rn)
    have e1 : ((w1.setCell ⟨w.heap.size + 1 + 1, 2, none⟩ (.slice V un vc)).setCell ⟨w.heap.size + 1 + 1, 3, none⟩ (.slice (some ⟨w1.heap.size, 0, none⟩) rn rn)).heap.size = w1.heap.size := by simp
    have n1 := Blk.new ((w1.setCell ⟨w.heap.size + 1 + 1, 2, none⟩ (.slice V un vc)).setCell ⟨w.heap.size + 1 + 1, 3, none⟩ (.slice (some ⟨w1.heap.size, 0, none⟩) rn rn)) TRe cs
    rw [e1] at n1
    refine ⟨n1, hcs, HK1.out.size, fun i x hi => by omega, (((Own.lowerS HOV.out (by simp; omega)).setFar HB21.out (by decide) _ _).setFar a1 (by decide) _ _).alloc _, ((HB11.out.far (p := ⟨w.heap.size + 1 + 1, 2, none⟩) (by simp) _).far (p := ⟨w.heap.size + 1 + 1, 3, none⟩) (by simp) _).alloc _, ?_, ((HK1.out.setCell (p := ⟨w.heap.size + 1 + 1, 2, none⟩) (by simp; omega) _).setCell (p := ⟨w.heap.size + 1 + 1, 3, none⟩) (by simp; omega) _).alloc (by rw [e1]; exact HK1.out.size) _⟩
    have a3 := a2.alloc (.cells cs TRe)
    simpa using a3)
  clear k1 k2 p2 pl
  have p3 := HB01.out.cell 3; have pl := HB01.out.lt
  have HBM := Lib.hid ((HB21.out.set 2 (.slice V un vc)).alloc (.cells cs TRe))
  have m1 := HBM.out.cell 3; have m2 := HBM.out.frozen 3; have m3 := HBM.out.lt
  have HBR := Lib.hid (((HB01.out.far (p := ⟨w.heap.size + 1 + 1, 2, none⟩) (by simp; omega) (.slice V un vc)).alloc (.cells cs TRe)).far (p := ⟨w.heap.size + 1 + 1, 3, none⟩) (by simp; omega) (.slice (some ⟨w1.heap.size, 0, none⟩) rn rn))
  have r1 := HBR.out.cell 3; have r2 := HBR.out.lt
  go_wp2
  clear q0 q1 q2 q3 q4 m1 m2 m3 r1 r2 p3 pl HBM HBR HB0 HB1 HB2 HB01 HB11 HB21 HK0 HK1 HOV HCL
  go_loopw [19] (fun iv W => ∃ (q : Nat) (cs' : Array Value), iv = .int .i64 q ∧ q ≤ rn ∧ Hid (TwSt w W w1.heap.size V un vc rn t q cs')) (fun iv _ => rn - (intOf iv).toNat)
  case atStart => exact ⟨0, cs, rfl, by omega, HST⟩
  case round =>
    obtain ⟨q, cs', rfl, hq, HS⟩ := hrel
    clear HST
    by_cases hlt : q < rn
    · obtain ⟨b1, o1, x, D, dm, dc, hR, lb1, c0, c1, hxs, hD, HDL, _, HX⟩ := AtRec.g2 (AtRec.keep HT.out.rows (Keep.of HS.out.k)) HT.out.rn hlt
      subst hR
      have hdm : dm ≤ 100000 := by have := hdl x (mem_of_get HX.out); rwa [HDL.out] at this
      have hk : Below wr.heap.size wr (wr.alloc (.cells #[.string x.id, .slice D dm dc] TRe)).drew := by
        have h1 : Below wr.heap.size wr (wr.alloc (.cells #[.string x.id, .slice D dm dc] TRe)) := (Below.refl _ _).alloc (Nat.le_refl _) _
        exact below_drewN h1 1
      have HS2 := Lib.hid (HS.out.next hk)
      have HC := Lib.hid (rec_twin D dc dm x ((wr.alloc (.cells #[.string x.id, .slice D dm dc] TRe)).drew) (AtK.keep (R := RCel) hD (Keep.of hk)) HDL hdm)
      have HLO : Hid (w.heap.size ≤ ((wr.alloc (.cells #[.string x.id, .slice D dm dc] TRe)).drew).heap.size) := Lib.hid (Nat.le_trans HS.out.k.size hk.size)
      obtain ⟨z0, hz0⟩ : ∃ z, cs'[q * 2]? = some z := ⟨_, Array.getElem?_eq_getElem (by have := HS.out.sz; omega)⟩
      obtain ⟨z1, hz1⟩ : ∃ z, cs'[q * 2 + 1]? = some z := ⟨_, Array.getElem?_eq_getElem (by have := HS.out.sz; omega)⟩
      have HZ0 := Lib.hid hz0; have HZ1 := Lib.hid hz1
      have s1 : (wr.alloc (.cells #[.string x.id, .slice D dm dc] TRe)).cell? ⟨w.heap.size + 1 + 1, 3, none⟩ = some (.slice (some ⟨w1.heap.size, 0, none⟩) rn rn) := HS2.out.b2.cell 3
      have s2 : w.heap.size + 1 + 1 < wr.heap.size := HS.out.b2.lt
      have s3 : wr.cell? ⟨w.heap.size + 1 + 1, 3, none⟩ = some (.slice (some ⟨w1.heap.size, 0, none⟩) rn rn) := HS.out.b2.cell 3
      have i1 : (q : Int) < (rn : Int) := by omega
      have i2 : (0 : Int) ≤ (q : Int) := by omega
      have HXS := Lib.hid hxs
      clear hD hk hz0 hz1 hxs
      go_wp2
      go_region_with (go_at_call 70; refine HC.out.mono ?_; rintro e w5 ⟨gg, rfl, k1, k2⟩; have HS5 := Lib.hid (HS2.out.next k2); have HO5 := Lib.hid (OwnK.lower k1 HLO.out); have f1 : w5.cell? ⟨w.heap.size + 1 + 1, 3, none⟩ = some (.slice (some ⟨w1.heap.size, 0, none⟩) rn rn) := HS5.out.b2.cell 3; have f2 := (HS5.out.blk.cell (q * 2)).trans HZ0.out; have f3 := (HS5.out.blk.cell (q * 2 + 1)).trans HZ1.out; have f4 := HS5.out.blk.frozen (q * 2); have f5 := HS5.out.blk.frozen (q * 2 + 1); have f6 := HS5.out.blk.lt; have f7 := HS5.out.b2.lt; clear k1 k2)
      all_goals
        go_wp2
        go_roundw
        case rel =>
          exact ⟨q + 1, _, by go_num, by omega, Lib.hid (TwSt.put HS5.out hlt HX.out (f := fun j => if j = 0 then .string x.id else .slice (some ⟨gg, 0, none⟩) dm dm) ⟨⟨rfl, HXS.out⟩, HO5.out⟩)⟩
        case measure => simp [intOf]; omega
    · obtain rfl : q = rn := by omega
      have i1 : ¬ (q : Int) < (q : Int) := by omega
      have y2 := HS.out.b2.lt
      have z0 : wr.cell? ⟨w.heap.size + 1 + 1, 0, none⟩ = some (.string t.name) := HS.out.b2.cell 0
      have z1 : wr.cell? ⟨w.heap.size + 1 + 1, 1, none⟩ = some (.int .i64 t.most) := HS.out.b2.cell 1
      have z2 : wr.cell? ⟨w.heap.size + 1 + 1, 2, none⟩ = some (.slice V un vc) := HS.out.b2.cell 2
      have z3 : wr.cell? ⟨w.heap.size + 1 + 1, 3, none⟩ = some (.slice (some ⟨w1.heap.size, 0, none⟩) q q) := HS.out.b2.cell 3
      have f0 := HS.out.b1.frozen 0; have f1 := HS.out.b1.frozen 1; have f2 := HS.out.b1.frozen 2; have f3 := HS.out.b1.frozen 3
      have g0 : wr.cell? ⟨w.heap.size + 1, 0, none⟩ = some (.string ⟨#[]⟩) := HS.out.b1.cell 0
      have g1 : wr.cell? ⟨w.heap.size + 1, 1, none⟩ = some (.int .i64 0) := HS.out.b1.cell 1
      have g2 : wr.cell? ⟨w.heap.size + 1, 2, none⟩ = some (.slice none 0 0) := HS.out.b1.cell 2
      have g3 : wr.cell? ⟨w.heap.size + 1, 3, none⟩ = some (.slice none 0 0) := HS.out.b1.cell 3
      have gl := HS.out.b1.lt
      go_wp2
      obtain ⟨e1, e2, e3, e4⟩ := HS.out.fin HT.out.rn.out hrn (.string t.name) (.int .i64 t.most) (.slice V un vc) (.slice (some ⟨w1.heap.size, 0, none⟩) q q)
      have k0 := e1.cell 0; have k1 := e1.cell 1; have k2 := e1.cell 2; have k3 := e1.cell 3
      simp at k0 k1 k2 k3
      refine bodyPost_ret (v := .agg #[.string t.name, .int .i64 t.most, .slice V un vc, .slice (some ⟨w1.heap.size, 0, none⟩) q q]) (by simp [results, Tryz.results61, go_sem, k0, k1, k2, k3]) rfl ⟨V, vc, w1.heap.size, rfl, e2, e3, e4⟩
end Go.Proofs.YtbdkedjgfihamaaGreatDoor

namespace Go.Proofs.YtbdkedjgfihamaaGreatDoor
open Go.RowKit Pv Go.Maps
theorem tab_box {w W : World} {t : Tab} {U R : Option Addr} {un uc rn rc : Nat} (hb : Below (w.alloc (.cells #[.string t.name, .int .i64 t.most, .slice U un uc, .slice R rn rc] TTb)).heap.size (w.alloc (.cells #[.string t.name, .int .i64 t.most, .slice U un uc, .slice R rn rc] TTb)) W) :
    Below w.heap.size w W ∧ Blk W w.heap.size TTb #[.string t.name, .int .i64 t.most, .slice U un uc, .slice R rn rc] := by
  have h0 := (Blk.new w TTb #[.string t.name, .int .i64 t.most, .slice U un uc, .slice R rn rc])
  exact ⟨((Below.refl _ _).alloc (Nat.le_refl _) _).trans (hb.mono (by simp)), h0.below hb h0.lt⟩
/-- A book of the call's own. -/
structure BookO (w W : World) (bb : Nat) (V : Option Addr) (un vc g rn : Nat) (t : Tab) : Prop where
  ge : w.heap.size ≤ bb
  blk : Blk W bb TBo #[.string t.name, .int .i64 t.most, .slice V un vc, .slice (some ⟨g, 0, none⟩) rn rn]
  own : Own W w.heap.size TSt RStr (.slice V un vc) t.uniques
  rows : OwnK W w.heap.size TRe 2 (ORec W w.heap.size TCe) (.slice (some ⟨g, 0, none⟩) rn rn) t.rows
  k : Below w.heap.size w W
set_option maxHeartbeats 8000000 in
set_option maxRecDepth 100000 in
theorem table_begun_no (B : Nat) (U : Option Addr) (un uc : Nat) (R : Option Addr) (rn rc : Nat) (t : Tab) (w : World) (ht : TabAt w U un R rn t) (huc : un ≤ uc) (hrc : rn ≤ rc) (hun : un ≤ 100000) (hrb : RowsB t.rows) (hT : TabS B w) (hB : B ≤ w.heap.size) (HN : Hid (¬ TabOk t)) :
    Calls Tryz.prog 65 #[.agg #[.string t.name, .int .i64 t.most, .slice U un uc, .slice R rn rc]] w fun e w' => e = .returned (.tuple #[.pointer none, .int .i64 8]) ∧ Below w.heap.size w w' := by
  have hk0 : Below w.heap.size w (w.alloc (.cells #[.string t.name, .int .i64 t.most, .slice U un uc, .slice R rn rc] TTb)) := (Below.refl _ _).alloc (Nat.le_refl _) _
  have HC := Lib.hid (table_Check B U un uc R rn rc t _ (ht.keep (Keep.of hk0)) huc hrc hun hrb (hT.next (hk0.mono hB)) (by have := hk0.size; omega))
  have HTE : Hid (tabE t = 8) := Lib.hid (tabE_f (by cases h : tabB t with | false => rfl | true => exact absurd ((tabB_iff t).1 h) HN.out))
  rw [HTE.out] at HC
  have HP := Lib.hid (fun W (k : Below (w.alloc (.cells #[.string t.name, .int .i64 t.most, .slice U un uc, .slice R rn rc] TTb)).heap.size (w.alloc (.cells #[.string t.name, .int .i64 t.most, .slice U un uc, .slice R rn rc] TTb)) W) => tab_box k)
  clear ht hT hrb hk0
  go_enter Tryz.func65, Tryz.ntmps65
  go_wp2_with fail
  refine HC.out.mono ?_
  rintro e w1 ⟨rfl, k⟩
  have HF := Lib.hid (HP.out _ k).1
  clear k
  go_wp2
  go_ret2
  exact ⟨rfl, HF.out⟩
set_option maxHeartbeats 8000000 in
set_option maxRecDepth 100000 in
theorem table_begun_yes (B : Nat) (U : Option Addr) (un uc : Nat) (R : Option Addr) (rn rc : Nat) (t : Tab) (w : World) (ht : TabAt w U un R rn t) (huc : un ≤ uc) (hrc : rn ≤ rc) (hun : un ≤ 100000) (hrb : RowsB t.rows) (hT : TabS B w) (hB : B ≤ w.heap.size) (HY : Hid (TabOk t)) :
    Calls Tryz.prog 65 #[.agg #[.string t.name, .int .i64 t.most, .slice U un uc, .slice R rn rc]] w fun e w' => ∃ bb V vc g, e = .returned (.tuple #[.pointer (some ⟨bb, 0, none⟩), .int .i64 0]) ∧ BookO w w' bb V un vc g rn t := by
  have hk0 : Below w.heap.size w (w.alloc (.cells #[.string t.name, .int .i64 t.most, .slice U un uc, .slice R rn rc] TTb)) := (Below.refl _ _).alloc (Nat.le_refl _) _
  have HC := Lib.hid (table_Check B U un uc R rn rc t _ (ht.keep (Keep.of hk0)) huc hrc hun hrb (hT.next (hk0.mono hB)) (by have := hk0.size; omega))
  have HTE : Hid (tabE t = 0) := Lib.hid (tabE_t ((tabB_iff t).2 HY.out))
  rw [HTE.out] at HC
  have HP := Lib.hid (fun W (k : Below (w.alloc (.cells #[.string t.name, .int .i64 t.most, .slice U un uc, .slice R rn rc] TTb)).heap.size (w.alloc (.cells #[.string t.name, .int .i64 t.most, .slice U un uc, .slice R rn rc] TTb)) W) => tab_box k)
  have hrn : rn ≤ 64 := by have h1 := HY.out.few; have h2 := HY.out.m2; rw [ht.rn.out] at h1; omega
  have HTW := Lib.hid (fun W (k : Below w.heap.size w W) => table_Twin U un uc R rn rc t W (ht.keep (Keep.of k)) hun (by omega) (fun r hr => by
    have h1 := HY.out.one r hr
    unfold oneR at h1
    simp only [Bool.and_eq_true] at h1
    have := ((mayV_iff _).1 h1.1.1).few
    omega))
  clear ht hT hrb hk0
  go_enter Tryz.func65, Tryz.ntmps65
  go_wp2_with fail
  refine HC.out.mono ?_
  rintro e w1 ⟨rfl, k⟩
  obtain ⟨h1, h2⟩ := HP.out _ k
  have HF := Lib.hid h1
  have p0 := h2.cell 0; have p1 := h2.cell 1; have p2 := h2.cell 2; have p3 := h2.cell 3; have pl := h2.lt
  have HW := Lib.hid (HTW.out _ h1)
  clear k h1 h2
  go_wp2_with fail
  refine HW.out.mono ?_
  rintro e w2 ⟨V, vc, g, rfl, k1, k2, k3⟩
  have hk : Below w2.heap.size w2 (w2.alloc (.cells #[.string t.name, .int .i64 t.most, .slice V un vc, .slice (some ⟨g, 0, none⟩) rn rn] TBo)) := (Below.refl _ _).alloc (Nat.le_refl _) _
  have hFW := HF.out.trans (k3.mono HF.out.size)
  have HO : Hid (BookO w (w2.alloc (.cells #[.string t.name, .int .i64 t.most, .slice V un vc, .slice (some ⟨g, 0, none⟩) rn rn] TBo)) w2.heap.size V un vc g rn t) := Lib.hid
    ⟨hFW.size, Blk.new _ _ _, (Own.lowerS k1 HF.out.size).alloc _, ((OwnK.lower k2 HF.out.size).below hk).monoR fun _ _ _ ho => (ho.lower HF.out.size).below hk, hFW.alloc hFW.size _⟩
  clear k1 k2 k3 hk hFW
  go_wp2
  go_ret2
  exact ⟨w2.heap.size, V, vc, g, rfl, HO.out⟩
end Go.Proofs.YtbdkedjgfihamaaGreatDoor
