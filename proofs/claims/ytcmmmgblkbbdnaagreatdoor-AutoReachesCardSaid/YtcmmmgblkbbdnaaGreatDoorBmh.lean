/- What the program's leading stands on, what it leaves; nodes one behind the other or side by side, the ends kept. -/
import Derived.Test.YtcmmmgblkbbdnaaGreatDoorBhh
namespace Pv
open Go Go.RowKit

/-- Through nodes, one behind the other (cat) or side by side: the automaton, the state, the ends. -/
def walkG (cat : Bool) : List Tr → Au → Nat → Au × Nat × List Nat
  | [], a, s => (a, s, [])
  | k :: ks, a, s => ((walkG cat ks (leadT k a s).1 (if cat then (leadT k a s).2 else s)).1, (walkG cat ks (leadT k a s).1 (if cat then (leadT k a s).2 else s)).2.1, (leadT k a s).2 :: (walkG cat ks (leadT k a s).1 (if cat then (leadT k a s).2 else s)).2.2)
theorem walkG_snoc (cat : Bool) (k : Tr) : ∀ (ks : List Tr) (a : Au) (s : Nat), walkG cat (ks ++ [k]) a s =
    ((leadT k (walkG cat ks a s).1 (walkG cat ks a s).2.1).1, (if cat then (leadT k (walkG cat ks a s).1 (walkG cat ks a s).2.1).2 else (walkG cat ks a s).2.1), (walkG cat ks a s).2.2 ++ [(leadT k (walkG cat ks a s).1 (walkG cat ks a s).2.1).2])
  | [], a, s => by simp [walkG]
  | j :: ks, a, s => by simp only [List.cons_append, walkG]; rw [walkG_snoc cat k ks]
theorem walkG_cat : ∀ (ks : List Tr) (a : Au) (s : Nat), (walkG true ks a s).1 = (leadCat ks a s).1 ∧ (walkG true ks a s).2.1 = (leadCat ks a s).2
  | [], a, s => by simp [walkG, leadCat]
  | k :: ks, a, s => by simpa [walkG, leadCat] using walkG_cat ks (leadT k a s).1 (leadT k a s).2
theorem walkG_alt : ∀ (ks : List Tr) (a : Au) (s : Nat), walkG false ks a s = ((leadAlt ks a s).1, s, (leadAlt ks a s).2)
  | [], a, s => by simp [walkG, leadAlt]
  | k :: ks, a, s => by simp [walkG, leadAlt, walkG_alt ks]
/-- What holds of it. -/
structure WG (a : Au) (q m : Nat) (r : Au × Nat × List Nat) : Prop where
  len : r.1.length = a.length + q
  lt : r.2.1 < r.1.length
  all : ∀ e, e ∈ r.2.2 → e < r.1.length
  el : EL a r.1
  ne : r.2.2.length = m
theorem walkG_ok (cat : Bool) {d : Nat} : ∀ {ks : List Tr} {a : Au} {s : Nat}, (∀ k, k ∈ ks → k.Ok d) → sizes ks ≤ 64 → s < a.length → a.length + statesL ks ≤ 256 → WG a (statesL ks) ks.length (walkG cat ks a s)
  | [], a, s, _, _, hs, _ => ⟨by simp [walkG, statesL], hs, by simp [walkG], EL.refl _, rfl⟩
  | k :: ks, a, s, hk, hz, hs, hc => by
    rw [sizes_cons] at hz
    rw [statesL] at hc ⊢
    obtain ⟨h1, h2⟩ := leadT_leads k a s hs
    have he := leadT_el (hk k (by simp)) (by omega) hs (by omega : a.length + statesT k ≤ 256)
    have hl := he.l
    have ih := walkG_ok cat (ks := ks) (a := (leadT k a s).1) (s := if cat then (leadT k a s).2 else s) (fun k hk' => hk k (by simp [hk'])) (by omega) (by cases cat <;> simp <;> omega) (by omega)
    have e1 := ih.len
    refine ⟨by rw [walkG]; simp only; omega, by rw [walkG]; exact ih.lt, fun e hm => ?_, by rw [walkG]; exact he.trans ih.el, by rw [walkG]; simp only [List.length_cons]; rw [ih.ne]⟩
    rw [walkG] at hm ⊢
    simp only [List.mem_cons] at hm ⊢
    rcases hm with rfl | hm
    · omega
    · exact ih.all e hm
theorem iter_ok {K : Tr} {d n : Nat} {a : Au} {s : Nat} (hK : K.Ok d) (hz : K.size ≤ 64) (hs : s < a.length) (hc : a.length + statesT K * n ≤ 256) : (iter (leadT K) n a s).1.length = a.length + statesT K * n ∧ (iter (leadT K) n a s).2 < (iter (leadT K) n a s).1.length ∧ EL a (iter (leadT K) n a s).1 :=
  ⟨((leadT_leads K).iter n a s hs).1, ((leadT_leads K).iter n a s hs).2, iter_el hK hz hs hc⟩
theorem EL.few {a b : Au} {n : Nat} (h : EL a b) (hn : n = a.length) (he : edgesN a ≤ 65 * n) : edgesN b ≤ 65 * b.length := by have := h.e; omega
end Pv
namespace Go.Proofs.YtcmmmgblkbbdnaaGreatDoor
open Go.RowKit Pv

/-- The maker under way, with what it reads. -/
structure MkE (w0 w : World) (base pm e0 : Nat) (acc : Int) (tA EA : Option Addr) (nt ct ec : Nat) (t : List Rx) (A : Option Addr) (n c : Nat) (a : Au) : Prop where
  ma : MkAt w base pm A n c acc (.slice tA nt ct) (.slice EA nt ec) a
  kp : Keep w0 w
  oe : w.ownsRow e0 TInt 1 (.slice EA nt ec) nt ((endsL t).map (Value.int .i64))
  ge : base ≤ w.heap.size
section
variable {w0 w w' : World} {base pm e0 : Nat} {acc : Int} {tA EA : Option Addr} {nt ct ec : Nat} {t : List Rx} {A : Option Addr} {n c : Nat} {a : Au}
theorem MkE.next (h : MkE w0 w base pm e0 acc tA EA nt ct ec t A n c a) (hb : Below w.heap.size w w') : MkE w0 w' base pm e0 acc tA EA nt ct ec t A n c a := ⟨h.ma.next hb, h.kp.trans (Keep.of hb), ownsRow_below h.oe hb, Nat.le_trans h.ge hb.size⟩
theorem MkE.step {A' : Option Addr} {n' c' : Nat} {a' : Au} (h : MkE w0 w base pm e0 acc tA EA nt ct ec t A n c a) (hb : w0.heap.size ≤ base) (mk : MkAt w' base pm A' n' c' acc (.slice tA nt ct) (.slice EA nt ec) a') (ch : Chg TB base w w') : MkE w0 w' base pm e0 acc tA EA nt ct ec t A' n' c' a' :=
  ⟨mk, ch.keep h.kp hb h.ge, ownsRow_chg h.oe ch TB_int, Nat.le_trans h.ge ch.size⟩
theorem MkE.len (h : MkE w0 w base pm e0 acc tA EA nt ct ec t A n c a) : n = a.length := h.ma.au.len
theorem MkE.cells (h : MkE w0 w base pm e0 acc tA EA nt ct ec t A n c a) : pm < w.heap.size ∧ w.cell? ⟨pm, 2, none⟩ = some (.slice tA nt ct) ∧ w.cell? ⟨pm, 3, none⟩ = some (.slice EA nt ec) := ⟨h.ma.b.lt, h.ma.b.cell 2, h.ma.b.cell 3⟩
end
/-- What the program's leading leaves. -/
def MkLead (w0 w : World) (base pm e0 : Nat) (acc : Int) (tA EA : Option Addr) (nt ct ec : Nat) (t : List Rx) (r : Au × Nat) (e : Ending) (w' : World) : Prop :=
  ∃ A' c', e = .returned (.int .i64 (r.2 : Nat)) ∧ MkE w0 w' base pm e0 acc tA EA nt ct ec t A' r.1.length c' r.1 ∧ Chg TB base w w'
/-- It does so from any state, where there are not too many. -/
def PLead (w0 : World) (base pm e0 : Nat) (acc : Int) (tA EA : Option Addr) (nt ct ec : Nat) (t : List Rx) (T : Tr) (i : Nat) : Prop :=
  ∀ (W : World) (A : Option Addr) (n c : Nat) (a : Au) (s : Nat), MkE w0 W base pm e0 acc tA EA nt ct ec t A n c a → s < n → n + statesT T ≤ 256 → edgesN a ≤ 65 * n →
    Calls Tryz.prog 59 #[.pointer (some ⟨pm, 0, none⟩), .int .i64 i, .int .i64 s] W (MkLead w0 W base pm e0 acc tA EA nt ct ec t (leadT T a s))
/-- The ends' cells. -/
theorem own_int {w : World} {e0 k n c : Nat} {A : Option Addr} {l : List Int} {z : Int} (h : w.ownsRow e0 TInt 1 (.slice A n c) n (l.map (Value.int .i64))) (hk : l[k]? = some z) : ∃ g, A = some ⟨g, 0, none⟩ ∧ g < w.heap.size ∧ w.cell? ⟨g, k, none⟩ = some (.int .i64 z) :=
  own_get h (by rw [List.getElem?_map, hk]; rfl)
/-- one of the call's own -/
theorem own_one (w : World) (base : Nat) (u : Value) (hb : base ≤ w.heap.size) : (w.alloc (.cells #[u] TInt)).ownsRow base TInt 1 (.slice (some ⟨w.heap.size, 0, none⟩) 1 1) 1 [u] :=
  ⟨rfl, .inr ⟨w.heap.size, 1, #[u], rfl, hb, by show (w.heap.push _)[w.heap.size]? = _; simp, Nat.le_refl _, by simp only [maxLen]; omega, by simp, by simp⟩⟩

end Go.Proofs.YtcmmmgblkbbdnaaGreatDoor

namespace Go.Proofs.YtcmmmgblkbbdnaaGreatDoor
open Go.RowKit Pv

abbrev TRx : TypeId := 37
theorem TB_rx : ∀ e, e ∈ TB → e ≠ TRx := by decide
/-- a set just made is the call's own -/
theorem SetQ.made {w : World} {base b0 : Nat} {v : Value} {l : List Rng} (h : OwnSet w b0 v l) (hb : base ≤ b0) (hl : l.length ≤ 140737488355328) : SetQ w base v l := by
  obtain ⟨A, c, us, rfl, ow, rel⟩ := id h
  obtain ⟨A', c', e, hat, hc⟩ := OwnK.sl h hl
  injection e with e1 _ e3
  subst e1; subst e3
  refine ⟨⟨A, c, rfl, hat, hc, fun hp b o e => ?_⟩, fun b o n c' e hn => ?_⟩
  · rcases ow.2 with ⟨hv, h0⟩ | ⟨g, cap, cur, hv, hg, hh, r⟩
    · injection hv with e1; rw [e1] at e; cases e
    · injection hv with e1
      rw [e1] at e
      injection e with e; injection e with e
      subst e
      exact .inr ⟨cur, hh⟩
  · injection e with e1 e2 e3
    rcases ow.2 with ⟨hv, h0⟩ | ⟨g, cap, cur, hv, hg, hh, r⟩
    · injection hv with e4; rw [e4] at e1; cases e1
    · injection hv with e4
      rw [e4] at e1
      injection e1 with e1; injection e1 with e1
      omega

set_option maxHeartbeats 1000000 in
set_option maxRecDepth 100000 in
theorem maker_lead_empty (w0 W : World) (base pm e0 : Nat) (acc : Int) (tA EA : Option Addr) (nt ct ec : Nat) (t : List Rx) (A : Option Addr) (n c : Nat) (a : Au) (s i : Nat) (l : List Rng) (many least most : Int) (ks : List Tr)
    (ht : AtRx w0 tA t) (hbs : w0.heap.size ≤ base) (HT : Hid (t.length = nt)) (HX : Hid (t[i]? = some ⟨0, l, many, least, most⟩)) (h : MkE w0 W base pm e0 acc tA EA nt ct ec t A n c a) (hs : s < n) (hn : n ≤ 255) (he : edgesN a ≤ 65 * n) :
    Calls Tryz.prog 59 #[.pointer (some ⟨pm, 0, none⟩), .int .i64 i, .int .i64 s] W (MkLead w0 W base pm e0 acc tA EA nt ct ec t (leadT (.mk ⟨0, l, many, least, most⟩ ks) a s)) := by
  have hin : i < nt := by have := lt_of_get HX.out; rwa [HT.out] at this
  obtain ⟨b, off, kd, B, cs, m, l', many', least', most', rfl, H5, hset, HM, hmc, hkd, hma, hle, hmo, HX'⟩ := ht.g5 HT hin
  obtain ⟨rfl, rfl, rfl, rfl, rfl⟩ := Rx.mk.inj (Option.some.inj (HX'.out.symm.trans HX.out))
  obtain ⟨y0, y1, y2, y3, y4, y5⟩ := H5.next h.kp
  obtain ⟨hpm, q2, q3⟩ := h.cells
  have hW1 : Below W.heap.size W (W.alloc (.cells #[.int .u8 0, .slice B m cs, .int .i64 many', .int .i64 least', .int .i64 most'] TRx)) := (Below.refl _ _).alloc (Nat.le_refl _) _
  have hW : Below W.heap.size W ((W.alloc (.cells #[.int .u8 0, .slice B m cs, .int .i64 many', .int .i64 least', .int .i64 most'] TRx)).alloc (.cells #[.int .i64 s] TInt)) := hW1.alloc (by simp) _
  have OO := own_one (W.alloc (.cells #[.int .u8 0, .slice B m cs, .int .i64 many', .int .i64 least', .int .i64 most'] TRx)) W.heap.size (.int .i64 s) (by simp)
  rw [show (W.alloc (.cells #[.int .u8 0, .slice B m cs, .int .i64 many', .int .i64 least', .int .i64 most'] TRx)).heap.size = W.heap.size + 1 by simp] at OO
  have HJ := Lib.hid (maker_join A n c base pm acc _ _ a (some ⟨W.heap.size + 1, 0, none⟩) 1 1 W.heap.size [s] _ (h.next hW).ma (Nat.le_trans h.ge hW.size) (by omega) (by omega) OO (by simpa using hs) (by simp))
  have HW := Lib.hid hW; have HH := Lib.hid h
  have HNL := Lib.hid h.len
  clear h hW hW1 H5 ht hset HX' OO
  go_enter Tryz.func59, Tryz.ntmps59
  go_wp2_with fail
  refine HJ.out.mono ?_
  rintro e w1 ⟨A1, c1, rfl, mk1, ch1⟩
  have CH := Lib.hid ((Chg.of_below HW.out).trans ch1)
  have ST := Lib.hid (HH.out.step hbs mk1 CH.out)
  have HR : leadT (.mk ⟨0, l', many', least', most'⟩ ks) a s = (auJoin a [s], a.length) := by rw [leadT, if_pos rfl]; rfl
  have HRR := Lib.hid HR
  clear mk1 ch1 HR
  go_wp2
  go_ret
  rw [HRR.out]
  exact ⟨A1, c1, by rw [← HNL.out]; rfl, by simp only [auJoin_length, ← HNL.out]; exact ST.out, CH.out⟩

set_option maxHeartbeats 1000000 in
set_option maxRecDepth 100000 in
theorem maker_lead_set (w0 W : World) (base pm e0 : Nat) (acc : Int) (tA EA : Option Addr) (nt ct ec : Nat) (t : List Rx) (A : Option Addr) (n c : Nat) (a : Au) (s i : Nat) (l : List Rng) (many least most : Int) (ks : List Tr)
    (ht : AtRx w0 tA t) (hbs : w0.heap.size ≤ base) (HT : Hid (t.length = nt)) (HX : Hid (t[i]? = some ⟨1, l, many, least, most⟩)) (hl : l.length ≤ 256) (h : MkE w0 W base pm e0 acc tA EA nt ct ec t A n c a) (hs : s < n) (hn : n ≤ 255) (he : edgesN a ≤ 65 * n) :
    Calls Tryz.prog 59 #[.pointer (some ⟨pm, 0, none⟩), .int .i64 i, .int .i64 s] W (MkLead w0 W base pm e0 acc tA EA nt ct ec t (leadT (.mk ⟨1, l, many, least, most⟩ ks) a s)) := by
  have hin : i < nt := by have := lt_of_get HX.out; rwa [HT.out] at this
  obtain ⟨b, off, kd, B, cs, m, l', many', least', most', rfl, H5, hset, HM, hmc, hkd, hma, hle, hmo, HX'⟩ := ht.g5 HT hin
  obtain ⟨rfl, rfl, rfl, rfl, rfl⟩ := Rx.mk.inj (Option.some.inj (HX'.out.symm.trans HX.out))
  obtain ⟨y0, y1, y2, y3, y4, y5⟩ := H5.next h.kp
  obtain ⟨hpm, q2, q3⟩ := h.cells
  have hml : m ≤ 256 := by rw [← HM.out]; exact hl
  have hW1 : Below W.heap.size W (W.alloc (.cells #[.int .u8 1, .slice B m cs, .int .i64 many', .int .i64 least', .int .i64 most'] TRx)) := (Below.refl _ _).alloc (Nat.le_refl _) _
  have hW : Below W.heap.size W (W.alloc (.cells #[.int .u8 1, .slice B m cs, .int .i64 many', .int .i64 least', .int .i64 most'] TRx)).drew := hW1.drew
  have BX := Lib.hid (Blk.new W TRx #[.int .u8 1, .slice B m cs, .int .i64 many', .int .i64 least', .int .i64 most'])
  have K1 : Hid ((W.alloc (.cells #[.int .u8 1, .slice B m cs, .int .i64 many', .int .i64 least', .int .i64 most'] TRx)).drew.cell? ⟨W.heap.size, 1, none⟩ = some (.slice B m cs) ∧ (W.alloc (.cells #[.int .u8 1, .slice B m cs, .int .i64 many', .int .i64 least', .int .i64 most'] TRx)).drew.cell? ⟨W.heap.size, 0, none⟩ = some (.int .u8 1)) := Lib.hid ⟨BX.out.cell 1, BX.out.cell 0⟩
  have HST := Lib.hid (maker_state A n c base pm acc _ _ a _ (h.next hW).ma (Nat.le_trans h.ge hW.size) (by omega))
  have HW := Lib.hid hW; have HH := Lib.hid h
  have HNL := Lib.hid h.len
  have HSET := Lib.hid hset
  have HE := Lib.hid he
  clear h hW hW1 H5 ht hset HX' he
  go_enter Tryz.func59, Tryz.ntmps59
  go_wp2_with fail
  refine wp_region_T 9 (fun W1 => W1.cell? ⟨W.heap.size, 1, none⟩ = some (.slice B m cs) ∧ W1.cell? ⟨W.heap.size, 0, none⟩ = some (.int .u8 1)) (by kernel_rfl) ?_
  refine wpAnyT_takeW (i := 0) (v := ?_) rfl (by decide) (by kernel_rfl) (by kernel_rfl) (by kernel_rfl) (fun _ _ _ h => h) (.inl ⟨rfl, ?_⟩) (fun _ => K1.out) ?_
  rotate_left
  · intro W__ _
    go_simp
    (try with_reducible rfl)
  simp only [Act.put, List.setIfInBounds_toArray]
  refine wpAnyT_takeW (i := 1) (v := ?_) rfl (by decide) (by kernel_rfl) (by kernel_rfl) (by kernel_rfl) (fun _ _ _ h => h) (.inl ⟨rfl, ?_⟩) (fun _ => K1.out) ?_
  rotate_left
  · intro W__ _
    go_simp
    (try with_reducible rfl)
  simp only [Act.put]
  refine wpAnyT_takeW (i := 2) (v := ?_) rfl (by decide) (by kernel_rfl) (by kernel_rfl) (by kernel_rfl) (fun _ _ _ h => h) (.inl ⟨rfl, ?_⟩) (fun _ => K1.out) ?_
  rotate_left
  · intro W__ _
    go_simp
    (try with_reducible rfl)
  simp only [Act.put]
  refine wpAnyT_take (i := 4) (v := ?_) rfl (by kernel_rfl) (by kernel_rfl) (by kernel_rfl) (by kernel_rfl) (by kernel_rfl) (fun _ _ _ h => h) (.inl ⟨rfl, ?_⟩) K1.out ?_
  rotate_left
  · intro W__ hW__
    obtain ⟨h1, h2⟩ := hW__
    go_simp
    (try with_reducible rfl)
  simp only [Act.put]
  refine wpAnyT_take (i := 5) (v := ?_) rfl (by kernel_rfl) (by kernel_rfl) (by kernel_rfl) (by kernel_rfl) (by kernel_rfl) (fun _ _ _ h => h) (.inl ⟨rfl, ?_⟩) K1.out ?_
  rotate_left
  · intro W__ hW__
    obtain ⟨h1, h2⟩ := hW__
    go_simp
    (try with_reducible rfl)
  simp only [Act.put]
  refine wpAnyT_one (i := 3) rfl (by kernel_rfl) rfl fun K__ hK__ => ?_
  unfold Oper.wp
  go_simp
  refine HST.out.mono ?_
  rintro e w1 ⟨A1, c1, rfl, mk1, ch1⟩
  have B1 := ch1.blk (show Blk (W.alloc (.cells #[.int .u8 1, .slice B m cs, .int .i64 many', .int .i64 least', .int .i64 most'] TRx)).drew W.heap.size TRx _ from BX.out) TB_rx
  refine hK__ _ _ ⟨B1.cell 1, B1.cell 0⟩ ?_
  have CH1 := Lib.hid ((Chg.of_below HW.out).trans ch1)
  have ST1 := Lib.hid (HH.out.step hbs mk1 CH1.out)
  have HCL := Lib.hid (slices_Clone_rng B cs m l' w1 (AtK.keep HSET.out ST1.out.kp) HM (by omega))
  have BX1 := Lib.hid B1
  clear hK__ mk1 ch1 B1
  try simp only [Act.put, List.setIfInBounds_toArray, List.set_cons_zero, List.set_cons_succ]
  refine wpAnyT_one (i := 6) rfl (by kernel_rfl) rfl fun K__ hK__ => ?_
  unfold Oper.wp
  go_simp
  refine HCL.out.mono ?_
  rintro e w2 ⟨B2, cs2, rfl, own2, hb2⟩
  have BX2 := Lib.hid (BX1.out.below hb2 BX1.out.lt)
  refine hK__ _ _ ⟨BX2.out.cell 1, BX2.out.cell 0⟩ ?_
  have SQ := Lib.hid (SetQ.made own2 ST1.out.ge (by rw [HM.out]; omega))
  have ST2 := Lib.hid (ST1.out.next hb2)
  have CH2 := Lib.hid (CH1.out.then hb2)
  have HED := Lib.hid (maker_edge A1 (n + 1) c1 base pm s acc _ _ (a ++ [[]]) ⟨n, false, l'⟩ B2 m cs2 w2 ST2.out.ma ST2.out.ge (by omega) (by simp only; omega) (by rw [edgesN_state]; have := HE.out; omega) SQ.out)
  have K2 : Hid (w2.cell? ⟨W.heap.size, 1, none⟩ = some (.slice B m cs) ∧ w2.cell? ⟨W.heap.size, 0, none⟩ = some (.int .u8 1)) := Lib.hid ⟨BX2.out.cell 1, BX2.out.cell 0⟩
  clear hK__ own2 hb2
  try simp only [Act.put, List.setIfInBounds_toArray, List.set_cons_zero, List.set_cons_succ]
  refine wpAnyT_takeW (i := 7) (v := ?_) rfl (by decide) (by kernel_rfl) (by kernel_rfl) (by kernel_rfl) (fun _ _ _ h => h) (.inl ⟨rfl, ?_⟩) (fun _ => K2.out) ?_
  rotate_left
  · intro W__ _
    go_simp
    (try with_reducible rfl)
  simp only [Act.put, List.setIfInBounds_toArray]
  refine wpAnyT_one (i := 8) rfl (by kernel_rfl) rfl fun K__ hK__ => ?_
  unfold Oper.wp
  go_simp
  refine HED.out.mono ?_
  rintro e w3 ⟨rfl, mk3, ch3⟩
  have B3 := ch3.blk BX2.out TB_rx
  refine hK__ _ _ ⟨B3.cell 1, B3.cell 0⟩ ?_
  have CH3 := Lib.hid (CH2.out.trans ch3)
  have ST3 := Lib.hid (ST2.out.step hbs mk3 ch3)
  clear hK__ mk3 ch3 B3
  try simp only []
  refine wpAnyT_end (i := 9) rfl (by kernel_rfl) rfl (by kernel_rfl) fun K__ hK__ => ?_
  unfold Oper.wp
  go_simp
  refine hK__ _ _ ?_
  clear hK__
  refine wpAnyT_done (by kernel_rfl) ?_ _
  have HRR := Lib.hid (show leadT (.mk ⟨1, l', many', least', most'⟩ ks) a s = (auEdge (a ++ [[]]) s ⟨a.length, false, l'⟩, a.length) by rw [leadT, if_neg (by simp), if_pos rfl])
  go_wp2
  go_ret
  rw [HRR.out, ← HNL.out]
  exact ⟨A1, c1, rfl, by simp only [auEdge_length, List.length_append, List.length_cons, List.length_nil, Nat.zero_add, ← HNL.out]; exact ST3.out, CH3.out⟩

end Go.Proofs.YtcmmmgblkbbdnaaGreatDoor

namespace Go.Proofs.YtcmmmgblkbbdnaaGreatDoor
open Go.RowKit Pv

theorem SetIn.grow {w w' : World} {base e0 m : Nat} {v rv : Value} {l : List Rng} {us : List Value} (h : SetIn w base v l) (hv : w.ownsRow e0 TInt 1 rv m us) (hb : base ≤ e0) (g : w.grownBy w' rv.ownBlock) : SetIn w' base v l := by
  obtain ⟨S, sc, e, hs, hl, hh⟩ := h
  have key : ∀ b o, S = some ⟨b, o, none⟩ → 0 < l.length → b < w.heap.size → w'.heap[b]? = w.heap[b]? := fun b o e hp hlt => by
    refine g.block b hlt fun e' => ?_
    rcases hh hp b o e with h3 | ⟨cs, h3⟩
    · have := (hv.lt b e'.symm).1; omega
    · exact own_blk_ne (t := TRng) (cs := cs) hv h3 (by decide) e'
  refine ⟨S, sc, e, AtK.chg hs g.size key, hl, fun hp b o e => ?_⟩
  rcases hh hp b o e with h3 | ⟨cs, h3⟩
  · exact .inl h3
  · obtain ⟨b', o', e', hlt, _⟩ := hs.2 hp
    rw [e] at e'
    injection e' with e'
    injection e' with e1 _
    subst e1
    exact .inr ⟨cs, (key b o e hp hlt).trans h3⟩
theorem AuQ.grow {W W' : World} {base n c e0 m : Nat} {A : Option Addr} {a : Au} {v : Value} {us : List Value} (h : AuQ W base A n c a) (hv : W.ownsRow e0 TInt 1 v m us) (hb : base ≤ e0) (g : W.grownBy W' v.ownBlock) : AuQ W' base A n c a := by
  obtain ⟨rows, h1, h2⟩ := h
  refine ⟨rows, h1.kept g (own_ne h1 hv (by decide)), h2.len, h2.n, fun i es he => ?_, h2.ne⟩
  obtain ⟨r, hr, A', c', us', rfl, ow, hk⟩ := h2.row i es he
  exact ⟨_, hr, A', c', us', rfl, ow.kept g (own_ne ow hv (by decide)), hk.mono fun f x _ hx => ⟨hx.1, hx.2, hx.3.1.grow hv hb g, hx.3.2⟩⟩
theorem MkE.grow {w0 w w' : World} {base pm e0 : Nat} {acc : Int} {tA EA : Option Addr} {nt ct ec : Nat} {t : List Rx} {A : Option Addr} {n c : Nat} {a : Au} {b1 m : Nat} {v : Value} {us : List Value} (h : MkE w0 w base pm e0 acc tA EA nt ct ec t A n c a) (hv : w.ownsRow b1 TInt 1 v m us) (hb : base ≤ b1) (hbs : w0.heap.size ≤ base)
    (hne : (Value.slice EA nt ec).ownBlock = none ∨ (Value.slice EA nt ec).ownBlock ≠ v.ownBlock) (g : w.grownBy w' v.ownBlock) : MkE w0 w' base pm e0 acc tA EA nt ct ec t A n c a :=
  ⟨⟨h.ma.b.grown g (own_blk_ne hv h.ma.b (by decide)), h.ma.au.grow hv hb g, h.ma.ge⟩, h.kp.trans' g.size (fun x o hx => World.cell?_of_block (a := ⟨x, o, none⟩) (g.block x (by have := h.ge; omega) fun e => by have := (hv.lt x e.symm).1; omega)), h.oe.kept g hne, Nat.le_trans h.ge g.size⟩

/-- The variables of leading, under way: the maker, the node, the ends. -/
structure PL (w0 W wr : World) (base pm e0 : Nat) (acc : Int) (tA EA : Option Addr) (nt ct ec : Nat) (t : List Rx) (A : Option Addr) (n c : Nat) (a : Au) (x : Array Value) (LA : Option Addr) (m lc : Nat) (l : List Nat) : Prop where
  me : MkE w0 wr base pm e0 acc tA EA nt ct ec t A n c a
  ch : Chg TB base W wr
  bx : Blk wr W.heap.size TRx x
  ow : wr.ownsRow (W.heap.size + 1) TInt 1 (.slice LA m lc) m (l.map fun (z : Nat) => Value.int .i64 (z : Int))
section
variable {w0 W wr w' : World} {base pm e0 : Nat} {acc : Int} {tA EA : Option Addr} {nt ct ec : Nat} {t : List Rx} {A : Option Addr} {n c : Nat} {a : Au} {x : Array Value} {LA : Option Addr} {m lc : Nat} {l : List Nat}
theorem PL.below (h : PL w0 W wr base pm e0 acc tA EA nt ct ec t A n c a x LA m lc l) (hb : Below wr.heap.size wr w') : PL w0 W w' base pm e0 acc tA EA nt ct ec t A n c a x LA m lc l := ⟨h.me.next hb, h.ch.then hb, h.bx.below hb h.bx.lt, ownsRow_below h.ow hb⟩
/-- behind a callee -/
theorem PL.call {A' : Option Addr} {n' c' : Nat} {a' : Au} (h : PL w0 W wr base pm e0 acc tA EA nt ct ec t A n c a x LA m lc l) (mk : MkE w0 w' base pm e0 acc tA EA nt ct ec t A' n' c' a') (hc : Chg TB base wr w') : PL w0 W w' base pm e0 acc tA EA nt ct ec t A' n' c' a' x LA m lc l := ⟨mk, h.ch.trans hc, hc.blk h.bx TB_rx, ownsRow_chg h.ow hc TB_int⟩
/-- one end more -/
theorem PL.push {LA' : Option Addr} {lc' z : Nat} (h : PL w0 W wr base pm e0 acc tA EA nt ct ec t A n c a x LA m lc l) (hb : base ≤ W.heap.size) (hbs : w0.heap.size ≤ base) (far : ∀ g, (Value.slice EA nt ec).ownBlock = some g → g < W.heap.size) (g : wr.grownBy w' (Value.slice LA m lc).ownBlock)
    (own : w'.ownsRow (W.heap.size + 1) TInt 1 (.slice LA' (m + 1) lc') (m + 1) ((l.map fun (z : Nat) => Value.int .i64 (z : Int)) ++ [.int .i64 (z : Int)])) : PL w0 W w' base pm e0 acc tA EA nt ct ec t A n c a x LA' (m + 1) lc' (l ++ [z]) :=
  ⟨h.me.grow h.ow (Nat.le_trans hb (Nat.le_succ _)) hbs (by
      cases hq : (Value.slice EA nt ec).ownBlock with
      | none => exact .inl rfl
      | some q => exact .inr fun e => by have h1 := far q hq; have h2 := (h.ow.lt q e.symm).1; omega) g,
    h.ch.grow g (fun k hk => Nat.le_trans (Nat.le_succ _) (h.ow.lt k hk).1), h.bx.grown g (own_blk_ne h.ow h.bx (by decide)), by simpa using own⟩
theorem PL.start (h : MkE w0 W base pm e0 acc tA EA nt ct ec t A n c a) (x : Array Value) : PL w0 W (W.alloc (.cells x TRx)) base pm e0 acc tA EA nt ct ec t A n c a x none 0 0 [] :=
  have hb : Below W.heap.size W (W.alloc (.cells x TRx)) := (Below.refl _ _).alloc (Nat.le_refl _) _
  ⟨h.next hb, Chg.of_below hb, Blk.new W TRx x, World.ownsRow_nil _ _ _ _⟩
end

set_option maxHeartbeats 2000000 in
set_option maxRecDepth 100000 in
theorem maker_lead_walk (w0 W : World) (base pm e0 : Nat) (acc : Int) (tA EA : Option Addr) (nt ct ec : Nat) (t : List Rx) (A : Option Addr) (n c : Nat) (a : Au) (s i : Nat) (cat : Bool) (l : List Rng) (many least most : Int) (ks : List Tr)
    (ht : AtRx w0 tA t) (hbs : w0.heap.size ≤ base) (HT : Hid (t.length = nt)) (hnt : nt ≤ 64) (HX : Hid (t[i]? = some ⟨if cat then 2 else 3, l, many, least, most⟩)) (h : MkE w0 W base pm e0 acc tA EA nt ct ec t A n c a) (_hs : s < n)
    (HN : Hid (n + statesL ks + (if cat then 0 else 1) ≤ 256))
    (HZ : Hid ((endsL t)[i]? = some ((i + 1 + sizes ks : Nat) : Int)))
    (HEND : Hid (∀ (j : Nat) (k : Tr), ks[j]? = some k → (endsL t)[i + 1 + sizes (ks.take j)]? = some ((i + 1 + sizes (ks.take (j + 1)) : Nat) : Int) ∧ i + 1 + sizes (ks.take j) < nt))
    (HG : Hid (∀ j, WG a (statesL (ks.take j)) (ks.take j).length (walkG cat (ks.take j) a s)))
    (HIH : Hid (∀ j k, ks[j]? = some k → PLead w0 base pm e0 acc tA EA nt ct ec t k (i + 1 + sizes (ks.take j)))) (_hzs : i + 1 + sizes ks ≤ 64) (hk64 : ks.length ≤ 64) (he : edgesN a ≤ 65 * n) :
    Calls Tryz.prog 59 #[.pointer (some ⟨pm, 0, none⟩), .int .i64 i, .int .i64 s] W (MkLead w0 W base pm e0 acc tA EA nt ct ec t (leadT (.mk ⟨if cat then 2 else 3, l, many, least, most⟩ ks) a s)) := by
  obtain ⟨i0, hi0, hz0, hs0, hb0⟩ := info_parts info_int
  have hin : i < nt := by have := lt_of_get HX.out; rwa [HT.out] at this
  have hn1 : n + statesL ks ≤ 256 := by have := HN.out; omega
  obtain ⟨b, off, kd, B, cs, m, l', many', least', most', rfl, H5, hset, HM, hmc, hkd, hma, hle, hmo, HX'⟩ := ht.g5 HT hin
  obtain ⟨hkk, rfl, rfl, rfl, rfl⟩ := Rx.mk.inj (Option.some.inj (HX'.out.symm.trans HX.out))
  obtain ⟨y0, y1, y2, y3, y4, y5⟩ := H5.next h.kp
  obtain ⟨hpm, q2, q3⟩ := h.cells
  have F0 := Lib.hid (PL.start h #[.int .u8 kd, .slice B m cs, .int .i64 many', .int .i64 least', .int .i64 most'])
  have FAR := Lib.hid (fun g hg => (h.oe.lt g hg).2)
  have HNL := Lib.hid h.len
  have HGE := Lib.hid h.ge
  have HKK := Lib.hid hkk
  have t0 : (kd == 0) = false := by rw [hkk]; cases cat <;> rfl
  have t1 : (kd == 1) = false := by rw [hkk]; cases cat <;> rfl
  have t4 : (kd == 4) = false := by rw [hkk]; cases cat <;> rfl
  obtain ⟨R, hR⟩ : ∃ R, leadT (.mk ⟨if cat then 2 else 3, l', many', least', most'⟩ ks) a s = R := ⟨_, rfl⟩
  rw [hR]
  have HRES := Lib.hid (show R = if cat then ((walkG cat ks a s).1, (walkG cat ks a s).2.1) else (auJoin (walkG cat ks a s).1 (walkG cat ks a s).2.2, (walkG cat ks a s).1.length) from by
    rw [← hR]
    cases cat with
    | true => rw [leadT, if_neg (by simp), if_neg (by simp), if_pos (by simp)]; simp only [if_true]; obtain ⟨h1, h2⟩ := walkG_cat ks a s; exact Prod.ext h1.symm h2.symm
    | false => rw [leadT, if_neg (by simp), if_neg (by simp), if_neg (by simp), if_pos (by simp)]; rw [walkG_alt]; rfl)
  have HST := Lib.hid (statesL_take ks)
  have HE := Lib.hid he
  have HZE : Hid (∀ z, (endsL t)[i]? = some z → z = ((i + 1 + sizes ks : Nat) : Int)) := Lib.hid (fun z h => Option.some.inj (h.symm.trans HZ.out))
  clear h H5 ht hset HX' hkk he hR
  go_enter Tryz.func59, Tryz.ntmps59
  go_wp2
  go_loopw [2, 8, 9] (fun sv lv kv wr => ∃ (j : Nat) (A' : Option Addr) (c' : Nat) (LA : Option Addr) (lc : Nat), j ≤ ks.length ∧ kv = .int .i64 ((i + 1 + sizes (ks.take j) : Nat) : Int) ∧ sv = .int .i64 (walkG cat (ks.take j) a s).2.1 ∧ lv = .slice LA j lc ∧ PL w0 W wr base pm e0 acc (some ⟨b, off, none⟩) EA nt ct ec t A' (walkG cat (ks.take j) a s).1.length c' (walkG cat (ks.take j) a s).1 #[.int .u8 kd, .slice B m cs, .int .i64 many', .int .i64 least', .int .i64 most'] LA j lc (walkG cat (ks.take j) a s).2.2) (fun _ _ kv _ => (i + 1 + sizes ks) - (intOf kv).toNat)
  case atStart => exact ⟨0, A, c, none, 0, by omega, by simp [sizes, flats], by simp [walkG], rfl, by simp only [List.take_zero, walkG]; rw [← HNL.out]; exact F0.out⟩
  case round =>
    clear y0 y1 y2 y3 y4 y5 q2 q3
    obtain ⟨j, A', c', LA, lc, hj, rfl, rfl, rfl, hpl⟩ := hrel
    have PP := Lib.hid hpl
    clear hpl
    obtain ⟨hpm', p2, p3⟩ := PP.out.me.cells
    obtain ⟨x0, x1, x2, x3, x4⟩ := Blk.five PP.out.bx
    obtain ⟨eg, eE, egl, egc⟩ := own_int PP.out.me.oe HZ.out
    subst eE
    obtain ⟨ze, hze⟩ : ∃ ze, i + 1 + sizes ks = ze := ⟨_, rfl⟩
    rw [hze] at egc
    have GJ := Lib.hid (HG.out j)
    obtain ⟨rj, hrj⟩ : ∃ rj, walkG cat (ks.take j) a s = rj := ⟨_, rfl⟩
    rw [hrj] at PP GJ
    rw [hrj]
    by_cases hlt : j < ks.length
    · have hkk : ks[j]? = some (ks[j]) := List.getElem?_eq_getElem hlt
      have hps := sizes_take_lt hlt
      generalize ks[j] = k0 at hkk
      obtain ⟨hen1, hen2⟩ := HEND.out j k0 hkk
      have hst : sizes (ks.take j) < sizes (ks.take (j + 1)) := by
        rw [take_snoc hkk]
        show _ < (flats (ks.take j ++ [k0])).length
        rw [flats_app, List.length_append]
        have := k0.size_pos
        simp only [flats, List.append_nil, sizes]
        simp only [Tr.size] at this
        omega
      have hst2 := sizes_take_le (ks := ks) (j + 1)
      have hsl : statesL (ks.take j) + statesT k0 ≤ statesL ks := by
        have h1 := HST.out (j + 1)
        rw [take_snoc hkk] at h1
        have h2 : ∀ l : List Tr, statesL (l ++ [k0]) = statesL l + statesT k0 := fun l => by
          induction l with
          | nil => simp [statesL]
          | cons y l ih => simp only [List.cons_append, statesL]; rw [ih]; omega
        rw [h2] at h1
        exact h1
      have HC := Lib.hid (HIH.out j k0 hkk wr A' rj.1.length c' rj.1 rj.2.1 PP.out.me GJ.out.lt (by have := GJ.out.len; have := HNL.out; omega) (GJ.out.el.few HNL.out HE.out))
      have HSN := Lib.hid (show walkG cat (ks.take (j + 1)) a s = ((leadT k0 rj.1 rj.2.1).1, (if cat then (leadT k0 rj.1 rj.2.1).2 else rj.2.1), rj.2.2 ++ [(leadT k0 rj.1 rj.2.1).2]) by rw [take_snoc hkk, walkG_snoc, hrj])
      obtain ⟨eg2, eE2, _, egc2⟩ := own_int PP.out.me.oe hen1
      have HEN1 := Lib.hid hen1
      have HKT := Lib.hid hrj
      generalize hp : i + 1 + sizes (ks.take j) = p at *
      have HP := Lib.hid hp
      have hpz : p < ze := by omega
      have HZE2 := Lib.hid hze
      clear hkk hen1 hp hze hrj eE2 egc2
      have T2 := Lib.hid (show ((kd == 2) = true ∧ cat = true) ∨ ((kd == 2) = false ∧ cat = false) by rw [HKK.out]; cases cat <;> simp)
      have hjl : j ≤ 64 := by omega
      go_wp2_with fail
      refine HC.out.mono ?_
      rintro e w1 ⟨A1, c1, rfl, mk1, ch1⟩
      have P1 := Lib.hid (PP.out.call mk1 ch1)
      obtain ⟨rk, hrk⟩ : ∃ rk, leadT k0 rj.1 rj.2.1 = rk := ⟨_, rfl⟩
      rw [hrk] at P1 HSN
      rw [hrk]
      have hal : Below w1.heap.size w1 (w1.alloc (.cells #[.int .i64 rk.2] TInt)) := (Below.refl _ _).alloc (Nat.le_refl _) _
      have PA := Lib.hid (P1.out.below hal)
      have SRC := Lib.hid (Pv.Src.one (w := w1) (x := .int .i64 rk.2) (t := TInt) rfl)
      have Q1 : Hid (j + 1 ≤ maxLen) := Lib.hid (by simp only [maxLen]; omega)
      have Q2 : Hid ((j + 1) * 8 ≤ 140737488355328) := Lib.hid (by omega)
      have Q3 : Hid (W.heap.size + 1 ≤ (w1.alloc (.cells #[.int .i64 rk.2] TInt)).heap.size) := Lib.hid (by have := P1.out.bx.lt; simp; omega)
      clear mk1 ch1 hal hrk x0 x1 x2 x3 x4 p2 p3 egc
      rcases T2.out with ⟨t2, hc⟩ | ⟨t2, hc⟩
      all_goals
        have HC2 := Lib.hid hc
        clear hc
        go_wp2_with (at_builtin
                     go_must (refine wpList_append_src _ rfl (.tmp 66) (.tmp 68) 27 rfl (W.heap.size + 1) TInt i0 (.int .i64 0) 1 8 Tryz.underlying27 hi0 hz0 hs0 hb0 rfl (by decide) LA lc j _ rfl PA.out.ow _ 1 1 _ rfl SRC.out Q1.out Q2.out Q3.out ?_)
                     intro A8 lc8 w8 own8 gr8 _
                     have P8 := Lib.hid (PA.out.push HGE.out hbs FAR.out gr8 own8)
                     obtain ⟨_, p2, p3⟩ := P8.out.me.cells
                     obtain ⟨x0, x1, x2, x3, x4⟩ := Blk.five P8.out.bx
                     obtain ⟨eg2, eE2, _, egc2⟩ := own_int P8.out.me.oe HEN1.out
                     simp only [Option.some.injEq, Addr.mk.injEq, and_true] at eE2
                     subst eE2
                     clear gr8 own8)
        go_roundw
        case rel => exact ⟨j + 1, A1, c1, A8, lc8, by omega, rfl, by rw [HSN.out]; simp [HC2.out], by go_num, by rw [HSN.out]; exact P8.out⟩
        case measure => have := HZE2.out; have h2 := HP.out; simp [intOf]; omega
    · have hjl : j = ks.length := by omega
      subst hjl
      have htk : ks.take ks.length = ks := List.take_of_length_le (by omega)
      rw [htk] at hrj
      rw [htk]
      rw [htk] at GJ
      have hdz : ¬ ((i + 1 + sizes ks : Nat) : Int) < (ze : Int) := by omega
      have T2 := Lib.hid (show ((kd == 2) = true ∧ cat = true) ∨ ((kd == 2) = false ∧ cat = false) by rw [HKK.out]; cases cat <;> simp)
      rw [hrj] at HRES
      rw [hze]
      have HLEN := Lib.hid GJ.out.len
      rw [← HNL.out] at HLEN
      have hlen : rj.1.length ≤ 256 := by have := HLEN.out; omega
      have hel := GJ.out.el.few HNL.out HE.out
      clear htk hrj
      rcases T2.out with ⟨t2, hc⟩ | ⟨t2, hc⟩
      · rw [hc] at HRES
        clear hc
        go_wp2
        go_ret
        rw [HRES.out]
        exact ⟨A', c', rfl, PP.out.me, PP.out.ch⟩
      · have HN2 := HN.out
        rw [hc] at HRES HN2
        have HJ := Lib.hid (maker_join A' rj.1.length c' base pm acc _ _ rj.1 LA ks.length lc (W.heap.size + 1) rj.2.2 wr PP.out.me.ma PP.out.me.ge (by simp at HN2; omega) (by omega) PP.out.ow GJ.out.all (by have := GJ.out.ne; omega))
        clear hc HN2
        go_wp2_with fail
        refine HJ.out.mono ?_
        rintro e w2 ⟨A2, c2, rfl, mk2, ch2⟩
        have P2 := Lib.hid (PP.out.call (PP.out.me.step hbs mk2 ch2) ch2)
        clear mk2 ch2
        go_wp2
        go_ret
        rw [HRES.out]
        exact ⟨A2, c2, rfl, by simp only [Bool.false_eq_true, if_false, auJoin_length]; exact P2.out.me, P2.out.ch⟩

end Go.Proofs.YtcmmmgblkbbdnaaGreatDoor

namespace Go.Proofs.YtcmmmgblkbbdnaaGreatDoor
open Go.RowKit Pv

set_option maxHeartbeats 4000000 in
set_option maxRecDepth 100000 in
theorem maker_repeat (w0 W : World) (base pm e0 : Nat) (acc : Int) (tA EA : Option Addr) (nt ct ec : Nat) (t : List Rx) (A : Option Addr) (n c : Nat) (a : Au) (s i k : Nat) (most : Int) (l : List Rng) (B : Option Addr) (mm cs : Nat) (K : Tr)
    (hbs : w0.heap.size ≤ base) (h : MkE w0 W base pm e0 acc tA EA nt ct ec t A n c a) (hs : s < n) (hk : k ≤ 16) (hm : most = -1 ∨ ((k : Int) ≤ most ∧ most ≤ 16))
    (hn : n + (statesT K * timesOf ⟨4, l, 1, k, most⟩ + 1) ≤ 256) (hi : i + 1 ≤ 64) (HI : Hid (∀ q a' s', s' < a'.length → a'.length + statesT K * q ≤ 256 → (iter (leadT K) q a' s').1.length = a'.length + statesT K * q ∧ (iter (leadT K) q a' s').2 < (iter (leadT K) q a' s').1.length ∧ EL a' (iter (leadT K) q a' s').1))
    (HIH : Hid (PLead w0 base pm e0 acc tA EA nt ct ec t K (i + 1))) (he : edgesN a ≤ 65 * n) :
    Calls Tryz.prog 96 #[.pointer (some ⟨pm, 0, none⟩), .int .i64 i, .int .i64 s, .agg #[.int .u8 4, .slice B mm cs, .int .i64 1, .int .i64 k, .int .i64 most]] W (MkLead w0 W base pm e0 acc tA EA nt ct ec t (leadT (.mk ⟨4, l, 1, k, most⟩ [K]) a s)) := by
  obtain ⟨i0, hi0, hz0, hs0, hb0⟩ := info_parts info_int
  have F0 := Lib.hid (PL.start h #[.int .u8 4, .slice B mm cs, .int .i64 1, .int .i64 k, .int .i64 most])
  have FAR := Lib.hid (fun g hg => (h.oe.lt g hg).2)
  have HNL := Lib.hid h.len
  have HGE := Lib.hid h.ge
  have hleft : n + statesT K * k ≤ 256 := by
    have h1 : statesT K * k ≤ statesT K * timesOf ⟨4, l, 1, k, most⟩ := Nat.mul_le_mul_left _ (by unfold timesOf; simp only [Int.toNat_natCast]; split <;> omega)
    omega
  have HLEFT := Lib.hid (fun q (hq : q ≤ k) => (show n + statesT K * q ≤ 256 by have := Nat.mul_le_mul_left (statesT K) hq; omega))
  have HE := Lib.hid he
  have hF : leadHd [K] = leadT K := by funext a s; rw [leadHd]
  have HRS := Lib.hid (fun (h : most < 0) => (show leadT (.mk ⟨4, l, 1, k, most⟩ [K]) a s = starOf (leadT K) (iter (leadT K) k a s) by rw [leadT, if_neg (by simp), if_neg (by simp), if_neg (by simp), if_neg (by simp), if_pos h, hF]; simp))
  have HRJ := Lib.hid (fun (h : ¬ most < 0) => (show leadT (.mk ⟨4, l, 1, k, most⟩ [K]) a s = joinOf (iters (leadT K) (most - k).toNat (iter (leadT K) k a s).1 (iter (leadT K) k a s).2) by rw [leadT, if_neg (by simp), if_neg (by simp), if_neg (by simp), if_neg (by simp), if_neg h, hF]; simp))
  obtain ⟨x0, x1, x2, x3, x4⟩ := Blk.five F0.out.bx
  clear h he hF
  go_enter Tryz.func96, Tryz.ntmps96
  go_wp2
  go_loopw [2, 12] (fun sv kv wr => ∃ (q : Nat) (A' : Option Addr) (c' : Nat), q ≤ k ∧ kv = .int .i64 q ∧ sv = .int .i64 (iter (leadT K) q a s).2 ∧ PL w0 W wr base pm e0 acc tA EA nt ct ec t A' (iter (leadT K) q a s).1.length c' (iter (leadT K) q a s).1 #[.int .u8 4, .slice B mm cs, .int .i64 1, .int .i64 k, .int .i64 most] none 0 0 []) (fun _ kv _ => k - (intOf kv).toNat)
  case atStart => exact ⟨0, A, c, by omega, rfl, rfl, by simp only [iter]; rw [← HNL.out]; exact F0.out⟩
  case round =>
    clear x0 x1 x2 x3 x4
    obtain ⟨q, A', c', hq, rfl, rfl, hpl⟩ := hrel
    have PP := Lib.hid hpl
    clear hpl
    obtain ⟨x0, x1, x2, x3, x4⟩ := Blk.five PP.out.bx
    obtain ⟨g1, g2, g3⟩ := HI.out q a s (by rw [← HNL.out]; exact hs) (by rw [← HNL.out]; exact HLEFT.out q hq)
    by_cases hlt : q < k
    · have hq1 := HLEFT.out (q + 1) (by omega)
      rw [Nat.mul_add] at hq1
      have HC := Lib.hid (HIH.out wr A' _ c' _ (iter (leadT K) q a s).2 PP.out.me g2 (by rw [g1, ← HNL.out]; omega) (g3.few HNL.out HE.out))
      have HS := Lib.hid (iter_snoc (leadT K) q a s)
      clear g1 g2 g3
      go_wp2_with fail
      refine HC.out.mono ?_
      rintro e w1 ⟨A1, c1, rfl, mk1, ch1⟩
      have P1 := Lib.hid (PP.out.call mk1 ch1)
      clear mk1 ch1
      go_wp2
      go_roundw
      case rel => exact ⟨q + 1, A1, c1, by omega, by go_num, by rw [HS.out], by rw [HS.out]; exact P1.out⟩
      case measure => simp [intOf]; omega
    have hqk : q = k := by omega
    subst hqk
    obtain ⟨r1, hr1⟩ : ∃ r1, iter (leadT K) q a s = r1 := ⟨_, rfl⟩
    rw [hr1] at PP HRS HRJ g1 g2 g3
    rw [hr1]
    have G1 := Lib.hid g1; have G3 := Lib.hid (g3.few HNL.out HE.out)
    have hb1 : base ≤ wr.heap.size := PP.out.me.ge
    have hsz : W.heap.size + 1 ≤ wr.heap.size := PP.out.bx.lt
    rw [← HNL.out] at g1
    have hl1 : r1.1.length ≤ 256 := by omega
    have GL := Lib.hid g1
    clear hr1 HLEFT g3 g1
    by_cases hms : most < 0
    · have hn2 : r1.1.length + 1 + statesT K ≤ 256 := by
        have : timesOf ⟨4, l, 1, q, most⟩ = q + 1 := by unfold timesOf; simp [hms]
        rw [this, Nat.mul_add] at hn; have := GL.out; omega
      have hWa : Below wr.heap.size wr (wr.alloc (.cells #[.int .i64 r1.2] TInt)) := (Below.refl _ _).alloc (Nat.le_refl _) _
      have PA := Lib.hid (PP.out.below hWa)
      have HJ := Lib.hid (maker_join A' r1.1.length c' base pm acc _ _ r1.1 (some ⟨wr.heap.size, 0, none⟩) 1 1 base [r1.2] _ PA.out.me.ma PA.out.me.ge (by omega) (by have := G3.out; omega) (own_one wr base (.int .i64 r1.2) hb1) (by simpa using g2) (by simp))
      have HRS2 := Lib.hid (HRS.out hms)
      clear hWa HRJ HRS
      go_wp2_with fail
      refine HJ.out.mono ?_
      rintro e w2 ⟨A2, c2, rfl, mk2, ch2⟩
      have P2 := Lib.hid (PA.out.call (PA.out.me.step hbs mk2 ch2) ch2)
      have HED := Lib.hid (show edgesN (auJoin r1.1 [r1.2]) ≤ 65 * (r1.1.length + 1) by
        unfold auJoin
        rw [frees_edges _ _ _ (by intro e he; simp at he ⊢; omega), edgesN_state]
        have := G3.out; simp; omega)
      have HC := Lib.hid (HIH.out w2 A2 _ c2 _ r1.1.length P2.out.me (by omega) (by omega) HED.out)
      have HLT := Lib.hid (leadT_leads K (auJoin r1.1 [r1.2]) r1.1.length (by rw [auJoin_length]; omega))
      clear mk2 ch2 x0 x1 x2 x3 x4
      go_wp2_with fail
      refine HC.out.mono ?_
      rintro e w3 ⟨A3, c3, rfl, mk3, ch3⟩
      have P3 := Lib.hid (P2.out.call mk3 ch3)
      have HEL := Lib.hid (HI.out 1 (auJoin r1.1 [r1.2]) r1.1.length (by rw [auJoin_length]; omega) (by rw [auJoin_length]; omega)).2.2
      rw [show (iter (leadT K) 1 (auJoin r1.1 [r1.2]) r1.1.length).1 = (leadT K (auJoin r1.1 [r1.2]) r1.1.length).1 from rfl] at HEL
      have HR := Lib.hid HRS2.out
      rw [starOf] at HR
      obtain ⟨r3, hr3⟩ : ∃ r3, leadT K (auJoin r1.1 [r1.2]) r1.1.length = r3 := ⟨_, rfl⟩
      rw [hr3] at HR P3 HEL HLT
      rw [hr3]
      have h3l : r3.1.length ≤ 256 := by have := HLT.out.1; rw [auJoin_length] at this; omega
      have h3s : r3.2 < r3.1.length := HLT.out.2
      have h3e : edgesN r3.1 ≤ 1000000 := by have h1 := HEL.out.e; have h2 := HED.out; have h4 : (auJoin r1.1 [r1.2]).length = r1.1.length + 1 := auJoin_length _ _; omega
      have HE3 := Lib.hid (maker_edge A3 r3.1.length c3 base pm r3.2 acc _ _ r3.1 ⟨(r1.1.length : Nat), true, []⟩ none 0 0 w3 P3.out.me.ma P3.out.me.ge h3s (by simp only; omega) h3e (SetQ.nil _ _))
      clear mk3 ch3 hr3
      go_wp2_with fail
      refine HE3.out.mono ?_
      rintro e w4 ⟨rfl, mk4, ch4⟩
      have P4 := Lib.hid (P3.out.call (P3.out.me.step hbs mk4 ch4) ch4)
      clear mk4 ch4
      go_wp2
      go_ret
      rw [HR.out]
      exact ⟨A3, c3, rfl, by simp only [auEdge_length]; exact P4.out.me, P4.out.ch⟩
    · obtain ⟨p, hp⟩ := Int.eq_ofNat_of_zero_le (show 0 ≤ most - (q : Int) by omega)
      have hp16 : p ≤ 16 := by omega
      have hmo : 0 ≤ most ∧ most ≤ 16 := by omega
      have HP := Lib.hid hp
      have hsum : r1.1.length + statesT K * p + 1 ≤ 256 := by
        have : timesOf ⟨4, l, 1, q, most⟩ = q + p := by unfold timesOf; simp [hms, hp]
        rw [this, Nat.mul_add] at hn; have := GL.out; omega
      have HLEFT := Lib.hid (fun j (hj : j ≤ p) => (show r1.1.length + statesT K * j + 1 ≤ 256 by have := Nat.mul_le_mul_left (statesT K) hj; omega))
      have HRJ2 := Lib.hid (HRJ.out (by omega))
      rw [hp] at HRJ2
      have HIS := Lib.hid ((leadT_leads K).iters p r1.1 r1.2 g2)
      have HG1 := Lib.hid (fun j (hj : j ≤ p) => HI.out j r1.1 r1.2 g2 (by have := HLEFT.out j hj; omega))
      have hWa : Below wr.heap.size wr (wr.alloc (.cells #[.int .i64 r1.2] TInt)) := (Below.refl _ _).alloc (Nat.le_refl _) _
      have PA := Lib.hid (PP.out.below hWa)
      have P0 : Hid (PL w0 W (wr.alloc (.cells #[.int .i64 r1.2] TInt)) base pm e0 acc tA EA nt ct ec t A' r1.1.length c' r1.1 #[.int .u8 4, .slice B mm cs, .int .i64 1, .int .i64 q, .int .i64 most] (some ⟨wr.heap.size, 0, none⟩) 1 1 [r1.2]) := Lib.hid ⟨PA.out.me, PA.out.ch, PA.out.bx, own_one wr (W.heap.size + 1) (.int .i64 r1.2) hsz⟩
      obtain ⟨x0', x1', x2', x3', x4'⟩ := Blk.five P0.out.bx
      clear hWa HRS HRJ hn hp hsum hm
      go_wp2
      go_loopw [2, 9, 43] (fun sv lv jv wr => ∃ (j : Nat) (A' : Option Addr) (c' : Nat) (LA : Option Addr) (lc : Nat), j ≤ p ∧ jv = .int .i64 j ∧ sv = .int .i64 (iter (leadT K) j r1.1 r1.2).2 ∧ lv = .slice LA (j + 1) lc ∧ PL w0 W wr base pm e0 acc tA EA nt ct ec t A' (iter (leadT K) j r1.1 r1.2).1.length c' (iter (leadT K) j r1.1 r1.2).1 #[.int .u8 4, .slice B mm cs, .int .i64 1, .int .i64 q, .int .i64 most] LA (j + 1) lc (iters (leadT K) j r1.1 r1.2).2) (fun _ _ jv _ => p - (intOf jv).toNat)
      case atStart => exact ⟨0, A', c', some ⟨wr.heap.size, 0, none⟩, 1, by omega, rfl, rfl, rfl, P0.out⟩
      case round =>
        clear x0' x1' x2' x3' x4' x0 x1 x2 x3 x4
        obtain ⟨j, A5, c5, LA, lc, hj, rfl, rfl, rfl, hpl⟩ := hrel
        have P5 := Lib.hid hpl
        clear hpl
        have GJ := Lib.hid (HG1.out j hj)
        obtain ⟨rj, hrj⟩ : ∃ rj, iter (leadT K) j r1.1 r1.2 = rj := ⟨_, rfl⟩
        obtain ⟨lj, hlj⟩ : ∃ lj, (iters (leadT K) j r1.1 r1.2).2 = lj := ⟨_, rfl⟩
        have hel : edgesN rj.1 ≤ 65 * rj.1.length := by have h1 := GJ.out.2.2; rw [hrj] at h1; exact h1.few rfl G3.out
        by_cases hlt : j < p
        · have hd : (j : Int) < most - (q : Int) := by have := HP.out; omega
          have HS1 := Lib.hid (iter_snoc (leadT K) j r1.1 r1.2)
          have HS2 := Lib.hid (congrArg Prod.snd (iters_snoc (leadT K) j r1.1 r1.2))
          simp only at HS2
          rw [hrj] at P5 GJ HS1 HS2
          rw [hlj] at P5 HS2
          rw [hrj]
          have hq1 := HLEFT.out (j + 1) (by omega)
          rw [Nat.mul_add] at hq1
          have HC := Lib.hid (HIH.out wr A5 rj.1.length c5 rj.1 rj.2 P5.out.me GJ.out.2.1 (by have := GJ.out.1; omega) hel)
          clear hrj hlj hq1
          go_wp2_with fail
          refine HC.out.mono ?_
          rintro e w1 ⟨A1, c1, rfl, mk1, ch1⟩
          have P1 := Lib.hid (P5.out.call mk1 ch1)
          obtain ⟨rk, hrk⟩ : ∃ rk, leadT K rj.1 rj.2 = rk := ⟨_, rfl⟩
          rw [hrk] at P1 HS1 HS2
          rw [hrk]
          have hal : Below w1.heap.size w1 (w1.alloc (.cells #[.int .i64 rk.2] TInt)) := (Below.refl _ _).alloc (Nat.le_refl _) _
          have PB := Lib.hid (P1.out.below hal)
          have SRC := Lib.hid (Pv.Src.one (w := w1) (x := .int .i64 rk.2) (t := TInt) rfl)
          have Q1 : Hid (j + 1 + 1 ≤ maxLen) := Lib.hid (by simp only [maxLen]; omega)
          have Q2 : Hid ((j + 1 + 1) * 8 ≤ 140737488355328) := Lib.hid (by omega)
          have Q3 : Hid (W.heap.size + 1 ≤ (w1.alloc (.cells #[.int .i64 rk.2] TInt)).heap.size) := Lib.hid (by have := P1.out.bx.lt; simp; omega)
          clear mk1 ch1 hal hrk
          go_wp2_with (at_builtin
                       go_must (refine wpList_append_src _ rfl (.tmp 50) (.tmp 52) 27 rfl (W.heap.size + 1) TInt i0 (.int .i64 0) 1 8 Tryz.underlying27 hi0 hz0 hs0 hb0 rfl (by decide) LA lc (j + 1) _ rfl PB.out.ow _ 1 1 _ rfl SRC.out Q1.out Q2.out Q3.out ?_)
                       intro A8 lc8 w8 own8 gr8 _
                       have P8 := Lib.hid (PB.out.push HGE.out hbs FAR.out gr8 own8)
                       clear gr8 own8)
          go_roundw
          case rel => exact ⟨j + 1, A1, c1, A8, lc8, by omega, by go_num, by rw [HS1.out], rfl, by rw [HS1.out, HS2.out]; exact P8.out⟩
          case measure => simp [intOf]; omega
        · have hjp : j = p := by omega
          subst hjp
          have hd : ¬ (j : Int) < most - (q : Int) := by have := HP.out; omega
          have HFS := Lib.hid (iters_fst (leadT K) j r1.1 r1.2)
          rw [hrj] at P5 GJ HFS
          rw [hlj] at P5
          rw [Int.toNat_natCast, joinOf, hlj] at HRJ2
          rw [HFS.out] at HRJ2
          rw [hlj, HFS.out] at HIS
          rw [hrj]
          have hjlen : rj.1.length ≤ 255 := by have h1 := GJ.out.1; have h2 := HLEFT.out j (Nat.le_refl _); omega
          have HLJ := Lib.hid (show lj.length = j + 1 by rw [← hlj, iters_len])
          have HJ := Lib.hid (maker_join A5 rj.1.length c5 base pm acc _ _ rj.1 LA (j + 1) lc (W.heap.size + 1) lj wr P5.out.me.ma P5.out.me.ge (by omega) (by omega) P5.out.ow HIS.out.2 (by have := HLJ.out; omega))
          clear hrj hlj
          go_wp2_with fail
          refine HJ.out.mono ?_
          rintro e w2 ⟨A2, c2, rfl, mk2, ch2⟩
          have P2 := Lib.hid (P5.out.call (P5.out.me.step hbs mk2 ch2) ch2)
          clear mk2 ch2
          go_wp2
          go_ret
          rw [HRJ2.out]
          exact ⟨A2, c2, rfl, by simp only [auJoin_length]; exact P2.out.me, P2.out.ch⟩

end Go.Proofs.YtcmmmgblkbbdnaaGreatDoor
