/- Walks: the program's place behind a value of cells: the closure of cell.behind. PUT1 -/
import Derived.Test.YtbdkedjgfihamaaGreatDoorV7u
import Derived.Laws.EntriesVeiled
namespace Pv
open Go Go.RowKit
/-- A place behind, as a number. -/
def bC : Option Nat → Int
  | some e => (e : Int)
  | none => -1
theorem bC_some (e : Nat) : bC (some e) = (e : Int) := rfl
theorem bC_none : bC none = -1 := rfl
/-- Filled from i to e with the places behind. -/
def FillC (v : List Cel) (cs0 cs : Array Value) (i e : Nat) : Prop :=
  cs.size = cs0.size ∧ ∀ j, (i ≤ j → j < e → cs[j]? = some (.int .i64 (bC (behC v 16 j)))) ∧ (j < i ∨ e ≤ j → cs[j]? = cs0[j]?)
theorem FillC.refl (v : List Cel) (cs : Array Value) (i : Nat) : FillC v cs cs i i := ⟨rfl, fun j => ⟨fun h1 h2 => by omega, fun _ => rfl⟩⟩
theorem FillC.trans {v : List Cel} {a b c : Array Value} {i j k : Nat} (h : FillC v a b i j) (h' : FillC v b c j k) (h1 : i ≤ j) (h2 : j ≤ k) : FillC v a c i k :=
  ⟨h'.1.trans h.1, fun q => ⟨fun g1 g2 => by
    by_cases hq : j ≤ q
    · exact (h'.2 q).1 hq g2
    · rw [(h'.2 q).2 (by omega)]; exact (h.2 q).1 g1 (by omega), fun g => by
    rw [(h'.2 q).2 (by omega)]; exact (h.2 q).2 (by omega)⟩⟩
theorem FillC.set {v : List Cel} {a b : Array Value} {i e : Nat} (h : FillC v a b (i + 1) e) (hi : i < a.size) (he : i < e) (hb : behC v 16 i = some e) : FillC v a (b.setIfInBounds i (.int .i64 e)) i e :=
  ⟨by simp [h.1], fun q => by
    by_cases hq : i = q
    · subst hq
      refine ⟨fun _ _ => ?_, fun g => by omega⟩
      rw [Array.getElem?_setIfInBounds_self_of_lt (by rw [h.1]; exact hi), hb]; rfl
    · rw [Array.getElem?_setIfInBounds_ne hq]
      exact ⟨fun g1 g2 => (h.2 q).1 (by omega) g2, fun g => (h.2 q).2 (by omega)⟩⟩
theorem blkV2 (w : World) (t u : TypeId) (cs ds : Array Value) : Blk ((w.alloc (.cells cs t)).alloc (.cells ds u)) (w.heap.size + 1) u ds := by
  have h := Blk.new (w.alloc (.cells cs t)) u ds
  have e : (w.alloc (.cells cs t)).heap.size = w.heap.size + 1 := by simp
  rw [e] at h
  exact h
theorem stepK_end {g : Nat → Option Nat} {v : List Cel} {obj : Bool} {p : KS} (h : v[p.1]? = none) : stepK g v obj p = none := by unfold stepK; rw [h]
theorem stepK_bad {g : Nat → Option Nat} {v : List Cel} {obj : Bool} {p : KS} {k : Cel} (h : v[p.1]? = some k) (hb : kidB obj p.2 k.name = false) : stepK g v obj p = none := by unfold stepK; rw [h]; simp [hb]
theorem stepK_on {g : Nat → Option Nat} {v : List Cel} {obj : Bool} {p : KS} {k : Cel} (h : v[p.1]? = some k) (hb : kidB obj p.2 k.name = true) : stepK g v obj p = (g p.1).map fun a => (a, p.2 ++ [k.name]) := by unfold stepK; rw [h]; simp [hb]
end Pv
namespace Go.Proofs.YtbdkedjgfihamaaGreatDoor
open Go.RowKit Pv Go.Maps
/-- Where the walk through the cells stands: the variables that it has captured, and the places. -/
structure CEnv (B : Nat) (w0 w : World) (pt pk pw pe eb : Nat) (A : Option Addr) (n c : Nat) (cs : Array Value) : Prop where
  kp : Keep w0 w
  tb : TabS B w
  ct : w.cell? ⟨pt, 0, none⟩ = some (.slice A n c)
  bk : Blk w pk TK8 kcs
  cw : w.cell? ⟨pw, 0, none⟩ = some (.func (.func 130) #[] #[.pointer (some ⟨pt, 0, none⟩), .pointer (some ⟨pk, 0, none⟩), .pointer (some ⟨pw, 0, none⟩), .pointer (some ⟨pe, 0, none⟩)])
  ce : w.cell? ⟨pe, 0, none⟩ = some (.slice (some ⟨eb, 0, none⟩) n n)
  be : Blk w eb 3 cs
  l0 : w0.heap.size ≤ eb
  lB : B ≤ w0.heap.size
  lt : pt < w.heap.size
  lw : pw < w.heap.size
  le : pe < w.heap.size
  nt : pt ≠ eb
  nk : pk ≠ eb
  nw : pw ≠ eb
  ne : pe ≠ eb
section
variable {B pt pk pw pe eb n c : Nat} {w0 w w' : World} {A : Option Addr} {cs : Array Value}
theorem CEnv.lB' (h : CEnv B w0 w pt pk pw pe eb A n c cs) : B ≤ w.heap.size := Nat.le_trans h.lB h.kp.size
theorem CEnv.only {mb : Nat} (h : CEnv B w0 w pt pk pw pe eb A n c cs) (k : Only mb w w') (hmb : w0.heap.size ≤ mb) (h1 : pt ≠ mb) (h2 : pk ≠ mb) (h3 : pw ≠ mb) (h4 : pe ≠ mb) (h5 : eb ≠ mb) : CEnv B w0 w' pt pk pw pe eb A n c cs := by
  have f : ∀ g o, g < w.heap.size → g ≠ mb → w'.cell? ⟨g, o, none⟩ = w.cell? ⟨g, o, none⟩ := fun g o hg hne => World.cell?_of_block (a := ⟨g, o, none⟩) (k.block g hg hne)
  have hb : Below B w w' := k.below (Nat.le_trans h.lB hmb) h.lB'
  exact ⟨h.kp.trans' k.size (fun b o hb => f b o (Nat.lt_of_lt_of_le hb h.kp.size) (by omega)), h.tb.next hb, (f _ _ h.lt h1).trans h.ct, k.blk h.bk h2, (f _ _ h.lw h3).trans h.cw, (f _ _ h.le h4).trans h.ce, k.blk h.be h5, h.l0, h.lB,
    Nat.lt_of_lt_of_le h.lt k.size, Nat.lt_of_lt_of_le h.lw k.size, Nat.lt_of_lt_of_le h.le k.size, h.nt, h.nk, h.nw, h.ne⟩
theorem CEnv.next (h : CEnv B w0 w pt pk pw pe eb A n c cs) (hb : Below w.heap.size w w') : CEnv B w0 w' pt pk pw pe eb A n c cs :=
  ⟨h.kp.trans (Keep.of hb), h.tb.next (hb.mono h.lB'), (hb.cell h.lt).trans h.ct, h.bk.below hb h.bk.lt, (hb.cell h.lw).trans h.cw, (hb.cell h.le).trans h.ce, h.be.below hb h.be.lt, h.l0, h.lB, Nat.lt_of_lt_of_le h.lt hb.size, Nat.lt_of_lt_of_le h.lw hb.size, Nat.lt_of_lt_of_le h.le hb.size, h.nt, h.nk, h.nw, h.ne⟩
theorem CEnv.set (h : CEnv B w0 w pt pk pw pe eb A n c cs) (i : Nat) (u : Value) : CEnv B w0 (w.setCell ⟨eb, i, none⟩ u) pt pk pw pe eb A n c (cs.setIfInBounds i u) := by
  have f : ∀ g, g ≠ eb → (w.setCell ⟨eb, i, none⟩ u).cell? ⟨g, 0, none⟩ = w.cell? ⟨g, 0, none⟩ := fun g hg => World.cell?_of_block (Below.heap_setCell w ⟨eb, i, none⟩ u g hg)
  have hb : Below B w (w.setCell ⟨eb, i, none⟩ u) := (Below.refl B w).setCell (Nat.le_trans h.lB h.l0) _
  exact ⟨h.kp.trans' (by simp) (fun b o hb => World.cell?_of_block (a := ⟨b, o, none⟩) (Below.heap_setCell w ⟨eb, i, none⟩ u b (by simp only; have := h.l0; omega))), h.tb.next hb, (f _ h.nt).trans h.ct, h.bk.far (fun e => h.nk e) _, (f _ h.nw).trans h.cw, (f _ h.ne).trans h.ce, h.be.set i u, h.l0, h.lB, by simpa using h.lt, by simpa using h.lw, by simpa using h.le, h.nt, h.nk, h.nw, h.ne⟩
end
/-- What a walk through a cell leaves. -/
def CPost (B : Nat) (v : List Cel) (w0 w : World) (pt pk pw pe eb : Nat) (A : Option Addr) (n c : Nat) (cs : Array Value) (i : Nat) (o : Option Nat) (e : Ending) (w' : World) : Prop :=
  ∃ cs', e = .returned (.int .i64 (bC o)) ∧ CEnv B w0 w' pt pk pw pe eb A n c cs' ∧ cs'.size = cs.size ∧ (∀ q, o = some q → FillC v cs cs' i q) ∧ Only eb w w'
theorem CPost.no {B : Nat} {v : List Cel} {w0 w w' : World} {pt pk pw pe eb : Nat} {A : Option Addr} {n c : Nat} {cs cs' : Array Value} {i : Nat} {o : Option Nat} (ho : o = none) (h : CEnv B w0 w' pt pk pw pe eb A n c cs') (hs : cs'.size = cs.size) (hg : Only eb w w') :
    CPost B v w0 w pt pk pw pe eb A n c cs i o (.returned (.int .i64 (-1))) w' := by
  subst ho
  exact ⟨cs', rfl, h, hs, (fun q hq => by cases hq), hg⟩
/-- A block of the call's own that turned stands beside. -/
theorem _root_.Pv.Only.tr' {b mb : Nat} {x y z : World} (h : Only b x y) (k : Only mb y z) (hb : x.heap.size ≤ mb) : Only b x z :=
  ⟨k.os.trans h.os, k.tape.trans h.tape, k.output.trans h.output, Nat.le_trans h.size k.size, fun q hq hr => (k.block q (Nat.lt_of_lt_of_le hq h.size) (by omega)).trans (h.block q hq hr)⟩
/-- What a loop over kids stands at. -/
def LoopS (v : List Cel) (g : Nat → Option Nat) (obj : Bool) (W : World) (mb i q n : Nat) (cs cs' : Array Value) (x : Int) : Prop :=
  (∃ e ns, x = ((e : Nat) : Int) ∧ kidsN g v obj q (i + 1, []) = some (e, ns) ∧ i + 1 ≤ e ∧ e ≤ n ∧ FillC v cs cs' (i + 1) e ∧ MapQ Value.string okS (fun _ => 1) W mb ((⟨#[]⟩ : ByteArray) :: (if obj then ns else []))) ∨ (x = -1 ∧ kidsN g v obj q (i + 1, []) = none)
end Go.Proofs.YtbdkedjgfihamaaGreatDoor

namespace Go.Proofs.YtbdkedjgfihamaaGreatDoor
open Go.RowKit Pv Go.Maps
set_option maxHeartbeats 16000000 in
set_option maxRecDepth 100000 in
theorem cell_behind1 (B : Nat) (A : Option Addr) (c n : Nat) (v : List Cel) (w0 : World) (h0 : AtCel w0 A v) (HL : Hid (v.length = n)) (hn : n ≤ 2048) (hsz : ∀ x, x ∈ v → x.name.size ≤ 100000 ∧ x.text.size ≤ 100000) (pt pk pw pe eb : Nat) : ∀ (d : Nat), d ≤ 16 → ∀ (i : Nat) (w : World) (cs : Array Value), i ≤ n → CEnv B w0 w pt pk pw pe eb A n c cs → cs.size = n →
    Calls Tryz.prog 130 #[.int .i64 i, .int .i64 d, .pointer (some ⟨pt, 0, none⟩), .pointer (some ⟨pk, 0, none⟩), .pointer (some ⟨pw, 0, none⟩), .pointer (some ⟨pe, 0, none⟩)] w (CPost B v w0 w pt pk pw pe eb A n c cs i (behC v d i)) := by
  intro d
  refine Nat.strongRecOn d ?_
  clear d
  intro d ih hd i w cs hi hE hcs
  have HE := Lib.hid hE
  have HCS := Lib.hid hcs
  have g1 := hE.ct
  have hltp := hE.lt
  clear hE hcs
  by_cases hin : i < n
  case neg =>
    have HN := Lib.hid (show behC v d i = none by rw [behC_none (by rw [List.getElem?_eq_none]; rw [HL.out]; omega)])
    have hdn : (n : Int) ≤ (i : Int) := by omega
    clear h0 ih
    go_enter Tryz.func130, Tryz.ntmps130
    go_wp2
    go_ret
    exact CPost.no HN.out HE.out rfl (Only.refl _ _)
  obtain ⟨b, off, ⟨k, nm, tx, iv, mn⟩, rfl, H5, ⟨⟨hk0, hk1⟩, _, _, _, _⟩, HX⟩ := h0.g5 HL hin
  simp only at hk0 hk1
  have hxs := hsz _ (List.mem_of_getElem? HX.out)
  simp only at hxs
  have HH0 := Lib.hid h0; have HSZ := Lib.hid hsz; have HIH := Lib.hid ih
  have HT := Lib.hid hxs.2
  clear h0 hsz ih hxs
  obtain ⟨kn, rfl⟩ : ∃ kn : Nat, k = (kn : Int) := ⟨k.toNat, by omega⟩
  have H50 := Lib.hid H5
  have y := H5.next HE.out.kp
  have y0 := y.c0; have y1 := y.c1; have y2 := y.c2; have y3 := y.c3; have y4 := y.c4; have yl := y.lt
  simp only at y0 y1 y2 y3 y4
  clear y H5
  have hdn : ¬ (n : Int) ≤ (i : Int) := by omega
  have i1 : (i : Int) < (n : Int) := by omega
  by_cases h7 : 7 < kn
  · have h7' : (7 : Int) < (kn : Int) := by omega
    have HN := Lib.hid (show behC v d i = none from behC_bad HX.out (oneCl_8 (by simp only; omega)) d)
    go_enter Tryz.func130, Tryz.ntmps130
    go_wp2
    go_ret
    exact CPost.no HN.out (HE.out.next ((Below.refl _ _).alloc (Nat.le_refl _) _)) rfl (Only.ofB ((Below.refl _ _).alloc (Nat.le_refl _) _))
  have h7' : ¬ (7 : Int) < (kn : Int) := by omega
  obtain ⟨tf, nf, q0, q1, q2, htf, hnf, hct, hcn⟩ := kind_at B (k := (kn : Int)) (by omega) (by omega)
  simp only [Int.toNat_natCast] at q0 q1 q2
  have HB2 : Hid (Below w.heap.size w ((w.alloc (.cells #[.int .u8 (kn : Int), .string nm, .string tx, .int .i64 iv, .int .i64 mn] TCe)).alloc (.cells #[fnv tf, fnv nf, .bool (nesB (kn : Int))] 150))) := Lib.hid (((Below.refl _ _).alloc (Nat.le_refl _) _).alloc (by simp) _)
  have HE2 := Lib.hid (HE.out.next HB2.out)
  have hkb := (HE.out.bk.alloc (.cells #[.int .u8 (kn : Int), .string nm, .string tx, .int .i64 iv, .int .i64 mn] TCe))
  have z0 := (hkb.cell (kn * 3)).trans q0
  have z1 := (hkb.cell (kn * 3 + 1)).trans q1
  have z2 := (hkb.cell (kn * 3 + 2)).trans q2
  have zl := hkb.lt
  have HCB := Lib.hid ((Blk.new w TCe #[.int .u8 (kn : Int), .string nm, .string tx, .int .i64 iv, .int .i64 mn]).alloc (.cells #[fnv tf, fnv nf, .bool (nesB (kn : Int))] 150))
  have HKB := Lib.hid (blkV2 w TCe 150 #[.int .u8 (kn : Int), .string nm, .string tx, .int .i64 iv, .int .i64 mn] #[fnv tf, fnv nf, .bool (nesB (kn : Int))])
  have HTF := htf tx ((w.alloc (.cells #[.int .u8 (kn : Int), .string nm, .string tx, .int .i64 iv, .int .i64 mn] TCe)).alloc (.cells #[fnv tf, fnv nf, .bool (nesB (kn : Int))] 150)) HT.out HE2.out.tb
  have HNF := fun W => hnf iv W
  obtain ⟨tb, htb⟩ : ∃ tb, txK (kn : Int) tx = tb := ⟨_, rfl⟩
  obtain ⟨nb, hnb⟩ : ∃ nb, nmK (kn : Int) iv = nb := ⟨_, rfl⟩
  obtain ⟨ne, hne⟩ : ∃ ne, nesB (kn : Int) = ne := ⟨_, rfl⟩
  have HONE : Hid (oneCl ⟨(kn : Int), nm, tx, iv, mn⟩ = (tb && nb && decide (0 ≤ mn) && (ne || decide (mn = 0)))) := Lib.hid (by
    rw [oneCl_eq (by simp only; omega) (by simp only; omega)]
    simp only [htb, hnb, hne])
  have HNE := Lib.hid hne
  rw [htb] at HTF
  simp only [hnb] at HNF
  simp only [hne] at z2 HB2 HE2 HCB HKB HTF
  have HTF := Lib.hid HTF; have HNF := Lib.hid HNF
  clear htb hnb hne htf hnf hkb q0 q1 q2
  cases tb with
  | false =>
    have HN := Lib.hid (show behC v d i = none from behC_bad HX.out HONE.out d)
    go_enter Tryz.func130, Tryz.ntmps130
    go_wp2_with fail
    refine HTF.out.mono ?_
    rintro e w1 ⟨rfl, k1⟩
    have HE3 := Lib.hid (HE2.out.next k1); have HO3 := Lib.hid (Only.ofB (b := eb) (HB2.out.trans (k1.mono HB2.out.size)))
    have hcb := HCB.out.below k1 HCB.out.lt
    have HCB3 := Lib.hid hcb
    have x0 := hcb.cell 0; have x1 := hcb.cell 1; have x2 := hcb.cell 2; have x3 := hcb.cell 3; have x4 := hcb.cell 4; have xl := hcb.lt
    have hkb := HKB.out.below k1 HKB.out.lt
    have u0 := hkb.cell 0; have u1 := hkb.cell 1; have u2 := hkb.cell 2; have ul := hkb.lt
    clear k1 hcb hkb
    go_wp2
    go_ret
    exact CPost.no HN.out HE3.out rfl HO3.out
  | true =>
  cases nb with
  | false =>
    have HN := Lib.hid (show behC v d i = none from behC_bad HX.out HONE.out d)
    go_enter Tryz.func130, Tryz.ntmps130
    go_wp2_with fail
    refine HTF.out.mono ?_
    rintro e w1 ⟨rfl, k1⟩
    have HE3 := Lib.hid (HE2.out.next k1); have HO3 := Lib.hid (Only.ofB (b := eb) (HB2.out.trans (k1.mono HB2.out.size)))
    have hcb := HCB.out.below k1 HCB.out.lt
    have HCB3 := Lib.hid hcb
    have x0 := hcb.cell 0; have x1 := hcb.cell 1; have x2 := hcb.cell 2; have x3 := hcb.cell 3; have x4 := hcb.cell 4; have xl := hcb.lt
    have hkb := HKB.out.below k1 HKB.out.lt
    have u0 := hkb.cell 0; have u1 := hkb.cell 1; have u2 := hkb.cell 2; have ul := hkb.lt
    clear k1 hcb hkb
    go_wp2_with fail
    refine (HNF.out _).mono ?_
    rintro e w2 ⟨rfl, rfl⟩
    go_wp2
    go_ret
    exact CPost.no HN.out HE3.out rfl HO3.out
  | true =>
  by_cases hm : mn < 0
  · have HN := Lib.hid (show behC v d i = none from behC_bad HX.out (HONE.out.trans (by rw [decide_eq_false (by omega : ¬ 0 ≤ mn)]; rfl)) d)
    go_enter Tryz.func130, Tryz.ntmps130
    go_wp2_with fail
    refine HTF.out.mono ?_
    rintro e w1 ⟨rfl, k1⟩
    have HE3 := Lib.hid (HE2.out.next k1); have HO3 := Lib.hid (Only.ofB (b := eb) (HB2.out.trans (k1.mono HB2.out.size)))
    have hcb := HCB.out.below k1 HCB.out.lt
    have HCB3 := Lib.hid hcb
    have x0 := hcb.cell 0; have x1 := hcb.cell 1; have x2 := hcb.cell 2; have x3 := hcb.cell 3; have x4 := hcb.cell 4; have xl := hcb.lt
    have hkb := HKB.out.below k1 HKB.out.lt
    have u0 := hkb.cell 0; have u1 := hkb.cell 1; have u2 := hkb.cell 2; have ul := hkb.lt
    clear k1 hcb hkb
    go_wp2_with fail
    refine (HNF.out _).mono ?_
    rintro e w2 ⟨rfl, rfl⟩
    go_wp2
    go_ret
    exact CPost.no HN.out HE3.out rfl HO3.out
  obtain ⟨m, rfl⟩ : ∃ m : Nat, mn = (m : Int) := ⟨mn.toNat, by omega⟩
  cases ne with
  | false =>
    by_cases hm0 : m = 0
    case neg =>
      have hm1 : (0 : Int) < (m : Int) := by omega
      have HN := Lib.hid (show behC v d i = none from behC_bad HX.out (HONE.out.trans (by rw [decide_eq_false (by omega : ¬ (m : Int) = 0)]; simp)) d)
      go_enter Tryz.func130, Tryz.ntmps130
      go_wp2_with fail
      refine HTF.out.mono ?_
      rintro e w1 ⟨rfl, k1⟩
      have HE3 := Lib.hid (HE2.out.next k1); have HO3 := Lib.hid (Only.ofB (b := eb) (HB2.out.trans (k1.mono HB2.out.size)))
      have hcb := HCB.out.below k1 HCB.out.lt
      have HCB3 := Lib.hid hcb
      have x0 := hcb.cell 0; have x1 := hcb.cell 1; have x2 := hcb.cell 2; have x3 := hcb.cell 3; have x4 := hcb.cell 4; have xl := hcb.lt
      have hkb := HKB.out.below k1 HKB.out.lt
      have u0 := hkb.cell 0; have u1 := hkb.cell 1; have u2 := hkb.cell 2; have ul := hkb.lt
      clear k1 hcb hkb
      go_wp2_with fail
      refine (HNF.out _).mono ?_
      rintro e w2 ⟨rfl, rfl⟩
      go_wp2
      go_ret
      exact CPost.no HN.out HE3.out rfl HO3.out
    subst hm0
    have HY := Lib.hid (show behC v d i = some (i + 1) from behC_leaf HX.out (HONE.out.trans (by simp)) HNE.out d)
    simp only [Int.cast_ofNat_Int] at *
    have j1 : 0 ≤ (i : Int) + 1 := by omega
    go_enter Tryz.func130, Tryz.ntmps130
    go_wp2_with fail
    refine HTF.out.mono ?_
    rintro e w1 ⟨rfl, k1⟩
    have HE3 := Lib.hid (HE2.out.next k1); have HO3 := Lib.hid (Only.ofB (b := eb) (HB2.out.trans (k1.mono HB2.out.size)))
    have hcb := HCB.out.below k1 HCB.out.lt
    have HCB3 := Lib.hid hcb
    have x0 := hcb.cell 0; have x1 := hcb.cell 1; have x2 := hcb.cell 2; have x3 := hcb.cell 3; have x4 := hcb.cell 4; have xl := hcb.lt
    have hkb := HKB.out.below k1 HKB.out.lt
    have u0 := hkb.cell 0; have u1 := hkb.cell 1; have u2 := hkb.cell 2; have ul := hkb.lt
    clear k1 hcb hkb
    go_wp2_with fail
    refine (HNF.out _).mono ?_
    rintro e w2 ⟨rfl, rfl⟩
    go_wp2
    go_loopw [12, 79] (fun xv jv W => xv = .int .i64 ((i : Int) + 1) ∧ jv = .int .i64 0 ∧ Hid (W = w1)) (fun _ _ _ => 0)
    case atStart => exact ⟨rfl, rfl, Lib.hid rfl⟩
    case round =>
      obtain ⟨rfl, rfl, HW⟩ := hrel
      obtain rfl := HW.out
      have f3 := HE3.out.ce
      have hc1 : cs[i]? = some (cs[i]'(by rw [HCS.out]; exact hin)) := Array.getElem?_eq_getElem _
      have s1 := (HE3.out.be.cell i).trans hc1
      have s2 := HE3.out.be.frozen i
      have s3 := HE3.out.le
      have s4 := HE3.out.be.lt
      clear hc1
      go_wp2
      go_ret
      refine ⟨cs.setIfInBounds i (.int .i64 ((i : Int) + 1)), by rw [HY.out]; rfl, HE3.out.set i _, by simp, fun q h => ?_, HO3.out.set i _⟩
      rw [HY.out] at h
      obtain rfl := Option.some.inj h
      exact (FillC.refl v cs (i + 1)).set (by rw [HCS.out]; exact hin) (by omega) (behC_up HY.out hd)
  | true =>
    by_cases hd0 : d = 0
    · subst hd0
      have HN := Lib.hid (show behC v 0 i = none from behC_deep HX.out HNE.out)
      go_enter Tryz.func130, Tryz.ntmps130
      go_wp2_with fail
      refine HTF.out.mono ?_
      rintro e w1 ⟨rfl, k1⟩
      have HE3 := Lib.hid (HE2.out.next k1); have HO3 := Lib.hid (Only.ofB (b := eb) (HB2.out.trans (k1.mono HB2.out.size)))
      have hcb := HCB.out.below k1 HCB.out.lt
      have HCB3 := Lib.hid hcb
      have x0 := hcb.cell 0; have x1 := hcb.cell 1; have x2 := hcb.cell 2; have x3 := hcb.cell 3; have x4 := hcb.cell 4; have xl := hcb.lt
      have hkb := HKB.out.below k1 HKB.out.lt
      have u0 := hkb.cell 0; have u1 := hkb.cell 1; have u2 := hkb.cell 2; have ul := hkb.lt
      clear k1 hcb hkb
      go_wp2_with fail
      refine (HNF.out _).mono ?_
      rintro e w2 ⟨rfl, rfl⟩
      go_wp2
      go_ret
      exact CPost.no HN.out HE3.out rfl HO3.out
    have HALL := Lib.hid (behC_all (d := d) HX.out (HONE.out.trans (by simp)) (fun _ => by omega))
    have hdz : ((d : Int) == 0) = false := by simp; omega
    by_cases hm0 : m = 0
    · subst hm0
      have HY := Lib.hid (show behC v d i = some (i + 1) by rw [HALL.out]; rfl)
      simp only [Int.cast_ofNat_Int] at *
      have j1 : 0 ≤ (i : Int) + 1 := by omega
      go_enter Tryz.func130, Tryz.ntmps130
      go_wp2_with fail
      refine HTF.out.mono ?_
      rintro e w1 ⟨rfl, k1⟩
      have HE3 := Lib.hid (HE2.out.next k1); have HO3 := Lib.hid (Only.ofB (b := eb) (HB2.out.trans (k1.mono HB2.out.size)))
      have hcb := HCB.out.below k1 HCB.out.lt
      have HCB3 := Lib.hid hcb
      have x0 := hcb.cell 0; have x1 := hcb.cell 1; have x2 := hcb.cell 2; have x3 := hcb.cell 3; have x4 := hcb.cell 4; have xl := hcb.lt
      have hkb := HKB.out.below k1 HKB.out.lt
      have u0 := hkb.cell 0; have u1 := hkb.cell 1; have u2 := hkb.cell 2; have ul := hkb.lt
      clear k1 hcb hkb
      go_wp2_with fail
      refine (HNF.out _).mono ?_
      rintro e w2 ⟨rfl, rfl⟩
      go_wp2
      go_loopw [12, 79] (fun xv jv W => xv = .int .i64 ((i : Int) + 1) ∧ jv = .int .i64 0 ∧ Hid (W = w1)) (fun _ _ _ => 0)
      case atStart => exact ⟨rfl, rfl, Lib.hid rfl⟩
      case round =>
        obtain ⟨rfl, rfl, HW⟩ := hrel
        obtain rfl := HW.out
        have f3 := HE3.out.ce
        have hc1 : cs[i]? = some (cs[i]'(by rw [HCS.out]; exact hin)) := Array.getElem?_eq_getElem _
        have s1 := (HE3.out.be.cell i).trans hc1
        have s2 := HE3.out.be.frozen i
        have s3 := HE3.out.le
        have s4 := HE3.out.be.lt
        clear hc1
        go_wp2
        go_ret
        refine ⟨cs.setIfInBounds i (.int .i64 ((i : Int) + 1)), by rw [HY.out]; rfl, HE3.out.set i _, by simp, fun q h => ?_, HO3.out.set i _⟩
        rw [HY.out] at h
        obtain rfl := Option.some.inj h
        exact (FillC.refl v cs (i + 1)).set (by rw [HCS.out]; exact hin) (by omega) (behC_up HY.out hd)
    have HNO := Lib.hid (fun q (h : kidsN (behC v (d - 1)) v (decide ((kn : Int) = 7)) q (i + 1, []) = none) (hq : q ≤ m) => show behC v d i = none by rw [HALL.out, show kidsN (behC v (d - 1)) v (decide ((kn : Int) = 7)) ((m : Int)).toNat (i + 1, []) = none from kidsN_more h _ (by omega)]; rfl)
    have hm1 : (0 : Int) < (m : Int) := by omega
    have hm2 : decide (0 < m) = true := decide_eq_true (by omega)
    have hm3 : decide ((0 : Int) < (m : Int)) = true := decide_eq_true hm1
    have hmm := @run_makeMap Tryz.prog
    have hzi : ∀ w, (zeroValue 3).run Tryz.prog w = .ok (.int .i64 0) w := fun _ => by kernel_rfl
    have HZI := Lib.hid hzi
    clear hzi
    go_enter Tryz.func130, Tryz.ntmps130
    go_wp2_with fail
    refine HTF.out.mono ?_
    rintro e w1 ⟨rfl, k1⟩
    have HE3 := Lib.hid (HE2.out.next k1); have HO3 := Lib.hid (Only.ofB (b := eb) (HB2.out.trans (k1.mono HB2.out.size)))
    have hcb := HCB.out.below k1 HCB.out.lt
    have HCB3 := Lib.hid hcb
    have x0 := hcb.cell 0; have x1 := hcb.cell 1; have x2 := hcb.cell 2; have x3 := hcb.cell 3; have x4 := hcb.cell 4; have xl := hcb.lt
    have hkb := HKB.out.below k1 HKB.out.lt
    have u0 := hkb.cell 0; have u1 := hkb.cell 1; have u2 := hkb.cell 2; have ul := hkb.lt
    clear k1 hcb hkb
    go_wp2_with fail
    refine (HNF.out _).mono ?_
    rintro e w2 ⟨rfl, rfl⟩
    have HM0 := MapQ.nil (enc := Value.string) (ok := okS) (val := fun _ => 1) w1
    obtain ⟨wm, hins, hmp, m1, m2, m3, m4, m5⟩ := MapQ.put (tm := 108) strE Tryz.underlying108 HM0 (x := ⟨#[]⟩) (by show (0 : Nat) ≤ maxLen; omega) (by simp) (v := 1) rfl
    have HOM : Hid (Only w1.heap.size (w1.alloc (.map #[] 0)) wm) := Lib.hid ⟨m1, m2, m3, by omega, fun k _ hk => m5 k hk⟩
    have HA1 := Lib.hid ((Below.refl w1.heap.size w1).alloc (Nat.le_refl _) (.map #[] 0))
    have hl1 := HE3.out.kp.size
    have HEM := Lib.hid ((HE3.out.next HA1.out).only HOM.out hl1 (by have := HE3.out.lt; omega) (by have := HE3.out.bk.lt; omega) (by have := HE3.out.lw; omega) (by have := HE3.out.le; omega) (by have := HE3.out.be.lt; omega))
    have HCM := Lib.hid (HOM.out.blk (HCB3.out.alloc (.map #[] 0)) (by omega))
    have HGM := Lib.hid (show Only eb w wm from HO3.out.tr ⟨m1, m2, m3, by rw [m4]; simp, fun k hk _ => (m5 k (by omega)).trans (HA1.out.block k hk)⟩)
    have HMP : Hid (MapQ Value.string okS (fun _ => 1) wm w1.heap.size [(⟨#[]⟩ : ByteArray)]) := Lib.hid hmp
    have HMB : Hid (w.heap.size < w1.heap.size) := Lib.hid xl
    clear m1 m2 m3 m4 m5 hmp HM0
    have p0 := HCM.out.cell 0; have p4 := HCM.out.cell 4; have pl := HCM.out.lt
    go_wp2
    go_loopw [12, 79] (fun xv jv W => ∃ (q : Nat) (x : Int) (cs' : Array Value), jv = .int .i64 q ∧ (q : Int) ≤ (m : Int) ∧ xv = .int .i64 x ∧ cs'.size = n ∧ Hid (LoopS v (behC v (d - 1)) (decide ((kn : Int) = 7)) W w1.heap.size i q n cs cs' x) ∧ Hid (CEnv B w0 W pt pk pw pe eb (some ⟨b, off, none⟩) n c cs') ∧ Hid (Only eb w W) ∧ Hid (Blk W w.heap.size TCe #[.int .u8 (kn : Int), .string nm, .string tx, .int .i64 iv, .int .i64 (m : Int)]) ∧ w1.heap.size < W.heap.size) (fun _ jv _ => m - (intOf jv).toNat)
    case atStart =>
      refine ⟨0, (i : Int) + 1, cs, rfl, by omega, rfl, HCS.out, Lib.hid (.inl ⟨i + 1, [], by omega, rfl, by omega, by omega, FillC.refl _ _ _, ?_⟩), HEM, HGM, HCM, HMP.out.lt⟩
      have := HMP.out
      cases decide ((kn : Int) = 7) <;> exact this
    case round =>
      clear x0 x1 x2 x3 x4 xl u0 u1 u2 ul y0 y1 y2 y3 y4 yl g1 hltp hins p0 p4 pl
      obtain ⟨q, x, cs', rfl, hq, rfl, hcs2, HLS, HEW, HGW, HCW, hmbl⟩ := hrel
      have x0 := HCW.out.cell 0; have x4 := HCW.out.cell 4; have xl := HCW.out.lt
      have f1 := HEW.out.ct; have f1l := HEW.out.lt
      rcases HLS.out with ⟨e, ns, rfl, hks, hie, hen, hfill, hmap⟩ | ⟨rfl, hks⟩
      case inr =>
        by_cases hqm : (q : Int) < (m : Int)
        · have HN := Lib.hid (HNO.out q hks (by omega))
          clear hks HLS
          go_wp2
          go_ret
          exact CPost.no HN.out HEW.out (hcs2.trans HCS.out.symm) HGW.out
        · have HN := Lib.hid (HNO.out q hks (by omega))
          clear hks HLS
          go_wp2
          go_ret
          exact CPost.no HN.out HEW.out (hcs2.trans HCS.out.symm) HGW.out
      have HKS := Lib.hid hks; have HFL := Lib.hid hfill; have HMP := Lib.hid hmap
      clear hks hfill hmap HLS
      have j1 : 0 ≤ (e : Int) := by omega
      have j2 : ¬ (e : Int) < 0 := by omega
      by_cases hqm : (q : Int) < (m : Int)
      case neg =>
        have hqe : ((m : Int)).toNat = q := by omega
        have HY := Lib.hid (show behC v d i = some e by rw [HALL.out]; show Option.map _ (kidsN _ _ _ ((m : Int)).toNat _) = _; rw [hqe, HKS.out]; rfl)
        have f3 := HEW.out.ce
        have hc1 : cs'[i]? = some (cs'[i]'(by rw [hcs2]; exact hin)) := Array.getElem?_eq_getElem _
        have s1 := (HEW.out.be.cell i).trans hc1
        have s2 := HEW.out.be.frozen i
        have s3 := HEW.out.le
        have s4 := HEW.out.be.lt
        clear hc1
        go_wp2
        go_ret
        refine ⟨cs'.setIfInBounds i (.int .i64 (e : Int)), by rw [HY.out]; rfl, HEW.out.set i _, by simp [hcs2, HCS.out], fun q h => ?_, HGW.out.set i _⟩
        rw [HY.out] at h
        obtain rfl := Option.some.inj h
        exact HFL.out.set (by rw [HCS.out]; exact hin) (by omega) (behC_up HY.out hd)
      by_cases hend : e < n
      case neg =>
        have j3 : (n : Int) ≤ (e : Int) := by omega
        have HN := Lib.hid (HNO.out (q + 1) (by rw [kidsN_snoc, HKS.out]; exact stepK_end (by rw [List.getElem?_eq_none]; rw [HL.out]; simp only; omega)) (by omega))
        go_wp2
        go_ret
        exact CPost.no HN.out HEW.out (hcs2.trans HCS.out.symm) HGW.out
      have j3 : ¬ (n : Int) ≤ (e : Int) := by omega
      have j4 : (e : Int) < (n : Int) := by omega
      obtain ⟨b', off', kc, he, H5, hcb2, HXK⟩ := HH0.out.g5 HL hend
      injection he with he
      injection he with he1 he2
      subst he1; subst he2
      have hk1 := (H5.next HEW.out.kp).c1
      have hkl := (H5.next HEW.out.kp).lt
      have hks := HSZ.out _ (List.mem_of_getElem? HXK.out)
      obtain ⟨kk, km, kt, ki, kmn⟩ := kc
      simp only at hk1 hks
      have hkm := hks.1
      have hok : okS km := by show km.size ≤ maxLen; simp only [maxLen]; omega
      have HCK := Lib.hid (text_CheckS km wr B (by omega) HEW.out.tb)
      have E1 : km.toList.isEmpty = decide (km.size = 0) := by
        rw [Lib.toList_data]
        have h : km.data.toList.length = km.size := bsl_len km
        cases hx : km.data.toList with
        | nil => rw [hx] at h; simp at h; simp [← h]
        | cons b l =>
          rw [hx] at h
          simp only [List.length_cons] at h
          rw [List.isEmpty_cons, decide_eq_false (by omega)]
      have HBAD := Lib.hid (fun (hb : kidB (decide ((kn : Int) = 7)) ns km = false) => HNO.out (q + 1) (by rw [kidsN_snoc, HKS.out]; exact stepK_bad HXK.out hb) (by omega))
      have HON := Lib.hid (fun (hb : kidB (decide ((kn : Int) = 7)) ns km = true) => show kidsN (behC v (d - 1)) v (decide ((kn : Int) = 7)) (q + 1) (i + 1, []) = (behC v (d - 1) e).map fun a => (a, ns ++ [km]) by rw [kidsN_snoc, HKS.out]; exact stepK_on (p := (e, ns)) (k := ⟨kk, km, kt, ki, kmn⟩) HXK.out hb)
      have hdp : 0 < d := by omega
      have hdc : (d : Int) - 1 = ((d - 1 : Nat) : Int) := by omega
      clear H5 hks hcb2
      have hk67 : kn = 6 ∨ kn = 7 := by
        have := HNE.out
        unfold nesB at this
        simp at this
        omega
      rcases hk67 with h6 | h6
      · -- a list
        have e6 : ((kn : Int) == 6) = true := by rw [h6]; rfl
        have e7 : ((kn : Int) == 7) = false := by rw [h6]; rfl
        have HOBJ : Hid (decide ((kn : Int) = 7) = false) := Lib.hid (by rw [h6]; rfl)
        have hmp0 := HMP.out
        rw [HOBJ.out, if_neg (by simp)] at hmp0
        have HMP := Lib.hid hmp0
        clear h6 hmp0
        by_cases hz : km.size = 0
        · have E2 : km.toList.isEmpty = true := by rw [E1, hz]; rfl
          have hkm0 : km = ⟨#[]⟩ := ByteArray.ext (Array.toList_inj.1 (List.eq_nil_of_length_eq_zero (by rw [← hz]; exact bsl_len km)))
          obtain ⟨wu, hup, hmp, m1, m2, m3, m4, m5⟩ := MapQ.again (tm := 108) strE Tryz.underlying108 HMP.out (x := ⟨#[]⟩) (by show (0 : Nat) ≤ maxLen; omega) (k := 0) rfl (v := 1) rfl
          have HON2 := Lib.hid (HON.out (by rw [HOBJ.out]; unfold kidB; simp [hz]))
          clear E1 hz
          subst hkm0
          have hmw : w.heap.size ≤ w1.heap.size := by have := HMB.out; omega
          have HOM2 : Hid (Only w1.heap.size wr wu) := Lib.hid ⟨m1, m2, m3, by omega, fun k _ hk => m5 k hk⟩
          have HEB := Lib.hid (HEW.out)
          have hpts : pt < w1.heap.size ∧ pk < w1.heap.size ∧ pw < w1.heap.size ∧ pe < w1.heap.size ∧ eb < w1.heap.size := ⟨HE3.out.lt, HE3.out.bk.lt, HE3.out.lw, HE3.out.le, HE3.out.be.lt⟩
          have HEU := Lib.hid (HEB.out.only HOM2.out hl1 (by omega) (by omega) (by omega) (by omega) (by omega))
          have HCU := Lib.hid (HOM2.out.blk (HCW.out) (by have := HMB.out; omega))
          have HGU := Lib.hid (show Only eb w wu from (HGW.out).tr' HOM2.out (by omega))
          have hwl : w1.heap.size < wu.heap.size := by rw [m4]; exact hmbl
          have f5 := HEU.out.cw; have f5l := HEU.out.lw
          have HMU := Lib.hid hmp
          have HREC := HIH.out (d - 1) (by omega) (by omega) e wu cs' (by omega) HEU.out hcs2
          obtain ⟨oo, hoo⟩ : ∃ oo, behC v (d - 1) e = oo := ⟨_, rfl⟩
          rw [hoo] at HREC
          have HON3 := HON2.out
          rw [hoo] at HON3
          have HON3 := Lib.hid HON3
          have HREC := Lib.hid HREC
          have HOO := Lib.hid hoo
          clear hoo m1 m2 m3 m4 m5 hmp hpts
          go_wp2_with fail
          refine HREC.out.mono ?_
          rintro e' w5 ⟨cs5, rfl, hE5, hs5, hf5, hg5⟩
          have HE5 := Lib.hid hE5; have HG5 := Lib.hid hg5; have HF5 := Lib.hid hf5
          have HC5 := Lib.hid (hg5.blk HCU.out (by have := HE3.out.be.lt; have := HMB.out; have := HE.out.be.lt; omega))
          have hml5 : w1.heap.size < w5.heap.size := Nat.lt_of_lt_of_le hwl hg5.size
          have HM5 := Lib.hid (HMU.out.of_block (hg5.block _ hwl (by have := HE3.out.be.lt; omega)))
          clear hE5 hg5 hf5
          go_wp2
          go_roundw
          case rel =>
            refine ⟨q + 1, bC oo, cs5, by go_num, by omega, rfl, hs5.trans hcs2, Lib.hid ?_, HE5, Lib.hid (HGU.out.tr HG5.out), HC5, hml5⟩
            cases oo with
            | none => exact .inr ⟨rfl, HON3.out⟩
            | some e2 =>
              have hlt2 := behC_lt _ HOO.out
              rw [HL.out] at hlt2
              exact .inl ⟨e2, ns ++ [(⟨#[]⟩ : ByteArray)], rfl, HON3.out, by omega, by omega, HFL.out.trans (HF5.out _ rfl) hie (by omega), by rw [HOBJ.out]; exact HM5.out⟩
          case measure => simp [intOf]; omega
        · have E2 : km.toList.isEmpty = false := by rw [E1, decide_eq_false hz]
          have HN := Lib.hid (HBAD.out (by rw [HOBJ.out]; unfold kidB; simp [hz]))
          clear E1 hz
          go_wp2
          go_ret
          exact CPost.no HN.out HEW.out (hcs2.trans HCS.out.symm) HGW.out
      · -- an object
        have e6 : ((kn : Int) == 6) = false := by rw [h6]; rfl
        have e7 : ((kn : Int) == 7) = true := by rw [h6]; rfl
        have HOBJ : Hid (decide ((kn : Int) = 7) = true) := Lib.hid (by rw [h6]; rfl)
        have hmp0 := HMP.out
        rw [HOBJ.out, if_pos rfl] at hmp0
        have HMP := Lib.hid hmp0
        clear h6 hmp0
        by_cases hin2 : km ∈ (⟨#[]⟩ : ByteArray) :: ns
        · obtain ⟨kx, hkx⟩ := List.getElem?_of_mem hin2
          obtain ⟨_, hlk⟩ := MapQ.in (tm := 108) strE Tryz.underlying108 HZI.out HMP.out hok hkx
          have HN := Lib.hid (HBAD.out (by
            rw [HOBJ.out]
            unfold kidB
            rcases List.mem_cons.1 hin2 with rfl | hh
            · rfl
            · have : (ns.any fun x => decide (x = km)) = true := List.any_eq_true.2 ⟨km, hh, by simp⟩
              simp [this]))
          clear hin2 hkx
          go_wp2
          go_ret
          exact CPost.no HN.out HEW.out (hcs2.trans HCS.out.symm) HGW.out
        · obtain ⟨_, hlk⟩ := MapQ.out (tm := 108) strE Tryz.underlying108 HZI.out HMP.out hok hin2
          have hnz : km.size ≠ 0 := fun hz => hin2 (by rw [show km = ⟨#[]⟩ from ByteArray.ext (Array.toList_inj.1 (List.eq_nil_of_length_eq_zero (by rw [← hz]; exact bsl_len km)))]; simp)
          have hany : (ns.any fun x => decide (x = km)) = false := by
            rw [List.any_eq_false]
            intro y hy hh
            exact hin2 (List.mem_cons_of_mem _ ((of_decide_eq_true hh) ▸ hy))
          have HKB : Hid (kidB (decide ((kn : Int) = 7)) ns km = txtB km) := Lib.hid (by rw [HOBJ.out]; unfold kidB; simp [hany, hnz])
          obtain ⟨ck, hck⟩ : ∃ ck, chkL (bsl km) = ck := ⟨_, rfl⟩
          have HTX : Hid (txtB km = decide (ck = 0)) := Lib.hid (by unfold txtB; rw [← hck])
          rw [hck] at HCK
          have HPUT := Lib.hid hin2
          clear hck hnz hany hin2 E1
          by_cases hc0 : ck = 0
          · have HON2 := Lib.hid (HON.out (by rw [HKB.out, HTX.out, hc0]; rfl))
            have e0 : (ck != 0) = false := by simpa using hc0
            subst hc0
            go_wp2_with fail
            refine HCK.out.mono ?_
            rintro e' wc ⟨rfl, k1⟩
            obtain ⟨wu, hup, hmp, m1, m2, m3, m4, m5⟩ := MapQ.put (tm := 108) strE Tryz.underlying108 (HMP.out.below k1) hok HPUT.out (v := 1) rfl
            have hmw : w.heap.size ≤ w1.heap.size := by have := HMB.out; omega
            have HOM2 : Hid (Only w1.heap.size wc wu) := Lib.hid ⟨m1, m2, m3, by omega, fun k _ hk => m5 k hk⟩
            have HEB := Lib.hid (HEW.out.next k1)
            have hpts : pt < w1.heap.size ∧ pk < w1.heap.size ∧ pw < w1.heap.size ∧ pe < w1.heap.size ∧ eb < w1.heap.size := ⟨HE3.out.lt, HE3.out.bk.lt, HE3.out.lw, HE3.out.le, HE3.out.be.lt⟩
            have HEU := Lib.hid (HEB.out.only HOM2.out hl1 (by omega) (by omega) (by omega) (by omega) (by omega))
            have HCU := Lib.hid (HOM2.out.blk (HCW.out.below k1 HCW.out.lt) (by have := HMB.out; omega))
            have HGU := Lib.hid (show Only eb w wu from (HGW.out.tr (Only.ofB k1)).tr' HOM2.out (by omega))
            have hwl : w1.heap.size < wu.heap.size := by rw [m4]; exact Nat.lt_of_lt_of_le hmbl k1.size
            have f5 := HEU.out.cw; have f5l := HEU.out.lw
            have HMU := Lib.hid hmp
            have HREC := HIH.out (d - 1) (by omega) (by omega) e wu cs' (by omega) HEU.out hcs2
            obtain ⟨oo, hoo⟩ : ∃ oo, behC v (d - 1) e = oo := ⟨_, rfl⟩
            rw [hoo] at HREC
            have HON3 := HON2.out
            rw [hoo] at HON3
            have HON3 := Lib.hid HON3
            have HREC := Lib.hid HREC
            have HOO := Lib.hid hoo
            clear hoo m1 m2 m3 m4 m5 hmp hpts
            go_wp2_with fail
            refine HREC.out.mono ?_
            rintro e' w5 ⟨cs5, rfl, hE5, hs5, hf5, hg5⟩
            have HE5 := Lib.hid hE5; have HG5 := Lib.hid hg5; have HF5 := Lib.hid hf5
            have HC5 := Lib.hid (hg5.blk HCU.out (by have := HE3.out.be.lt; have := HMB.out; have := HE.out.be.lt; omega))
            have hml5 : w1.heap.size < w5.heap.size := Nat.lt_of_lt_of_le hwl hg5.size
            have HM5 := Lib.hid (HMU.out.of_block (hg5.block _ hwl (by have := HE3.out.be.lt; omega)))
            clear hE5 hg5 hf5
            go_wp2
            go_roundw
            case rel =>
              refine ⟨q + 1, bC oo, cs5, by go_num, by omega, rfl, hs5.trans hcs2, Lib.hid ?_, HE5, Lib.hid (HGU.out.tr HG5.out), HC5, hml5⟩
              cases oo with
              | none => exact .inr ⟨rfl, HON3.out⟩
              | some e2 =>
                have hlt2 := behC_lt _ HOO.out
                rw [HL.out] at hlt2
                exact .inl ⟨e2, ns ++ [km], rfl, HON3.out, by omega, by omega, HFL.out.trans (HF5.out _ rfl) hie (by omega), by rw [HOBJ.out]; exact HM5.out⟩
            case measure => simp [intOf]; omega
          · have HN := Lib.hid (HBAD.out (by rw [HKB.out, HTX.out, decide_eq_false hc0]))
            have e0 : (ck != 0) = true := by simpa using hc0
            clear hc0
            go_wp2_with fail
            refine HCK.out.mono ?_
            rintro e' wc ⟨rfl, k1⟩
            have HEC := Lib.hid (HEW.out.next k1); have HGC := Lib.hid (HGW.out.tr (Only.ofB k1))
            clear k1
            go_wp2
            go_ret
            exact CPost.no HN.out HEC.out (hcs2.trans HCS.out.symm) HGC.out
end Go.Proofs.YtbdkedjgfihamaaGreatDoor
