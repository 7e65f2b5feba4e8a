/- Walks: the program's place behind a node: pattern.behind, Check, End. -/
import Derived.Test.YtjnjbcigbnjmkaaDoorPc
import Derived.Test.YtjnjbcigbnjmkaaDoorPd
import Derived.Deep.RegionWith
import Derived.WalkSpells
namespace Go.Proofs.YtjnjbcigbnjmkaaDoor
open Go.RowKit Pv

theorem ref07_May (A : Option Addr) (c n : Nat) (t : List Rx) (w : World) (h : AtRx w A t) (HL : Hid (t.length = n)) :
    Calls Tryd.prog 21 #[.slice A n c] w fun e w' => e = .returned (.bool (patB t)) ∧ Below w.heap.size w w' := by
  have hl : n ≤ 140737488355328 := by have := h.1; rwa [HL.out] at this
  by_cases h0 : 0 < n
  case neg =>
    have HN := Lib.hid (patB_no (t := t) fun p => p.1 (List.eq_nil_of_length_eq_zero (by rw [HL.out]; omega)))
    have hd : decide (0 < n) = false := decide_eq_false h0
    go_enter Tryd.func21, Tryd.ntmps21
    go_wp2
    go_ret
    exact ⟨ret_bool HN.out.symm, (by repeat (first | exact Below.refl _ _ | exact (Below.refl _ _).alloc (Nat.le_refl _) _ | apply below_drewN))⟩
  have hd : decide (0 < n) = true := decide_eq_true h0
  by_cases h1 : n ≤ 64
  case neg =>
    have HN := Lib.hid (patB_no (t := t) fun p => by have := p.2.1; rw [HL.out] at this; omega)
    have hd : decide ((n : Int) ≤ 64) = false := decide_eq_false (by omega)
    go_enter Tryd.func21, Tryd.ntmps21
    go_wp2
    go_ret
    exact ⟨ret_bool HN.out.symm, (by repeat (first | exact Below.refl _ _ | exact (Below.refl _ _).alloc (Nat.le_refl _) _ | apply below_drewN))⟩
  have hd1 : decide ((n : Int) ≤ 64) = true := decide_eq_true (by omega)
  have HB := Lib.hid (ref07_Behind A c n t w h HL 16 (by omega) 0 w (Keep.refl _) (by omega))
  obtain ⟨o, ho⟩ : ∃ o, behind t 16 0 = o := ⟨_, rfl⟩
  rw [ho] at HB
  by_cases h2 : o = some n
  · subst h2
    have HY := Lib.hid (patB_yes (t := t) ⟨by rintro rfl; have := HL.out; simp at this; omega, by rw [HL.out]; exact h1, by rw [ho, HL.out]⟩)
    have hd2 : ((n : Int) == (n : Int)) = true := by simp
    rw [bR_some] at HB
    clear ho h
    go_enter Tryd.func21, Tryd.ntmps21
    go_wp2_with (go_at_call 23; refine HB.out.mono ?_; rintro e w1 ⟨rfl, hb1⟩)
    go_ret
    exact ⟨ret_bool HY.out.symm, hb1⟩
  · have HN := Lib.hid (patB_no (t := t) fun p => h2 (by rw [← ho, p.2.2, HL.out]))
    have hd2 : (bR o == (n : Int)) = false := by
      rw [beq_eq_false_iff_ne]
      cases o with
      | none => rw [bR_none]; omega
      | some e => rw [bR_some]; intro h; exact h2 (by congr 1; omega)
    generalize bR o = r at *
    clear ho h h2
    go_enter Tryd.func21, Tryd.ntmps21
    go_wp2_with (go_at_call 23; refine HB.out.mono ?_; rintro e w1 ⟨rfl, hb1⟩)
    go_ret
    exact ⟨ret_bool HN.out.symm, hb1⟩

/-- One node, whatever kind. -/
theorem pattern_one (B : Option Addr) (k many least most : Int) (c m : Nat) (l : List Rng) (w : World) (hs : AtSet w B l) (HM : Hid (l.length = m)) (hk : 0 ≤ k) :
    Calls Tryd.prog 29 #[.agg #[.int .u8 k, .slice B m c, .int .i64 many, .int .i64 least, .int .i64 most]] w fun e w' => e = .returned (.bool (Rx.oneB ⟨k, l, many, least, most⟩)) ∧ Below w.heap.size w w' := by
  have := oneC_eq ⟨k, l, many, least, most⟩
  rw [← this]; simp only [HM.out]
  rcases kindcases hk with rfl | rfl | rfl | rfl | rfl | h
  · exact pattern_one0 B many least most c m l w hs HM
  · exact pattern_one1 B many least most c m l w hs HM
  · exact pattern_one2 B many least most c m l w hs HM
  · exact pattern_one3 B many least most c m l w hs HM
  · exact pattern_one4 B many least most c m l w hs HM
  · exact pattern_one5 B k many least most c m l w hs HM (Lib.hid h)

/-- Filled from i to e with the places behind. -/
def Fill (t : List Rx) (cs0 cs : Array Value) (i e : Nat) : Prop :=
  cs.size = cs0.size ∧ ∀ j, (i ≤ j → j < e → cs[j]? = some (.int .i64 (bR (behind t 16 j)))) ∧ (j < i ∨ e ≤ j → cs[j]? = cs0[j]?)
theorem Fill.refl (t : List Rx) (cs : Array Value) (i : Nat) : Fill t cs cs i i := ⟨rfl, fun j => ⟨fun h1 h2 => by omega, fun _ => rfl⟩⟩
theorem Fill.trans {t : List Rx} {a b c : Array Value} {i j k : Nat} (h : Fill t a b i j) (h' : Fill t b c j k) (h1 : i ≤ j) (h2 : j ≤ k) : Fill t a c i k :=
  ⟨h'.1.trans h.1, fun q => ⟨fun g1 g2 => by
    by_cases hq : j ≤ q
    · exact (h'.2 q).1 hq g2
    · rw [(h'.2 q).2 (by omega)]; exact (h.2 q).1 g1 (by omega), fun g => by
    rw [(h'.2 q).2 (by omega)]; exact (h.2 q).2 (by omega)⟩⟩
theorem Fill.set {t : List Rx} {a b : Array Value} {i e : Nat} (h : Fill t a b (i + 1) e) (hi : i < a.size) (he : i < e) (hb : behind t 16 i = some e) : Fill t a (b.setIfInBounds i (.int .i64 e)) i e :=
  ⟨by simp [h.1], fun q => by
    by_cases hq : i = q
    · subst hq
      refine ⟨fun _ _ => ?_, fun g => by omega⟩
      rw [Array.getElem?_setIfInBounds_self_of_lt (by rw [h.1]; exact hi), hb]; rfl
    · rw [Array.getElem?_setIfInBounds_ne hq]
      exact ⟨fun g1 g2 => (h.2 q).1 (by omega) g2, fun g => (h.2 q).2 (by omega)⟩⟩

/-- Where the walk through the nodes stands: the variables that it has captured, and the places. -/
structure WEnv (w0 w : World) (pt pw pe eb : Nat) (A : Option Addr) (n c : Nat) (cs : Array Value) : Prop where
  kp : Keep w0 w
  ct : w.cell? ⟨pt, 0, none⟩ = some (.slice A n c)
  cw : w.cell? ⟨pw, 0, none⟩ = some (.func (.func 28) #[] #[.pointer (some ⟨pt, 0, none⟩), .pointer (some ⟨pw, 0, none⟩), .pointer (some ⟨pe, 0, none⟩)])
  ce : w.cell? ⟨pe, 0, none⟩ = some (.slice (some ⟨eb, 0, none⟩) n n)
  be : Blk w eb 3 cs
  l0 : w0.heap.size ≤ eb
  lt : pt < w.heap.size
  lw : pw < w.heap.size
  le : pe < w.heap.size
  nt : pt ≠ eb
  nw : pw ≠ eb
  ne : pe ≠ eb
theorem WEnv.next {w0 w w' : World} {pt pw pe eb : Nat} {A : Option Addr} {n c : Nat} {cs : Array Value} (h : WEnv w0 w pt pw pe eb A n c cs) (hb : Below w.heap.size w w') : WEnv w0 w' pt pw pe eb A n c cs :=
  ⟨h.kp.trans (Keep.of hb), (hb.cell h.lt).trans h.ct, (hb.cell h.lw).trans h.cw, (hb.cell h.le).trans h.ce, h.be.below hb h.be.lt, h.l0, Nat.lt_of_lt_of_le h.lt hb.size, Nat.lt_of_lt_of_le h.lw hb.size, Nat.lt_of_lt_of_le h.le hb.size, h.nt, h.nw, h.ne⟩
theorem WEnv.set {w0 w : World} {pt pw pe eb : Nat} {A : Option Addr} {n c : Nat} {cs : Array Value} (h : WEnv w0 w pt pw pe eb A n c cs) (i : Nat) (u : Value) : WEnv w0 (w.setCell ⟨eb, i, none⟩ u) pt pw pe eb A n c (cs.setIfInBounds i u) := by
  have f : ∀ g, g ≠ eb → (w.setCell ⟨eb, i, none⟩ u).cell? ⟨g, 0, none⟩ = w.cell? ⟨g, 0, none⟩ := fun g hg => World.cell?_of_block (Below.heap_setCell w ⟨eb, i, none⟩ u g hg)
  exact ⟨h.kp.trans' (by simp) (fun b o hb => World.cell?_of_block (a := ⟨b, o, none⟩) (Below.heap_setCell w ⟨eb, i, none⟩ u b (by simp only; have := h.l0; omega))), (f _ h.nt).trans h.ct, (f _ h.nw).trans h.cw, (f _ h.ne).trans h.ce, h.be.set i u, h.l0, by simpa using h.lt, by simpa using h.lw, by simpa using h.le, h.nt, h.nw, h.ne⟩

/-- What a walk through a node leaves. -/
def WPost (t : List Rx) (w0 w : World) (pt pw pe eb : Nat) (A : Option Addr) (n c : Nat) (cs : Array Value) (i : Nat) (o : Option Nat) (e : Ending) (w' : World) : Prop :=
  ∃ cs', e = .returned (.int .i64 (bR o)) ∧ WEnv w0 w' pt pw pe eb A n c cs' ∧ cs'.size = cs.size ∧ (∀ q, o = some q → Fill t cs cs' i q) ∧ w.grownBy w' (some eb)
theorem grownBy_below {w w' : World} {r : Option Nat} (h : Below w.heap.size w w') : w.grownBy w' r := ⟨h.os, h.tape, h.output, h.size, fun k hk _ => h.block k hk⟩
theorem grownBy_trans {a b c : World} {r : Option Nat} (h : a.grownBy b r) (k : b.grownBy c r) : a.grownBy c r :=
  ⟨k.os.trans h.os, k.tape.trans h.tape, k.output.trans h.output, Nat.le_trans h.size k.size, fun q hq hr => (k.block q (Nat.lt_of_lt_of_le hq h.size) hr).trans (h.block q hq hr)⟩
theorem grownBy_set {a b : World} {g i : Nat} {u : Value} (h : a.grownBy b (some g)) : a.grownBy (b.setCell ⟨g, i, none⟩ u) (some g) :=
  ⟨h.os, h.tape, h.output, by simpa using h.size, fun q hq hr => (Below.heap_setCell b ⟨g, i, none⟩ u q (by simpa using hr)).trans (h.block q hq hr)⟩

end Go.Proofs.YtjnjbcigbnjmkaaDoor
