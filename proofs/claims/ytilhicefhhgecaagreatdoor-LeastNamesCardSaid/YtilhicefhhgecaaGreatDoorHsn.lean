/- Walks: a set in new memory. -/
import Derived.Test.YtilhicefhhgecaaGreatDoorTbn
import Derived.Test.YtilhicefhhgecaaGreatDoorDfan
import Derived.Test.YtilhicefhhgecaaGreatDoorChecked
import Derived.WalkKit
import Derived.WalkSpells
import Derived.WalkLawsBesides
import Derived.Deep.QuietTactic
import Derived.BigQuiet
import Derived.Lib.Hide
import Derived.Outline
namespace Go.Proofs.YtilhicefhhgecaaGreatDoor
open Go.RowKit Pv

theorem ownsRow_setNe {w : World} {b : Nat} {e : TypeId} {s n : Nat} {v : Value} {us : List Value} (h : w.ownsRow b e s v n us) {g : Nat} (hne : v.ownBlock ≠ some g) (i : Nat) (u : Value) :
    (w.setCell ⟨g, i, none⟩ u).ownsRow b e s v n us := by
  refine ⟨h.1, ?_⟩
  rcases h.2 with h2 | ⟨g', cap, cur, rfl, hg, hh, r⟩
  · exact .inl h2
  · have hgg : g' ≠ g := fun he => hne (by subst he; rfl)
    exact .inr ⟨g', cap, cur, rfl, hg, by rw [Below.heap_setCell _ _ _ _ (by simpa using hgg)]; exact hh, r⟩
theorem Src.many {w : World} {arr : Array Value} {t : TypeId} {size : Nat} (h : ∀ u ∈ arr.toList, u.oneCell' = true) (hs : arr.size = size) : Pv.Src (w.alloc (.cells arr t)) (some ⟨w.heap.size, 0, none⟩) size 1 arr.toList := by
  refine ⟨by simp [hs], h, fun _ => ⟨w.heap.size, 0, rfl, by simp, fun j u hu => ?_⟩⟩
  have := (Blk.new w t arr).cell (0 + j)
  rw [this, Nat.zero_add]
  simpa using hu

theorem info_range : (Tryz.prog.info? 124).map (fun i => (i.zero, i.size, i.bytes)) = some (some (.agg #[.int .i64 0, .int .i64 0]), 2, 16) := by kernel_rfl
theorem RRng.one {f : Nat → Value} {r : Rng} (h : RRng f r) : ∀ j, j < 2 → (f j).oneCell' = true := by
  intro j hj
  obtain ⟨⟨h0, _⟩, ⟨h1, _⟩⟩ := h
  match j, hj with
  | 0, _ => rw [h0]; rfl
  | 1, _ => rw [h1]; rfl
/-- A set in new memory of the call's own. -/
abbrev OwnSet (w : World) (base : Nat) (v : Value) (l : List Rng) : Prop := OwnK w base 124 2 RRng v l

end Go.Proofs.YtilhicefhhgecaaGreatDoor

namespace Go.Proofs.YtilhicefhhgecaaGreatDoor
open Go.RowKit Pv

theorem info_rx : (Tryz.prog.info? 52).map (fun i => (i.zero, i.size, i.bytes)) = some (some (.agg #[.int .u8 0, .slice none 0 0, .int .i64 0, .int .i64 0, .int .i64 0]), 5, 56) := by kernel_rfl
/-- A node of the call's own: its set too. -/
structure ORx (w : World) (base : Nat) (f : Nat → Value) (x : Rx) : Prop where
  kind : RU (f 0) x.kind
  set : OwnSet w base (f 1) x.set
  many : RI (f 2) x.many
  least : RI (f 3) x.least
  most : RI (f 4) x.most
theorem ORx.up {w w' : World} {base : Nat} {f : Nat → Value} {x : Rx} (h : ORx w base f x) (hu : ∀ v l, OwnSet w base v l → OwnSet w' base v l) : ORx w' base f x := ⟨h.1, hu _ _ h.2, h.3, h.4, h.5⟩
theorem ORx.rx {w : World} {base : Nat} {f : Nat → Value} {x : Rx} (h : ORx w base f x) (hl : x.set.length ≤ 140737488355328) : RRx w f x := ⟨h.1, OwnK.sl h.2 hl, h.3, h.4, h.5⟩
abbrev OwnRx (w : World) (base : Nat) (v : Value) (t : List Rx) : Prop := OwnK w base 52 5 (ORx w base) v t
end Go.Proofs.YtilhicefhhgecaaGreatDoor

namespace Go.Proofs.YtilhicefhhgecaaGreatDoor
open Go.RowKit Pv

abbrev TRow : TypeId := 135
abbrev TEdge : TypeId := 132
abbrev TRng : TypeId := 124
abbrev TAuto : TypeId := 35
theorem info_row : (Tryz.prog.info? TRow).map (fun i => (i.zero, i.size, i.bytes)) = some (some (.slice none 0 0), 1, 24) := by kernel_rfl
theorem info_edge : (Tryz.prog.info? TEdge).map (fun i => (i.zero, i.size, i.bytes)) = some (some (.agg #[.int .i64 0, .bool false, .slice none 0 0]), 3, 40) := by kernel_rfl
theorem blk2 (w : World) (c1 c2 : Array Value) (t1 t2 : TypeId) : Blk ((w.alloc (.cells c1 t1)).alloc (.cells c2 t2)) w.heap.size t1 c1 ∧ Blk ((w.alloc (.cells c1 t1)).alloc (.cells c2 t2)) (w.heap.size + 1) t2 c2 := by
  refine ⟨(Blk.new w t1 c1).alloc _, ?_⟩
  have h := Blk.new (w.alloc (.cells c1 t1)) t2 c2
  have e : (w.alloc (.cells c1 t1)).heap.size = w.heap.size + 1 := by simp
  rwa [e] at h
theorem Blk.two {w : World} {g : Nat} {t : TypeId} {a b : Value} (h : Blk w g t #[a, b]) : w.cell? ⟨g, 0, none⟩ = some a ∧ w.cell? ⟨g, 1, none⟩ = some b ∧ w.frozen? ⟨g, 0, none⟩ = false ∧ w.frozen? ⟨g, 1, none⟩ = false :=
  ⟨h.cell 0, h.cell 1, h.frozen 0, h.frozen 1⟩
/-- An edge's three cells, read. -/
structure RE (w : World) (f : Nat → Value) (x : Ed) : Prop where
  to : RI (f 0) x.to
  free : f 1 = .bool x.free
  set : IsSet w (f 2) x.set
theorem RE.keep {w w' : World} {f : Nat → Value} {x : Ed} (h : RE w f x) (k : Keep w w') : RE w' f x := ⟨h.1, h.2, SlK.keep h.3 k⟩
abbrev IsRow (w : World) (v : Value) (es : List Ed) : Prop := SlK w 3 (RE w) v es
theorem IsRow.keep {w w' : World} {v : Value} {es : List Ed} (h : IsRow w v es) (k : Keep w w') : IsRow w' v es := SlK.keepR h k fun _ _ h => h.keep k
/-- Rows from an address on. -/
abbrev AtAu (w : World) (A : Option Addr) (a : Au) : Prop := At w A (IsRow w) a
theorem AtAu.keep {w w' : World} {A : Option Addr} {a : Au} (h : AtAu w A a) (k : Keep w w') : AtAu w' A a := At.keepR h k fun _ _ h => IsRow.keep h k
theorem AtAu.gt {w : World} {A : Option Addr} {a : Au} {n i : Nat} (h : AtAu w A a) (HL : Hid (a.length = n)) (hi : i < n) :
    ∃ b off S m cs es, A = some ⟨b, off, none⟩ ∧ b < w.heap.size ∧ w.cell? ⟨b, off + i, none⟩ = some (.slice S m cs) ∧ AtK w 3 S (RE w) es ∧ Hid (es.length = m) ∧ m ≤ cs ∧ Hid (a[i]? = some es) := by
  obtain ⟨b, off, u, es, e, hb, hc, ⟨S, cs, rfl, hs, hm⟩, hx⟩ := At.gt h HL hi
  exact ⟨b, off, S, es.length, cs, es, e, hb, hc, hs, rfl, hm, hx⟩
theorem AtEd.gt {w : World} {A : Option Addr} {es : List Ed} {n k : Nat} (h : AtK w 3 A (RE w) es) (HL : Hid (es.length = n)) (hk : k < n) :
    ∃ b off tto free T q tc l, A = some ⟨b, off, none⟩ ∧ b < w.heap.size ∧ (w.cell? ⟨b, off + k * 3, none⟩ = some (.int .i64 tto) ∧ w.cell? ⟨b, off + k * 3 + 1, none⟩ = some (.bool free) ∧ w.cell? ⟨b, off + k * 3 + 2, none⟩ = some (.slice T q tc)) ∧
      AtSet w T l ∧ Hid (l.length = q) ∧ q ≤ tc ∧ (-9223372036854775808 ≤ tto ∧ tto ≤ 9223372036854775807) ∧ Hid (es[k]? = some ⟨tto, free, l⟩) := by
  obtain ⟨b, off, f, ⟨tto, free, l⟩, e, hb, hc, ⟨⟨h0, h01⟩, h1, ⟨T, tc, h2, hs, hm⟩⟩, hx⟩ := AtK.gt h HL hk
  have c0 := hc 0 (by omega); have c1 := hc 1 (by omega); have c2 := hc 2 (by omega)
  rw [h0] at c0; rw [h1] at c1; rw [h2] at c2
  exact ⟨b, off, tto, free, T, l.length, tc, l, e, hb, ⟨c0, c1, c2⟩, hs, rfl, hm, h01, hx⟩
theorem AtEd.keep {w w' : World} {A : Option Addr} {es : List Ed} (h : AtK w 3 A (RE w) es) (k : Keep w w') : AtK w' 3 A (RE w') es := AtK.keepR h k fun _ _ h => h.keep k

end Go.Proofs.YtilhicefhhgecaaGreatDoor

namespace Go.Proofs.YtilhicefhhgecaaGreatDoor
open Go.RowKit Pv

set_option maxHeartbeats 1000000 in
set_option maxRecDepth 100000 in
theorem ranges_Has1 (lo hi p : Int) (b : Nat) (w : World) (hb : b < w.heap.size) (hc : w.cell? ⟨b, 0, none⟩ = some (.int .i64 p)) :
    Calls Tryz.prog 172 #[.agg #[.int .i64 lo, .int .i64 hi], .pointer (some ⟨b, 0, none⟩)] w fun e w' => e = .returned (.bool (decide (lo ≤ p) && decide (p ≤ hi))) ∧ Below w.heap.size w w' := by
  have hW : Below w.heap.size w (w.alloc (.cells #[.int .i64 lo, .int .i64 hi] 124)) := (Below.refl _ _).alloc (Nat.le_refl _) _
  have HW := Lib.hid hW
  have hc' := ((Keep.of hW).cell b 0 hb).trans hc
  clear hW
  by_cases h1 : lo ≤ p
  · by_cases h2 : p ≤ hi
    · have HA := Lib.hid (show true = (decide (lo ≤ p) && decide (p ≤ hi)) by simp [h1, h2])
      generalize (decide (lo ≤ p) && decide (p ≤ hi)) = ans at *
      go_enter Tryz.func172, Tryz.ntmps172
      go_wp2
      go_ret
      exact ⟨ret_bool HA.out, HW.out⟩
    · have HA := Lib.hid (show false = (decide (lo ≤ p) && decide (p ≤ hi)) by simp [h2])
      generalize (decide (lo ≤ p) && decide (p ≤ hi)) = ans at *
      go_enter Tryz.func172, Tryz.ntmps172
      go_wp2
      go_ret
      exact ⟨ret_bool HA.out, HW.out⟩
  · have HA := Lib.hid (show false = (decide (lo ≤ p) && decide (p ≤ hi)) by simp [h1])
    generalize (decide (lo ≤ p) && decide (p ≤ hi)) = ans at *
    go_enter Tryz.func172, Tryz.ntmps172
    go_wp2
    go_ret
    exact ⟨ret_bool HA.out, HW.out⟩

set_option maxHeartbeats 1000000 in
set_option maxRecDepth 100000 in
theorem index_rng (A : Option Addr) (c n b : Nat) (l : List Rng) (p : Int) (w : World) (h : AtSet w A l) (HL : Hid (l.length = n)) (hb : b < w.heap.size) (hc : w.cell? ⟨b, 0, none⟩ = some (.int .i64 p)) :
    Calls Tryz.prog 205 #[.slice A n c, .func (.func 172) #[] #[.pointer (some ⟨b, 0, none⟩)]] w fun e w' => (∃ r : Int, e = .returned (.int .i64 r) ∧ (0 ≤ r ↔ InSet l p)) ∧ Below w.heap.size w w' := by
  have hl : n ≤ 140737488355328 := by have := h.1; rwa [HL.out] at this
  have HH := Lib.hid h
  clear h
  go_enter Tryz.func205, Tryz.ntmps205
  go_wp2
  go_loopw [8] (fun i wr => ∃ k : Nat, i = .int .i64 k ∧ k ≤ n ∧ (∀ (i : Nat) x, i < k → l[i]? = some x → ¬ (x.lo ≤ p ∧ p ≤ x.hi)) ∧ Below w.heap.size w wr) (fun i _ => n - (intOf i).toNat)
  case atStart => exact ⟨0, rfl, by omega, by intros; omega, Below.refl _ _⟩
  case round =>
    obtain ⟨k, rfl, hk, hno, hbel⟩ := hrel
    have HNO := Lib.hid hno; have HB := Lib.hid hbel
    clear hno hbel
    by_cases hlt : k < n
    · obtain ⟨bb, off, lo, hi, rfl, hbl, x0, x1, _, _, HX⟩ := AtSet.gt (AtK.keep HH.out (Keep.of HB.out)) HL hlt
      have HC := Lib.hid (ranges_Has1 lo hi p b wr (Nat.lt_of_lt_of_le hb HB.out.size) (((Keep.of HB.out).cell b 0 hb).trans hc))
      by_cases hh : lo ≤ p ∧ p ≤ hi
      · rw [show (decide (lo ≤ p) && decide (p ≤ hi)) = true by simp [hh]] at HC
        have HY := Lib.hid (show InSet l p from ⟨k, _, HX.out, hh.1, hh.2⟩)
        clear hh
        go_wp2_with fail
        refine HC.out.mono ?_
        rintro e w2 ⟨rfl, hb2⟩
        have B2 := Lib.hid (HB.out.trans (hb2.mono HB.out.size))
        clear hb2
        go_wp2
        go_ret
        exact ⟨⟨_, rfl, fun _ => HY.out, fun _ => by omega⟩, B2.out⟩
      · rw [show (decide (lo ≤ p) && decide (p ≤ hi)) = false by simp; intro h1; have := fun h2 => hh ⟨h1, h2⟩; omega] at HC
        have HS := Lib.hid (fun (i : Nat) (x : Rng) (hi' : i < k + 1) (hx : l[i]? = some x) => (show ¬ (x.lo ≤ p ∧ p ≤ x.hi) from by
          by_cases e : i = k
          · subst e
            obtain rfl := Option.some.inj (hx.symm.trans HX.out)
            exact hh
          · exact HNO.out i x (by omega) hx))
        clear hh
        go_wp2_with fail
        refine HC.out.mono ?_
        rintro e w2 ⟨rfl, hb2⟩
        have B2 := Lib.hid (HB.out.trans (hb2.mono HB.out.size))
        clear hb2
        go_wp2
        go_roundw
        case rel => exact ⟨k + 1, by go_num, by omega, HS.out, B2.out⟩
        case measure => simp [intOf]; omega
    · have HN := Lib.hid (show ¬ InSet l p from by
        rintro ⟨i, x, h1, h2⟩
        exact HNO.out i x (by have := lt_of_get h1; rw [HL.out] at this; omega) h1 h2)
      go_wp2
      go_ret
      exact ⟨⟨-1, rfl, fun h => by omega, fun h => absurd h HN.out⟩, HB.out⟩

set_option maxHeartbeats 1000000 in
set_option maxRecDepth 100000 in
theorem ranges_Has (A : Option Addr) (c n : Nat) (l : List Rng) (p : Int) (w : World) (h : AtSet w A l) (HL : Hid (l.length = n)) :
    Calls Tryz.prog 128 #[.slice A n c, .int .i64 p] w fun e w' => e = .returned (.bool (yes (InSet l p))) ∧ Below w.heap.size w w' := by
  have hW : Below w.heap.size w (w.alloc (.cells #[.int .i64 p] 3)) := (Below.refl _ _).alloc (Nat.le_refl _) _
  have HI := Lib.hid (index_rng A c n w.heap.size l p _ (AtK.keep h (Keep.of hW)) HL (by simp) ((Blk.new w 3 #[.int .i64 p]).cell 0))
  have HW := Lib.hid hW
  have hCF : ∀ r : Int, Calls Tryz.prog 171 #[.slice A n c, .func (.func 172) #[] #[.pointer (some ⟨w.heap.size, 0, none⟩)]] (w.alloc (.cells #[.int .i64 p] 3)) fun e w' => e = .returned (.bool (yes (InSet l p))) ∧ Below (w.alloc (.cells #[.int .i64 p] 3)).heap.size (w.alloc (.cells #[.int .i64 p] 3)) w' := by
    intro _
    clear hW h
    generalize w.alloc (.cells #[.int .i64 p] 3) = w0 at *
    go_enter Tryz.func171, Tryz.ntmps171
    go_wp2_with fail
    refine HI.out.mono ?_
    rintro e w2 ⟨⟨r, rfl, hr⟩, hb2⟩
    have HR := Lib.hid (show decide (0 ≤ r) = yes (InSet l p) by
      by_cases h0 : InSet l p
      · rw [yes_t h0]; exact decide_eq_true (hr.2 h0)
      · rw [yes_f h0]; exact decide_eq_false (fun h1 => h0 (hr.1 h1)))
    have B2 := Lib.hid hb2
    clear hr hb2
    go_wp2
    go_ret
    exact ⟨ret_bool HR.out, B2.out⟩
  have HCF := Lib.hid (hCF 0)
  clear hCF h hW HI
  go_enter Tryz.func128, Tryz.ntmps128
  go_wp2_with fail
  refine HCF.out.mono ?_
  rintro e w2 ⟨rfl, hb2⟩
  have B2 := Lib.hid (HW.out.trans (hb2.mono HW.out.size))
  clear hb2
  go_wp2
  go_ret
  exact ⟨rfl, B2.out⟩

end Go.Proofs.YtilhicefhhgecaaGreatDoor
