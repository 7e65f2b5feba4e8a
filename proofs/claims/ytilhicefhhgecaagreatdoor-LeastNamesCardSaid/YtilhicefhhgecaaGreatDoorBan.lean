/- Automata in memory, under way: each state's edges in memory of the call's own; what a state, an edge do. -/
import Derived.Deep.RegionHeld3
import Derived.Deep.RegionLaw
import Derived.Test.YtilhicefhhgecaaGreatDoorPgn
import Derived.Test.YtilhicefhhgecaaGreatDoorHsn
import Derived.Test.YtilhicefhhgecaaGreatDoorTbn
import Derived.Lib.SliceRun
namespace Go.Proofs.YtilhicefhhgecaaGreatDoor
open Go.RowKit Pv

/-- A block of elements of a type. -/
def Typed (w : World) (b : Nat) (e : TypeId) : Prop := ∃ cs, w.heap[b]? = some (.cells cs e (0, 0))
/-- What was there is as it was, but for blocks from base on of some types. -/
structure Chg (T : List TypeId) (base : Nat) (w w' : World) : Prop where
  os : w'.os = w.os
  tape : w'.tape = w.tape
  output : w'.output = w.output
  size : w.heap.size ≤ w'.heap.size
  block : ∀ b, b < w.heap.size → (b < base ∨ ∀ e, e ∈ T → ¬ Typed w b e) → w'.heap[b]? = w.heap[b]?
section
variable {T : List TypeId} {base : Nat} {w w' w'' w0 : World}
theorem Chg.trans (h : Chg T base w w') (k : Chg T base w' w'') : Chg T base w w'' :=
  ⟨k.os.trans h.os, k.tape.trans h.tape, k.output.trans h.output, Nat.le_trans h.size k.size, fun b hb hc => by
    have e := h.block b hb hc
    refine (k.block b (Nat.lt_of_lt_of_le hb h.size) ?_).trans e
    rcases hc with hc | hc
    · exact .inl hc
    · exact .inr fun t ht ⟨cs, hcs⟩ => hc t ht ⟨cs, e ▸ hcs⟩⟩
theorem Chg.of_below (h : Below w.heap.size w w') : Chg T base w w' := ⟨h.os, h.tape, h.output, h.size, fun b hb _ => h.block b hb⟩
theorem Chg.below (h : Chg T base w w') (hb : base ≤ w.heap.size) : Below base w w' := ⟨h.os, h.tape, h.output, h.size, fun b hbb => h.block b (by omega) (.inl hbb)⟩
theorem Chg.blk (h : Chg T base w w') {g : Nat} {t : TypeId} {cs : Array Value} (hb : Blk w g t cs) (ht : ∀ e, e ∈ T → e ≠ t) : Blk w' g t cs :=
  (h.block g hb.lt (.inr fun e he ⟨cs', hcs'⟩ => by
    unfold Blk at hb
    rw [hb] at hcs'
    injection hcs' with hcs'
    injection hcs' with _ h1
    exact ht e he h1.symm)).trans hb
theorem Chg.keep (h : Chg T base w w') (k : Keep w0 w) (hb : w0.heap.size ≤ base) (hs : base ≤ w.heap.size) : Keep w0 w' :=
  k.trans' h.size fun x o hx => World.cell?_of_block (a := ⟨x, o, none⟩) (h.block x (by omega) (.inl (by omega)))
theorem Chg.sub {T' : List TypeId} (h : Chg T base w w') (hT : ∀ e, e ∈ T → e ∈ T') : Chg T' base w w' :=
  ⟨h.os, h.tape, h.output, h.size, fun b hb hc => h.block b hb (hc.imp id fun hc e he => hc e (hT e he))⟩
theorem Chg.then (h : Chg T base w w') (k : Below w'.heap.size w' w'') : Chg T base w w'' := h.trans (Chg.of_below k)
end

/-- The types of blocks that an automaton under way turns. -/
abbrev TA : List TypeId := [TRow, TEdge]

theorem TA_ne : ∀ e, e ∈ TA → e ≠ TRng := by decide
/-- A set that stays: in memory from before base, or in blocks of ranges. -/
def SetIn (w : World) (base : Nat) (v : Value) (l : List Rng) : Prop :=
  ∃ A c, v = .slice A l.length c ∧ AtSet w A l ∧ l.length ≤ c ∧ (0 < l.length → ∀ b o, A = some ⟨b, o, none⟩ → b < base ∨ Typed w b TRng)
theorem SetIn.set {w : World} {base : Nat} {v : Value} {l : List Rng} (h : SetIn w base v l) : IsSet w v l := by
  obtain ⟨A, c, rfl, h, hc, _⟩ := h; exact ⟨A, c, rfl, h, hc⟩
theorem AtK.chg {α : Type} {w w' : World} {k : Nat} {A : Option Addr} {R : (Nat → Value) → α → Prop} {xs : List α} (h : AtK w k A R xs) (hs : w.heap.size ≤ w'.heap.size)
    (hb : ∀ b o, A = some ⟨b, o, none⟩ → 0 < xs.length → b < w.heap.size → w'.heap[b]? = w.heap[b]?) : AtK w' k A R xs :=
  ⟨h.1, fun hp => by
    obtain ⟨b, off, e, hlt, hc⟩ := h.2 hp
    have := hb b off e hp hlt
    exact ⟨b, off, e, Nat.lt_of_lt_of_le hlt hs, fun i x hx => by
      obtain ⟨f, hf, hR⟩ := hc i x hx
      exact ⟨f, fun j hj => (World.cell?_of_block (a := ⟨b, off + i * k + j, none⟩) this).trans (hf j hj), hR⟩⟩⟩
theorem SetIn.chg {T : List TypeId} {w w' : World} {base : Nat} {v : Value} {l : List Rng} (h : SetIn w base v l) (hc : Chg T base w w') (hT : ∀ e, e ∈ T → e ≠ TRng) : SetIn w' base v l := by
  obtain ⟨A, c, rfl, hs, hl, hb⟩ := h
  have key : ∀ b o, A = some ⟨b, o, none⟩ → 0 < l.length → b < w.heap.size → w'.heap[b]? = w.heap[b]? := fun b o e hp hlt => by
    refine hc.block b hlt ?_
    rcases hb hp b o e with h | ⟨cs, hcs⟩
    · exact .inl h
    · refine .inr fun t ht ⟨cs', hcs'⟩ => ?_
      rw [hcs] at hcs'
      injection hcs' with hcs'
      injection hcs' with _ h1
      exact hT t ht h1.symm
  refine ⟨A, c, rfl, AtK.chg hs hc.size key, hl, fun hp b o e => ?_⟩
  rcases hb hp b o e with h | ⟨cs, hcs⟩
  · exact .inl h
  · obtain ⟨b', o', e', hlt, _⟩ := hs.2 hp
    rw [e] at e'
    injection e' with e'
    injection e' with e1 _
    subst e1
    exact .inr ⟨cs, (key b o e hp hlt).trans hcs⟩

/-- An edge's three cells. -/
structure REdge (w : World) (base : Nat) (f : Nat → Value) (x : Ed) : Prop where
  to : RI (f 0) x.to
  free : f 1 = .bool x.free
  set : SetIn w base (f 2) x.set
/-- A row of edges of the call's own. -/
abbrev OwnRow (w : World) (base : Nat) (v : Value) (es : List Ed) : Prop := OwnK w base TEdge 3 (REdge w base) v es

/-- The rows of an automaton under way. -/
structure RowsAt (w : World) (base n : Nat) (rows : List Value) (a : Au) : Prop where
  len : rows.length = n
  n : n = a.length
  row : ∀ (i : Nat) es, a[i]? = some es → ∃ r, rows[i]? = some r ∧ OwnRow w base r es
  ne : ∀ (i j : Nat) r r', i ≠ j → rows[i]? = some r → rows[j]? = some r' → r.ownBlock = none ∨ r.ownBlock ≠ r'.ownBlock
/-- An automaton under way: its slice of rows. -/
def AuAt (w : World) (base : Nat) (A : Option Addr) (n c : Nat) (a : Au) : Prop :=
  ∃ rows, w.ownsRow base TRow 1 (.slice A n c) n rows ∧ RowsAt w base n rows a

end Go.Proofs.YtilhicefhhgecaaGreatDoor

namespace Go.Proofs.YtilhicefhhgecaaGreatDoor
open Go.RowKit Pv

theorem own_emptyK (w : World) (base : Nat) (e : TypeId) (k n : Nat) (hn : n = w.heap.size) (hb : base ≤ n) : (w.alloc (.cells #[] e)).ownsRow base e k (.slice (some ⟨n, 0, none⟩) 0 0) 0 [] := by
  subst hn
  exact ⟨by simp, .inr ⟨w.heap.size, 0, #[], rfl, hb, by show (w.heap.push _)[w.heap.size]? = _; simp, Nat.le_refl _, by simp only [maxLen]; omega, by simp, by simp⟩⟩

set_option maxHeartbeats 1000000 in
set_option maxRecDepth 100000 in
theorem slices_Clone_rng (A : Option Addr) (c n : Nat) (l : List Rng) (w : World) (h : AtSet w A l) (HL : Hid (l.length = n)) (hn : n ≤ 1000000) :
    Calls Tryz.prog 81 #[.slice A n c] w fun e w' => ∃ B c', e = .returned (.slice B n c') ∧ OwnSet w' w.heap.size (.slice B n c') l ∧ Below w.heap.size w w' := by
  have hnil := fun (W : World) (a : Option Addr) (n c : Nat) => Lib.run_eql_slice_nil (P := Tryz.prog) W 50 124 a n c 0 0 Tryz.underlying50
  obtain ⟨i0, hi0, hz0, hs0, hb0⟩ := info_parts info_range
  cases A with
  | none =>
    have hn0 : n = 0 := by
      rcases Nat.eq_zero_or_pos n with h0 | h0
      · exact h0
      · obtain ⟨b, o, e, _⟩ := h.2 (by rw [HL.out]; exact h0)
        cases e
    subst hn0
    have hl : l = [] := List.eq_nil_of_length_eq_zero HL.out
    subst hl
    clear h
    go_enter Tryz.func81, Tryz.ntmps81
    go_wp2
    go_ret
    exact ⟨none, 0, rfl, OwnK.nil, Below.refl _ _⟩
  | some ad =>
    obtain ⟨us, hr, src⟩ := AtK.src h (fun _ _ => RRng.one)
    rw [HL.out] at src
    have hba : Below w.heap.size w (w.alloc (.cells #[] TRng)) := (Below.refl _ _).alloc (Nat.le_refl _) _
    have S1 := Lib.hid (src.keep (Keep.of hba)); have R1 := Lib.hid hr
    have OW := Lib.hid (own_emptyK w w.heap.size TRng 2 w.heap.size rfl (Nat.le_refl _))
    have HB := Lib.hid hba
    have Q1 : Hid (0 + n ≤ maxLen) := Lib.hid (by simp only [maxLen]; omega)
    have Q2 : Hid ((0 + n) * 16 ≤ 140737488355328) := Lib.hid (by omega)
    clear src hr h hba
    go_enter Tryz.func81, Tryz.ntmps81
    go_wp2_with (at_builtin
                 go_must (refine wpList_append_src _ rfl (.tmp 5) (.tmp 6) 50 rfl w.heap.size TRng i0 (.agg #[.int .i64 0, .int .i64 0]) 2 16 Tryz.underlying50 hi0 hz0 hs0 hb0 rfl (by decide) (some ⟨w.heap.size, 0, none⟩) 0 0 [] rfl OW.out (some ad) n c us rfl S1.out Q1.out Q2.out HB.out.size ?_)
                 intro A1 c1 w1 own1 gr1 _
                 simp only [List.nil_append, Nat.zero_add] at own1
                 have G1 := Lib.hid (HB.out.grown gr1 HB.out.size (fun g hg => (OW.out.lt g hg).1)); have O1 := Lib.hid own1
                 clear gr1 own1)
    go_ret
    exact ⟨A1, c1, by simp, ⟨A1, c1, us, by rw [HL.out], by rw [HL.out]; exact O1.out, R1.out⟩, G1.out⟩

end Go.Proofs.YtilhicefhhgecaaGreatDoor
