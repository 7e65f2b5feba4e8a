/- The walker under way: what it stands on, what may be written to beside it. -/
import Derived.Test.YtjnjbcigbnjmkaaTo
namespace Go.Proofs.Ytjnjbcigbnjmkaa
open Go.RowKit Go.ChangeMaps Pv

/-- The map of what was seen, its lists in none of some blocks. -/
def SeenX (W : World) (mb n : Nat) (pts : List Int) (t : List Rx) (X : Nat → Prop) : Prop :=
  ∃ es clock, W.heap[mb]? = some (.map es clock) ∧ ∀ e, e ∈ es.toList → SeenE W n pts t e ∧ ∀ g o m c, e.val = .slice (some ⟨g, o, none⟩) m c → ¬ X g
/-- The walker under way. -/
structure WkE (w0 W : World) (e0 e1 pm mb n : Nat) (tA EA pA : Option Addr) (nt ct ec cp : Nat) (t : List Rx) (pts : List Int) (X : Nat → Prop) : Prop where
  b : Blk W pm TWk #[.slice tA nt ct, .slice EA nt ec, .slice pA n cp, .map (some mb)]
  seen : SeenX W mb n pts t X
  kp : Keep w0 W
  oe : W.ownsRow e0 TI 1 (.slice EA nt ec) nt ((endsL t).map (Value.int .i64))
  ge : e1 ≤ W.heap.size
  lo : ∀ b, X b → e1 ≤ b
  hi : ∀ b, X b → b < W.heap.size
  lp : pm < e1
  lm : mb < e1
  ne : pm ≠ mb
  le : ∀ g, (Value.slice EA nt ec).ownBlock = some g → g < e1
  l0 : w0.heap.size ≤ e1
/-- What a call may do: the map turns, memory comes. -/
def Fr (mb : Nat) (W W' : World) : Prop := Keep W W' ∧ Only mb W W'
theorem Only.trans {b : Nat} {w w' w'' : World} (h : Only b w w') (k : Only b w' w'') : Only b w w'' :=
  ⟨k.os.trans h.os, k.tape.trans h.tape, k.output.trans h.output, Nat.le_trans h.size k.size, fun x hx hb => (k.block x (Nat.lt_of_lt_of_le hx h.size) hb).trans (h.block x hx hb)⟩
theorem Fr.refl (mb : Nat) (W : World) : Fr mb W W := ⟨Keep.refl W, Only.refl mb W⟩
theorem Fr.trans {mb : Nat} {w w' w'' : World} (h : Fr mb w w') (k : Fr mb w' w'') : Fr mb w w'' := ⟨h.1.trans k.1, Only.trans h.2 k.2⟩
theorem Fr.of {mb : Nat} {w w' : World} (h : Below w.heap.size w w') : Fr mb w w' := ⟨Keep.of h, h.os, h.tape, h.output, h.size, fun k hk _ => h.block k hk⟩
theorem Fr.blk {mb g : Nat} {w w' : World} {t : TypeId} {cs : Array Value} (h : Fr mb w w') (hb : Blk w g t cs) (hne : g ≠ mb) : Blk w' g t cs := Only.blk h.2 hb hne
theorem Fr.below {mb B : Nat} {w w' : World} (h : Fr mb w w') (hB : B ≤ mb) (hs : B ≤ w.heap.size) : Below B w w' := Only.below h.2 hB hs
theorem BRow.fr {mb b n : Nat} {w w' : World} {t : TypeId} {S : Nat → Prop} (h : BRow w t b n S) (f : Fr mb w w') (hne : b ≠ mb) : BRow w' t b n S := h.of (f.2.block b h.lt hne)
section
variable {w0 W W' : World} {e0 e1 pm mb n : Nat} {tA EA pA : Option Addr} {nt ct ec cp : Nat} {t : List Rx} {pts : List Int} {X X' : Nat → Prop}
theorem SeenX.ok (h : SeenX W mb n pts t X) : SeenOk W mb n pts t := by
  obtain ⟨es, clock, h1, h2⟩ := h
  exact ⟨es, clock, h1, fun e he => (h2 e he).1⟩
theorem SeenX.next (h : SeenX W mb n pts t X) (hb : Below W.heap.size W W') : SeenX W' mb n pts t X := by
  obtain ⟨es, clock, h1, h2⟩ := h
  exact ⟨es, clock, (hb.block mb (obj_lt h1)).trans h1, fun e he => ⟨(h2 e he).1.keep (Keep.of hb), (h2 e he).2⟩⟩
theorem SeenX.weak (h : SeenX W mb n pts t X) (hx : ∀ b, X' b → X b) : SeenX W mb n pts t X' := by
  obtain ⟨es, clock, h1, h2⟩ := h
  exact ⟨es, clock, h1, fun e he => ⟨(h2 e he).1, fun g o m c hv hX => (h2 e he).2 g o m c hv (hx g hX)⟩⟩
/-- A write into a block that no list of the map lies in. -/
theorem SeenX.write {b : Nat} (h : SeenX W mb n pts t X) (o : Only b W W') (hX : X b) (hne : b ≠ mb) : SeenX W' mb n pts t X := by
  obtain ⟨es, clock, h1, h2⟩ := h
  refine ⟨es, clock, (o.block mb (obj_lt h1) (fun e => hne e.symm)).trans h1, fun e he => ⟨?_, (h2 e he).2⟩⟩
  obtain ⟨i, T, S, k1, k2, k3, A, c, k4, k5⟩ := (h2 e he).1
  refine ⟨i, T, S, k1, k2, k3, A, c, k4, k5.1, fun hp => ?_⟩
  obtain ⟨g, off, eA, hg, hc⟩ := k5.2 hp
  have hgb : g ≠ b := fun e2 => (h2 e he).2 g off _ c (by rw [k4, eA]) (e2 ▸ hX)
  refine ⟨g, off, eA, Nat.lt_of_lt_of_le hg o.size, fun j x hx => ?_⟩
  obtain ⟨u, hu, hR⟩ := hc j x hx
  exact ⟨u, (World.cell?_of_block (a := ⟨g, off + j, none⟩) (o.block g hg hgb)).trans hu, hR⟩
/-- A new block joins those that may be written to. -/
theorem SeenX.more {b : Nat} (h : SeenX W mb n pts t X) (hb : W.heap.size ≤ b) : SeenX W mb n pts t (fun x => X x ∨ x = b) := by
  obtain ⟨es, clock, h1, h2⟩ := h
  refine ⟨es, clock, h1, fun e he => ⟨(h2 e he).1, fun g o m c hv hX => ?_⟩⟩
  rcases hX with hX | rfl
  · exact (h2 e he).2 g o m c hv hX
  · obtain ⟨i, T, S, _, _, _, A, c', k4, k5⟩ := (h2 e he).1
    obtain ⟨g', off, eA, hg, _⟩ := k5.2 (by rw [lst_len]; omega)
    rw [k4, eA] at hv
    injection hv with hv
    injection hv with hv
    injection hv with hv
    omega
theorem WkE.next (h : WkE w0 W e0 e1 pm mb n tA EA pA nt ct ec cp t pts X) (hb : Below W.heap.size W W') : WkE w0 W' e0 e1 pm mb n tA EA pA nt ct ec cp t pts X :=
  ⟨h.b.below hb h.b.lt, h.seen.next hb, h.kp.trans (Keep.of hb), ownsRow_below h.oe hb, Nat.le_trans h.ge hb.size, h.lo, fun b hX => Nat.lt_of_lt_of_le (h.hi b hX) hb.size, h.lp, h.lm, h.ne, h.le, h.l0⟩
theorem WkE.weak (h : WkE w0 W e0 e1 pm mb n tA EA pA nt ct ec cp t pts X) (hx : ∀ b, X' b → X b) : WkE w0 W e0 e1 pm mb n tA EA pA nt ct ec cp t pts X' :=
  ⟨h.b, h.seen.weak hx, h.kp, h.oe, h.ge, fun b hb => h.lo b (hx b hb), fun b hb => h.hi b (hx b hb), h.lp, h.lm, h.ne, h.le, h.l0⟩
theorem WkE.more {b : Nat} (h : WkE w0 W e0 e1 pm mb n tA EA pA nt ct ec cp t pts X) (hb : W.heap.size ≤ b) (hn : Below W.heap.size W W') (hb2 : b < W'.heap.size) : WkE w0 W' e0 e1 pm mb n tA EA pA nt ct ec cp t pts (fun x => X x ∨ x = b) := by
  have h2 := h.next hn
  exact ⟨h2.b, (h.seen.more hb).next hn, h2.kp, h2.oe, h2.ge, fun x hx => by rcases hx with hx | rfl; exact h.lo x hx; exact Nat.le_trans h.ge hb, fun x hx => by rcases hx with hx | rfl; exact h2.hi x hx; exact hb2, h.lp, h.lm, h.ne, h.le, h.l0⟩
theorem own_only {b0 b m : Nat} {v : Value} {us : List Value} (h : W.ownsRow b0 TI 1 v m us) (o : Only b W W') (hne : v.ownBlock ≠ some b) : W'.ownsRow b0 TI 1 v m us := by
  refine ⟨h.1, ?_⟩
  rcases h.2 with h2 | ⟨g, cap, cur, hv, hg, hh, r⟩
  · exact .inl h2
  · have hb : Blk W g TI cur := hh
    exact .inr ⟨g, cap, cur, hv, hg, (o.block g hb.lt (fun e => hne (by rw [hv, e]; rfl))).trans hh, r⟩
theorem WkE.write {b : Nat} (h : WkE w0 W e0 e1 pm mb n tA EA pA nt ct ec cp t pts X) (o : Only b W W') (hX : X b) : WkE w0 W' e0 e1 pm mb n tA EA pA nt ct ec cp t pts X := by
  have hb := h.lo b hX
  have hlp := h.lp; have hlm := h.lm; have hl0 := h.l0
  refine ⟨o.blk h.b (by omega), h.seen.write o hX (by omega), h.kp.trans' o.size fun x off hx => World.cell?_of_block (a := ⟨x, off, none⟩) (o.block x (by have := h.ge; omega) (by omega)), own_only h.oe o fun e => ?_, Nat.le_trans h.ge o.size, h.lo, fun x hx => Nat.lt_of_lt_of_le (h.hi x hx) o.size, h.lp, h.lm, h.ne, h.le, h.l0⟩
  have := h.le b e; omega
theorem WkE.cells (h : WkE w0 W e0 e1 pm mb n tA EA pA nt ct ec cp t pts X) : pm < W.heap.size ∧ W.cell? ⟨pm, 0, none⟩ = some (.slice tA nt ct) ∧ W.cell? ⟨pm, 1, none⟩ = some (.slice EA nt ec) ∧ W.cell? ⟨pm, 2, none⟩ = some (.slice pA n cp) ∧ W.cell? ⟨pm, 3, none⟩ = some (.map (some mb)) := ⟨h.b.lt, h.b.cell 0, h.b.cell 1, h.b.cell 2, h.b.cell 3⟩
/-- One more was seen. -/
theorem WkE.update {i : Nat} {T : Tr} {S : Nat → Prop} {g o c : Nat} (h : WkE w0 W e0 e1 pm mb n tA EA pA nt ct ec cp t pts X) (hn : n ≤ 1000) (hP : PlaceAt t i T) (hS : ∀ a, S a → a ≤ n) (hA : At W (some ⟨g, o, none⟩) RB (lst n (im (spT pts T) S))) (hg : ¬ X g) :
    ∃ W', (Instr.mapUpdate 165 (.map (some mb)) (seenKey i (strOfNums (bitN n S))) (.slice (some ⟨g, o, none⟩) (n + 1) c)).run Try.prog W = .ok () W' ∧ WkE w0 W' e0 e1 pm mb n tA EA pA nt ct ec cp t pts X ∧ Fr mb W W' := by
  have key : ∃ W', (Instr.mapUpdate 165 (.map (some mb)) (seenKey i (strOfNums (bitN n S))) (.slice (some ⟨g, o, none⟩) (n + 1) c)).run Try.prog W = .ok () W' ∧ SeenX W' mb n pts t X ∧ Fr mb W W' := by
    obtain ⟨es, clock, hb, hes⟩ := h.seen
    obtain ⟨l, hl⟩ := seen_at (S := S) hn hP.2.1
    rcases seen_law.find W hl es.toList (fun e he => (hes e he).1.key hn) with ⟨h1, _⟩ | ⟨j, e0', h1, h2, h3⟩
    · obtain ⟨k1, k2, k3⟩ := keep_map hb (es.push ⟨seenKey i (strOfNums (bitN n S)), .slice (some ⟨g, o, none⟩) (n + 1) c, clock⟩) (clock + 1)
      refine ⟨_, ?_, ⟨_, _, k3, fun x hx => ?_⟩, k1, k2⟩
      · simp [Instr.mapUpdate, run_underlying Try.underlying165, MapKept.run_getObj_map hb, seen_law.check W false hl, h1, MapKept.run_setObj_map _ hb, Result.andThen, setBlock]
      · simp only [Array.toList_push, List.mem_append, List.mem_singleton] at hx
        rcases hx with hx | rfl
        · exact ⟨(hes x hx).1.keep k1, (hes x hx).2⟩
        · exact ⟨⟨i, T, S, hP, hS, rfl, _, c, rfl, hA.keep k1⟩, fun g' o' m' c' hv => by injection hv with hv; injection hv with hv; injection hv with hv; subst hv; exact hg⟩
    · have hj : es[j]? = some e0' := by simpa using h2
      obtain ⟨k1, k2, k3⟩ := keep_map hb (es.modify j fun e => { e with key := seenKey i (strOfNums (bitN n S)), val := .slice (some ⟨g, o, none⟩) (n + 1) c }) clock
      refine ⟨_, ?_, ⟨_, _, k3, fun x hx => ?_⟩, k1, k2⟩
      · simp [Instr.mapUpdate, run_underlying Try.underlying165, MapKept.run_getObj_map hb, seen_law.check W false hl, h1, hj, h3, seen_law.stays W hl, MapKept.run_setObj_map _ hb, Result.andThen, setBlock]
      · rcases MapFrom.mem_modify hx with hx | ⟨e', _, rfl⟩
        · exact ⟨(hes x hx).1.keep k1, (hes x hx).2⟩
        · exact ⟨⟨i, T, S, hP, hS, rfl, _, c, rfl, hA.keep k1⟩, fun g' o' m' c' hv => by injection hv with hv; injection hv with hv; injection hv with hv; subst hv; exact hg⟩
  obtain ⟨W', h1, h2, h3⟩ := key
  refine ⟨W', h1, ⟨h3.blk h.b h.ne, h2, h.kp.trans h3.1, own_only h.oe h3.2 fun e => ?_, Nat.le_trans h.ge h3.2.size, h.lo, fun x hx => Nat.lt_of_lt_of_le (h.hi x hx) h3.2.size, h.lp, h.lm, h.ne, h.le, h.l0⟩, h3⟩
  -- the ends do not lie in the map's block
  obtain ⟨es, clock, hb, _⟩ := h.seen
  rcases h.oe.2 with ⟨hv, _⟩ | ⟨q, cap, cur, hv, hq, hh, r⟩
  · rw [hv] at e; simp [Value.ownBlock] at e
  · rw [hv] at e
    have : q = mb := by simpa [Value.ownBlock] using e
    subst this
    rw [hb] at hh; cases hh
end
end Go.Proofs.Ytjnjbcigbnjmkaa
