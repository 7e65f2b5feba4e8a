/- What the walker has seen: the map from places of nodes and places to places. -/
import Derived.Test.YtilhicefhhgecaaGreatDoorTnm
import Derived.DeepKeys4
import Derived.WideKeyMaps
import Derived.MapKept
import Derived.MapFrom
import Derived.ChangeMaps4
namespace Pv
open Go Go.RowKit
mutual
/-- A tree is told by its nodes. -/
theorem flat_one1 : ∀ (T T' : Tr) (d d' : Nat) (r r' : List Rx), T.Ok d → T'.Ok d' → T.flat ++ r = T'.flat ++ r' → T = T' ∧ r = r'
  | .mk x ks, .mk x' ks', d, d', r, r', h, h', e => by
    simp only [Tr.flat, List.cons_append, List.cons.injEq] at e
    obtain ⟨rfl, e⟩ := e
    have hl := h.len; have hl' := h'.len
    obtain ⟨e1, e2⟩ := flats_one1 ks ks' (d - 1) (d' - 1) r r' (by omega) (fun k hk => h.kid hk) (fun k hk => h'.kid hk) e
    exact ⟨by rw [e1], e2⟩
theorem flats_one1 : ∀ (ks ks' : List Tr) (d d' : Nat) (r r' : List Rx), ks.length = ks'.length → (∀ k, k ∈ ks → k.Ok d) → (∀ k, k ∈ ks' → k.Ok d') → flats ks ++ r = flats ks' ++ r' → ks = ks' ∧ r = r'
  | [], [], _, _, r, r', _, _, _, e => ⟨rfl, by simpa [flats] using e⟩
  | k :: ks, k' :: ks', d, d', r, r', hl, h, h', e => by
    simp only [flats, List.append_assoc] at e
    obtain ⟨e1, e2⟩ := flat_one1 k k' d d' _ _ (h k (by simp)) (h' k' (by simp)) e
    obtain ⟨e3, e4⟩ := flats_one1 ks ks' d d' r r' (by simpa using hl) (fun j hj => h j (by simp [hj])) (fun j hj => h' j (by simp [hj])) e2
    exact ⟨by rw [e1, e3], e4⟩
  | [], _ :: _, _, _, _, _, hl, _, _, _ => by simp at hl
  | _ :: _, [], _, _, _, _, hl, _, _, _ => by simp at hl
end
end Pv
namespace Go.Proofs.YtilhicefhhgecaaGreatDoor
open Go.RowKit Go.ChangeMaps Pv

theorem laidOut1 : laidOutB Tryz.prog = true := by kernel_rfl
theorem seen_law : WideMaps.KeyLaw Tryz.prog 219 := deep_law_laid laidOut1 (m := 3) (by omega) (of_decide_eq_true (by kernel_rfl)) (by kernel_rfl) (by kernel_rfl)
/-- A key. -/
def seenKey (i : Nat) (s : ByteArray) : Value := .agg #[.int .i64 i, .string s]
theorem c1 : Tryz.prog.cellsOf 3 = 1 := by kernel_rfl
theorem c2 : Tryz.prog.cellsOf 9 = 1 := by kernel_rfl
theorem c3 : Tryz.prog.cellsOf 219 = 2 := by kernel_rfl
theorem kt : Tryz.prog.keyType 219 = true := by kernel_rfl
theorem depth : ∃ d, Tryz.prog.types.size + 1 = d + 2 := ⟨Tryz.prog.types.size - 1, by have : 1 ≤ Tryz.prog.types.size := of_decide_eq_true (by kernel_rfl); omega⟩
theorem seen_key (i : Nat) (s : ByteArray) (hi : i ≤ 1000) (hs : s.size ≤ maxLen) : ∃ l, keyOf Tryz.prog 219 (seenKey i s) = some l := by
  obtain ⟨d, hd⟩ := depth
  have hw : (Lit.int .i64 (i : Int)).wf = true := by simp [Lit.wf, IntKind.min, IntKind.max, IntKind.signed, IntKind.bits]; omega
  unfold keyOf seenKey
  rw [Tryz.underlying219]
  simp only [kt, Value.formed, Tryz.underlying219, c3, hd]
  have h1 : Tryz.prog.keyLits (d + 2) 219 [.int .i64 i, .string s] = some [.int .i64 i, .string s.data.toList] := by
    simp [Program.keyLits, Tryz.underlying219, Tryz.underlying3, Tryz.underlying9, c1, c2, c3, hw, hs]
  rw [if_pos (by simp), show (Value.agg #[.int .i64 i, .string s]).cells.toList = [.int .i64 i, .string s] from rfl, h1]
  exact ⟨_, rfl⟩

/-- The tree at a place. -/
def PlaceAt (t : List Rx) (i : Nat) (T : Tr) : Prop := T.Ok 16 ∧ i ≤ 64 ∧ ∃ r, t.drop i = T.flat ++ r
theorem PlaceAt.one {t : List Rx} {i : Nat} {T T' : Tr} (h : PlaceAt t i T) (h' : PlaceAt t i T') : T = T' := by
  obtain ⟨h1, _, r, h2⟩ := h
  obtain ⟨h3, _, r', h4⟩ := h'
  exact (flat_one1 T T' 16 16 r r' h1 h3 (h2.symm.trans h4)).1
/-- What one entry tells. -/
def SeenE (W : World) (n : Nat) (pts : List Int) (t : List Rx) (e : MapEntry) : Prop :=
  ∃ (i : Nat) (T : Tr) (S : Nat → Prop), PlaceAt t i T ∧ (∀ a, S a → a ≤ n) ∧ e.key = seenKey i (strOfNums (bitN n S)) ∧ ∃ A c, e.val = .slice A (n + 1) c ∧ At W A RB (lst n (im (spT pts T) S))
theorem SeenE.keep {W W' : World} {n : Nat} {pts : List Int} {t : List Rx} {e : MapEntry} (h : SeenE W n pts t e) (k : Keep W W') : SeenE W' n pts t e := by
  obtain ⟨i, T, S, h1, h2, h3, A, c, h4, h5⟩ := h
  exact ⟨i, T, S, h1, h2, h3, A, c, h4, h5.keep k⟩
theorem SeenE.key {W : World} {n : Nat} {pts : List Int} {t : List Rx} {e : MapEntry} (h : SeenE W n pts t e) (hn : n ≤ 1000) : ∃ l, keyOf Tryz.prog 219 e.key = some l := by
  obtain ⟨i, T, S, h1, h2, h3, _⟩ := h
  rw [h3]
  exact seen_key i _ (by have := h1.2.1; omega) (by rw [strOfNums_size, bitN_len]; simp only [maxLen]; omega)
theorem seen_at {n i : Nat} {S : Nat → Prop} (hn : n ≤ 1000) (hi : i ≤ 64) : ∃ l, keyOf Tryz.prog 219 (seenKey i (strOfNums (bitN n S))) = some l :=
  seen_key i _ (by omega) (by rw [strOfNums_size, bitN_len]; simp only [maxLen]; omega)
theorem SeenE.val {W : World} {n i : Nat} {pts : List Int} {t : List Rx} {T : Tr} {S : Nat → Prop} {e : MapEntry} (h : SeenE W n pts t e) (hP : PlaceAt t i T) (hS : ∀ a, S a → a ≤ n) (hk : e.key = seenKey i (strOfNums (bitN n S))) : ∃ A c, e.val = .slice A (n + 1) c ∧ At W A RB (lst n (im (spT pts T) S)) := by
  obtain ⟨i', T', S', h1, h2, h3, A, c, h4, h5⟩ := h
  rw [h3] at hk
  have e1 : #[Value.int .i64 (i' : Int), .string (strOfNums (bitN n S'))] = #[Value.int .i64 (i : Int), .string (strOfNums (bitN n S))] := by
    unfold seenKey at hk
    injection hk
  simp only [Array.mk.injEq, List.cons.injEq, Value.int.injEq, Value.string.injEq, true_and, and_true] at e1
  obtain ⟨e2, e3⟩ := e1
  have e4 : i' = i := by omega
  subst e4
  obtain rfl := h1.one hP
  have e5 := bits_inj e3
  have e6 : S' = S := by
    funext a
    apply propext
    by_cases ha : a ≤ n
    · exact lst_eq e5 ha
    · exact ⟨fun h => absurd (h2 a h) ha, fun h => absurd (hS a h) ha⟩
  subst e6
  exact ⟨A, c, h4, h5⟩
theorem zero_bools (w : World) : (zeroValue 24).run Tryz.prog w = .ok (.slice none 0 0) w := by kernel_rfl

theorem keep_map {W : World} {mb : Nat} {es : Array MapEntry} {clock : Nat} (hb : W.heap[mb]? = some (.map es clock)) (es' : Array MapEntry) (clock' : Nat) :
    Keep W (setBlock W mb (.map es' clock')) ∧ Only mb W (setBlock W mb (.map es' clock')) ∧ (setBlock W mb (.map es' clock')).heap[mb]? = some (.map es' clock') := by
  have hlt := obj_lt hb
  have hne : ∀ k, k ≠ mb → (setBlock W mb (.map es' clock')).heap[k]? = W.heap[k]? := fun k hk => by
    show (W.heap.setIfInBounds mb _)[k]? = _
    rw [Array.getElem?_setIfInBounds, if_neg (fun e => hk e.symm)]
  have hself : (setBlock W mb (.map es' clock')).heap[mb]? = some (.map es' clock') := by
    show (W.heap.setIfInBounds mb _)[mb]? = _
    rw [Array.getElem?_setIfInBounds, if_pos rfl, if_pos hlt]
  refine ⟨⟨by show W.heap.size ≤ (W.heap.setIfInBounds mb _).size; simp, fun b o hbl => ?_⟩, ⟨rfl, rfl, rfl, by show W.heap.size ≤ (W.heap.setIfInBounds mb _).size; simp, fun k _ hk => hne k hk⟩, hself⟩
  by_cases e : b = mb
  · subst e
    simp [World.cell?, hself, hb]
  · exact World.cell?_of_block (a := ⟨b, o, none⟩) (hne b e)

end Go.Proofs.YtilhicefhhgecaaGreatDoor

namespace Go.Proofs.YtilhicefhhgecaaGreatDoor
open Go.RowKit Go.ChangeMaps Pv

/-- The map of what was seen, its lists in none of some blocks. -/
def SeenX (W : World) (mb n : Nat) (pts : List Int) (t : List Rx) (X : Nat → Prop) : Prop :=
  ∃ es clock, W.heap[mb]? = some (.map es clock) ∧ ∀ e, e ∈ es.toList → SeenE W n pts t e ∧ ∀ g o m c, e.val = .slice (some ⟨g, o, none⟩) m c → ¬ X g
/-- The walker under way. -/
structure WkE (w0 W : World) (e0 e1 pm mb n : Nat) (tA EA pA : Option Addr) (nt ct ec cp : Nat) (t : List Rx) (pts : List Int) (X : Nat → Prop) : Prop where
  b : Blk W pm TWk #[.slice tA nt ct, .slice EA nt ec, .slice pA n cp, .map (some mb)]
  seen : SeenX W mb n pts t X
  kp : Keep w0 W
  oe : W.ownsRow e0 TI 1 (.slice EA nt ec) nt ((endsL t).map (Value.int .i64))
  ge : e1 ≤ W.heap.size
  lo : ∀ b, X b → e1 ≤ b
  hi : ∀ b, X b → b < W.heap.size
  lp : pm < e1
  lm : mb < e1
  ne : pm ≠ mb
  le : ∀ g, (Value.slice EA nt ec).ownBlock = some g → g < e1
  l0 : w0.heap.size ≤ e1
/-- What a call may do: the map turns, memory comes. -/
def Fr (mb : Nat) (W W' : World) : Prop := Keep W W' ∧ Only mb W W'
theorem Only.trans {b : Nat} {w w' w'' : World} (h : Only b w w') (k : Only b w' w'') : Only b w w'' :=
  ⟨k.os.trans h.os, k.tape.trans h.tape, k.output.trans h.output, Nat.le_trans h.size k.size, fun x hx hb => (k.block x (Nat.lt_of_lt_of_le hx h.size) hb).trans (h.block x hx hb)⟩
theorem Fr.trans {mb : Nat} {w w' w'' : World} (h : Fr mb w w') (k : Fr mb w' w'') : Fr mb w w'' := ⟨h.1.trans k.1, Only.trans h.2 k.2⟩
theorem Fr.of {mb : Nat} {w w' : World} (h : Below w.heap.size w w') : Fr mb w w' := ⟨Keep.of h, h.os, h.tape, h.output, h.size, fun k hk _ => h.block k hk⟩
theorem Fr.blk {mb g : Nat} {w w' : World} {t : TypeId} {cs : Array Value} (h : Fr mb w w') (hb : Blk w g t cs) (hne : g ≠ mb) : Blk w' g t cs := Only.blk h.2 hb hne
theorem Fr.below {mb B : Nat} {w w' : World} (h : Fr mb w w') (hB : B ≤ mb) (hs : B ≤ w.heap.size) : Below B w w' := Only.below h.2 hB hs
theorem BRow.fr {mb b n : Nat} {w w' : World} {t : TypeId} {S : Nat → Prop} (h : BRow w t b n S) (f : Fr mb w w') (hne : b ≠ mb) : BRow w' t b n S := h.of (f.2.block b h.lt hne)
section
variable {w0 W W' : World} {e0 e1 pm mb n : Nat} {tA EA pA : Option Addr} {nt ct ec cp : Nat} {t : List Rx} {pts : List Int} {X X' : Nat → Prop}
theorem SeenX.next (h : SeenX W mb n pts t X) (hb : Below W.heap.size W W') : SeenX W' mb n pts t X := by
  obtain ⟨es, clock, h1, h2⟩ := h
  exact ⟨es, clock, (hb.block mb (obj_lt h1)).trans h1, fun e he => ⟨(h2 e he).1.keep (Keep.of hb), (h2 e he).2⟩⟩
theorem SeenX.weak (h : SeenX W mb n pts t X) (hx : ∀ b, X' b → X b) : SeenX W mb n pts t X' := by
  obtain ⟨es, clock, h1, h2⟩ := h
  exact ⟨es, clock, h1, fun e he => ⟨(h2 e he).1, fun g o m c hv hX => (h2 e he).2 g o m c hv (hx g hX)⟩⟩
/-- A write into a block that no list of the map lies in. -/
theorem SeenX.write {b : Nat} (h : SeenX W mb n pts t X) (o : Only b W W') (hX : X b) (hne : b ≠ mb) : SeenX W' mb n pts t X := by
  obtain ⟨es, clock, h1, h2⟩ := h
  refine ⟨es, clock, (o.block mb (obj_lt h1) (fun e => hne e.symm)).trans h1, fun e he => ⟨?_, (h2 e he).2⟩⟩
  obtain ⟨i, T, S, k1, k2, k3, A, c, k4, k5⟩ := (h2 e he).1
  refine ⟨i, T, S, k1, k2, k3, A, c, k4, k5.1, fun hp => ?_⟩
  obtain ⟨g, off, eA, hg, hc⟩ := k5.2 hp
  have hgb : g ≠ b := fun e2 => (h2 e he).2 g off _ c (by rw [k4, eA]) (e2 ▸ hX)
  refine ⟨g, off, eA, Nat.lt_of_lt_of_le hg o.size, fun j x hx => ?_⟩
  obtain ⟨u, hu, hR⟩ := hc j x hx
  exact ⟨u, (World.cell?_of_block (a := ⟨g, off + j, none⟩) (o.block g hg hgb)).trans hu, hR⟩
/-- A new block joins those that may be written to. -/
theorem SeenX.more {b : Nat} (h : SeenX W mb n pts t X) (hb : W.heap.size ≤ b) : SeenX W mb n pts t (fun x => X x ∨ x = b) := by
  obtain ⟨es, clock, h1, h2⟩ := h
  refine ⟨es, clock, h1, fun e he => ⟨(h2 e he).1, fun g o m c hv hX => ?_⟩⟩
  rcases hX with hX | rfl
  · exact (h2 e he).2 g o m c hv hX
  · obtain ⟨i, T, S, _, _, _, A, c', k4, k5⟩ := (h2 e he).1
    obtain ⟨g', off, eA, hg, _⟩ := k5.2 (by rw [lst_len]; omega)
    rw [k4, eA] at hv
    injection hv with hv
    injection hv with hv
    injection hv with hv
    omega
theorem WkE.next (h : WkE w0 W e0 e1 pm mb n tA EA pA nt ct ec cp t pts X) (hb : Below W.heap.size W W') : WkE w0 W' e0 e1 pm mb n tA EA pA nt ct ec cp t pts X :=
  ⟨h.b.below hb h.b.lt, h.seen.next hb, h.kp.trans (Keep.of hb), ownsRow_below h.oe hb, Nat.le_trans h.ge hb.size, h.lo, fun b hX => Nat.lt_of_lt_of_le (h.hi b hX) hb.size, h.lp, h.lm, h.ne, h.le, h.l0⟩
theorem WkE.weak (h : WkE w0 W e0 e1 pm mb n tA EA pA nt ct ec cp t pts X) (hx : ∀ b, X' b → X b) : WkE w0 W e0 e1 pm mb n tA EA pA nt ct ec cp t pts X' :=
  ⟨h.b, h.seen.weak hx, h.kp, h.oe, h.ge, fun b hb => h.lo b (hx b hb), fun b hb => h.hi b (hx b hb), h.lp, h.lm, h.ne, h.le, h.l0⟩
theorem WkE.more {b : Nat} (h : WkE w0 W e0 e1 pm mb n tA EA pA nt ct ec cp t pts X) (hb : W.heap.size ≤ b) (hn : Below W.heap.size W W') (hb2 : b < W'.heap.size) : WkE w0 W' e0 e1 pm mb n tA EA pA nt ct ec cp t pts (fun x => X x ∨ x = b) := by
  have h2 := h.next hn
  exact ⟨h2.b, (h.seen.more hb).next hn, h2.kp, h2.oe, h2.ge, fun x hx => by rcases hx with hx | rfl; exact h.lo x hx; exact Nat.le_trans h.ge hb, fun x hx => by rcases hx with hx | rfl; exact h2.hi x hx; exact hb2, h.lp, h.lm, h.ne, h.le, h.l0⟩
theorem own_only {b0 b m : Nat} {v : Value} {us : List Value} (h : W.ownsRow b0 TI 1 v m us) (o : Only b W W') (hne : v.ownBlock ≠ some b) : W'.ownsRow b0 TI 1 v m us := by
  refine ⟨h.1, ?_⟩
  rcases h.2 with h2 | ⟨g, cap, cur, hv, hg, hh, r⟩
  · exact .inl h2
  · have hb : Blk W g TI cur := hh
    exact .inr ⟨g, cap, cur, hv, hg, (o.block g hb.lt (fun e => hne (by rw [hv, e]; rfl))).trans hh, r⟩
theorem WkE.write {b : Nat} (h : WkE w0 W e0 e1 pm mb n tA EA pA nt ct ec cp t pts X) (o : Only b W W') (hX : X b) : WkE w0 W' e0 e1 pm mb n tA EA pA nt ct ec cp t pts X := by
  have hb := h.lo b hX
  have hlp := h.lp; have hlm := h.lm; have hl0 := h.l0
  refine ⟨o.blk h.b (by omega), h.seen.write o hX (by omega), h.kp.trans' o.size fun x off hx => World.cell?_of_block (a := ⟨x, off, none⟩) (o.block x (by have := h.ge; omega) (by omega)), own_only h.oe o fun e => ?_, Nat.le_trans h.ge o.size, h.lo, fun x hx => Nat.lt_of_lt_of_le (h.hi x hx) o.size, h.lp, h.lm, h.ne, h.le, h.l0⟩
  have := h.le b e; omega
theorem WkE.cells (h : WkE w0 W e0 e1 pm mb n tA EA pA nt ct ec cp t pts X) : pm < W.heap.size ∧ W.cell? ⟨pm, 0, none⟩ = some (.slice tA nt ct) ∧ W.cell? ⟨pm, 1, none⟩ = some (.slice EA nt ec) ∧ W.cell? ⟨pm, 2, none⟩ = some (.slice pA n cp) ∧ W.cell? ⟨pm, 3, none⟩ = some (.map (some mb)) := ⟨h.b.lt, h.b.cell 0, h.b.cell 1, h.b.cell 2, h.b.cell 3⟩
/-- One more was seen. -/
theorem WkE.update {i : Nat} {T : Tr} {S : Nat → Prop} {g o c : Nat} (h : WkE w0 W e0 e1 pm mb n tA EA pA nt ct ec cp t pts X) (hn : n ≤ 1000) (hP : PlaceAt t i T) (hS : ∀ a, S a → a ≤ n) (hA : At W (some ⟨g, o, none⟩) RB (lst n (im (spT pts T) S))) (hg : ¬ X g) :
    ∃ W', (Instr.mapUpdate 213 (.map (some mb)) (seenKey i (strOfNums (bitN n S))) (.slice (some ⟨g, o, none⟩) (n + 1) c)).run Tryz.prog W = .ok () W' ∧ WkE w0 W' e0 e1 pm mb n tA EA pA nt ct ec cp t pts X ∧ Fr mb W W' := by
  have key : ∃ W', (Instr.mapUpdate 213 (.map (some mb)) (seenKey i (strOfNums (bitN n S))) (.slice (some ⟨g, o, none⟩) (n + 1) c)).run Tryz.prog W = .ok () W' ∧ SeenX W' mb n pts t X ∧ Fr mb W W' := by
    obtain ⟨es, clock, hb, hes⟩ := h.seen
    obtain ⟨l, hl⟩ := seen_at (S := S) hn hP.2.1
    rcases seen_law.find W hl es.toList (fun e he => (hes e he).1.key hn) with ⟨h1, _⟩ | ⟨j, e0', h1, h2, h3⟩
    · obtain ⟨k1, k2, k3⟩ := keep_map hb (es.push ⟨seenKey i (strOfNums (bitN n S)), .slice (some ⟨g, o, none⟩) (n + 1) c, clock⟩) (clock + 1)
      refine ⟨_, ?_, ⟨_, _, k3, fun x hx => ?_⟩, k1, k2⟩
      · simp [Instr.mapUpdate, run_underlying Tryz.underlying213, MapKept.run_getObj_map hb, seen_law.check W false hl, h1, MapKept.run_setObj_map _ hb, Result.andThen, setBlock]
      · simp only [Array.toList_push, List.mem_append, List.mem_singleton] at hx
        rcases hx with hx | rfl
        · exact ⟨(hes x hx).1.keep k1, (hes x hx).2⟩
        · exact ⟨⟨i, T, S, hP, hS, rfl, _, c, rfl, hA.keep k1⟩, fun g' o' m' c' hv => by injection hv with hv; injection hv with hv; injection hv with hv; subst hv; exact hg⟩
    · have hj : es[j]? = some e0' := by simpa using h2
      obtain ⟨k1, k2, k3⟩ := keep_map hb (es.modify j fun e => { e with key := seenKey i (strOfNums (bitN n S)), val := .slice (some ⟨g, o, none⟩) (n + 1) c }) clock
      refine ⟨_, ?_, ⟨_, _, k3, fun x hx => ?_⟩, k1, k2⟩
      · simp [Instr.mapUpdate, run_underlying Tryz.underlying213, MapKept.run_getObj_map hb, seen_law.check W false hl, h1, hj, h3, seen_law.stays W hl, MapKept.run_setObj_map _ hb, Result.andThen, setBlock]
      · rcases MapFrom.mem_modify hx with hx | ⟨e', _, rfl⟩
        · exact ⟨(hes x hx).1.keep k1, (hes x hx).2⟩
        · exact ⟨⟨i, T, S, hP, hS, rfl, _, c, rfl, hA.keep k1⟩, fun g' o' m' c' hv => by injection hv with hv; injection hv with hv; injection hv with hv; subst hv; exact hg⟩
  obtain ⟨W', h1, h2, h3⟩ := key
  refine ⟨W', h1, ⟨h3.blk h.b h.ne, h2, h.kp.trans h3.1, own_only h.oe h3.2 fun e => ?_, Nat.le_trans h.ge h3.2.size, h.lo, fun x hx => Nat.lt_of_lt_of_le (h.hi x hx) h3.2.size, h.lp, h.lm, h.ne, h.le, h.l0⟩, h3⟩
  -- the ends do not lie in the map's block
  obtain ⟨es, clock, hb, _⟩ := h.seen
  rcases h.oe.2 with ⟨hv, _⟩ | ⟨q, cap, cur, hv, hq, hh, r⟩
  · rw [hv] at e; simp [Value.ownBlock] at e
  · rw [hv] at e
    have : q = mb := by simpa [Value.ownBlock] using e
    subst this
    rw [hb] at hh; cases hh
end
end Go.Proofs.YtilhicefhhgecaaGreatDoor

namespace Go.Proofs.YtilhicefhhgecaaGreatDoor
open Go.RowKit Go.ChangeMaps Pv

theorem At.only {α : Type} {W W' : World} {b g o : Nat} {R : Value → α → Prop} {xs : List α} (h : At W (some ⟨g, o, none⟩) R xs) (k : Only b W W') (hne : g ≠ b) : At W' (some ⟨g, o, none⟩) R xs := by
  refine ⟨h.1, fun hp => ?_⟩
  obtain ⟨g', o', e, hg, hc⟩ := h.2 hp
  injection e with e; injection e with e1 e2
  subst e1; subst e2
  exact ⟨g, o, rfl, Nat.lt_of_lt_of_le hg k.size, fun i x hx => by
    obtain ⟨u, hu, hR⟩ := hc i x hx
    exact ⟨u, (World.cell?_of_block (a := ⟨g, o + i, none⟩) (k.block g hg hne)).trans hu, hR⟩⟩
theorem Fr.write {mb b : Nat} {W w1 w2 : World} (h : Fr mb W w1) (o : Only b w1 w2) (hb : W.heap.size ≤ b) : Fr mb W w2 :=
  ⟨h.1.trans' o.size fun x off hx => World.cell?_of_block (a := ⟨x, off, none⟩) (o.block x (Nat.lt_of_lt_of_le hx h.2.size) (by omega)),
   o.os.trans h.2.os, o.tape.trans h.2.tape, o.output.trans h.2.output, Nat.le_trans h.2.size o.size, fun k hk hne => (o.block k (Nat.lt_of_lt_of_le hk h.2.size) (by omega)).trans (h.2.block k hk hne)⟩
theorem At.lt {W : World} {g o n : Nat} {S : Nat → Prop} (h : At W (some ⟨g, o, none⟩) RB (lst n S)) : g < W.heap.size := by
  obtain ⟨g', o', e, hg, _⟩ := h.2 (by rw [lst_len]; omega)
  injection e with e; injection e with e1 _
  omega
/-- What comes of going through a tree. -/
def ThrP (w0 W : World) (e0 e1 pm mb n : Nat) (tA EA pA : Option Addr) (nt ct ec cp : Nat) (t : List Rx) (pts : List Int) (X : Nat → Prop) (S : Nat → Prop) (e : Ending) (w' : World) : Prop :=
  ∃ g o c, e = .returned (.slice (some ⟨g, o, none⟩) (n + 1) c) ∧ At w' (some ⟨g, o, none⟩) RB (lst n S) ∧ ¬ X g ∧ WkE w0 w' e0 e1 pm mb n tA EA pA nt ct ec cp t pts X ∧ Fr mb W w'
def ThrC (w0 : World) (e0 e1 pm mb n : Nat) (tA EA pA : Option Addr) (nt ct ec cp : Nat) (t : List Rx) (pts : List Int) (T : Tr) (i : Nat) : Prop :=
  ∀ (W : World) (g o fc : Nat) (S X : Nat → Prop), WkE w0 W e0 e1 pm mb n tA EA pA nt ct ec cp t pts X → (∀ a, S a → a ≤ n) → At W (some ⟨g, o, none⟩) RB (lst n S) → ¬ X g →
    Calls Tryz.prog 102 #[.pointer (some ⟨pm, 0, none⟩), .int .i64 i, .slice (some ⟨g, o, none⟩) (n + 1) fc] W (ThrP w0 W e0 e1 pm mb n tA EA pA nt ct ec cp t pts X (im (spT pts T) S))

set_option maxHeartbeats 1000000 in
set_option maxRecDepth 100000 in
theorem thr_empty (w0 : World) (e0 e1 pm mb n : Nat) (tA EA pA : Option Addr) (nt ct ec cp : Nat) (t : List Rx) (pts : List Int) (i : Nat) (l : List Rng) (many least most : Int) (ks : List Tr)
    (ht : AtRx w0 tA t) (HT : Hid (t.length = nt)) (HX : Hid (t[i]? = some ⟨0, l, many, least, most⟩)) : ThrC w0 e0 e1 pm mb n tA EA pA nt ct ec cp t pts (.mk ⟨0, l, many, least, most⟩ ks) i := by
  intro W g o fc S X hE hS hA hX
  have hin : i < nt := by have := lt_of_get HX.out; rwa [HT.out] at this
  obtain ⟨b, off, kd, B, cs, m, l', many', least', most', rfl, H5, hset, HM, hmc, hkd, hma, hle, hmo, HX'⟩ := ht.g5 HT hin
  obtain ⟨rfl, rfl, rfl, rfl, rfl⟩ := Rx.mk.inj (Option.some.inj (HX'.out.symm.trans HX.out))
  obtain ⟨y0, y1, y2, y3, y4, y5⟩ := H5.next hE.kp
  obtain ⟨hpm, m0, m1, m2, m3⟩ := hE.cells
  have hW : Below W.heap.size W (W.alloc (.cells #[.int .u8 0, .slice B m cs, .int .i64 many', .int .i64 least', .int .i64 most'] 52)) := (Below.refl _ _).alloc (Nat.le_refl _) _
  have FIN := Lib.hid (show ThrP w0 W e0 e1 pm mb n (some ⟨b, off, none⟩) EA pA nt ct ec cp t pts X (im (spT pts (.mk ⟨0, l', many', least', most'⟩ ks)) S) (.returned (.slice (some ⟨g, o, none⟩) (n + 1) fc)) (W.alloc (.cells #[.int .u8 0, .slice B m cs, .int .i64 many', .int .i64 least', .int .i64 most'] 52)) from ⟨g, o, fc, rfl, by
    rw [lst_ext (S' := S) (fun a ha => by
      constructor
      · rintro ⟨c, h1, h2⟩; rw [spT, if_pos rfl] at h2; subst h2; exact h1
      · intro h; exact ⟨a, h, by rw [spT, if_pos rfl]⟩)]
    exact hA.keep (Keep.of hW), hX, hE.next hW, Fr.of hW⟩)
  clear hE hA H5 ht hset HX' hW
  go_enter Tryz.func102, Tryz.ntmps102
  go_wp2
  go_ret
  exact FIN.out

set_option maxHeartbeats 1000000 in
set_option maxRecDepth 100000 in
theorem thr_set (w0 : World) (e0 e1 pm mb n : Nat) (tA EA pA : Option Addr) (nt ct ec cp : Nat) (t : List Rx) (pts : List Int) (i : Nat) (l : List Rng) (many least most : Int) (ks : List Tr) (hn : n ≤ 1000)
    (ht : AtRx w0 tA t) (hp : At w0 pA RI pts) (HP : Hid (pts.length = n)) (HT : Hid (t.length = nt)) (HX : Hid (t[i]? = some ⟨1, l, many, least, most⟩)) : ThrC w0 e0 e1 pm mb n tA EA pA nt ct ec cp t pts (.mk ⟨1, l, many, least, most⟩ ks) i := by
  intro W g o fc S X hE hS hA hX
  have hin : i < nt := by have := lt_of_get HX.out; rwa [HT.out] at this
  obtain ⟨b, off, kd, B, cs, m, l', many', least', most', rfl, H5, hset, HM, hmc, hkd, hma, hle, hmo, HX'⟩ := ht.g5 HT hin
  obtain ⟨rfl, rfl, rfl, rfl, rfl⟩ := Rx.mk.inj (Option.some.inj (HX'.out.symm.trans HX.out))
  obtain ⟨y0, y1, y2, y3, y4, y5⟩ := H5.next hE.kp
  obtain ⟨hpm, m0, m1, m2, m3⟩ := hE.cells
  have hW : Below W.heap.size W (W.alloc (.cells #[.int .u8 1, .slice B m cs, .int .i64 many', .int .i64 least', .int .i64 most'] 52)) := (Below.refl _ _).alloc (Nat.le_refl _) _
  have E1 := Lib.hid (hE.next hW)
  have HS := Lib.hid (tongue_step pm pA n cp pts B m cs l' (some ⟨g, o, none⟩) fc S _ hn E1.out.cells.1 E1.out.cells.2.2.2.1 (hp.keep E1.out.kp) HP (AtK.keep hset E1.out.kp) HM (hA.keep (Keep.of hW)))
  have HW := Lib.hid hW
  have HI := Lib.hid (show ∀ a, a ≤ n → ((∃ i p, S i ∧ pts[i]? = some p ∧ InSet l' p ∧ a = i + 1) ↔ im (spT pts (.mk ⟨1, l', many', least', most'⟩ ks)) S a) from fun a _ => by
    constructor
    · rintro ⟨c, p, h1, h2⟩; exact ⟨c, h1, by rw [spT, if_neg (by simp), if_pos rfl]; exact ⟨p, h2⟩⟩
    · rintro ⟨c, h1, h2⟩
      rw [spT, if_neg (by simp), if_pos rfl] at h2
      obtain ⟨p, h2⟩ := h2
      exact ⟨c, p, h1, h2⟩)
  clear hE hA H5 ht hset HX' hW hp
  go_enter Tryz.func102, Tryz.ntmps102
  go_wp2_with fail
  refine HS.out.mono ?_
  rintro e w1 ⟨b1, rfl, hb1, hrow, hb⟩
  have FIN := Lib.hid (show ThrP w0 W e0 e1 pm mb n (some ⟨b, off, none⟩) EA pA nt ct ec cp t pts X (im (spT pts (.mk ⟨1, l', many', least', most'⟩ ks)) S) (.returned (.slice (some ⟨b1, 0, none⟩) (n + 1) (n + 1))) w1 from
    ⟨b1, 0, n + 1, rfl, (hrow.congr HI.out).reads hn, fun h => by have := E1.out.hi b1 h; omega, E1.out.next hb, (Fr.of HW.out).trans (Fr.of hb)⟩)
  clear hrow hb
  go_wp2
  go_ret
  exact FIN.out

set_option maxHeartbeats 2000000 in
set_option maxRecDepth 100000 in
theorem thr_cat (w0 : World) (e0 e1 pm mb n : Nat) (tA EA pA : Option Addr) (nt ct ec cp : Nat) (t : List Rx) (pts : List Int) (i : Nat) (l : List Rng) (many least most : Int) (ks : List Tr) (_hn : n ≤ 1000)
    (ht : AtRx w0 tA t) (HP : Hid (pts.length = n)) (HT : Hid (t.length = nt)) (hnt : nt ≤ 64) (HX : Hid (t[i]? = some ⟨2, l, many, least, most⟩))
    (HZ : Hid ((endsL t)[i]? = some ((i + 1 + sizes ks : Nat) : Int)))
    (HEND : Hid (∀ (j : Nat) (k : Tr), ks[j]? = some k → (endsL t)[i + 1 + sizes (ks.take j)]? = some ((i + 1 + sizes (ks.take (j + 1)) : Nat) : Int) ∧ i + 1 + sizes (ks.take j) < nt))
    (HLT : Hid (∀ j, j < ks.length → sizes (ks.take j) < sizes ks ∧ sizes (ks.take j) < sizes (ks.take (j + 1)) ∧ sizes (ks.take (j + 1)) ≤ sizes ks))
    (HIH : Hid (∀ j k, ks[j]? = some k → ThrC w0 e0 e1 pm mb n tA EA pA nt ct ec cp t pts k (i + 1 + sizes (ks.take j)))) (_hzs : i + 1 + sizes ks ≤ 64) :
    ThrC w0 e0 e1 pm mb n tA EA pA nt ct ec cp t pts (.mk ⟨2, l, many, least, most⟩ ks) i := by
  intro W g o fc S X hE hS hA hX
  have hin : i < nt := by have := lt_of_get HX.out; rwa [HT.out] at this
  obtain ⟨b, off, kd, B, cs, m, l', many', least', most', rfl, H5, hset, HM, hmc, hkd, hma, hle, hmo, HX'⟩ := ht.g5 HT hin
  obtain ⟨rfl, rfl, rfl, rfl, rfl⟩ := Rx.mk.inj (Option.some.inj (HX'.out.symm.trans HX.out))
  obtain ⟨y0, y1, y2, y3, y4, y5⟩ := H5.next hE.kp
  obtain ⟨hpm, m0, m1, m2, m3⟩ := hE.cells
  have hW : Below W.heap.size W (W.alloc (.cells #[.int .u8 2, .slice B m cs, .int .i64 many', .int .i64 least', .int .i64 most'] 52)) := (Below.refl _ _).alloc (Nat.le_refl _) _
  have E1 := Lib.hid (hE.next hW)
  have A1 := Lib.hid (hA.keep (Keep.of hW))
  have F1 := Lib.hid (Fr.of (mb := mb) hW)
  have HNX := Lib.hid hX; have HSS := Lib.hid hS
  obtain ⟨RR, hRR⟩ : ∃ RR, im (spT pts (.mk ⟨2, l', many', least', most'⟩ ks)) S = RR := ⟨_, rfl⟩
  rw [hRR]
  have HR := Lib.hid (show im (spCat pts ks) S = RR from by
    rw [← hRR]; funext a; apply propext
    constructor
    · rintro ⟨c, h1, h2⟩; exact ⟨c, h1, by rw [spT, if_neg (by simp), if_neg (by simp), if_pos rfl]; exact h2⟩
    · rintro ⟨c, h1, h2⟩; rw [spT, if_neg (by simp), if_neg (by simp), if_pos rfl] at h2; exact ⟨c, h1, h2⟩)
  clear hE hA H5 ht hset HX' hW hRR hX hS
  go_enter Tryz.func102, Tryz.ntmps102
  go_wp2
  go_loopw [2, 11] (fun fv kv wr => ∃ (j g o fc : Nat), j ≤ ks.length ∧ kv = .int .i64 ((i + 1 + sizes (ks.take j) : Nat) : Int) ∧ fv = .slice (some ⟨g, o, none⟩) (n + 1) fc ∧ At wr (some ⟨g, o, none⟩) RB (lst n (im (spCat pts (ks.take j)) S)) ∧ ¬ X g ∧ WkE w0 wr e0 e1 pm mb n (some ⟨b, off, none⟩) EA pA nt ct ec cp t pts X ∧ Fr mb W wr) (fun _ kv _ => (i + 1 + sizes ks) - (intOf kv).toNat)
  case atStart => exact ⟨0, g, o, fc, by omega, by simp [sizes, flats], rfl, by
    rw [lst_ext (S' := S) (fun a _ => by
      constructor
      · rintro ⟨c, h1, h2⟩; simp only [List.take_zero, spCat] at h2; subst h2; exact h1
      · intro h; exact ⟨a, h, by simp [spCat]⟩)]
    exact A1.out, HNX.out, E1.out, F1.out⟩
  case round =>
    clear y0 y1 y2 y3 y4 y5 m0 m1 m2 m3
    obtain ⟨j, g2, o2, fc2, hj, rfl, rfl, hat, hx2, hwe, hfr⟩ := hrel
    have AT := Lib.hid hat; have NX := Lib.hid hx2; have EE := Lib.hid hwe; have FF := Lib.hid hfr
    clear hat hx2 hwe hfr
    obtain ⟨hpm2, m0, m1, m2, m3⟩ := EE.out.cells
    obtain ⟨eg, eE, egl, egc⟩ := own_get1 (k := i) (u := .int .i64 ((i + 1 + sizes ks : Nat) : Int)) EE.out.oe (by rw [List.getElem?_map, HZ.out]; rfl)
    subst eE
    obtain ⟨ze, hze⟩ : ∃ ze, i + 1 + sizes ks = ze := ⟨_, rfl⟩
    rw [hze] at egc
    by_cases hlt : j < ks.length
    · have hkk : ks[j]? = some (ks[j]) := List.getElem?_eq_getElem hlt
      obtain ⟨hps, hst, hst2⟩ := HLT.out j hlt
      generalize ks[j] = k0 at hkk
      obtain ⟨hen1, hen2⟩ := HEND.out j k0 hkk
      have HC := Lib.hid (HIH.out j k0 hkk wr g2 o2 fc2 _ X EE.out (fun a ⟨c, h1, h2⟩ => by have := spCat_in pts (ks.take j) c a (by rw [HP.out]; exact HSS.out c h1) h2; rwa [HP.out] at this) AT.out NX.out)
      have HSN := Lib.hid (show ∀ a, a ≤ n → (im (spT pts k0) (im (spCat pts (ks.take j)) S) a ↔ im (spCat pts (ks.take (j + 1))) S a) from fun a _ => by
        rw [take_snoc hkk]
        constructor
        · rintro ⟨c, ⟨d, h1, h2⟩, h3⟩; exact ⟨d, h1, (spCat_snoc pts k0 _ d a).2 ⟨c, h2, h3⟩⟩
        · rintro ⟨d, h1, h2⟩
          obtain ⟨c, h3, h4⟩ := (spCat_snoc pts k0 _ d a).1 h2
          exact ⟨c, ⟨d, h1, h3⟩, h4⟩)
      have HEN1 := Lib.hid hen1
      generalize hp : i + 1 + sizes (ks.take j) = p at *
      have HPP := Lib.hid hp
      have hpz : p < ze := by omega
      have HZE2 := Lib.hid hze
      clear hkk hen1 hp hze
      go_wp2_with fail
      refine HC.out.mono ?_
      rintro e w1 ⟨g3, o3, c3, rfl, at3, nx3, we3, fr3⟩
      have A3 := Lib.hid at3; have E3 := Lib.hid we3; have F3 := Lib.hid (FF.out.trans fr3)
      obtain ⟨_, m0', m1', m2', m3'⟩ := we3.cells
      obtain ⟨eg2, eE2, _, egc2⟩ := own_get1 (k := p) (u := .int .i64 ((i + 1 + sizes (ks.take (j + 1)) : Nat) : Int)) we3.oe (by rw [List.getElem?_map, HEN1.out]; rfl)
      simp only [Option.some.injEq, Addr.mk.injEq, and_true] at eE2
      subst eE2
      clear at3 we3 fr3 m0 m1 m2 m3 egc
      go_wp2
      go_roundw
      case rel => exact ⟨j + 1, g3, o3, c3, by omega, rfl, rfl, by rw [← lst_ext HSN.out]; exact A3.out, nx3, E3.out, F3.out⟩
      case measure => have := HZE2.out; have h2 := HPP.out; simp [intOf]; omega
    · have hjl : j = ks.length := by omega
      subst hjl
      have htk : ks.take ks.length = ks := List.take_of_length_le (by omega)
      rw [htk, HR.out] at AT
      rw [htk]
      have hdz : ¬ ((i + 1 + sizes ks : Nat) : Int) < (ze : Int) := by omega
      rw [hze]
      clear htk
      go_wp2
      go_ret
      exact ⟨g2, o2, fc2, rfl, AT.out, NX.out, EE.out, FF.out⟩

end Go.Proofs.YtilhicefhhgecaaGreatDoor

namespace Go.Proofs.YtilhicefhhgecaaGreatDoor
open Go.RowKit Go.ChangeMaps Pv

set_option maxHeartbeats 2000000 in
set_option maxRecDepth 100000 in
theorem thr_alt (w0 : World) (e0 e1 pm mb n : Nat) (tA EA pA : Option Addr) (nt ct ec cp : Nat) (t : List Rx) (pts : List Int) (i : Nat) (l : List Rng) (many least most : Int) (ks : List Tr) (hn : n ≤ 1000)
    (ht : AtRx w0 tA t) (HT : Hid (t.length = nt)) (hnt : nt ≤ 64) (HX : Hid (t[i]? = some ⟨3, l, many, least, most⟩))
    (HZ : Hid ((endsL t)[i]? = some ((i + 1 + sizes ks : Nat) : Int)))
    (HEND : Hid (∀ (j : Nat) (k : Tr), ks[j]? = some k → (endsL t)[i + 1 + sizes (ks.take j)]? = some ((i + 1 + sizes (ks.take (j + 1)) : Nat) : Int) ∧ i + 1 + sizes (ks.take j) < nt))
    (HLT : Hid (∀ j, j < ks.length → sizes (ks.take j) < sizes ks ∧ sizes (ks.take j) < sizes (ks.take (j + 1)) ∧ sizes (ks.take (j + 1)) ≤ sizes ks))
    (HIH : Hid (∀ j k, ks[j]? = some k → ThrC w0 e0 e1 pm mb n tA EA pA nt ct ec cp t pts k (i + 1 + sizes (ks.take j)))) (_hzs : i + 1 + sizes ks ≤ 64) :
    ThrC w0 e0 e1 pm mb n tA EA pA nt ct ec cp t pts (.mk ⟨3, l, many, least, most⟩ ks) i := by
  intro W g o fc S X hE hS hA hX
  have hm1 := fun W : World => run_make_row' (P := Tryz.prog) 24 4 (.bool false) 1 Tryz.underlying24 info_bool rfl .i64 .i64 (n + 1) (by omega) (by omega) W
  simp only [Int.natCast_add, Int.cast_ofNat_Int] at hm1
  have hin : i < nt := by have := lt_of_get HX.out; rwa [HT.out] at this
  obtain ⟨b, off, kd, B, cs, m, l', many', least', most', rfl, H5, hset, HM, hmc, hkd, hma, hle, hmo, HX'⟩ := ht.g5 HT hin
  obtain ⟨rfl, rfl, rfl, rfl, rfl⟩ := Rx.mk.inj (Option.some.inj (HX'.out.symm.trans HX.out))
  obtain ⟨y0, y1, y2, y3, y4, y5⟩ := H5.next hE.kp
  obtain ⟨hpm, m0, m1, m2, m3⟩ := hE.cells
  have hW1 : Below W.heap.size W (W.alloc (.cells #[.int .u8 3, .slice B m cs, .int .i64 many', .int .i64 least', .int .i64 most'] 52)) := (Below.refl _ _).alloc (Nat.le_refl _) _
  have hW2 : Below (W.alloc (.cells #[.int .u8 3, .slice B m cs, .int .i64 many', .int .i64 least', .int .i64 most'] 52)).heap.size (W.alloc (.cells #[.int .u8 3, .slice B m cs, .int .i64 many', .int .i64 least', .int .i64 most'] 52)) ((W.alloc (.cells #[.int .u8 3, .slice B m cs, .int .i64 many', .int .i64 least', .int .i64 most'] 52)).alloc (.cells (madeCells #[.bool false] (n + 1)) 4)) := (Below.refl _ _).alloc (Nat.le_refl _) _
  have hW : Below W.heap.size W ((W.alloc (.cells #[.int .u8 3, .slice B m cs, .int .i64 many', .int .i64 least', .int .i64 most'] 52)).alloc (.cells (madeCells #[.bool false] (n + 1)) 4)) := hW1.alloc (by simp) _
  have hgl := At.lt hA
  have E1 := (hE.next hW1).more (b := W.heap.size + 1) (by simp) hW2 (by simp)
  have R0 := BRow.made (W.alloc (.cells #[.int .u8 3, .slice B m cs, .int .i64 many', .int .i64 least', .int .i64 most'] 52)) 4 n
  rw [show (W.alloc (.cells #[.int .u8 3, .slice B m cs, .int .i64 many', .int .i64 least', .int .i64 most'] 52)).heap.size = W.heap.size + 1 by simp] at R0
  have EE0 := Lib.hid E1
  have RR0 := Lib.hid (R0.congr (S' := im (spAlt pts []) S) (fun a _ => by simp [im, spAlt]))
  have A1 := Lib.hid (hA.keep (Keep.of hW))
  have F1 := Lib.hid (Fr.of (mb := mb) hW)
  have hmbW : W.heap.size + 1 ≠ mb := by have := hE.lm; have := hE.ge; omega
  have hgX : ¬ (X g ∨ g = W.heap.size + 1) := by rintro (h | h); exact hX h; omega
  have HNX := Lib.hid hgX; have HSS := Lib.hid hS
  have HXW := Lib.hid (fun x hx => hE.hi x hx)
  obtain ⟨RR, hRR⟩ : ∃ RR, im (spT pts (.mk ⟨3, l', many', least', most'⟩ ks)) S = RR := ⟨_, rfl⟩
  rw [hRR]
  have HR := Lib.hid (show im (spAlt pts ks) S = RR from by
    rw [← hRR]; funext a; apply propext
    constructor
    · rintro ⟨c, h1, h2⟩; exact ⟨c, h1, by rw [spT, if_neg (by simp), if_neg (by simp), if_neg (by simp), if_pos rfl]; exact h2⟩
    · rintro ⟨c, h1, h2⟩; rw [spT, if_neg (by simp), if_neg (by simp), if_neg (by simp), if_pos rfl] at h2; exact ⟨c, h1, h2⟩)
  clear hE hA H5 ht hset HX' hW hRR hX hS hW1 hW2 E1 R0 hgX
  go_enter Tryz.func102, Tryz.ntmps102
  go_wp2
  go_loopw [13] (fun kv wr => ∃ j : Nat, j ≤ ks.length ∧ kv = .int .i64 ((i + 1 + sizes (ks.take j) : Nat) : Int) ∧ BRow wr 4 (W.heap.size + 1) n (im (spAlt pts (ks.take j)) S) ∧ At wr (some ⟨g, o, none⟩) RB (lst n S) ∧ WkE w0 wr e0 e1 pm mb n (some ⟨b, off, none⟩) EA pA nt ct ec cp t pts (fun x => X x ∨ x = W.heap.size + 1) ∧ Fr mb W wr) (fun kv _ => (i + 1 + sizes ks) - (intOf kv).toNat)
  case atStart => exact ⟨0, by omega, by simp [sizes, flats], RR0.out, A1.out, EE0.out, F1.out⟩
  case round =>
    clear y0 y1 y2 y3 y4 y5 m0 m1 m2 m3
    obtain ⟨j, hj, rfl, hrow, hat, hwe, hfr⟩ := hrel
    have ROW := Lib.hid hrow; have AT := Lib.hid hat; have EE := Lib.hid hwe; have FF := Lib.hid hfr
    clear hrow hat hwe hfr
    obtain ⟨hpm2, m0, m1, m2, m3⟩ := EE.out.cells
    obtain ⟨eg, eE, egl, egc⟩ := own_get1 (k := i) (u := .int .i64 ((i + 1 + sizes ks : Nat) : Int)) EE.out.oe (by rw [List.getElem?_map, HZ.out]; rfl)
    subst eE
    obtain ⟨ze, hze⟩ : ∃ ze, i + 1 + sizes ks = ze := ⟨_, rfl⟩
    rw [hze] at egc
    by_cases hlt : j < ks.length
    · have hkk : ks[j]? = some (ks[j]) := List.getElem?_eq_getElem hlt
      obtain ⟨hps, hst, hst2⟩ := HLT.out j hlt
      generalize ks[j] = k0 at hkk
      obtain ⟨hen1, hen2⟩ := HEND.out j k0 hkk
      have HC := Lib.hid (HIH.out j k0 hkk wr g o fc S _ EE.out HSS.out AT.out HNX.out)
      have HSN := Lib.hid (show ∀ a, a ≤ n → ((im (spAlt pts (ks.take j)) S a ∨ im (spT pts k0) S a) ↔ im (spAlt pts (ks.take (j + 1))) S a) from fun a _ => by
        rw [take_snoc hkk]
        constructor
        · rintro (⟨c, h1, h2⟩ | ⟨c, h1, h2⟩)
          · exact ⟨c, h1, (spAlt_snoc pts k0 _ c a).2 (.inl h2)⟩
          · exact ⟨c, h1, (spAlt_snoc pts k0 _ c a).2 (.inr h2)⟩
        · rintro ⟨c, h1, h2⟩
          rcases (spAlt_snoc pts k0 _ c a).1 h2 with h3 | h3
          · exact .inl ⟨c, h1, h3⟩
          · exact .inr ⟨c, h1, h3⟩)
      have HEN1 := Lib.hid hen1
      generalize hp : i + 1 + sizes (ks.take j) = p at *
      have HPP := Lib.hid hp
      have hpz : p < ze := by omega
      have HZE2 := Lib.hid hze
      clear hkk hen1 hp hze
      go_wp2_with fail
      refine HC.out.mono ?_
      rintro e w1 ⟨g3, o3, c3, rfl, at3, nx3, we3, fr3⟩
      have R3 := Lib.hid (BRow.fr ROW.out fr3 hmbW)
      have A3 := Lib.hid (AT.out.keep fr3.1); have E3 := Lib.hid we3; have F3 := Lib.hid (FF.out.trans fr3)
      have HAD := Lib.hid (tongue_add (W.heap.size + 1) n (n + 1) c3 (some ⟨g3, o3, none⟩) _ _ w1 hn R3.out at3 (fun g' o' e => by
        injection e with e; injection e with e1 _
        subst e1
        exact fun h => nx3 (.inr h)))
      clear at3 we3 fr3 m0 m1 m2 m3 egc
      go_wp2_with fail
      refine HAD.out.mono ?_
      rintro e w2 ⟨rfl, r4, o4⟩
      have R4 := Lib.hid (r4.congr HSN.out)
      have A4 := Lib.hid (At.only A3.out o4 (fun h => HNX.out (.inr h)))
      have E4 := Lib.hid (E3.out.write o4 (.inr rfl))
      have F4 := Lib.hid (F3.out.write o4 (Nat.le_succ _))
      obtain ⟨_, m0', m1', m2', m3'⟩ := E4.out.cells
      obtain ⟨eg2, eE2, _, egc2⟩ := own_get1 (k := p) (u := .int .i64 ((i + 1 + sizes (ks.take (j + 1)) : Nat) : Int)) E4.out.oe (by rw [List.getElem?_map, HEN1.out]; rfl)
      simp only [Option.some.injEq, Addr.mk.injEq, and_true] at eE2
      subst eE2
      clear r4 o4
      go_wp2
      go_roundw
      case rel => exact ⟨j + 1, by omega, rfl, R4.out, A4.out, E4.out, F4.out⟩
      case measure => have := HZE2.out; have h2 := HPP.out; simp [intOf]; omega
    · have hjl : j = ks.length := by omega
      subst hjl
      have htk : ks.take ks.length = ks := List.take_of_length_le (by omega)
      rw [htk, HR.out] at ROW
      rw [htk]
      have hdz : ¬ ((i + 1 + sizes ks : Nat) : Int) < (ze : Int) := by omega
      rw [hze]
      have FIN := Lib.hid (show ¬ X (W.heap.size + 1) from fun h => by have := HXW.out _ h; omega)
      clear htk
      go_wp2
      go_ret
      exact ⟨W.heap.size + 1, 0, n + 1, rfl, ROW.out.reads hn, FIN.out, EE.out.weak (fun x hx => .inl hx), FF.out⟩

end Go.Proofs.YtilhicefhhgecaaGreatDoor

namespace Go.Proofs.YtilhicefhhgecaaGreatDoor
open Go.RowKit Go.ChangeMaps Pv

/-- All blocks but some are as they were. -/
structure But (N : Nat → Prop) (w w' : World) : Prop where
  size : w.heap.size ≤ w'.heap.size
  block : ∀ k, k < w.heap.size → ¬ N k → w'.heap[k]? = w.heap[k]?
theorem But.blk {N : Nat → Prop} {w w' : World} {g : Nat} {t : TypeId} {cs : Array Value} (h : But N w w') (hb : Blk w g t cs) (hne : ¬ N g) : Blk w' g t cs := (h.block g hb.lt hne).trans hb
theorem But.row {N : Nat → Prop} {w w' : World} {b n : Nat} {t : TypeId} {S : Nat → Prop} (h : But N w w') (hb : BRow w t b n S) (hne : ¬ N b) : BRow w' t b n S := hb.of (h.block b hb.lt hne)
theorem Only.set1 (W : World) (b i : Nat) (v : Value) : Only b W (W.setCell ⟨b, i, none⟩ v) := (Only.refl b W).set i v

/-- The closure's variables. -/
structure OnB (W : World) (b3 b4 b5 b8 pm i n : Nat) (g o fc : Nat) (v : Bool) : Prop where
  c3 : Blk W b3 154 #[.pointer (some ⟨pm, 0, none⟩)]
  c4 : Blk W b4 TI #[.int .i64 i]
  c5 : Blk W b5 24 #[.slice (some ⟨g, o, none⟩) (n + 1) fc]
  c8 : Blk W b8 4 #[.bool v]
/-- What once more leaves. -/
def OnceP (w0 W : World) (e0 e1 pm mb n : Nat) (tA EA pA : Option Addr) (nt ct ec cp : Nat) (t : List Rx) (pts : List Int) (b3 b4 b5 b8 i s0 : Nat) (W0 : World) (X S S' : Nat → Prop) (e : Ending) (w' : World) : Prop :=
  (∃ v, e = .returned v) ∧ ∃ g o c v, OnB w' b3 b4 b5 b8 pm i n g o c v ∧ (v = true ↔ lst n S' = lst n S) ∧ At w' (some ⟨g, o, none⟩) RB (lst n S') ∧ ¬ X g ∧ WkE w0 w' e0 e1 pm mb n tA EA pA nt ct ec cp t pts X ∧ But (fun k => k = mb ∨ k = b5 ∨ k = b8) W w' ∧ (s0 = W0.heap.size → Fr mb W0 w')

set_option maxHeartbeats 2000000 in
set_option maxRecDepth 100000 in
theorem tongue_once (w0 : World) (e0 e1 pm mb n : Nat) (tA EA pA : Option Addr) (nt ct ec cp : Nat) (t : List Rx) (pts : List Int) (K : Tr) (i : Nat) (_hn : n ≤ 1000) (hi : i + 1 ≤ 64)
    (HIH : Hid (ThrC w0 e0 e1 pm mb n tA EA pA nt ct ec cp t pts K (i + 1))) (W W0 : World) (b3 b4 b5 b8 g o fc : Nat) (v : Bool) (S X : Nat → Prop) (HO : OnB W b3 b4 b5 b8 pm i n g o fc v) (h38 : b3 ≠ b8) (h35 : b3 ≠ b5) (h48 : b4 ≠ b8) (h45 : b4 ≠ b5) (h58 : b5 ≠ b8)
    (hE : WkE w0 W e0 e1 pm mb n tA EA pA nt ct ec cp t pts X) (hS : ∀ a, S a → a ≤ n) (hA : At W (some ⟨g, o, none⟩) RB (lst n S)) (hX : ¬ X g) (x5 : X b5) (x8 : X b8) (l3 : e1 ≤ b3) (l4 : e1 ≤ b4) (hF : Fr mb W0 W) (l5 : W0.heap.size ≤ b5) (l8 : W0.heap.size ≤ b8) :
    Calls Tryz.prog 179 #[.pointer (some ⟨b3, 0, none⟩), .pointer (some ⟨b4, 0, none⟩), .pointer (some ⟨b5, 0, none⟩), .pointer (some ⟨b8, 0, none⟩)] W (OnceP w0 W e0 e1 pm mb n tA EA pA nt ct ec cp t pts b3 b4 b5 b8 i W0.heap.size W0 X S (im (spT pts K) S)) := by
  have HC := Lib.hid (HIH.out W g o fc S X hE hS hA hX)
  simp only [Int.natCast_add, Int.cast_ofNat_Int] at HC
  have hw : IntKind.i64.wrap ((i : Int) + 1) = (i : Int) + 1 := by rw [IntKind.wrap_i64]; omega
  have OB := Lib.hid HO; have AT := Lib.hid hA; have EE := Lib.hid hE; have FF := Lib.hid hF; have NX := Lib.hid hX
  have hlm := hE.lm
  have h5m : b5 ≠ mb := by have := hE.lo b5 x5; omega
  have h8m : b8 ≠ mb := by have := hE.lo b8 x8; omega
  have k3 := HO.c3.cell 0
  have k4 := HO.c4.cell 0
  have k5 := HO.c5.cell 0
  have X5 := Lib.hid x5; have X8 := Lib.hid x8
  clear HO hA hE hF hX x5 x8
  go_enter Tryz.func179, Tryz.ntmps179
  go_wp2_with fail
  refine HC.out.mono ?_
  rintro e w1 ⟨g1, o1, c1, rfl, at1, nx1, we1, fr1⟩
  have D3 := Lib.hid (fr1.blk OB.out.c3 (by omega))
  have D4 := Lib.hid (fr1.blk OB.out.c4 (by omega))
  have D5 := Lib.hid (fr1.blk OB.out.c5 h5m)
  have D8 := Lib.hid (fr1.blk OB.out.c8 h8m)
  have A0 := Lib.hid (AT.out.keep fr1.1)
  have A1 := Lib.hid at1; have E1 := Lib.hid we1; have F1 := Lib.hid fr1; have N1 := Lib.hid nx1
  have HQ := Lib.hid (equal_bool (some ⟨g1, o1, none⟩) (some ⟨g, o, none⟩) c1 fc (n + 1) _ _ w1 at1 A0.out (Lib.hid (lst_len _ _)) (Lib.hid (lst_len _ _)))
  have k5' := D5.out.cell 0
  clear at1 we1 fr1 nx1 k3 k4 k5
  obtain ⟨eqv, heqv⟩ : ∃ eqv, decide (lst n (im (spT pts K) S) = lst n S) = eqv := ⟨_, rfl⟩
  rw [heqv] at HQ
  have HEQ := Lib.hid (show eqv = true ↔ lst n (im (spT pts K) S) = lst n S by rw [← heqv]; exact decide_eq_true_iff)
  clear heqv
  go_wp2_with fail
  refine HQ.out.mono ?_
  rintro e w2 ⟨rfl, q, rfl⟩
  have hb2 : Below w1.heap.size w1 (w1.drewN q) := below_drewN (Below.refl _ _) q
  have G3 := Lib.hid (D3.out.drewN q); have G4 := Lib.hid (D4.out.drewN q); have G5 := Lib.hid (D5.out.drewN q); have G8 := Lib.hid (D8.out.drewN q)
  have A2 := Lib.hid (A1.out.keep (Keep.of hb2)); have E2 := Lib.hid (E1.out.next hb2); have F2 := Lib.hid (F1.out.trans (Fr.of hb2))
  clear hb2 k5'
  generalize w1.drewN q = w3 at *
  -- the two stores
  have O8 := Only.set1 w3 b8 0 (.bool eqv)
  have E3 := E2.out.write O8 X8.out
  have A3 := At.only A2.out O8 (fun h => N1.out (h ▸ X8.out))
  have O5 := Only.set1 (w3.setCell ⟨b8, 0, none⟩ (.bool eqv)) b5 0 (.slice (some ⟨g1, o1, none⟩) (n + 1) c1)
  have FIN := Lib.hid (fun rv : Value => show OnceP w0 W e0 e1 pm mb n tA EA pA nt ct ec cp t pts b3 b4 b5 b8 i W0.heap.size W0 X S (im (spT pts K) S) (.returned rv) ((w3.setCell ⟨b8, 0, none⟩ (.bool eqv)).setCell ⟨b5, 0, none⟩ (.slice (some ⟨g1, o1, none⟩) (n + 1) c1)) from
    ⟨⟨_, rfl⟩, g1, o1, c1, eqv, ⟨(G3.out.far (p := ⟨b8, 0, none⟩) h38 _).far (p := ⟨b5, 0, none⟩) h35 _, (G4.out.far (p := ⟨b8, 0, none⟩) h48 _).far (p := ⟨b5, 0, none⟩) h45 _, (G5.out.far (p := ⟨b8, 0, none⟩) h58 _).set 0 _, (G8.out.set 0 (.bool eqv)).far (p := ⟨b5, 0, none⟩) (fun h => h58 h.symm) _⟩, HEQ.out,
      At.only A3 O5 (fun h => N1.out (h ▸ X5.out)), N1.out, E3.write O5 X5.out, ⟨Nat.le_trans F2.out.2.size (Nat.le_trans O8.size O5.size), fun k hk hne => (O5.block k (Nat.lt_of_lt_of_le hk (Nat.le_trans F2.out.2.size O8.size)) (fun e => hne (.inr (.inl e)))).trans ((O8.block k (Nat.lt_of_lt_of_le hk F2.out.2.size) (fun e => hne (.inr (.inr e)))).trans (F2.out.2.block k hk (fun e => hne (.inl e))))⟩,
      fun _ => ((FF.out.trans F2.out).write O8 l8).write O5 l5⟩)
  have k8 := G8.out.cell 0; have f8 := G8.out.frozen 0
  have q5 := (G5.out.far (p := ⟨b8, 0, none⟩) h58 (.bool eqv)).cell 0; have f5 := (G5.out.far (p := ⟨b8, 0, none⟩) h58 (.bool eqv)).frozen 0
  clear O8 E3 A3 O5
  go_wp2
  go_end0
  exact FIN.out _

end Go.Proofs.YtilhicefhhgecaaGreatDoor
