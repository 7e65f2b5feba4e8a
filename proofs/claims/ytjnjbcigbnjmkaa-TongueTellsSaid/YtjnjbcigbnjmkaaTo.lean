/- What the walker has seen: the map from places of nodes and places to places. -/
import Derived.Test.YtjnjbcigbnjmkaaTn
import Derived.DeepKeys4
import Derived.WideKeyMaps
import Derived.MapKept
import Derived.MapFrom
import Derived.ChangeMaps4
namespace Pv
open Go Go.RowKit
mutual
/-- A tree is told by its nodes. -/
theorem flat_one1 : ∀ (T T' : Tr) (d d' : Nat) (r r' : List Rx), T.Ok d → T'.Ok d' → T.flat ++ r = T'.flat ++ r' → T = T' ∧ r = r'
  | .mk x ks, .mk x' ks', d, d', r, r', h, h', e => by
    simp only [Tr.flat, List.cons_append, List.cons.injEq] at e
    obtain ⟨rfl, e⟩ := e
    have hl := h.len; have hl' := h'.len
    obtain ⟨e1, e2⟩ := flats_one1 ks ks' (d - 1) (d' - 1) r r' (by omega) (fun k hk => h.kid hk) (fun k hk => h'.kid hk) e
    exact ⟨by rw [e1], e2⟩
theorem flats_one1 : ∀ (ks ks' : List Tr) (d d' : Nat) (r r' : List Rx), ks.length = ks'.length → (∀ k, k ∈ ks → k.Ok d) → (∀ k, k ∈ ks' → k.Ok d') → flats ks ++ r = flats ks' ++ r' → ks = ks' ∧ r = r'
  | [], [], _, _, r, r', _, _, _, e => ⟨rfl, by simpa [flats] using e⟩
  | k :: ks, k' :: ks', d, d', r, r', hl, h, h', e => by
    simp only [flats, List.append_assoc] at e
    obtain ⟨e1, e2⟩ := flat_one1 k k' d d' _ _ (h k (by simp)) (h' k' (by simp)) e
    obtain ⟨e3, e4⟩ := flats_one1 ks ks' d d' r r' (by simpa using hl) (fun j hj => h j (by simp [hj])) (fun j hj => h' j (by simp [hj])) e2
    exact ⟨by rw [e1, e3], e4⟩
  | [], _ :: _, _, _, _, _, hl, _, _, _ => by simp at hl
  | _ :: _, [], _, _, _, _, hl, _, _, _ => by simp at hl
end
theorem flat_inj1 {T T' : Tr} {d d' : Nat} (h : T.Ok d) (h' : T'.Ok d') (e : T.flat = T'.flat) : T = T' := (flat_one1 T T' d d' [] [] h h' (by rw [e])).1
end Pv
namespace Go.Proofs.Ytjnjbcigbnjmkaa
open Go.RowKit Go.ChangeMaps Pv

theorem laidOut1 : laidOutB Try.prog = true := by kernel_rfl
theorem seen_law : WideMaps.KeyLaw Try.prog 171 := deep_law_laid laidOut1 (m := 3) (by omega) (of_decide_eq_true (by kernel_rfl)) (by kernel_rfl) (by kernel_rfl)
/-- A key. -/
def seenKey (i : Nat) (s : ByteArray) : Value := .agg #[.int .i64 i, .string s]
theorem c1 : Try.prog.cellsOf 3 = 1 := by kernel_rfl
theorem c2 : Try.prog.cellsOf 9 = 1 := by kernel_rfl
theorem c3 : Try.prog.cellsOf 171 = 2 := by kernel_rfl
theorem kt : Try.prog.keyType 171 = true := by kernel_rfl
theorem depth : ∃ d, Try.prog.types.size + 1 = d + 2 := ⟨Try.prog.types.size - 1, by have : 1 ≤ Try.prog.types.size := of_decide_eq_true (by kernel_rfl); omega⟩
theorem seen_key (i : Nat) (s : ByteArray) (hi : i ≤ 1000) (hs : s.size ≤ maxLen) : ∃ l, keyOf Try.prog 171 (seenKey i s) = some l := by
  obtain ⟨d, hd⟩ := depth
  have hw : (Lit.int .i64 (i : Int)).wf = true := by simp [Lit.wf, IntKind.min, IntKind.max, IntKind.signed, IntKind.bits]; omega
  unfold keyOf seenKey
  rw [Try.underlying171]
  simp only [kt, Value.formed, Try.underlying171, c3, hd]
  have h1 : Try.prog.keyLits (d + 2) 171 [.int .i64 i, .string s] = some [.int .i64 i, .string s.data.toList] := by
    simp [Program.keyLits, Try.underlying171, Try.underlying3, Try.underlying9, c1, c2, c3, hw, hs]
  rw [if_pos (by simp), show (Value.agg #[.int .i64 i, .string s]).cells.toList = [.int .i64 i, .string s] from rfl, h1]
  exact ⟨_, rfl⟩

/-- The tree at a place. -/
def PlaceAt (t : List Rx) (i : Nat) (T : Tr) : Prop := T.Ok 16 ∧ i ≤ 64 ∧ ∃ r, t.drop i = T.flat ++ r
theorem PlaceAt.one {t : List Rx} {i : Nat} {T T' : Tr} (h : PlaceAt t i T) (h' : PlaceAt t i T') : T = T' := by
  obtain ⟨h1, _, r, h2⟩ := h
  obtain ⟨h3, _, r', h4⟩ := h'
  exact (flat_one1 T T' 16 16 r r' h1 h3 (h2.symm.trans h4)).1
/-- What one entry tells. -/
def SeenE (W : World) (n : Nat) (pts : List Int) (t : List Rx) (e : MapEntry) : Prop :=
  ∃ (i : Nat) (T : Tr) (S : Nat → Prop), PlaceAt t i T ∧ (∀ a, S a → a ≤ n) ∧ e.key = seenKey i (strOfNums (bitN n S)) ∧ ∃ A c, e.val = .slice A (n + 1) c ∧ At W A RB (lst n (im (spT pts T) S))
/-- The map of what was seen. -/
def SeenOk (W : World) (mb n : Nat) (pts : List Int) (t : List Rx) : Prop := ∃ es clock, W.heap[mb]? = some (.map es clock) ∧ ∀ e, e ∈ es.toList → SeenE W n pts t e
theorem SeenE.keep {W W' : World} {n : Nat} {pts : List Int} {t : List Rx} {e : MapEntry} (h : SeenE W n pts t e) (k : Keep W W') : SeenE W' n pts t e := by
  obtain ⟨i, T, S, h1, h2, h3, A, c, h4, h5⟩ := h
  exact ⟨i, T, S, h1, h2, h3, A, c, h4, h5.keep k⟩
theorem SeenOk.keep {W W' : World} {mb n : Nat} {pts : List Int} {t : List Rx} (h : SeenOk W mb n pts t) (e : W'.heap[mb]? = W.heap[mb]?) (k : Keep W W') : SeenOk W' mb n pts t := by
  obtain ⟨es, clock, h1, h2⟩ := h
  exact ⟨es, clock, e.trans h1, fun x hx => (h2 x hx).keep k⟩
theorem SeenOk.next {W W' : World} {mb n : Nat} {pts : List Int} {t : List Rx} (h : SeenOk W mb n pts t) (hb : Below W.heap.size W W') : SeenOk W' mb n pts t := by
  obtain ⟨es, clock, h1, _⟩ := id h
  exact h.keep (hb.block mb (obj_lt h1)) (Keep.of hb)
theorem SeenE.key {W : World} {n : Nat} {pts : List Int} {t : List Rx} {e : MapEntry} (h : SeenE W n pts t e) (hn : n ≤ 1000) : ∃ l, keyOf Try.prog 171 e.key = some l := by
  obtain ⟨i, T, S, h1, h2, h3, _⟩ := h
  rw [h3]
  exact seen_key i _ (by have := h1.2.1; omega) (by rw [strOfNums_size, bitN_len]; simp only [maxLen]; omega)
theorem seen_at {n i : Nat} {S : Nat → Prop} (hn : n ≤ 1000) (hi : i ≤ 64) : ∃ l, keyOf Try.prog 171 (seenKey i (strOfNums (bitN n S))) = some l :=
  seen_key i _ (by omega) (by rw [strOfNums_size, bitN_len]; simp only [maxLen]; omega)
theorem SeenE.val {W : World} {n i : Nat} {pts : List Int} {t : List Rx} {T : Tr} {S : Nat → Prop} {e : MapEntry} (h : SeenE W n pts t e) (hP : PlaceAt t i T) (hS : ∀ a, S a → a ≤ n) (hk : e.key = seenKey i (strOfNums (bitN n S))) : ∃ A c, e.val = .slice A (n + 1) c ∧ At W A RB (lst n (im (spT pts T) S)) := by
  obtain ⟨i', T', S', h1, h2, h3, A, c, h4, h5⟩ := h
  rw [h3] at hk
  have e1 : #[Value.int .i64 (i' : Int), .string (strOfNums (bitN n S'))] = #[Value.int .i64 (i : Int), .string (strOfNums (bitN n S))] := by
    unfold seenKey at hk
    injection hk
  simp only [Array.mk.injEq, List.cons.injEq, Value.int.injEq, Value.string.injEq, true_and, and_true] at e1
  obtain ⟨e2, e3⟩ := e1
  have e4 : i' = i := by omega
  subst e4
  obtain rfl := h1.one hP
  have e5 := bits_inj e3
  have e6 : S' = S := by
    funext a
    apply propext
    by_cases ha : a ≤ n
    · exact lst_eq e5 ha
    · exact ⟨fun h => absurd (h2 a h) ha, fun h => absurd (hS a h) ha⟩
  subst e6
  exact ⟨A, c, h4, h5⟩
theorem zero_bools (w : World) : (zeroValue 24).run Try.prog w = .ok (.slice none 0 0) w := by kernel_rfl

theorem seen_lookup {W : World} {mb n i : Nat} {pts : List Int} {t : List Rx} {T : Tr} {S : Nat → Prop} (h : SeenOk W mb n pts t) (hn : n ≤ 1000) (hP : PlaceAt t i T) (hS : ∀ a, S a → a ≤ n) :
    ((Instr.lookup 165 (.map (some mb)) (seenKey i (strOfNums (bitN n S))) true).run Try.prog W = .ok (.tuple #[.slice none 0 0, .bool false]) W) ∨
    ∃ A c, (Instr.lookup 165 (.map (some mb)) (seenKey i (strOfNums (bitN n S))) true).run Try.prog W = .ok (.tuple #[.slice A (n + 1) c, .bool true]) W ∧ At W A RB (lst n (im (spT pts T) S)) := by
  obtain ⟨es, clock, hb, hes⟩ := h
  obtain ⟨l, hl⟩ := seen_at (S := S) hn hP.2.1
  rcases seen_law.find W hl es.toList (fun e he => (hes e he).key hn) with ⟨h1, _⟩ | ⟨j, e0, h1, h2, h3⟩
  · exact .inl (by simp [Instr.lookup, run_underlying Try.underlying165, MapKept.run_getObj_map hb, seen_law.check W _ hl, h1, zero_bools, Result.andThen])
  · have hm0 : e0 ∈ es.toList := List.mem_of_getElem? h2
    obtain ⟨A, c, h4, h5⟩ := (hes e0 hm0).val hP hS h3
    rw [h4] at h1
    exact .inr ⟨A, c, by simp [Instr.lookup, run_underlying Try.underlying165, MapKept.run_getObj_map hb, seen_law.check W _ hl, h1, Result.andThen], h5⟩

theorem keep_map {W : World} {mb : Nat} {es : Array MapEntry} {clock : Nat} (hb : W.heap[mb]? = some (.map es clock)) (es' : Array MapEntry) (clock' : Nat) :
    Keep W (setBlock W mb (.map es' clock')) ∧ Only mb W (setBlock W mb (.map es' clock')) ∧ (setBlock W mb (.map es' clock')).heap[mb]? = some (.map es' clock') := by
  have hlt := obj_lt hb
  have hne : ∀ k, k ≠ mb → (setBlock W mb (.map es' clock')).heap[k]? = W.heap[k]? := fun k hk => by
    show (W.heap.setIfInBounds mb _)[k]? = _
    rw [Array.getElem?_setIfInBounds, if_neg (fun e => hk e.symm)]
  have hself : (setBlock W mb (.map es' clock')).heap[mb]? = some (.map es' clock') := by
    show (W.heap.setIfInBounds mb _)[mb]? = _
    rw [Array.getElem?_setIfInBounds, if_pos rfl, if_pos hlt]
  refine ⟨⟨by show W.heap.size ≤ (W.heap.setIfInBounds mb _).size; simp, fun b o hbl => ?_⟩, ⟨rfl, rfl, rfl, by show W.heap.size ≤ (W.heap.setIfInBounds mb _).size; simp, fun k _ hk => hne k hk⟩, hself⟩
  by_cases e : b = mb
  · subst e
    simp [World.cell?, hself, hb]
  · exact World.cell?_of_block (a := ⟨b, o, none⟩) (hne b e)

theorem seen_update {W : World} {mb n i : Nat} {pts : List Int} {t : List Rx} {T : Tr} {S : Nat → Prop} {A : Option Addr} {c : Nat} (h : SeenOk W mb n pts t) (hn : n ≤ 1000) (hP : PlaceAt t i T) (hS : ∀ a, S a → a ≤ n) (hA : At W A RB (lst n (im (spT pts T) S))) :
    ∃ W', (Instr.mapUpdate 165 (.map (some mb)) (seenKey i (strOfNums (bitN n S))) (.slice A (n + 1) c)).run Try.prog W = .ok () W' ∧ SeenOk W' mb n pts t ∧ Keep W W' ∧ Only mb W W' := by
  obtain ⟨es, clock, hb, hes⟩ := h
  obtain ⟨l, hl⟩ := seen_at (S := S) hn hP.2.1
  rcases seen_law.find W hl es.toList (fun e he => (hes e he).key hn) with ⟨h1, _⟩ | ⟨j, e0, h1, h2, h3⟩
  · obtain ⟨k1, k2, k3⟩ := keep_map hb (es.push ⟨seenKey i (strOfNums (bitN n S)), .slice A (n + 1) c, clock⟩) (clock + 1)
    refine ⟨_, ?_, ⟨_, _, k3, fun x hx => ?_⟩, k1, k2⟩
    · simp [Instr.mapUpdate, run_underlying Try.underlying165, MapKept.run_getObj_map hb, seen_law.check W false hl, h1, MapKept.run_setObj_map _ hb, Result.andThen, setBlock]
    · simp only [Array.toList_push, List.mem_append, List.mem_singleton] at hx
      rcases hx with hx | rfl
      · exact (hes x hx).keep k1
      · exact ⟨i, T, S, hP, hS, rfl, A, c, rfl, hA.keep k1⟩
  · have hj : es[j]? = some e0 := by simpa using h2
    obtain ⟨k1, k2, k3⟩ := keep_map hb (es.modify j fun e => { e with key := seenKey i (strOfNums (bitN n S)), val := .slice A (n + 1) c }) clock
    refine ⟨_, ?_, ⟨_, _, k3, fun x hx => ?_⟩, k1, k2⟩
    · simp [Instr.mapUpdate, run_underlying Try.underlying165, MapKept.run_getObj_map hb, seen_law.check W false hl, h1, hj, h3, seen_law.stays W hl, MapKept.run_setObj_map _ hb, Result.andThen, setBlock]
    · rcases MapFrom.mem_modify hx with hx | ⟨e', _, rfl⟩
      · exact (hes x hx).keep k1
      · exact ⟨i, T, S, hP, hS, rfl, A, c, rfl, hA.keep k1⟩

end Go.Proofs.Ytjnjbcigbnjmkaa
