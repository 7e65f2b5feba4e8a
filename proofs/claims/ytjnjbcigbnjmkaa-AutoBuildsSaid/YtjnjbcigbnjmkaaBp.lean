/- Writing into the sets of an automaton of the call's own: what may turn, what there is to know. -/
import Derived.Test.YtjnjbcigbnjmkaaBi
namespace Pv
open Go Go.RowKit
mutual
/-- A tree is told by its nodes. -/
theorem flat_one : ∀ (T T' : Tr) (d d' : Nat) (r r' : List Rx), T.Ok d → T'.Ok d' → T.flat ++ r = T'.flat ++ r' → T = T' ∧ r = r'
  | .mk x ks, .mk x' ks', d, d', r, r', h, h', e => by
    simp only [Tr.flat, List.cons_append, List.cons.injEq] at e
    obtain ⟨rfl, e⟩ := e
    have hl := h.len; have hl' := h'.len
    obtain ⟨e1, e2⟩ := flats_one ks ks' (d - 1) (d' - 1) r r' (by omega) (fun k hk => h.kid hk) (fun k hk => h'.kid hk) e
    exact ⟨by rw [e1], e2⟩
theorem flats_one : ∀ (ks ks' : List Tr) (d d' : Nat) (r r' : List Rx), ks.length = ks'.length → (∀ k, k ∈ ks → k.Ok d) → (∀ k, k ∈ ks' → k.Ok d') → flats ks ++ r = flats ks' ++ r' → ks = ks' ∧ r = r'
  | [], [], _, _, r, r', _, _, _, e => ⟨rfl, by simpa [flats] using e⟩
  | k :: ks, k' :: ks', d, d', r, r', hl, h, h', e => by
    simp only [flats, List.append_assoc] at e
    obtain ⟨e1, e2⟩ := flat_one k k' d d' _ _ (h k (by simp)) (h' k' (by simp)) e
    obtain ⟨e3, e4⟩ := flats_one ks ks' d d' r r' (by simpa using hl) (fun j hj => h j (by simp [hj])) (fun j hj => h' j (by simp [hj])) e2
    exact ⟨by rw [e1, e3], e4⟩
  | [], _ :: _, _, _, _, _, hl, _, _, _ => by simp at hl
  | _ :: _, [], _, _, _, _, hl, _, _, _ => by simp at hl
end
theorem flat_inj {T T' : Tr} {d d' : Nat} (h : T.Ok d) (h' : T'.Ok d') (e : T.flat = T'.flat) : T = T' := (flat_one T T' d d' [] [] h h' (by rw [e])).1
end Pv
namespace Go.Proofs.Ytjnjbcigbnjmkaa
open Go.RowKit Pv

/-- Ranges from base on are written over; all else is as it was. -/
structure Mut (base : Nat) (w w' : World) : Prop where
  os : w'.os = w.os
  tape : w'.tape = w.tape
  output : w'.output = w.output
  size : w.heap.size ≤ w'.heap.size
  block : ∀ b, b < base ∨ ¬ Typed w b TRng → b < w.heap.size → w'.heap[b]? = w.heap[b]?
  typed : ∀ b cs, Blk w b TRng cs → ∃ cs', Blk w' b TRng cs' ∧ cs'.size = cs.size
section
variable {base : Nat} {w w' w'' : World}
theorem Mut.refl (base : Nat) (w : World) : Mut base w w := ⟨rfl, rfl, rfl, Nat.le_refl _, fun _ _ _ => rfl, fun b cs h => ⟨cs, h, rfl⟩⟩
theorem Mut.set {g i : Nat} {u : Value} (h : Mut base w w') (ht : Typed w g TRng) (hg : base ≤ g) : Mut base w (w'.setCell ⟨g, i, none⟩ u) :=
  ⟨h.os, h.tape, h.output, by simpa using h.size, fun b hb hl => (Below.heap_setCell w' ⟨g, i, none⟩ u b (fun e => by
      simp only at e
      subst e
      rcases hb with hb | hb
      · omega
      · exact hb ht)).trans (h.block b hb hl),
    fun b cs hb => by
      obtain ⟨cs', h1, h2⟩ := h.typed b cs hb
      by_cases hbg : b = g
      · subst hbg
        exact ⟨_, h1.set i u, by simpa using h2⟩
      · exact ⟨cs', h1.far (p := ⟨g, i, none⟩) hbg u, h2⟩⟩
theorem Mut.blk {g : Nat} {t : TypeId} {cs : Array Value} (h : Mut base w w') (hb : Blk w g t cs) (ht : t ≠ TRng) : Blk w' g t cs :=
  (h.block g (.inr fun ⟨cs', hcs'⟩ => by
    unfold Blk at hb
    rw [hb] at hcs'
    injection hcs' with hcs'
    injection hcs' with _ h1
    exact ht h1) hb.lt).trans hb
theorem Mut.below (h : Mut base w w') (hb : base ≤ w.heap.size) : Below base w w' := ⟨h.os, h.tape, h.output, h.size, fun b hbb => h.block b (.inl hbb) (by omega)⟩
theorem Mut.cell {g i : Nat} {cs : Array Value} (h : Mut base w w') (hb : Blk w g TRng cs) (hi : i < cs.size) : ∃ v, w'.cell? ⟨g, i, none⟩ = some v ∧ w'.frozen? ⟨g, i, none⟩ = false := by
  obtain ⟨cs', h1, h2⟩ := h.typed g cs hb
  exact ⟨cs'[i]'(by omega), by rw [h1.cell i]; exact Array.getElem?_eq_getElem _, h1.frozen i⟩
end

/-- What a row of the call's own knows: where it lies, its edges' cells. -/
theorem own_blk {w : World} {base n c k : Nat} {A : Option Addr} {t : TypeId} {us : List Value} (h : w.ownsRow base t k (.slice A n c) n us) (hn : 0 < n) : ∃ (g : Nat) (cur : Array Value), A = some ⟨g, 0, none⟩ ∧ base ≤ g ∧ Blk w g t cur ∧ ∀ (i : Nat) u, us[i]? = some u → cur[i]? = some u := by
  rcases h.2 with ⟨hv, h0⟩ | ⟨g, cap, cur, hv, hg, hh, hnc, hcm, hcs, htk⟩
  · omega
  · injection hv with e1 e2 e3
    subst e1
    refine ⟨g, cur, rfl, hg, hh, fun i u hu => ?_⟩
    rw [← htk, List.getElem?_take] at hu
    split at hu
    · simpa using hu
    · cases hu
/-- The three parts of the way to a range. -/
structure Row3 (w : World) (base : Nat) (S : Option Addr) (m : Nat) : Prop where
  le : m ≤ 1000000
  at' : ∀ k, k < m → ∃ q cur T r tc, S = some ⟨q, 0, none⟩ ∧ Blk w q TEdge cur ∧ cur[k * 3 + 2]? = some (.slice T r tc) ∧ r ≤ 140737488355328 ∧
    ∀ j, j < r → ∃ b o cs, T = some ⟨b, o, none⟩ ∧ base ≤ b ∧ Blk w b TRng cs ∧ o + j * 2 < cs.size
theorem AuQ.rows {w : World} {base n c : Nat} {A : Option Addr} {a : Au} (h : AuQ w base A n c a) (he : edgesN a ≤ 1000000) {i : Nat} (hi : i < n) :
    ∃ g cur S m cs, A = some ⟨g, 0, none⟩ ∧ Blk w g TRow cur ∧ cur[i]? = some (.slice S m cs) ∧ Row3 w base S m := by
  obtain ⟨rows, ow, hr⟩ := h
  obtain ⟨g, cur, e, hg, hb, hcur⟩ := own_blk ow (by omega)
  have hes : a[i]? = some (a[i]'(by rw [← hr.n]; exact hi)) := List.getElem?_eq_getElem _
  generalize a[i]'(by rw [← hr.n]; exact hi) = es at hes
  obtain ⟨r, hr1, S, cs, us, rfl, ow2, hk⟩ := hr.row i es hes
  have hle := le_edgesN hes
  refine ⟨g, cur, S, es.length, cs, e, hb, hcur i _ hr1, by omega, fun k hkm => ?_⟩
  obtain ⟨q, cur2, e2, hq, hb2, hcur2⟩ := own_blk ow2 (by omega)
  have hx : es[k]? = some (es[k]'hkm) := List.getElem?_eq_getElem _
  obtain ⟨f, hf, hR⟩ := hk.2 k _ hx
  obtain ⟨⟨T, tc, hT, hat, _, hty⟩, hfar⟩ := hR.set
  refine ⟨q, cur2, T, (es[k]'hkm).set.length, tc, e2, hb2, ?_, hat.1, fun j hj => ?_⟩
  · have h2 := hf 2 (by omega)
    rw [hT] at h2
    exact hcur2 _ _ h2
  · obtain ⟨b, o, eT, hlt, hcell⟩ := hat.2 (by omega)
    subst eT
    have hbb := hfar b o _ tc hT (by omega)
    rcases hty (by omega) b o rfl with h3 | ⟨cs3, h3⟩
    · omega
    · have hxj : (es[k]'hkm).set[j]? = some ((es[k]'hkm).set[j]'hj) := List.getElem?_eq_getElem _
      obtain ⟨f3, hf3, _⟩ := hcell j _ hxj
      have hc0 := hf3 0 (by omega)
      have hb3 : Blk w b TRng cs3 := h3
      rw [hb3.cell] at hc0
      refine ⟨b, o, cs3, rfl, hbb, hb3, ?_⟩
      rcases Nat.lt_or_ge (o + j * 2) cs3.size with h4 | h4
      · exact h4
      · rw [Array.getElem?_eq_none (by omega)] at hc0; cases hc0

end Go.Proofs.Ytjnjbcigbnjmkaa
