/- Walks: the document's free edges. -/
import Derived.Test.YtilhicefhhgecaaGreatDoorAnn
import Derived.Test.YtilhicefhhgecaaGreatDoorQvn
import Derived.Test.YtilhicefhhgecaaGreatDoorTbn
import Derived.Test.YtilhicefhhgecaaGreatDoorBan
namespace Go.Proofs.YtilhicefhhgecaaGreatDoor
open Go.RowKit Pv

theorem SetIn.nil (w : World) (base : Nat) : SetIn w base (.slice none 0 0) [] := ⟨none, 0, rfl, AtK.nil, by simp, fun h => by simp at h⟩

end Go.Proofs.YtilhicefhhgecaaGreatDoor

namespace Go.Proofs.YtilhicefhhgecaaGreatDoor
open Go.RowKit Pv

theorem Blk.five {w : World} {g : Nat} {t : TypeId} {a b c d e : Value} (h : Blk w g t #[a, b, c, d, e]) : w.cell? ⟨g, 0, none⟩ = some a ∧ w.cell? ⟨g, 1, none⟩ = some b ∧ w.cell? ⟨g, 2, none⟩ = some c ∧ w.cell? ⟨g, 3, none⟩ = some d ∧ w.cell? ⟨g, 4, none⟩ = some e :=
  ⟨h.cell 0, h.cell 1, h.cell 2, h.cell 3, h.cell 4⟩

end Go.Proofs.YtilhicefhhgecaaGreatDoor

namespace Go.Proofs.YtilhicefhhgecaaGreatDoor
open Go.RowKit Pv

abbrev TInt : TypeId := 3
theorem ownsRow_chg {T : List TypeId} {base : Nat} {w w' : World} {b e s n : Nat} {v : Value} {us : List Value} (h : w.ownsRow b e s v n us) (hc : Chg T base w w') (ht : ∀ t, t ∈ T → t ≠ e) : w'.ownsRow b e s v n us := by
  refine ⟨h.1, ?_⟩
  rcases h.2 with h2 | ⟨g, cap, cur, hv, hg, hh, r⟩
  · exact .inl h2
  · have hb : Blk w g e cur := hh
    exact .inr ⟨g, cap, cur, hv, hg, hc.blk hb ht, r⟩
theorem own_get {w : World} {b e n k c : Nat} {A : Option Addr} {us : List Value} {u : Value} (h : w.ownsRow b e 1 (.slice A n c) n us) (hk : us[k]? = some u) : ∃ g, A = some ⟨g, 0, none⟩ ∧ g < w.heap.size ∧ w.cell? ⟨g, k, none⟩ = some u := by
  rcases h.2 with ⟨hv, h0⟩ | ⟨g, cap, cur, hv, hg, hh, hnc, hcm, hcs, htk⟩
  · have := h.1; have := lt_of_get hk; omega
  · injection hv with e1 e2 e3
    subst e1
    have hb : Blk w g e cur := hh
    refine ⟨g, rfl, hb.lt, ?_⟩
    rw [hb.cell k]
    rw [← htk, List.getElem?_take] at hk
    split at hk
    · simpa using hk
    · cases hk
end Go.Proofs.YtilhicefhhgecaaGreatDoor

namespace Go.Proofs.YtilhicefhhgecaaGreatDoor
open Go.RowKit Pv

theorem Chg.grow {T : List TypeId} {base : Nat} {w W W' : World} {row : Option Nat} (h : Chg T base w W) (g : W.grownBy W' row) (hr : ∀ k, row = some k → w.heap.size ≤ k) : Chg T base w W' :=
  ⟨g.os.trans h.os, g.tape.trans h.tape, g.output.trans h.output, Nat.le_trans h.size g.size, fun b hb hc => (g.block b (Nat.lt_of_lt_of_le hb h.size) (fun e => by have := hr b e.symm; omega)).trans (h.block b hb hc)⟩
section
variable {w wr w' : World} {base n c e0 ne ec : Nat} {acc : Int} {A EA : Option Addr} {a : Au} {x : Array Value} {es : List Int}
end

/-- .. with what a callee has left in a new box, wherever that lies -/
structure LM (w wr : World) (base : Nat) (acc : Int) (A : Option Addr) (n c : Nat) (A' : Option Addr) (n' c' : Nat) (a' : Au) (x : Array Value) (e0 : Nat) (EA : Option Addr) (ne ec : Nat) (es : List Int) (bb : Nat) : Prop where
  b0 : Blk wr w.heap.size TAuto #[.slice A n c, .int .i64 acc]
  b1 : Blk wr (w.heap.size + 1) TAuto #[.slice none 0 0, .int .i64 0]
  bx : Blk wr (w.heap.size + 1 + 1) 52 x
  au : AuAt wr base A' n' c' a'
  ow : wr.ownsRow e0 TInt 1 (.slice EA ne ec) ne (es.map (Value.int .i64))
  ch : Chg TA base w wr
  bb : Blk wr bb TAuto #[.slice A' n' c', .int .i64 acc]
section
variable {w wr w5 : World} {base n c e0 ne ec : Nat} {acc : Int} {A EA : Option Addr} {a : Au} {x : Array Value} {es : List Int} {A' : Option Addr} {n' c' : Nat} {a' : Au}
end

end Go.Proofs.YtilhicefhhgecaaGreatDoor

namespace Go.Proofs.YtilhicefhhgecaaGreatDoor
open Go.RowKit Pv

/-- Not too many states? -/
def Few (T : Tr) : Prop := 1 + statesT T ≤ 256
end Go.Proofs.YtilhicefhhgecaaGreatDoor

namespace Go.Proofs.YtilhicefhhgecaaGreatDoor
open Go.RowKit Pv

theorem SetIn.setFar {w : World} {base g i : Nat} {t : TypeId} {cs : Array Value} {u : Value} (hb : Blk w g t cs) (ht2 : t ≠ TRng) (hg : base ≤ g) : ∀ v l, SetIn w base v l → SetIn (w.setCell ⟨g, i, none⟩ u) base v l := by
  have hold : ∀ b, b ≠ g → (w.setCell ⟨g, i, none⟩ u).heap[b]? = w.heap[b]? := fun b hb => Below.heap_setCell w ⟨g, i, none⟩ u b hb
  rintro v l ⟨A, c, e, hs, hc, hh⟩
  have key : ∀ b o, A = some ⟨b, o, none⟩ → 0 < l.length → b ≠ g := fun b o e hp hbg => by
    rcases hh hp b o e with h | ⟨cs', hcs'⟩
    · omega
    · subst hbg
      unfold Blk at hb
      rw [hb] at hcs'
      injection hcs' with hcs'
      injection hcs' with _ h1
      exact ht2 h1
  refine ⟨A, c, e, AtK.chg hs (by simp) fun b o e hp _ => hold b (key b o e hp), hc, fun hp b o e => ?_⟩
  rcases hh hp b o e with h | ⟨cs', hcs'⟩
  · exact .inl h
  · exact .inr ⟨cs', (hold b (key b o e hp)).trans hcs'⟩

/-- A set of the call's own. -/
def SetQ (w : World) (base : Nat) (v : Value) (l : List Rng) : Prop := SetIn w base v l ∧ ∀ b o n c, v = .slice (some ⟨b, o, none⟩) n c → 0 < n → base ≤ b
theorem SetQ.set {w : World} {base : Nat} {v : Value} {l : List Rng} (h : SetQ w base v l) : IsSet w v l := h.1.set
theorem SetQ.chg {T : List TypeId} {w w' : World} {base : Nat} {v : Value} {l : List Rng} (h : SetQ w base v l) (hc : Chg T base w w') (hT : ∀ e, e ∈ T → e ≠ TRng) : SetQ w' base v l := ⟨h.1.chg hc hT, h.2⟩
theorem SetQ.nil (w : World) (base : Nat) : SetQ w base (.slice none 0 0) [] := ⟨SetIn.nil w base, fun b o n c e => by injection e with e; cases e⟩
theorem SetQ.next {w w' : World} {base : Nat} {v : Value} {l : List Rng} (h : SetQ w base v l) (hb : Below w.heap.size w w') : SetQ w' base v l := h.chg (Chg.of_below (T := TA) hb) TA_ne
/-- An edge's three cells. -/
structure REdgeQ (w : World) (base : Nat) (f : Nat → Value) (x : Ed) : Prop where
  to : RI (f 0) x.to
  free : f 1 = .bool x.free
  set : SetQ w base (f 2) x.set
/-- A row of edges of the call's own. -/
abbrev OwnRowQ (w : World) (base : Nat) (v : Value) (es : List Ed) : Prop := OwnK w base TEdge 3 (REdgeQ w base) v es

/-- The rows of an automaton under way. -/
structure RowsQ (w : World) (base n : Nat) (rows : List Value) (a : Au) : Prop where
  len : rows.length = n
  n : n = a.length
  row : ∀ (i : Nat) es, a[i]? = some es → ∃ r, rows[i]? = some r ∧ OwnRowQ w base r es
  ne : ∀ (i j : Nat) r r', i ≠ j → rows[i]? = some r → rows[j]? = some r' → r.ownBlock = none ∨ r.ownBlock ≠ r'.ownBlock
/-- An automaton under way: its slice of rows. -/
def AuQ (w : World) (base : Nat) (A : Option Addr) (n c : Nat) (a : Au) : Prop :=
  ∃ rows, w.ownsRow base TRow 1 (.slice A n c) n rows ∧ RowsQ w base n rows a

theorem OwnRowQ.chg {w w' : World} {base : Nat} {v : Value} {es : List Ed} (h : OwnRowQ w base v es) (hc : Chg TA base w w') (hb : ∀ g, v.ownBlock = some g → w'.heap[g]? = w.heap[g]?) : OwnRowQ w' base v es := by
  obtain ⟨A, c, us, rfl, ⟨h0, h1⟩, k⟩ := h
  refine ⟨A, c, us, rfl, ⟨h0, ?_⟩, k.mono fun f x _ h => ⟨h.1, h.2, h.3.chg hc TA_ne⟩⟩
  rcases h1 with h1 | ⟨g, cap, cur, hv, hg, hh, r⟩
  · exact .inl h1
  · exact .inr ⟨g, cap, cur, hv, hg, (hb g (by rw [hv]; rfl)).trans hh, r⟩
theorem RowsQ.below {w w' : World} {base n : Nat} {rows : List Value} {a : Au} (h : RowsQ w base n rows a) (hb : Below w.heap.size w w') : RowsQ w' base n rows a :=
  ⟨h.1, h.2, fun i es he => by
    obtain ⟨r, hr, ho⟩ := h.3 i es he
    obtain ⟨A, c, us, rfl, ow, _⟩ := id ho
    exact ⟨_, hr, ho.chg (Chg.of_below hb) fun g hg => hb.block g (ow.lt g hg).2⟩, h.4⟩
theorem AuQ.next {w w' : World} {base n c : Nat} {A : Option Addr} {a : Au} (h : AuQ w base A n c a) (hb : Below w.heap.size w w') : AuQ w' base A n c a := by
  obtain ⟨rows, h1, h2⟩ := h
  exact ⟨rows, ownsRow_below h1 hb, h2.below hb⟩
theorem AuQ.len {w : World} {base n c : Nat} {A : Option Addr} {a : Au} (h : AuQ w base A n c a) : n = a.length := by obtain ⟨rows, _, h2⟩ := h; exact h2.n

/-- One state more. -/
theorem RowsQ.state {w w2 : World} {base n c c' : Nat} {A A' : Option Addr} {rows : List Value} {a : Au} (h1 : w.ownsRow base TRow 1 (.slice A n c) n rows) (h : RowsQ w base n rows a)
    (gr : (w.alloc (.cells #[.slice none 0 0] TRow)).grownBy w2 (Value.slice A n c).ownBlock) (own : w2.ownsRow base TRow 1 (.slice A' (n + 1) c') (n + 1) (rows ++ [.slice none 0 0])) :
    AuQ w2 base A' (n + 1) c' (a ++ [[]]) ∧ Chg TA base w w2 := by
  have hchg : Chg TA base w w2 := ⟨gr.os, gr.tape, gr.output, Nat.le_trans (by simp) gr.size, fun b hb hc => by
    refine (gr.block b (by simp; omega) fun e => ?_).trans (Below.heap_alloc w _ b hb)
    obtain ⟨hlt, _⟩ := h1.lt b e.symm
    rcases hc with hc | hc
    · omega
    · refine hc TRow (by simp) ?_
      rcases h1.2 with ⟨hv, _⟩ | ⟨g, cap, cur, hv, _, hh, _⟩
      · rw [hv] at e; simp [Value.ownBlock] at e
      · rw [hv] at e
        have : b = g := by simpa [Value.ownBlock] using e
        subst this
        exact ⟨cur, hh⟩⟩
  refine ⟨⟨_, own, by simp [h.len], by simp [h.n], fun i es he => ?_, fun i j r r' hij hr hr' => ?_⟩, hchg⟩
  · by_cases hi : i < a.length
    · rw [List.getElem?_append_left hi] at he
      obtain ⟨r, hr, ho⟩ := h.row i es he
      refine ⟨r, by rw [List.getElem?_append_left (by rw [h.len, h.n]; exact hi)]; exact hr, ho.chg hchg fun g hg => ?_⟩
      obtain ⟨B, cc, us, rfl, ow, _⟩ := id ho
      have hlt := (ow.lt g hg).2
      refine (gr.block g (by simp; omega) fun e => ?_).trans (Below.heap_alloc w _ g hlt)
      rcases own_ne ow h1 (by decide) with hh | hh
      · rw [hh] at hg; cases hg
      · exact hh (by rw [hg, e])
    · rw [List.getElem?_append_right (by omega)] at he
      have hi' : i - a.length = 0 := by
        have := lt_of_get he; simp at this; omega
      rw [hi'] at he
      simp at he; subst he
      refine ⟨.slice none 0 0, ?_, OwnK.nil⟩
      rw [List.getElem?_append_right (by rw [h.len, h.n]; omega), h.len, h.n, hi']
      rfl
  · have far : ∀ {i : Nat} {r : Value}, (rows ++ [Value.slice none 0 0])[i]? = some r → ¬ i < rows.length → r = .slice none 0 0 := fun {i r} hr hi => by
      rw [List.getElem?_append_right (by omega)] at hr
      have : i - rows.length = 0 := by have := lt_of_get hr; simp at this; omega
      rw [this] at hr; simpa using hr.symm
    by_cases hi : i < rows.length
    · by_cases hj : j < rows.length
      · rw [List.getElem?_append_left hi] at hr
        rw [List.getElem?_append_left hj] at hr'
        exact h.ne i j r r' hij hr hr'
      · rw [far hr' hj]
        cases hb : r.ownBlock with
        | none => exact .inl rfl
        | some g => exact .inr (by simp [Value.ownBlock])
    · rw [far hr hi]; exact .inl rfl

/-- What there is to know of a row, ahead of an edge. -/
theorem RowsQ.get {w : World} {base n c : Nat} {A : Option Addr} {rows : List Value} {a : Au} (h1 : w.ownsRow base TRow 1 (.slice A n c) n rows) (h : RowsQ w base n rows a) {s : Nat} (hs : s < n) :
    ∃ g B m cc us es, A = some ⟨g, 0, none⟩ ∧ base ≤ g ∧ g < w.heap.size ∧ w.cell? ⟨g, s, none⟩ = some (.slice B m cc) ∧ w.frozen? ⟨g, s, none⟩ = false ∧ a[s]? = some es ∧ m = es.length ∧
      rows[s]? = some (.slice B m cc) ∧ w.ownsRow base TEdge 3 (.slice B m cc) m us ∧ RelK 3 (REdgeQ w base) us es := by
  have hes : a[s]? = some (a[s]'(by rw [← h.n]; exact hs)) := List.getElem?_eq_getElem _
  obtain ⟨r, hr, B, cc, us, rfl, ow, hk⟩ := h.row s _ hes
  rcases h1.2 with ⟨hv, h0⟩ | ⟨g, cap, cur, hv, hg, hh, hnc, hcm, hcs, htk⟩
  · omega
  · injection hv with e1 _ e3
    subst e1; subst e3
    have hlt : g < w.heap.size := by
      rcases Nat.lt_or_ge g w.heap.size with hlt | hge
      · exact hlt
      · rw [Array.getElem?_eq_none hge] at hh; cases hh
    have hcur : cur[s]? = some (.slice B (a[s]'(by rw [← h.n]; exact hs)).length cc) := by
      have h2 : (cur.toList.take (n * 1))[s]? = some (.slice B (a[s]'(by rw [← h.n]; exact hs)).length cc) := by rw [htk]; exact hr
      rw [List.getElem?_take] at h2
      split at h2
      · simpa using h2
      · cases h2
    exact ⟨g, B, _, cc, us, _, rfl, hg, hlt, by simp [World.cell?, hh, hcur], by simp [World.frozen?, hh], hes, rfl, hr, ow, hk⟩

/-- One edge more. -/
theorem RowsQ.edge {w w1 w2 : World} {base n c s g m cc cc' : Nat} {B B' : Option Addr} {rows us : List Value} {a : Au} {es : List Ed} {x : Ed} {sv : Value} (h1 : w.ownsRow base TRow 1 (.slice (some ⟨g, 0, none⟩) n c) n rows) (h : RowsQ w base n rows a)
    (hs : s < n) (hes : a[s]? = some es) (hm : m = es.length) (hrow : rows[s]? = some (.slice B m cc)) (ow : w.ownsRow base TEdge 3 (.slice B m cc) m us) (hk : RelK 3 (REdgeQ w base) us es)
    (hx : SetQ w base sv x.set) (hto : -9223372036854775808 ≤ x.to ∧ x.to ≤ 9223372036854775807) (hw1 : w1 = w.alloc (.cells #[.int .i64 x.to, .bool x.free, sv] TEdge))
    (gr : w1.grownBy w2 (Value.slice B m cc).ownBlock) (own : w2.ownsRow base TEdge 3 (.slice B' (m + 1) cc') (m + 1) (us ++ [.int .i64 x.to, .bool x.free, sv]))
    (hnew : (Value.slice B' (m + 1) cc').ownBlock = (Value.slice B m cc).ownBlock ∨ (Value.slice B' (m + 1) cc').ownBlock = some w1.heap.size) :
    AuQ (w2.setCell ⟨g, s, none⟩ (.slice B' (m + 1) cc')) base (some ⟨g, 0, none⟩) n c (auEdge a s x) ∧ Chg TA base w (w2.setCell ⟨g, s, none⟩ (.slice B' (m + 1) cc')) := by
  subst hw1
  have hal : ∀ b, b < w.heap.size → (w.alloc (.cells #[.int .i64 x.to, .bool x.free, sv] TEdge)).heap[b]? = w.heap[b]? := fun b hb => Below.heap_alloc w _ b hb
  have hg0 : w.heap.size ≤ (w.alloc (.cells #[.int .i64 x.to, .bool x.free, sv] TEdge)).heap.size := by simp
  obtain ⟨cap, cur, hb, hh, hnc, hcm, hcs, htk, rfl⟩ : ∃ cap cur, base ≤ g ∧ w.heap[g]? = some (.cells cur TRow (0, 0)) ∧ n ≤ cap ∧ cap ≤ maxLen ∧ cur.size = cap * 1 ∧ cur.toList.take (n * 1) = rows ∧ c = cap := by
    rcases h1.2 with ⟨hv, h0⟩ | ⟨g', cap, cur, hv, hg, hh, hnc, hcm, hcs, htk⟩
    · injection hv with e; cases e
    · injection hv with e1 _ e3
      injection e1 with e1
      injection e1 with e1 _
      subst e1; subst e3
      exact ⟨c, cur, hg, hh, hnc, hcm, hcs, htk, rfl⟩
  have hglt : g < w.heap.size := by
    rcases Nat.lt_or_ge g w.heap.size with hlt | hge
    · exact hlt
    · rw [Array.getElem?_eq_none hge] at hh; cases hh
  have hgne : (Value.slice B m cc).ownBlock ≠ some g := fun e => by
    rcases own_ne ow h1 (by decide) with h' | h'
    · rw [h'] at e; cases e
    · exact h' (by rw [e]; rfl)
  have hg2 : w2.heap[g]? = some (.cells cur TRow (0, 0)) := ((gr.block g (by omega) (fun e => hgne e.symm)).trans (hal g hglt)).trans hh
  have hblk : Blk w2 g TRow cur := hg2
  have hold : ∀ b, b < w.heap.size → b ≠ g → some b ≠ (Value.slice B m cc).ownBlock → (w2.setCell ⟨g, s, none⟩ (.slice B' (m + 1) cc')).heap[b]? = w.heap[b]? := fun b hb h1 h2 =>
    ((Below.heap_setCell w2 ⟨g, s, none⟩ (.slice B' (m + 1) cc') b h1).trans (gr.block b (by omega) h2)).trans (hal b hb)
  have hchg : Chg TA base w (w2.setCell ⟨g, s, none⟩ (.slice B' (m + 1) cc')) := ⟨gr.os, gr.tape, gr.output, by have := gr.size; simp at this; simp; omega, fun b hb' hc => by
    refine hold b hb' (fun e => ?_) (fun e => ?_)
    · subst e
      rcases hc with hc | hc
      · omega
      · exact hc TRow (by simp) ⟨cur, hh⟩
    · rcases hc with hc | hc
      · have := (ow.lt b e.symm).1; omega
      · refine hc TEdge (by simp) ?_
        rcases ow.2 with ⟨hv, _⟩ | ⟨g', cap', cur', hv, _, hh', _⟩
        · rw [hv] at e; simp [Value.ownBlock] at e
        · rw [hv] at e
          have : b = g' := by simpa [Value.ownBlock] using e
          subst this
          exact ⟨cur', hh'⟩⟩
  have hlen : rows.length = n := h.len
  refine ⟨⟨rows.set s (.slice B' (m + 1) cc'), ⟨by simp [hlen], .inr ⟨g, c, cur.setIfInBounds s (.slice B' (m + 1) cc'), rfl, hb, hblk.set s _, hnc, hcm, by simpa using hcs, ?_⟩⟩, by simp [hlen], by rw [auEdge_length]; exact h.n, fun i e he => ?_, fun i j r r' hij hr hr' => ?_⟩, hchg⟩
  · rw [← htk]
    simp [List.take_set]
  · simp only [auEdge, List.getElem?_modify] at he
    by_cases hi : s = i
    · subst hi
      rw [hes] at he
      simp at he
      subst he
      refine ⟨.slice B' (m + 1) cc', by rw [List.getElem?_set_self (by rw [hlen]; exact hs)], B', cc', us ++ [.int .i64 x.to, .bool x.free, sv], by simp [hm], ?_, ?_⟩
      · rw [show (es ++ [x]).length = m + 1 by simp [hm]]
        exact ownsRow_setFar own hblk (by decide) s _
      · refine (hk.mono fun f y _ h => ⟨h.1, h.2, h.3.chg hchg TA_ne⟩).app (RelK.one (f := fun j => [Value.int .i64 x.to, .bool x.free, sv].getD j undef) rfl ?_ ⟨⟨rfl, hto⟩, rfl, hx.chg hchg TA_ne⟩)
        intro j hj
        match j, hj with
        | 0, _ => rfl
        | 1, _ => rfl
        | 2, _ => rfl
    · simp [hi] at he
      obtain ⟨r, hr, ho⟩ := h.row i e he
      refine ⟨r, by rw [List.getElem?_set_ne hi]; exact hr, ho.chg hchg fun q hq => ?_⟩
      obtain ⟨C, c2, us2, rfl, ow2, _⟩ := id ho
      have hlt := (ow2.lt q hq).2
      refine hold q hlt (fun e => ?_) (fun e => ?_)
      · subst e
        rcases own_ne ow2 h1 (by decide) with h' | h'
        · rw [h'] at hq; cases hq
        · exact h' (by rw [hq]; rfl)
      · rcases h.ne i s _ _ (fun e => hi e.symm) hr hrow with h' | h'
        · rw [h'] at hq; cases hq
        · exact h' (by rw [hq, e])
  · have old : ∀ {i : Nat} {r : Value}, (rows.set s (.slice B' (m + 1) cc'))[i]? = some r → i ≠ s → rows[i]? = some r := fun {i r} hr hi => by
      rw [List.getElem?_set_ne (fun e => hi e.symm)] at hr; exact hr
    have at' : ∀ {r : Value}, (rows.set s (.slice B' (m + 1) cc'))[s]? = some r → r = .slice B' (m + 1) cc' := fun {r} hr => by
      rw [List.getElem?_set_self (by rw [hlen]; exact hs)] at hr; exact (Option.some.inj hr).symm
    have low : ∀ {i : Nat} {r : Value} {q : Nat}, rows[i]? = some r → r.ownBlock = some q → q < w.heap.size := fun {i r q} hr hq => by
      have hi : i < a.length := by have := lt_of_get hr; rw [hlen, h.n] at this; exact this
      obtain ⟨r2, hr2, C, c2, us2, rfl, ow2, _⟩ := h.row i _ (List.getElem?_eq_getElem hi)
      obtain rfl := Option.some.inj (hr2.symm.trans hr)
      exact (ow2.lt q hq).2
    have apart : ∀ {i : Nat} {r : Value}, i ≠ s → rows[i]? = some r → r.ownBlock = none ∨ r.ownBlock ≠ (Value.slice B' (m + 1) cc').ownBlock := fun {i r} hi hr => by
      cases hq : r.ownBlock with
      | none => exact .inl rfl
      | some q =>
        refine .inr fun e => ?_
        rcases hnew with hn | hn
        · rcases h.ne i s _ _ hi hr hrow with h' | h'
          · rw [h'] at hq; cases hq
          · exact h' (by rw [hq, e, hn])
        · rw [hn] at e
          injection e with e
          have := low hr hq
          omega
    by_cases hi : i = s
    · subst hi
      rw [at' hr]
      have hj := old hr' (fun e => hij e.symm)
      rcases apart (fun e => hij e.symm) hj with h' | h'
      · cases hq : (Value.slice B' (m + 1) cc').ownBlock with
        | none => exact .inl rfl
        | some q => exact .inr (by rw [h']; simp)
      · exact .inr fun e => h' e.symm
    · by_cases hj : j = s
      · subst hj
        rw [at' hr']
        exact apart hi (old hr hi)
      · exact h.ne i j r r' hij (old hr hi) (old hr' hj)


theorem AuQ.setFar {w : World} {base n c g i : Nat} {A : Option Addr} {a : Au} {t : TypeId} {cs : Array Value} {u : Value} (h : AuQ w base A n c a) (hb : Blk w g t cs) (ht : ∀ e, e ∈ TA → e ≠ t) (ht2 : t ≠ TRng) (hg : base ≤ g) : AuQ (w.setCell ⟨g, i, none⟩ u) base A n c a := by
  obtain ⟨rows, h1, h2⟩ := h
  have hold : ∀ b, b ≠ g → (w.setCell ⟨g, i, none⟩ u).heap[b]? = w.heap[b]? := fun b hb => Below.heap_setCell w ⟨g, i, none⟩ u b hb
  have hs : ∀ v l, SetQ w base v l → SetQ (w.setCell ⟨g, i, none⟩ u) base v l := fun v l h => ⟨SetIn.setFar hb ht2 hg v l h.1, h.2⟩
  refine ⟨rows, ownsRow_setFar h1 hb (ht TRow (by simp)) i u, h2.len, h2.n, fun j es he => ?_, h2.ne⟩
  obtain ⟨r, hr, A', c', us, rfl, ow, hk⟩ := h2.row j es he
  exact ⟨_, hr, A', c', us, rfl, ownsRow_setFar ow hb (ht TEdge (by simp)) i u, hk.mono fun f x _ h => ⟨h.1, h.2, hs _ _ h.3⟩⟩

end Go.Proofs.YtilhicefhhgecaaGreatDoor

namespace Go.Proofs.YtilhicefhhgecaaGreatDoor
open Go.RowKit Pv

abbrev TMk : TypeId := 79
/-- .. what the program's maker turns besides. -/
abbrev TB : List TypeId := [TRow, TEdge, TMk]
theorem TA_TB : ∀ e, e ∈ TA → e ∈ TB := by decide
theorem TA_mk : ∀ e, e ∈ TA → e ≠ TMk := by decide
/-- The maker: its automaton, what it reads. -/
structure MkAt (w : World) (base pm : Nat) (A : Option Addr) (n c : Nat) (acc : Int) (x2 x3 : Value) (a : Au) : Prop where
  b : Blk w pm TMk #[.slice A n c, .int .i64 acc, x2, x3]
  au : AuQ w base A n c a
  ge : base ≤ pm
theorem MkAt.next {w w' : World} {base pm n c : Nat} {A : Option Addr} {acc : Int} {x2 x3 : Value} {a : Au} (h : MkAt w base pm A n c acc x2 x3 a) (hb : Below w.heap.size w w') : MkAt w' base pm A n c acc x2 x3 a := ⟨h.b.below hb h.b.lt, h.au.next hb, h.ge⟩
theorem Chg.setT {T : List TypeId} {base g i : Nat} {w w' : World} {t : TypeId} {cs : Array Value} {u : Value} (h : Chg T base w w') (hb : Blk w g t cs) (ht : t ∈ T) (hg : base ≤ g) : Chg T base w (w'.setCell ⟨g, i, none⟩ u) :=
  ⟨h.os, h.tape, h.output, by simpa using h.size, fun b hbb hc => (Below.heap_setCell w' ⟨g, i, none⟩ u b (fun e => by
    simp only at e
    subst e
    rcases hc with hc | hc
    · omega
    · exact hc t ht ⟨cs, hb⟩)).trans (h.block b hbb hc)⟩
/-- What the maker's new state leaves. -/
def MkState (w : World) (base pm n : Nat) (acc : Int) (x2 x3 : Value) (a : Au) (e : Ending) (w' : World) : Prop :=
  ∃ A' c', e = .returned (.int .i64 n) ∧ MkAt w' base pm A' (n + 1) c' acc x2 x3 (a ++ [[]]) ∧ Chg TB base w w'

set_option maxHeartbeats 1000000 in
set_option maxRecDepth 100000 in
theorem maker_state (A : Option Addr) (n c base pm : Nat) (acc : Int) (x2 x3 : Value) (a : Au) (w : World) (h : MkAt w base pm A n c acc x2 x3 a) (hb : base ≤ w.heap.size) (hn : n ≤ 1000) :
    Calls Tryz.prog 43 #[.pointer (some ⟨pm, 0, none⟩)] w (MkState w base pm n acc x2 x3 a) := by
  obtain ⟨i0, hi0, hz0, hs0, hb0⟩ := info_parts info_row
  obtain ⟨rows, ow, hr⟩ := h.au
  have OW := Lib.hid (ow.alloc (.cells #[.slice none 0 0] TRow)); have OW0 := Lib.hid ow; have HR := Lib.hid hr
  have SRC := Lib.hid (Pv.Src.one (w := w) (x := .slice none 0 0) (t := TRow) rfl)
  have Q1 : Hid (n + 1 ≤ maxLen) := Lib.hid (by simp only [maxLen]; omega)
  have Q2 : Hid ((n + 1) * 24 ≤ 140737488355328) := Lib.hid (by omega)
  have Q3 : Hid (base ≤ (w.alloc (.cells #[.slice none 0 0] TRow)).heap.size) := Lib.hid (by simp; omega)
  have BK := Lib.hid h.b
  have HGE := Lib.hid h.ge
  have m0 := h.b.cell 0
  have m1 := h.b.frozen 0
  clear h ow hr
  go_enter Tryz.func43, Tryz.ntmps43
  go_wp2_with (at_builtin
               go_must (refine wpList_append_src _ rfl (.tmp 8) (.tmp 9) 33 rfl base TRow i0 (.slice none 0 0) 1 24 Tryz.underlying33 hi0 hz0 hs0 hb0 rfl (by decide) A c n rows rfl OW.out _ 1 1 _ rfl SRC.out Q1.out Q2.out Q3.out ?_)
               intro A4 c4 w4 own4 gr4 _
               have ST := Lib.hid (RowsQ.state OW0.out HR.out gr4 own4)
               have B1 := Lib.hid (ST.out.2.blk BK.out TA_mk)
               have f0 := B1.out.cell 0
               have f1 := B1.out.frozen 0
               clear gr4 own4 m0 m1)
  go_ret
  have B2 : Blk (w4.setCell ⟨pm, 0, none⟩ (.slice A4 (n + 1) c4)) pm TMk #[.slice A4 (n + 1) c4, .int .i64 acc, x2, x3] := B1.out.set 0 (.slice A4 (n + 1) c4)
  exact ⟨A4, c4, by simp, ⟨B2, ST.out.1.setFar (i := 0) (u := .slice A4 (n + 1) c4) B1.out TA_mk (by decide) HGE.out, HGE.out⟩, (ST.out.2.sub TA_TB).setT BK.out (by decide) HGE.out⟩

end Go.Proofs.YtilhicefhhgecaaGreatDoor

namespace Go.Proofs.YtilhicefhhgecaaGreatDoor
open Go.RowKit Pv

/-- What the maker's new edge leaves. -/
def MkEdge (w : World) (base pm n c : Nat) (A : Option Addr) (acc : Int) (x2 x3 : Value) (a : Au) (s : Nat) (x : Ed) (e : Ending) (w' : World) : Prop :=
  e = .returned (.int .i64 x.to) ∧ MkAt w' base pm A n c acc x2 x3 (auEdge a s x) ∧ Chg TB base w w'

set_option maxHeartbeats 2000000 in
set_option maxRecDepth 100000 in
theorem maker_edge (A : Option Addr) (n c base pm s : Nat) (acc : Int) (x2 x3 : Value) (a : Au) (x : Ed) (sA : Option Addr) (sn sc : Nat) (w : World) (h : MkAt w base pm A n c acc x2 x3 a) (hb : base ≤ w.heap.size) (hs : s < n) (hto : -9223372036854775808 ≤ x.to ∧ x.to ≤ 9223372036854775807) (he : edgesN a ≤ 1000000) (hset : SetQ w base (.slice sA sn sc) x.set) :
    Calls Tryz.prog 80 #[.pointer (some ⟨pm, 0, none⟩), .int .i64 s, .agg #[.int .i64 x.to, .bool x.free, .slice sA sn sc]] w (MkEdge w base pm n c A acc x2 x3 a s x) := by
  obtain ⟨i0, hi0, hz0, hs0', hb0⟩ := info_parts info_edge
  have hW : Below w.heap.size w (w.alloc (.cells #[.int .i64 x.to, .bool x.free, .slice sA sn sc] TEdge)) := (Below.refl _ _).alloc (Nat.le_refl _) _
  obtain ⟨rows, ow, hr⟩ := h.au
  obtain ⟨g, B, m, cc, us, es, rfl, hbg, hgl, hcell, hfz, hes, hm, hrow, owr, hk⟩ := hr.get ow hs
  have hme : m ≤ 1000000 := by have := le_edgesN hes; omega
  have hbx := Blk.new w TEdge #[.int .i64 x.to, .bool x.free, .slice sA sn sc]
  have OW0 := Lib.hid (ow.alloc (.cells #[.int .i64 x.to, .bool x.free, .slice sA sn sc] TEdge)); have HR := Lib.hid (hr.below hW); have HES := Lib.hid hes; have HM := Lib.hid hm; have HROW := Lib.hid hrow
  have OWR := Lib.hid (owr.alloc (.cells #[.int .i64 x.to, .bool x.free, .slice sA sn sc] TEdge))
  have HK := Lib.hid (hk.mono fun f y _ h => (⟨h.1, h.2, h.3.next hW⟩ : REdgeQ (w.alloc (.cells #[.int .i64 x.to, .bool x.free, .slice sA sn sc] TEdge)) base f y))
  have SI := Lib.hid (hset.next hW)
  have HNB := Lib.hid (fun q (hq : (Value.slice B m cc).ownBlock = some q) => (owr.lt q hq).2)
  have OW : Hid ((((w.alloc (.cells #[.int .i64 x.to, .bool x.free, .slice sA sn sc] TEdge)).alloc (.cells #[.int .i64 x.to, .bool x.free, .slice sA sn sc] TEdge)).drew).ownsRow base TEdge 3 (.slice B m cc) m us) := Lib.hid (OWR.out.alloc (.cells #[.int .i64 x.to, .bool x.free, .slice sA sn sc] TEdge))
  have SRC0 := (Go.Proofs.YtilhicefhhgecaaGreatDoor.Src.many (w := w.alloc (.cells #[.int .i64 x.to, .bool x.free, .slice sA sn sc] TEdge)) (arr := #[.int .i64 x.to, .bool x.free, .slice sA sn sc]) (t := TEdge) (size := 3) (by simp [Value.oneCell']) rfl).keep (Keep.drew _)
  rw [show (w.alloc (.cells #[.int .i64 x.to, .bool x.free, .slice sA sn sc] TEdge)).heap.size = w.heap.size + 1 by simp] at SRC0
  have SRC := Lib.hid SRC0
  have Q1 : Hid (m + 1 ≤ maxLen) := Lib.hid (by simp only [maxLen]; omega)
  have Q2 : Hid ((m + 1) * 40 ≤ 140737488355328) := Lib.hid (by omega)
  have Q3 : Hid (base ≤ (((w.alloc (.cells #[.int .i64 x.to, .bool x.free, .slice sA sn sc] TEdge)).alloc (.cells #[.int .i64 x.to, .bool x.free, .slice sA sn sc] TEdge)).drew).heap.size) := Lib.hid (by simp; omega)
  have hbm := h.b.alloc (.cells #[.int .i64 x.to, .bool x.free, .slice sA sn sc] TEdge)
  have hcell1 := ((Keep.alloc w (.cells #[.int .i64 x.to, .bool x.free, .slice sA sn sc] TEdge)).cell g s hgl).trans hcell
  have hgl1 : g < (w.alloc (.cells #[.int .i64 x.to, .bool x.free, .slice sA sn sc] TEdge)).heap.size := by simp; omega
  have K1 : Hid ((w.alloc (.cells #[.int .i64 x.to, .bool x.free, .slice sA sn sc] TEdge)).drew.cell? ⟨pm, 0, none⟩ = some (.slice (some ⟨g, 0, none⟩) n c) ∧ (w.alloc (.cells #[.int .i64 x.to, .bool x.free, .slice sA sn sc] TEdge)).drew.cell? ⟨g, s, none⟩ = some (.slice B m cc) ∧ (w.alloc (.cells #[.int .i64 x.to, .bool x.free, .slice sA sn sc] TEdge)).drew.cell? ⟨w.heap.size, 0, none⟩ = some (.int .i64 x.to) ∧ (w.alloc (.cells #[.int .i64 x.to, .bool x.free, .slice sA sn sc] TEdge)).drew.cell? ⟨w.heap.size, 1, none⟩ = some (.bool x.free) ∧ (w.alloc (.cells #[.int .i64 x.to, .bool x.free, .slice sA sn sc] TEdge)).drew.cell? ⟨w.heap.size, 2, none⟩ = some (.slice sA sn sc)) := Lib.hid ⟨hbm.cell 0, hcell1, hbx.cell 0, hbx.cell 1, hbx.cell 2⟩
  have BM2 := Lib.hid (hbm.alloc (.cells #[.int .i64 x.to, .bool x.free, .slice sA sn sc] TEdge))
  have BX2 := Lib.hid (hbx.alloc (.cells #[.int .i64 x.to, .bool x.free, .slice sA sn sc] TEdge))
  have HC2 := Lib.hid (((Keep.alloc (w.alloc (.cells #[.int .i64 x.to, .bool x.free, .slice sA sn sc] TEdge)) (.cells #[.int .i64 x.to, .bool x.free, .slice sA sn sc] TEdge)).cell g s hgl1).trans hcell1)
  have HF2 := Lib.hid ((World.frozen?_of_block (a := ⟨g, s, none⟩) (Below.heap_alloc (w.alloc (.cells #[.int .i64 x.to, .bool x.free, .slice sA sn sc] TEdge)) (.cells #[.int .i64 x.to, .bool x.free, .slice sA sn sc] TEdge) g hgl1)).trans ((World.frozen?_of_block (a := ⟨g, s, none⟩) (Below.heap_alloc w (.cells #[.int .i64 x.to, .bool x.free, .slice sA sn sc] TEdge) g hgl)).trans hfz))
  have K2 : Hid (((w.alloc (.cells #[.int .i64 x.to, .bool x.free, .slice sA sn sc] TEdge)).alloc (.cells #[.int .i64 x.to, .bool x.free, .slice sA sn sc] TEdge)).drew.cell? ⟨pm, 0, none⟩ = some (.slice (some ⟨g, 0, none⟩) n c) ∧ ((w.alloc (.cells #[.int .i64 x.to, .bool x.free, .slice sA sn sc] TEdge)).alloc (.cells #[.int .i64 x.to, .bool x.free, .slice sA sn sc] TEdge)).drew.cell? ⟨g, s, none⟩ = some (.slice B m cc) ∧ ((w.alloc (.cells #[.int .i64 x.to, .bool x.free, .slice sA sn sc] TEdge)).alloc (.cells #[.int .i64 x.to, .bool x.free, .slice sA sn sc] TEdge)).drew.cell? ⟨w.heap.size, 0, none⟩ = some (.int .i64 x.to) ∧ ((w.alloc (.cells #[.int .i64 x.to, .bool x.free, .slice sA sn sc] TEdge)).alloc (.cells #[.int .i64 x.to, .bool x.free, .slice sA sn sc] TEdge)).drew.cell? ⟨w.heap.size, 1, none⟩ = some (.bool x.free) ∧ ((w.alloc (.cells #[.int .i64 x.to, .bool x.free, .slice sA sn sc] TEdge)).alloc (.cells #[.int .i64 x.to, .bool x.free, .slice sA sn sc] TEdge)).drew.cell? ⟨w.heap.size, 2, none⟩ = some (.slice sA sn sc)) := Lib.hid ⟨BM2.out.cell 0, HC2.out, BX2.out.cell 0, BX2.out.cell 1, BX2.out.cell 2⟩
  have HGE := Lib.hid h.ge
  have HBK := Lib.hid h.b
  have HW := Lib.hid hW
  have hs0 : (0 : Int) ≤ (s : Int) := by omega
  clear h hW ow hr hes hm hrow owr hk SRC0 hset hbm hbx hcell1 hcell hfz
  go_enter Tryz.func80, Tryz.ntmps80
  go_wp2
  refine wp_region_T 18 (fun W => W.cell? ⟨pm, 0, none⟩ = some (.slice (some ⟨g, 0, none⟩) n c) ∧ W.cell? ⟨g, s, none⟩ = some (.slice B m cc) ∧ W.cell? ⟨w.heap.size, 0, none⟩ = some (.int .i64 x.to) ∧ W.cell? ⟨w.heap.size, 1, none⟩ = some (.bool x.free) ∧ W.cell? ⟨w.heap.size, 2, none⟩ = some (.slice sA sn sc)) (by kernel_rfl) ?_
  refine wpAnyT_take (i := 0) (v := ?_) rfl (by kernel_rfl) (by kernel_rfl) (by kernel_rfl) (by kernel_rfl) (by kernel_rfl) (fun _ _ _ h => h) (.inl ⟨rfl, ?_⟩) K1.out ?_
  rotate_left
  · intro W__ hW__
    obtain ⟨h1, h2, h3, h4, h5⟩ := hW__
    go_simp
    (try with_reducible rfl)
  simp only [Act.put, List.setIfInBounds_toArray]
  refine wpAnyT_take (i := 1) (v := ?_) rfl (by kernel_rfl) (by kernel_rfl) (by kernel_rfl) (by kernel_rfl) (by kernel_rfl) (fun _ _ _ h => h) (.inl ⟨rfl, ?_⟩) K1.out ?_
  rotate_left
  · intro W__ hW__
    obtain ⟨h1, h2, h3, h4, h5⟩ := hW__
    go_simp
    (try with_reducible rfl)
  simp only [Act.put]
  refine wpAnyT_take (i := 2) (v := ?_) rfl (by kernel_rfl) (by kernel_rfl) (by kernel_rfl) (by kernel_rfl) (by kernel_rfl) (fun _ _ _ h => h) (.inl ⟨rfl, ?_⟩) K1.out ?_
  rotate_left
  · intro W__ hW__
    obtain ⟨h1, h2, h3, h4, h5⟩ := hW__
    go_simp
    (try with_reducible rfl)
  simp only [Act.put]
  refine wpAnyT_take (i := 3) (v := ?_) rfl (by kernel_rfl) (by kernel_rfl) (by kernel_rfl) (by kernel_rfl) (by kernel_rfl) (fun _ _ _ h => h) (.inl ⟨rfl, ?_⟩) K1.out ?_
  rotate_left
  · intro W__ hW__
    obtain ⟨h1, h2, h3, h4, h5⟩ := hW__
    go_simp
    (try with_reducible rfl)
  simp only [Act.put]
  refine wpAnyT_take (i := 4) (v := ?_) rfl (by kernel_rfl) (by kernel_rfl) (by kernel_rfl) (by kernel_rfl) (by kernel_rfl) (fun _ _ _ h => h) (.inl ⟨rfl, ?_⟩) K1.out ?_
  rotate_left
  · intro W__ hW__
    obtain ⟨h1, h2, h3, h4, h5⟩ := hW__
    go_simp
    (try with_reducible rfl)
  simp only [Act.put]
  refine wpAnyT_take (i := 5) (v := ?_) rfl (by kernel_rfl) (by kernel_rfl) (by kernel_rfl) (by kernel_rfl) (by kernel_rfl) (fun _ _ _ h => h) (.inl ⟨rfl, ?_⟩) K1.out ?_
  rotate_left
  · intro W__ hW__
    obtain ⟨h1, h2, h3, h4, h5⟩ := hW__
    go_simp
    (try with_reducible rfl)
  simp only [Act.put]
  refine wpAnyT_take (i := 6) (v := ?_) rfl (by kernel_rfl) (by kernel_rfl) (by kernel_rfl) (by kernel_rfl) (by kernel_rfl) (fun _ _ _ h => h) (.inl ⟨rfl, ?_⟩) K1.out ?_
  rotate_left
  · intro W__ hW__
    obtain ⟨h1, h2, h3, h4, h5⟩ := hW__
    go_simp
    (try with_reducible rfl)
  simp only [Act.put]
  refine wpAnyT_take (i := 7) (v := ?_) rfl (by kernel_rfl) (by kernel_rfl) (by kernel_rfl) (by kernel_rfl) (by kernel_rfl) (fun _ _ _ h => h) (.inl ⟨rfl, ?_⟩) K1.out ?_
  rotate_left
  · intro W__ hW__
    obtain ⟨h1, h2, h3, h4, h5⟩ := hW__
    go_simp
    (try with_reducible rfl)
  simp only [Act.put]
  refine wpAnyT_take (i := 8) (v := ?_) rfl (by kernel_rfl) (by kernel_rfl) (by kernel_rfl) (by kernel_rfl) (by kernel_rfl) (fun _ _ _ h => h) (.inl ⟨rfl, ?_⟩) K1.out ?_
  rotate_left
  · intro W__ hW__
    obtain ⟨h1, h2, h3, h4, h5⟩ := hW__
    go_simp
    (try with_reducible rfl)
  simp only [Act.put]
  refine wpAnyT_take (i := 9) (v := ?_) rfl (by kernel_rfl) (by kernel_rfl) (by kernel_rfl) (by kernel_rfl) (by kernel_rfl) (fun _ _ _ h => h) (.inl ⟨rfl, ?_⟩) K1.out ?_
  rotate_left
  · intro W__ hW__
    obtain ⟨h1, h2, h3, h4, h5⟩ := hW__
    go_simp
    (try with_reducible rfl)
  simp only [Act.put]
  refine wpAnyT_take (i := 10) (v := ?_) rfl (by kernel_rfl) (by kernel_rfl) (by kernel_rfl) (by kernel_rfl) (by kernel_rfl) (fun _ _ _ h => h) (.inl ⟨rfl, ?_⟩) K1.out ?_
  rotate_left
  · intro W__ hW__
    obtain ⟨h1, h2, h3, h4, h5⟩ := hW__
    go_simp
    (try with_reducible rfl)
  simp only [Act.put]
  refine wpAnyT_take (i := 11) (v := ?_) rfl (by kernel_rfl) (by kernel_rfl) (by kernel_rfl) (by kernel_rfl) (by kernel_rfl) (fun _ _ _ h => h) (.inl ⟨rfl, ?_⟩) K1.out ?_
  rotate_left
  · intro W__ hW__
    obtain ⟨h1, h2, h3, h4, h5⟩ := hW__
    go_simp
    (try with_reducible rfl)
  simp only [Act.put]
  refine wpAnyT_take (i := 12) (v := ?_) rfl (by kernel_rfl) (by kernel_rfl) (by kernel_rfl) (by kernel_rfl) (by kernel_rfl) (fun _ _ _ h => h) (.inl ⟨rfl, ?_⟩) K1.out ?_
  rotate_left
  · intro W__ hW__
    obtain ⟨h1, h2, h3, h4, h5⟩ := hW__
    go_simp
    (try with_reducible rfl)
  simp only [Act.put]
  refine wpAnyT_take (i := 13) (v := ?_) rfl (by kernel_rfl) (by kernel_rfl) (by kernel_rfl) (by kernel_rfl) (by kernel_rfl) (fun _ _ _ h => h) (.inl ⟨rfl, ?_⟩) K1.out ?_
  rotate_left
  · intro W__ hW__
    obtain ⟨h1, h2, h3, h4, h5⟩ := hW__
    go_simp
    (try with_reducible rfl)
  simp only [Act.put]
  refine wpAnyT_take (i := 14) (v := ?_) rfl (by kernel_rfl) (by kernel_rfl) (by kernel_rfl) (by kernel_rfl) (by kernel_rfl) (fun _ _ _ h => h) (.inl ⟨rfl, ?_⟩) K1.out ?_
  rotate_left
  · intro W__ hW__
    obtain ⟨h1, h2, h3, h4, h5⟩ := hW__
    go_simp
    (try with_reducible rfl)
  simp only [Act.put]
  refine wpAnyT_one (i := 15) rfl (by kernel_rfl) rfl fun K__ hK__ => ?_
  unfold Oper.wp
  go_simp
  refine hK__ _ _ (K2.out) ?_
  clear hK__
  refine wpAnyT_one (i := 16) rfl (by kernel_rfl) rfl fun K hK => ?_
  refine wp_append_src _ (.tmp 20) (.tmp 22) 135 rfl base TEdge i0 (.agg #[.int .i64 0, .bool false, .slice none 0 0]) 3 40 Tryz.underlying135 hi0 hz0 hs0' hb0 rfl (by decide) B cc m us (by simp [Act.eval]) OW.out _ 1 1 _ (by simp [Act.eval]) SRC.out Q1.out Q2.out Q3.out ?_
  intro B4 c4 w4 own4 gr4 hnew4
  have ED := Lib.hid (RowsQ.edge (x := x) OW0.out HR.out hs HES.out HM.out HROW.out OWR.out HK.out SI.out hto rfl ⟨gr4.os, gr4.tape, gr4.output, gr4.size, gr4.block⟩ own4 hnew4)
  have hne : some g ≠ (Value.slice B m cc).ownBlock := fun e => by
    rcases own_ne OWR.out OW0.out (by decide) with h' | h'
    · rw [h'] at e; cases e
    · exact h' e.symm
  have hgk := gr4.block g (by simp; omega) hne
  have c4' : w4.cell? ⟨g, s, none⟩ = some (.slice B m cc) := (World.cell?_of_block (a := ⟨g, s, none⟩) hgk).trans HC2.out
  have f4' : w4.frozen? ⟨g, s, none⟩ = false := (World.frozen?_of_block (a := ⟨g, s, none⟩) hgk).trans HF2.out
  have BM4 := BM2.out.grown (w' := w4) ⟨gr4.os, gr4.tape, gr4.output, gr4.size, gr4.block⟩ (own_blk_ne OW.out BM2.out (by decide))
  have BX4 := BX2.out.grown (w' := w4) ⟨gr4.os, gr4.tape, gr4.output, gr4.size, gr4.block⟩ (fun e => by have := HNB.out _ e.symm; omega)
  have K3 := Lib.hid (And.intro (BM4.cell 0) (And.intro c4' (And.intro (BX4.cell 0) (And.intro (BX4.cell 1) (BX4.cell 2)))))
  have BX5 := Lib.hid (BX4.far (p := ⟨g, s, none⟩) (by simp; omega) (.slice B4 (m + 1) c4))
  refine hK _ _ K3.out ?_
  clear gr4 own4 hnew4 hne hgk BM4 BX4 hK
  simp only [Act.put, List.setIfInBounds_toArray]
  refine wpAnyT_take (i := 17) (v := ?_) rfl (by kernel_rfl) (by kernel_rfl) (by kernel_rfl) (by kernel_rfl) (by kernel_rfl) (fun _ _ _ h => h) (.inl ⟨rfl, ?_⟩) K3.out ?_
  rotate_left
  · intro W__ hW__
    obtain ⟨h1, h2, h3, h4, h5⟩ := hW__
    go_simp
    (try with_reducible rfl)
  simp only [Act.put]
  refine wpAnyT_end (i := 18) rfl (by kernel_rfl) rfl (by kernel_rfl) fun K__ hK__ => ?_
  unfold Oper.wp
  go_simp
  refine hK__ _ _ ?_
  clear hK__
  refine wpAnyT_done (by kernel_rfl) ?_ _
  have b0 := BX5.out.cell 0
  go_wp2
  go_ret
  exact ⟨rfl, ⟨ED.out.2.blk (HBK.out.alloc _) TA_mk, ED.out.1, HGE.out⟩, (Chg.of_below HW.out).trans (ED.out.2.sub TA_TB)⟩

end Go.Proofs.YtilhicefhhgecaaGreatDoor
