/- Automata under way whose sets are the call's own (printed from the texts for those whose sets may lie before). -/
import Derived.Test.YtjnjbcigbnjmkaaAz
import Derived.Test.YtjnjbcigbnjmkaaBa
namespace Go.Proofs.Ytjnjbcigbnjmkaa
open Go.RowKit Pv

theorem SetIn.setFar {w : World} {base g i : Nat} {t : TypeId} {cs : Array Value} {u : Value} (hb : Blk w g t cs) (ht2 : t ≠ TRng) (hg : base ≤ g) : ∀ v l, SetIn w base v l → SetIn (w.setCell ⟨g, i, none⟩ u) base v l := by
  have hold : ∀ b, b ≠ g → (w.setCell ⟨g, i, none⟩ u).heap[b]? = w.heap[b]? := fun b hb => Below.heap_setCell w ⟨g, i, none⟩ u b hb
  rintro v l ⟨A, c, e, hs, hc, hh⟩
  have key : ∀ b o, A = some ⟨b, o, none⟩ → 0 < l.length → b ≠ g := fun b o e hp hbg => by
    rcases hh hp b o e with h | ⟨cs', hcs'⟩
    · omega
    · subst hbg
      unfold Blk at hb
      rw [hb] at hcs'
      injection hcs' with hcs'
      injection hcs' with _ h1
      exact ht2 h1
  refine ⟨A, c, e, AtK.chg hs (by simp) fun b o e hp _ => hold b (key b o e hp), hc, fun hp b o e => ?_⟩
  rcases hh hp b o e with h | ⟨cs', hcs'⟩
  · exact .inl h
  · exact .inr ⟨cs', (hold b (key b o e hp)).trans hcs'⟩

/-- A set of the call's own. -/
def SetQ (w : World) (base : Nat) (v : Value) (l : List Rng) : Prop := SetIn w base v l ∧ ∀ b o n c, v = .slice (some ⟨b, o, none⟩) n c → 0 < n → base ≤ b
theorem SetQ.set {w : World} {base : Nat} {v : Value} {l : List Rng} (h : SetQ w base v l) : IsSet w v l := h.1.set
theorem SetQ.one {w : World} {base : Nat} {v : Value} {l : List Rng} (h : SetQ w base v l) : v.oneCell' = true := h.1.one
theorem SetQ.chg {T : List TypeId} {w w' : World} {base : Nat} {v : Value} {l : List Rng} (h : SetQ w base v l) (hc : Chg T base w w') (hT : ∀ e, e ∈ T → e ≠ TRng) : SetQ w' base v l := ⟨h.1.chg hc hT, h.2⟩
theorem SetQ.nil (w : World) (base : Nat) : SetQ w base (.slice none 0 0) [] := ⟨SetIn.nil w base, fun b o n c e => by injection e with e; cases e⟩
theorem SetQ.next {w w' : World} {base : Nat} {v : Value} {l : List Rng} (h : SetQ w base v l) (hb : Below w.heap.size w w') : SetQ w' base v l := h.chg (Chg.of_below (T := TA) hb) TA_ne
/-- An edge's three cells. -/
structure REdgeQ (w : World) (base : Nat) (f : Nat → Value) (x : Ed) : Prop where
  to : RI (f 0) x.to
  free : f 1 = .bool x.free
  set : SetQ w base (f 2) x.set
/-- A row of edges of the call's own. -/
abbrev OwnRowQ (w : World) (base : Nat) (v : Value) (es : List Ed) : Prop := OwnK w base TEdge 3 (REdgeQ w base) v es

/-- The rows of an automaton under way. -/
structure RowsQ (w : World) (base n : Nat) (rows : List Value) (a : Au) : Prop where
  len : rows.length = n
  n : n = a.length
  row : ∀ (i : Nat) es, a[i]? = some es → ∃ r, rows[i]? = some r ∧ OwnRowQ w base r es
  ne : ∀ (i j : Nat) r r', i ≠ j → rows[i]? = some r → rows[j]? = some r' → r.ownBlock = none ∨ r.ownBlock ≠ r'.ownBlock
/-- An automaton under way: its slice of rows. -/
def AuQ (w : World) (base : Nat) (A : Option Addr) (n c : Nat) (a : Au) : Prop :=
  ∃ rows, w.ownsRow base TRow 1 (.slice A n c) n rows ∧ RowsQ w base n rows a

theorem OwnRowQ.chg {w w' : World} {base : Nat} {v : Value} {es : List Ed} (h : OwnRowQ w base v es) (hc : Chg TA base w w') (hb : ∀ g, v.ownBlock = some g → w'.heap[g]? = w.heap[g]?) : OwnRowQ w' base v es := by
  obtain ⟨A, c, us, rfl, ⟨h0, h1⟩, k⟩ := h
  refine ⟨A, c, us, rfl, ⟨h0, ?_⟩, k.mono fun f x _ h => ⟨h.1, h.2, h.3.chg hc TA_ne⟩⟩
  rcases h1 with h1 | ⟨g, cap, cur, hv, hg, hh, r⟩
  · exact .inl h1
  · exact .inr ⟨g, cap, cur, hv, hg, (hb g (by rw [hv]; rfl)).trans hh, r⟩
theorem RowsQ.below {w w' : World} {base n : Nat} {rows : List Value} {a : Au} (h : RowsQ w base n rows a) (hb : Below w.heap.size w w') : RowsQ w' base n rows a :=
  ⟨h.1, h.2, fun i es he => by
    obtain ⟨r, hr, ho⟩ := h.3 i es he
    obtain ⟨A, c, us, rfl, ow, _⟩ := id ho
    exact ⟨_, hr, ho.chg (Chg.of_below hb) fun g hg => hb.block g (ow.lt g hg).2⟩, h.4⟩
theorem AuQ.next {w w' : World} {base n c : Nat} {A : Option Addr} {a : Au} (h : AuQ w base A n c a) (hb : Below w.heap.size w w') : AuQ w' base A n c a := by
  obtain ⟨rows, h1, h2⟩ := h
  exact ⟨rows, ownsRow_below h1 hb, h2.below hb⟩
theorem AuQ.len {w : World} {base n c : Nat} {A : Option Addr} {a : Au} (h : AuQ w base A n c a) : n = a.length := by obtain ⟨rows, _, h2⟩ := h; exact h2.n

/-- One state more. -/
theorem RowsQ.state {w w2 : World} {base n c c' : Nat} {A A' : Option Addr} {rows : List Value} {a : Au} (h1 : w.ownsRow base TRow 1 (.slice A n c) n rows) (h : RowsQ w base n rows a)
    (gr : (w.alloc (.cells #[.slice none 0 0] TRow)).grownBy w2 (Value.slice A n c).ownBlock) (own : w2.ownsRow base TRow 1 (.slice A' (n + 1) c') (n + 1) (rows ++ [.slice none 0 0])) :
    AuQ w2 base A' (n + 1) c' (a ++ [[]]) ∧ Chg TA base w w2 := by
  have hchg : Chg TA base w w2 := ⟨gr.os, gr.tape, gr.output, Nat.le_trans (by simp) gr.size, fun b hb hc => by
    refine (gr.block b (by simp; omega) fun e => ?_).trans (Below.heap_alloc w _ b hb)
    obtain ⟨hlt, _⟩ := h1.lt b e.symm
    rcases hc with hc | hc
    · omega
    · refine hc TRow (by simp) ?_
      rcases h1.2 with ⟨hv, _⟩ | ⟨g, cap, cur, hv, _, hh, _⟩
      · rw [hv] at e; simp [Value.ownBlock] at e
      · rw [hv] at e
        have : b = g := by simpa [Value.ownBlock] using e
        subst this
        exact ⟨cur, hh⟩⟩
  refine ⟨⟨_, own, by simp [h.len], by simp [h.n], fun i es he => ?_, fun i j r r' hij hr hr' => ?_⟩, hchg⟩
  · by_cases hi : i < a.length
    · rw [List.getElem?_append_left hi] at he
      obtain ⟨r, hr, ho⟩ := h.row i es he
      refine ⟨r, by rw [List.getElem?_append_left (by rw [h.len, h.n]; exact hi)]; exact hr, ho.chg hchg fun g hg => ?_⟩
      obtain ⟨B, cc, us, rfl, ow, _⟩ := id ho
      have hlt := (ow.lt g hg).2
      refine (gr.block g (by simp; omega) fun e => ?_).trans (Below.heap_alloc w _ g hlt)
      rcases own_ne ow h1 (by decide) with hh | hh
      · rw [hh] at hg; cases hg
      · exact hh (by rw [hg, e])
    · rw [List.getElem?_append_right (by omega)] at he
      have hi' : i - a.length = 0 := by
        have := lt_of_get he; simp at this; omega
      rw [hi'] at he
      simp at he; subst he
      refine ⟨.slice none 0 0, ?_, OwnK.nil⟩
      rw [List.getElem?_append_right (by rw [h.len, h.n]; omega), h.len, h.n, hi']
      rfl
  · have far : ∀ {i : Nat} {r : Value}, (rows ++ [Value.slice none 0 0])[i]? = some r → ¬ i < rows.length → r = .slice none 0 0 := fun {i r} hr hi => by
      rw [List.getElem?_append_right (by omega)] at hr
      have : i - rows.length = 0 := by have := lt_of_get hr; simp at this; omega
      rw [this] at hr; simpa using hr.symm
    by_cases hi : i < rows.length
    · by_cases hj : j < rows.length
      · rw [List.getElem?_append_left hi] at hr
        rw [List.getElem?_append_left hj] at hr'
        exact h.ne i j r r' hij hr hr'
      · rw [far hr' hj]
        cases hb : r.ownBlock with
        | none => exact .inl rfl
        | some g => exact .inr (by simp [Value.ownBlock])
    · rw [far hr hi]; exact .inl rfl

/-- What there is to know of a row, ahead of an edge. -/
theorem RowsQ.get {w : World} {base n c : Nat} {A : Option Addr} {rows : List Value} {a : Au} (h1 : w.ownsRow base TRow 1 (.slice A n c) n rows) (h : RowsQ w base n rows a) {s : Nat} (hs : s < n) :
    ∃ g B m cc us es, A = some ⟨g, 0, none⟩ ∧ base ≤ g ∧ g < w.heap.size ∧ w.cell? ⟨g, s, none⟩ = some (.slice B m cc) ∧ w.frozen? ⟨g, s, none⟩ = false ∧ a[s]? = some es ∧ m = es.length ∧
      rows[s]? = some (.slice B m cc) ∧ w.ownsRow base TEdge 3 (.slice B m cc) m us ∧ RelK 3 (REdgeQ w base) us es := by
  have hes : a[s]? = some (a[s]'(by rw [← h.n]; exact hs)) := List.getElem?_eq_getElem _
  obtain ⟨r, hr, B, cc, us, rfl, ow, hk⟩ := h.row s _ hes
  rcases h1.2 with ⟨hv, h0⟩ | ⟨g, cap, cur, hv, hg, hh, hnc, hcm, hcs, htk⟩
  · omega
  · injection hv with e1 _ e3
    subst e1; subst e3
    have hlt : g < w.heap.size := by
      rcases Nat.lt_or_ge g w.heap.size with hlt | hge
      · exact hlt
      · rw [Array.getElem?_eq_none hge] at hh; cases hh
    have hcur : cur[s]? = some (.slice B (a[s]'(by rw [← h.n]; exact hs)).length cc) := by
      have h2 : (cur.toList.take (n * 1))[s]? = some (.slice B (a[s]'(by rw [← h.n]; exact hs)).length cc) := by rw [htk]; exact hr
      rw [List.getElem?_take] at h2
      split at h2
      · simpa using h2
      · cases h2
    exact ⟨g, B, _, cc, us, _, rfl, hg, hlt, by simp [World.cell?, hh, hcur], by simp [World.frozen?, hh], hes, rfl, hr, ow, hk⟩

/-- One edge more. -/
theorem RowsQ.edge {w w1 w2 : World} {base n c s g m cc cc' : Nat} {B B' : Option Addr} {rows us : List Value} {a : Au} {es : List Ed} {x : Ed} {sv : Value} (h1 : w.ownsRow base TRow 1 (.slice (some ⟨g, 0, none⟩) n c) n rows) (h : RowsQ w base n rows a)
    (hs : s < n) (hes : a[s]? = some es) (hm : m = es.length) (hrow : rows[s]? = some (.slice B m cc)) (ow : w.ownsRow base TEdge 3 (.slice B m cc) m us) (hk : RelK 3 (REdgeQ w base) us es)
    (hx : SetQ w base sv x.set) (hto : -9223372036854775808 ≤ x.to ∧ x.to ≤ 9223372036854775807) (hw1 : w1 = w.alloc (.cells #[.int .i64 x.to, .bool x.free, sv] TEdge))
    (gr : w1.grownBy w2 (Value.slice B m cc).ownBlock) (own : w2.ownsRow base TEdge 3 (.slice B' (m + 1) cc') (m + 1) (us ++ [.int .i64 x.to, .bool x.free, sv]))
    (hnew : (Value.slice B' (m + 1) cc').ownBlock = (Value.slice B m cc).ownBlock ∨ (Value.slice B' (m + 1) cc').ownBlock = some w1.heap.size) :
    AuQ (w2.setCell ⟨g, s, none⟩ (.slice B' (m + 1) cc')) base (some ⟨g, 0, none⟩) n c (auEdge a s x) ∧ Chg TA base w (w2.setCell ⟨g, s, none⟩ (.slice B' (m + 1) cc')) := by
  subst hw1
  have hal : ∀ b, b < w.heap.size → (w.alloc (.cells #[.int .i64 x.to, .bool x.free, sv] TEdge)).heap[b]? = w.heap[b]? := fun b hb => Below.heap_alloc w _ b hb
  have hg0 : w.heap.size ≤ (w.alloc (.cells #[.int .i64 x.to, .bool x.free, sv] TEdge)).heap.size := by simp
  obtain ⟨cap, cur, hb, hh, hnc, hcm, hcs, htk, rfl⟩ : ∃ cap cur, base ≤ g ∧ w.heap[g]? = some (.cells cur TRow (0, 0)) ∧ n ≤ cap ∧ cap ≤ maxLen ∧ cur.size = cap * 1 ∧ cur.toList.take (n * 1) = rows ∧ c = cap := by
    rcases h1.2 with ⟨hv, h0⟩ | ⟨g', cap, cur, hv, hg, hh, hnc, hcm, hcs, htk⟩
    · injection hv with e; cases e
    · injection hv with e1 _ e3
      injection e1 with e1
      injection e1 with e1 _
      subst e1; subst e3
      exact ⟨c, cur, hg, hh, hnc, hcm, hcs, htk, rfl⟩
  have hglt : g < w.heap.size := by
    rcases Nat.lt_or_ge g w.heap.size with hlt | hge
    · exact hlt
    · rw [Array.getElem?_eq_none hge] at hh; cases hh
  have hgne : (Value.slice B m cc).ownBlock ≠ some g := fun e => by
    rcases own_ne ow h1 (by decide) with h' | h'
    · rw [h'] at e; cases e
    · exact h' (by rw [e]; rfl)
  have hg2 : w2.heap[g]? = some (.cells cur TRow (0, 0)) := ((gr.block g (by omega) (fun e => hgne e.symm)).trans (hal g hglt)).trans hh
  have hblk : Blk w2 g TRow cur := hg2
  have hold : ∀ b, b < w.heap.size → b ≠ g → some b ≠ (Value.slice B m cc).ownBlock → (w2.setCell ⟨g, s, none⟩ (.slice B' (m + 1) cc')).heap[b]? = w.heap[b]? := fun b hb h1 h2 =>
    ((Below.heap_setCell w2 ⟨g, s, none⟩ (.slice B' (m + 1) cc') b h1).trans (gr.block b (by omega) h2)).trans (hal b hb)
  have hchg : Chg TA base w (w2.setCell ⟨g, s, none⟩ (.slice B' (m + 1) cc')) := ⟨gr.os, gr.tape, gr.output, by have := gr.size; simp at this; simp; omega, fun b hb' hc => by
    refine hold b hb' (fun e => ?_) (fun e => ?_)
    · subst e
      rcases hc with hc | hc
      · omega
      · exact hc TRow (by simp) ⟨cur, hh⟩
    · rcases hc with hc | hc
      · have := (ow.lt b e.symm).1; omega
      · refine hc TEdge (by simp) ?_
        rcases ow.2 with ⟨hv, _⟩ | ⟨g', cap', cur', hv, _, hh', _⟩
        · rw [hv] at e; simp [Value.ownBlock] at e
        · rw [hv] at e
          have : b = g' := by simpa [Value.ownBlock] using e
          subst this
          exact ⟨cur', hh'⟩⟩
  have hlen : rows.length = n := h.len
  refine ⟨⟨rows.set s (.slice B' (m + 1) cc'), ⟨by simp [hlen], .inr ⟨g, c, cur.setIfInBounds s (.slice B' (m + 1) cc'), rfl, hb, hblk.set s _, hnc, hcm, by simpa using hcs, ?_⟩⟩, by simp [hlen], by rw [auEdge_length]; exact h.n, fun i e he => ?_, fun i j r r' hij hr hr' => ?_⟩, hchg⟩
  · rw [← htk]
    simp [List.take_set]
  · simp only [auEdge, List.getElem?_modify] at he
    by_cases hi : s = i
    · subst hi
      rw [hes] at he
      simp at he
      subst he
      refine ⟨.slice B' (m + 1) cc', by rw [List.getElem?_set_self (by rw [hlen]; exact hs)], B', cc', us ++ [.int .i64 x.to, .bool x.free, sv], by simp [hm], ?_, ?_⟩
      · rw [show (es ++ [x]).length = m + 1 by simp [hm]]
        exact ownsRow_setFar own hblk (by decide) s _
      · refine (hk.mono fun f y _ h => ⟨h.1, h.2, h.3.chg hchg TA_ne⟩).app (RelK.one (f := fun j => [Value.int .i64 x.to, .bool x.free, sv].getD j undef) rfl ?_ ⟨⟨rfl, hto⟩, rfl, hx.chg hchg TA_ne⟩)
        intro j hj
        match j, hj with
        | 0, _ => rfl
        | 1, _ => rfl
        | 2, _ => rfl
    · simp [hi] at he
      obtain ⟨r, hr, ho⟩ := h.row i e he
      refine ⟨r, by rw [List.getElem?_set_ne hi]; exact hr, ho.chg hchg fun q hq => ?_⟩
      obtain ⟨C, c2, us2, rfl, ow2, _⟩ := id ho
      have hlt := (ow2.lt q hq).2
      refine hold q hlt (fun e => ?_) (fun e => ?_)
      · subst e
        rcases own_ne ow2 h1 (by decide) with h' | h'
        · rw [h'] at hq; cases hq
        · exact h' (by rw [hq]; rfl)
      · rcases h.ne i s _ _ (fun e => hi e.symm) hr hrow with h' | h'
        · rw [h'] at hq; cases hq
        · exact h' (by rw [hq, e])
  · have old : ∀ {i : Nat} {r : Value}, (rows.set s (.slice B' (m + 1) cc'))[i]? = some r → i ≠ s → rows[i]? = some r := fun {i r} hr hi => by
      rw [List.getElem?_set_ne (fun e => hi e.symm)] at hr; exact hr
    have at' : ∀ {r : Value}, (rows.set s (.slice B' (m + 1) cc'))[s]? = some r → r = .slice B' (m + 1) cc' := fun {r} hr => by
      rw [List.getElem?_set_self (by rw [hlen]; exact hs)] at hr; exact (Option.some.inj hr).symm
    have low : ∀ {i : Nat} {r : Value} {q : Nat}, rows[i]? = some r → r.ownBlock = some q → q < w.heap.size := fun {i r q} hr hq => by
      have hi : i < a.length := by have := lt_of_get hr; rw [hlen, h.n] at this; exact this
      obtain ⟨r2, hr2, C, c2, us2, rfl, ow2, _⟩ := h.row i _ (List.getElem?_eq_getElem hi)
      obtain rfl := Option.some.inj (hr2.symm.trans hr)
      exact (ow2.lt q hq).2
    have apart : ∀ {i : Nat} {r : Value}, i ≠ s → rows[i]? = some r → r.ownBlock = none ∨ r.ownBlock ≠ (Value.slice B' (m + 1) cc').ownBlock := fun {i r} hi hr => by
      cases hq : r.ownBlock with
      | none => exact .inl rfl
      | some q =>
        refine .inr fun e => ?_
        rcases hnew with hn | hn
        · rcases h.ne i s _ _ hi hr hrow with h' | h'
          · rw [h'] at hq; cases hq
          · exact h' (by rw [hq, e, hn])
        · rw [hn] at e
          injection e with e
          have := low hr hq
          omega
    by_cases hi : i = s
    · subst hi
      rw [at' hr]
      have hj := old hr' (fun e => hij e.symm)
      rcases apart (fun e => hij e.symm) hj with h' | h'
      · cases hq : (Value.slice B' (m + 1) cc').ownBlock with
        | none => exact .inl rfl
        | some q => exact .inr (by rw [h']; simp)
      · exact .inr fun e => h' e.symm
    · by_cases hj : j = s
      · subst hj
        rw [at' hr']
        exact apart hi (old hr hi)
      · exact h.ne i j r r' hij (old hr hi) (old hr' hj)


theorem AuQ.setFar {w : World} {base n c g i : Nat} {A : Option Addr} {a : Au} {t : TypeId} {cs : Array Value} {u : Value} (h : AuQ w base A n c a) (hb : Blk w g t cs) (ht : ∀ e, e ∈ TA → e ≠ t) (ht2 : t ≠ TRng) (hg : base ≤ g) : AuQ (w.setCell ⟨g, i, none⟩ u) base A n c a := by
  obtain ⟨rows, h1, h2⟩ := h
  have hold : ∀ b, b ≠ g → (w.setCell ⟨g, i, none⟩ u).heap[b]? = w.heap[b]? := fun b hb => Below.heap_setCell w ⟨g, i, none⟩ u b hb
  have hs : ∀ v l, SetQ w base v l → SetQ (w.setCell ⟨g, i, none⟩ u) base v l := fun v l h => ⟨SetIn.setFar hb ht2 hg v l h.1, h.2⟩
  refine ⟨rows, ownsRow_setFar h1 hb (ht TRow (by simp)) i u, h2.len, h2.n, fun j es he => ?_, h2.ne⟩
  obtain ⟨r, hr, A', c', us, rfl, ow, hk⟩ := h2.row j es he
  exact ⟨_, hr, A', c', us, rfl, ownsRow_setFar ow hb (ht TEdge (by simp)) i u, hk.mono fun f x _ h => ⟨h.1, h.2, hs _ _ h.3⟩⟩

end Go.Proofs.Ytjnjbcigbnjmkaa
