/- Walks: whether nodes are great; twins in new memory; whether two patterns are the same. -/
import Derived.Deep.RegionHeld3
import Derived.Deep.RegionLaw
import Derived.Test.YtcmmmgblkbbdnaaGreatDoorPgz
import Derived.Test.YtcmmmgblkbbdnaaGreatDoorHsz
import Derived.Test.YtcmmmgblkbbdnaaGreatDoorTbz
import Derived.Lib.SliceRun
namespace Go.Proofs.YtcmmmgblkbbdnaaGreatDoor
open Go.RowKit Pv

/-- What the answer 'not great' tells. -/
def GreatP (t : List Rx) (q : Nat) (w : World) (e : Ending) (w' : World) : Prop :=
  ∃ g, e = .returned (.bool g) ∧ (g = false → t.length ≤ q ∧ ∀ (i : Nat) x, t[i]? = some x → x.set.length ≤ 60) ∧ w = w'
set_option maxHeartbeats 1000000 in
set_option maxRecDepth 100000 in
theorem ref07_Great (A : Option Addr) (c n q : Nat) (t : List Rx) (w : World) (h : AtRx w A t) (HL : Hid (t.length = n)) (hq : q ≤ 1000) :
    Calls Tryz.prog 22 #[.slice A n c, .int .i64 q] w (GreatP t q w) := by
  have hl : n ≤ 140737488355328 := by have := h.1; rwa [HL.out] at this
  go_enter Tryz.func22, Tryz.ntmps22
  go_wp2
  go_loop [5] (fun i => ∃ k : Nat, i = .int .i64 k ∧ k ≤ n ∧ (∀ (i : Nat) x, i < k → t[i]? = some x → x.set.length ≤ 60)) (fun i => n - (intOf i).toNat)
  case atStart => exact ⟨0, rfl, by omega, by intros; omega⟩
  case round =>
    obtain ⟨k, rfl, hk, hall⟩ := hrel
    have HA := Lib.hid hall; clear hall
    by_cases hlt : k < n
    · by_cases hkq : k < q
      · obtain ⟨b, off, kd, B, cs, m, l, many, least, most, rfl, ⟨y0, y1, y2, y3, y4, y5⟩, hs, HM, hm, _, _, _, _, HX⟩ := h.g5 HL hlt
        have hml : m ≤ 140737488355328 := by have := hs.1; rwa [HM.out] at this
        clear h hs
        by_cases h60 : 60 < m
        · go_wp2
          go_ret
          exact ⟨true, rfl, nofun, rfl⟩
        · go_wp2
          go_round
          case rel => exact ⟨k + 1, by go_num, by omega, fun i x hi hx => by
            by_cases hik : i = k
            · subst hik
              obtain rfl := Option.some.inj (HX.out.symm.trans hx)
              have := HM.out
              simp only; omega
            · exact HA.out i x (by omega) hx⟩
          case measure => simp [intOf]; omega
      · have hd : decide (q < n) = true := decide_eq_true (by omega)
        clear h
        go_wp2
        go_ret
        exact ⟨true, ret_bool (by simp <;> omega), nofun, rfl⟩
    · have : k = n := by omega
      subst this
      clear h
      by_cases hqk : q < k
      · go_wp2
        go_ret
        exact ⟨true, ret_bool (by simp <;> omega), nofun, rfl⟩
      · go_wp2
        go_ret
        exact ⟨false, ret_bool (by simp <;> omega), fun _ => ⟨by rw [HL.out]; omega, fun i x hx => HA.out i x (by have := lt_of_get hx; rwa [HL.out] at this) hx⟩, rfl⟩

end Go.Proofs.YtcmmmgblkbbdnaaGreatDoor

namespace Go.Proofs.YtcmmmgblkbbdnaaGreatDoor
open Go.RowKit Pv

end Go.Proofs.YtcmmmgblkbbdnaaGreatDoor

namespace Go.Proofs.YtcmmmgblkbbdnaaGreatDoor
open Go.RowKit Pv

end Go.Proofs.YtcmmmgblkbbdnaaGreatDoor

namespace Go.Proofs.YtcmmmgblkbbdnaaGreatDoor
open Go.RowKit Pv

/-- A block of elements of a type. -/
def Typed (w : World) (b : Nat) (e : TypeId) : Prop := ∃ cs, w.heap[b]? = some (.cells cs e (0, 0))
/-- What was there is as it was, but for blocks from base on of some types. -/
structure Chg (T : List TypeId) (base : Nat) (w w' : World) : Prop where
  os : w'.os = w.os
  tape : w'.tape = w.tape
  output : w'.output = w.output
  size : w.heap.size ≤ w'.heap.size
  block : ∀ b, b < w.heap.size → (b < base ∨ ∀ e, e ∈ T → ¬ Typed w b e) → w'.heap[b]? = w.heap[b]?
section
variable {T : List TypeId} {base : Nat} {w w' w'' w0 : World}
theorem Chg.refl (T : List TypeId) (base : Nat) (w : World) : Chg T base w w := ⟨rfl, rfl, rfl, Nat.le_refl _, fun _ _ _ => rfl⟩
theorem Chg.trans (h : Chg T base w w') (k : Chg T base w' w'') : Chg T base w w'' :=
  ⟨k.os.trans h.os, k.tape.trans h.tape, k.output.trans h.output, Nat.le_trans h.size k.size, fun b hb hc => by
    have e := h.block b hb hc
    refine (k.block b (Nat.lt_of_lt_of_le hb h.size) ?_).trans e
    rcases hc with hc | hc
    · exact .inl hc
    · exact .inr fun t ht ⟨cs, hcs⟩ => hc t ht ⟨cs, e ▸ hcs⟩⟩
theorem Chg.of_below (h : Below w.heap.size w w') : Chg T base w w' := ⟨h.os, h.tape, h.output, h.size, fun b hb _ => h.block b hb⟩
theorem Chg.below (h : Chg T base w w') (hb : base ≤ w.heap.size) : Below base w w' := ⟨h.os, h.tape, h.output, h.size, fun b hbb => h.block b (by omega) (.inl hbb)⟩
theorem Chg.blk (h : Chg T base w w') {g : Nat} {t : TypeId} {cs : Array Value} (hb : Blk w g t cs) (ht : ∀ e, e ∈ T → e ≠ t) : Blk w' g t cs :=
  (h.block g hb.lt (.inr fun e he ⟨cs', hcs'⟩ => by
    unfold Blk at hb
    rw [hb] at hcs'
    injection hcs' with hcs'
    injection hcs' with _ h1
    exact ht e he h1.symm)).trans hb
theorem Chg.keep (h : Chg T base w w') (k : Keep w0 w) (hb : w0.heap.size ≤ base) (hs : base ≤ w.heap.size) : Keep w0 w' :=
  k.trans' h.size fun x o hx => World.cell?_of_block (a := ⟨x, o, none⟩) (h.block x (by omega) (.inl (by omega)))
theorem Chg.sub {T' : List TypeId} (h : Chg T base w w') (hT : ∀ e, e ∈ T → e ∈ T') : Chg T' base w w' :=
  ⟨h.os, h.tape, h.output, h.size, fun b hb hc => h.block b hb (hc.imp id fun hc e he => hc e (hT e he))⟩
theorem Chg.alloc (h : Chg T base w w') (o : Obj) : Chg T base w (w'.alloc o) := h.trans (Chg.of_below ((Below.refl _ _).alloc (Nat.le_refl _) _))
theorem Chg.drew (h : Chg T base w w') : Chg T base w w'.drew := h.trans (Chg.of_below (Below.refl _ _).drew)
theorem Chg.then (h : Chg T base w w') (k : Below w'.heap.size w' w'') : Chg T base w w'' := h.trans (Chg.of_below k)
theorem Typed.blk {g : Nat} {t : TypeId} {cs : Array Value} (h : Blk w g t cs) : Typed w g t := ⟨cs, h⟩
end

/-- The types of blocks that an automaton under way turns. -/
abbrev TA : List TypeId := [TRow, TEdge]

theorem TA_ne : ∀ e, e ∈ TA → e ≠ TRng := by decide
/-- A set that stays: in memory from before base, or in blocks of ranges. -/
def SetIn (w : World) (base : Nat) (v : Value) (l : List Rng) : Prop :=
  ∃ A c, v = .slice A l.length c ∧ AtSet w A l ∧ l.length ≤ c ∧ (0 < l.length → ∀ b o, A = some ⟨b, o, none⟩ → b < base ∨ Typed w b TRng)
theorem SetIn.set {w : World} {base : Nat} {v : Value} {l : List Rng} (h : SetIn w base v l) : IsSet w v l := by
  obtain ⟨A, c, rfl, h, hc, _⟩ := h; exact ⟨A, c, rfl, h, hc⟩
theorem SetIn.one {w : World} {base : Nat} {v : Value} {l : List Rng} (h : SetIn w base v l) : v.oneCell' = true := by
  obtain ⟨A, c, rfl, _⟩ := h; rfl
theorem AtK.chg {α : Type} {w w' : World} {k : Nat} {A : Option Addr} {R : (Nat → Value) → α → Prop} {xs : List α} (h : AtK w k A R xs) (hs : w.heap.size ≤ w'.heap.size)
    (hb : ∀ b o, A = some ⟨b, o, none⟩ → 0 < xs.length → b < w.heap.size → w'.heap[b]? = w.heap[b]?) : AtK w' k A R xs :=
  ⟨h.1, fun hp => by
    obtain ⟨b, off, e, hlt, hc⟩ := h.2 hp
    have := hb b off e hp hlt
    exact ⟨b, off, e, Nat.lt_of_lt_of_le hlt hs, fun i x hx => by
      obtain ⟨f, hf, hR⟩ := hc i x hx
      exact ⟨f, fun j hj => (World.cell?_of_block (a := ⟨b, off + i * k + j, none⟩) this).trans (hf j hj), hR⟩⟩⟩
theorem SetIn.chg {T : List TypeId} {w w' : World} {base : Nat} {v : Value} {l : List Rng} (h : SetIn w base v l) (hc : Chg T base w w') (hT : ∀ e, e ∈ T → e ≠ TRng) : SetIn w' base v l := by
  obtain ⟨A, c, rfl, hs, hl, hb⟩ := h
  have key : ∀ b o, A = some ⟨b, o, none⟩ → 0 < l.length → b < w.heap.size → w'.heap[b]? = w.heap[b]? := fun b o e hp hlt => by
    refine hc.block b hlt ?_
    rcases hb hp b o e with h | ⟨cs, hcs⟩
    · exact .inl h
    · refine .inr fun t ht ⟨cs', hcs'⟩ => ?_
      rw [hcs] at hcs'
      injection hcs' with hcs'
      injection hcs' with _ h1
      exact hT t ht h1.symm
  refine ⟨A, c, rfl, AtK.chg hs hc.size key, hl, fun hp b o e => ?_⟩
  rcases hb hp b o e with h | ⟨cs, hcs⟩
  · exact .inl h
  · obtain ⟨b', o', e', hlt, _⟩ := hs.2 hp
    rw [e] at e'
    injection e' with e'
    injection e' with e1 _
    subst e1
    exact .inr ⟨cs, (key b o e hp hlt).trans hcs⟩

/-- An edge's three cells. -/
structure REdge (w : World) (base : Nat) (f : Nat → Value) (x : Ed) : Prop where
  to : RI (f 0) x.to
  free : f 1 = .bool x.free
  set : SetIn w base (f 2) x.set
/-- A row of edges of the call's own. -/
abbrev OwnRow (w : World) (base : Nat) (v : Value) (es : List Ed) : Prop := OwnK w base TEdge 3 (REdge w base) v es

/-- The rows of an automaton under way. -/
structure RowsAt (w : World) (base n : Nat) (rows : List Value) (a : Au) : Prop where
  len : rows.length = n
  n : n = a.length
  row : ∀ (i : Nat) es, a[i]? = some es → ∃ r, rows[i]? = some r ∧ OwnRow w base r es
  ne : ∀ (i j : Nat) r r', i ≠ j → rows[i]? = some r → rows[j]? = some r' → r.ownBlock = none ∨ r.ownBlock ≠ r'.ownBlock
/-- An automaton under way: its slice of rows. -/
def AuAt (w : World) (base : Nat) (A : Option Addr) (n c : Nat) (a : Au) : Prop :=
  ∃ rows, w.ownsRow base TRow 1 (.slice A n c) n rows ∧ RowsAt w base n rows a

theorem OwnRow.chg {w w' : World} {base : Nat} {v : Value} {es : List Ed} (h : OwnRow w base v es) (hc : Chg TA base w w') (hb : ∀ g, v.ownBlock = some g → w'.heap[g]? = w.heap[g]?) : OwnRow w' base v es := by
  obtain ⟨A, c, us, rfl, ⟨h0, h1⟩, k⟩ := h
  refine ⟨A, c, us, rfl, ⟨h0, ?_⟩, k.mono fun f x _ h => ⟨h.1, h.2, h.3.chg hc TA_ne⟩⟩
  rcases h1 with h1 | ⟨g, cap, cur, hv, hg, hh, r⟩
  · exact .inl h1
  · exact .inr ⟨g, cap, cur, hv, hg, (hb g (by rw [hv]; rfl)).trans hh, r⟩
theorem RowsAt.below {w w' : World} {base n : Nat} {rows : List Value} {a : Au} (h : RowsAt w base n rows a) (hb : Below w.heap.size w w') : RowsAt w' base n rows a :=
  ⟨h.1, h.2, fun i es he => by
    obtain ⟨r, hr, ho⟩ := h.3 i es he
    obtain ⟨A, c, us, rfl, ow, _⟩ := id ho
    exact ⟨_, hr, ho.chg (Chg.of_below hb) fun g hg => hb.block g (ow.lt g hg).2⟩, h.4⟩
theorem AuAt.next {w w' : World} {base n c : Nat} {A : Option Addr} {a : Au} (h : AuAt w base A n c a) (hb : Below w.heap.size w w') : AuAt w' base A n c a := by
  obtain ⟨rows, h1, h2⟩ := h
  exact ⟨rows, ownsRow_below h1 hb, h2.below hb⟩
theorem AuAt.len {w : World} {base n c : Nat} {A : Option Addr} {a : Au} (h : AuAt w base A n c a) : n = a.length := by obtain ⟨rows, _, h2⟩ := h; exact h2.n

/-- One state more. -/
theorem RowsAt.state {w w2 : World} {base n c c' : Nat} {A A' : Option Addr} {rows : List Value} {a : Au} (h1 : w.ownsRow base TRow 1 (.slice A n c) n rows) (h : RowsAt w base n rows a)
    (gr : (w.alloc (.cells #[.slice none 0 0] TRow)).grownBy w2 (Value.slice A n c).ownBlock) (own : w2.ownsRow base TRow 1 (.slice A' (n + 1) c') (n + 1) (rows ++ [.slice none 0 0])) :
    AuAt w2 base A' (n + 1) c' (a ++ [[]]) ∧ Chg TA base w w2 := by
  have hchg : Chg TA base w w2 := ⟨gr.os, gr.tape, gr.output, Nat.le_trans (by simp) gr.size, fun b hb hc => by
    refine (gr.block b (by simp; omega) fun e => ?_).trans (Below.heap_alloc w _ b hb)
    obtain ⟨hlt, _⟩ := h1.lt b e.symm
    rcases hc with hc | hc
    · omega
    · refine hc TRow (by simp) ?_
      rcases h1.2 with ⟨hv, _⟩ | ⟨g, cap, cur, hv, _, hh, _⟩
      · rw [hv] at e; simp [Value.ownBlock] at e
      · rw [hv] at e
        have : b = g := by simpa [Value.ownBlock] using e
        subst this
        exact ⟨cur, hh⟩⟩
  refine ⟨⟨_, own, by simp [h.len], by simp [h.n], fun i es he => ?_, fun i j r r' hij hr hr' => ?_⟩, hchg⟩
  · by_cases hi : i < a.length
    · rw [List.getElem?_append_left hi] at he
      obtain ⟨r, hr, ho⟩ := h.row i es he
      refine ⟨r, by rw [List.getElem?_append_left (by rw [h.len, h.n]; exact hi)]; exact hr, ho.chg hchg fun g hg => ?_⟩
      obtain ⟨B, cc, us, rfl, ow, _⟩ := id ho
      have hlt := (ow.lt g hg).2
      refine (gr.block g (by simp; omega) fun e => ?_).trans (Below.heap_alloc w _ g hlt)
      rcases own_ne ow h1 (by decide) with hh | hh
      · rw [hh] at hg; cases hg
      · exact hh (by rw [hg, e])
    · rw [List.getElem?_append_right (by omega)] at he
      have hi' : i - a.length = 0 := by
        have := lt_of_get he; simp at this; omega
      rw [hi'] at he
      simp at he; subst he
      refine ⟨.slice none 0 0, ?_, OwnK.nil⟩
      rw [List.getElem?_append_right (by rw [h.len, h.n]; omega), h.len, h.n, hi']
      rfl
  · have far : ∀ {i : Nat} {r : Value}, (rows ++ [Value.slice none 0 0])[i]? = some r → ¬ i < rows.length → r = .slice none 0 0 := fun {i r} hr hi => by
      rw [List.getElem?_append_right (by omega)] at hr
      have : i - rows.length = 0 := by have := lt_of_get hr; simp at this; omega
      rw [this] at hr; simpa using hr.symm
    by_cases hi : i < rows.length
    · by_cases hj : j < rows.length
      · rw [List.getElem?_append_left hi] at hr
        rw [List.getElem?_append_left hj] at hr'
        exact h.ne i j r r' hij hr hr'
      · rw [far hr' hj]
        cases hb : r.ownBlock with
        | none => exact .inl rfl
        | some g => exact .inr (by simp [Value.ownBlock])
    · rw [far hr hi]; exact .inl rfl

/-- What there is to know of a row, ahead of an edge. -/
theorem RowsAt.get {w : World} {base n c : Nat} {A : Option Addr} {rows : List Value} {a : Au} (h1 : w.ownsRow base TRow 1 (.slice A n c) n rows) (h : RowsAt w base n rows a) {s : Nat} (hs : s < n) :
    ∃ g B m cc us es, A = some ⟨g, 0, none⟩ ∧ base ≤ g ∧ g < w.heap.size ∧ w.cell? ⟨g, s, none⟩ = some (.slice B m cc) ∧ w.frozen? ⟨g, s, none⟩ = false ∧ a[s]? = some es ∧ m = es.length ∧
      rows[s]? = some (.slice B m cc) ∧ w.ownsRow base TEdge 3 (.slice B m cc) m us ∧ RelK 3 (REdge w base) us es := by
  have hes : a[s]? = some (a[s]'(by rw [← h.n]; exact hs)) := List.getElem?_eq_getElem _
  obtain ⟨r, hr, B, cc, us, rfl, ow, hk⟩ := h.row s _ hes
  rcases h1.2 with ⟨hv, h0⟩ | ⟨g, cap, cur, hv, hg, hh, hnc, hcm, hcs, htk⟩
  · omega
  · injection hv with e1 _ e3
    subst e1; subst e3
    have hlt : g < w.heap.size := by
      rcases Nat.lt_or_ge g w.heap.size with hlt | hge
      · exact hlt
      · rw [Array.getElem?_eq_none hge] at hh; cases hh
    have hcur : cur[s]? = some (.slice B (a[s]'(by rw [← h.n]; exact hs)).length cc) := by
      have h2 : (cur.toList.take (n * 1))[s]? = some (.slice B (a[s]'(by rw [← h.n]; exact hs)).length cc) := by rw [htk]; exact hr
      rw [List.getElem?_take] at h2
      split at h2
      · simpa using h2
      · cases h2
    exact ⟨g, B, _, cc, us, _, rfl, hg, hlt, by simp [World.cell?, hh, hcur], by simp [World.frozen?, hh], hes, rfl, hr, ow, hk⟩

/-- One edge more. -/
theorem RowsAt.edge {w w1 w2 : World} {base n c s g m cc cc' : Nat} {B B' : Option Addr} {rows us : List Value} {a : Au} {es : List Ed} {x : Ed} {sv : Value} (h1 : w.ownsRow base TRow 1 (.slice (some ⟨g, 0, none⟩) n c) n rows) (h : RowsAt w base n rows a)
    (hs : s < n) (hes : a[s]? = some es) (hm : m = es.length) (hrow : rows[s]? = some (.slice B m cc)) (ow : w.ownsRow base TEdge 3 (.slice B m cc) m us) (hk : RelK 3 (REdge w base) us es)
    (hx : SetIn w base sv x.set) (hto : -9223372036854775808 ≤ x.to ∧ x.to ≤ 9223372036854775807) (hw1 : w1 = w.alloc (.cells #[.int .i64 x.to, .bool x.free, sv] TEdge))
    (gr : w1.grownBy w2 (Value.slice B m cc).ownBlock) (own : w2.ownsRow base TEdge 3 (.slice B' (m + 1) cc') (m + 1) (us ++ [.int .i64 x.to, .bool x.free, sv]))
    (hnew : (Value.slice B' (m + 1) cc').ownBlock = (Value.slice B m cc).ownBlock ∨ (Value.slice B' (m + 1) cc').ownBlock = some w1.heap.size) :
    AuAt (w2.setCell ⟨g, s, none⟩ (.slice B' (m + 1) cc')) base (some ⟨g, 0, none⟩) n c (auEdge a s x) ∧ Chg TA base w (w2.setCell ⟨g, s, none⟩ (.slice B' (m + 1) cc')) := by
  subst hw1
  have hal : ∀ b, b < w.heap.size → (w.alloc (.cells #[.int .i64 x.to, .bool x.free, sv] TEdge)).heap[b]? = w.heap[b]? := fun b hb => Below.heap_alloc w _ b hb
  have hg0 : w.heap.size ≤ (w.alloc (.cells #[.int .i64 x.to, .bool x.free, sv] TEdge)).heap.size := by simp
  obtain ⟨cap, cur, hb, hh, hnc, hcm, hcs, htk, rfl⟩ : ∃ cap cur, base ≤ g ∧ w.heap[g]? = some (.cells cur TRow (0, 0)) ∧ n ≤ cap ∧ cap ≤ maxLen ∧ cur.size = cap * 1 ∧ cur.toList.take (n * 1) = rows ∧ c = cap := by
    rcases h1.2 with ⟨hv, h0⟩ | ⟨g', cap, cur, hv, hg, hh, hnc, hcm, hcs, htk⟩
    · injection hv with e; cases e
    · injection hv with e1 _ e3
      injection e1 with e1
      injection e1 with e1 _
      subst e1; subst e3
      exact ⟨c, cur, hg, hh, hnc, hcm, hcs, htk, rfl⟩
  have hglt : g < w.heap.size := by
    rcases Nat.lt_or_ge g w.heap.size with hlt | hge
    · exact hlt
    · rw [Array.getElem?_eq_none hge] at hh; cases hh
  have hgne : (Value.slice B m cc).ownBlock ≠ some g := fun e => by
    rcases own_ne ow h1 (by decide) with h' | h'
    · rw [h'] at e; cases e
    · exact h' (by rw [e]; rfl)
  have hg2 : w2.heap[g]? = some (.cells cur TRow (0, 0)) := ((gr.block g (by omega) (fun e => hgne e.symm)).trans (hal g hglt)).trans hh
  have hblk : Blk w2 g TRow cur := hg2
  have hold : ∀ b, b < w.heap.size → b ≠ g → some b ≠ (Value.slice B m cc).ownBlock → (w2.setCell ⟨g, s, none⟩ (.slice B' (m + 1) cc')).heap[b]? = w.heap[b]? := fun b hb h1 h2 =>
    ((Below.heap_setCell w2 ⟨g, s, none⟩ (.slice B' (m + 1) cc') b h1).trans (gr.block b (by omega) h2)).trans (hal b hb)
  have hchg : Chg TA base w (w2.setCell ⟨g, s, none⟩ (.slice B' (m + 1) cc')) := ⟨gr.os, gr.tape, gr.output, by have := gr.size; simp at this; simp; omega, fun b hb' hc => by
    refine hold b hb' (fun e => ?_) (fun e => ?_)
    · subst e
      rcases hc with hc | hc
      · omega
      · exact hc TRow (by simp) ⟨cur, hh⟩
    · rcases hc with hc | hc
      · have := (ow.lt b e.symm).1; omega
      · refine hc TEdge (by simp) ?_
        rcases ow.2 with ⟨hv, _⟩ | ⟨g', cap', cur', hv, _, hh', _⟩
        · rw [hv] at e; simp [Value.ownBlock] at e
        · rw [hv] at e
          have : b = g' := by simpa [Value.ownBlock] using e
          subst this
          exact ⟨cur', hh'⟩⟩
  have hlen : rows.length = n := h.len
  refine ⟨⟨rows.set s (.slice B' (m + 1) cc'), ⟨by simp [hlen], .inr ⟨g, c, cur.setIfInBounds s (.slice B' (m + 1) cc'), rfl, hb, hblk.set s _, hnc, hcm, by simpa using hcs, ?_⟩⟩, by simp [hlen], by rw [auEdge_length]; exact h.n, fun i e he => ?_, fun i j r r' hij hr hr' => ?_⟩, hchg⟩
  · rw [← htk]
    simp [List.take_set]
  · simp only [auEdge, List.getElem?_modify] at he
    by_cases hi : s = i
    · subst hi
      rw [hes] at he
      simp at he
      subst he
      refine ⟨.slice B' (m + 1) cc', by rw [List.getElem?_set_self (by rw [hlen]; exact hs)], B', cc', us ++ [.int .i64 x.to, .bool x.free, sv], by simp [hm], ?_, ?_⟩
      · rw [show (es ++ [x]).length = m + 1 by simp [hm]]
        exact ownsRow_setFar own hblk (by decide) s _
      · refine (hk.mono fun f y _ h => ⟨h.1, h.2, h.3.chg hchg TA_ne⟩).app (RelK.one (f := fun j => [Value.int .i64 x.to, .bool x.free, sv].getD j undef) rfl ?_ ⟨⟨rfl, hto⟩, rfl, hx.chg hchg TA_ne⟩)
        intro j hj
        match j, hj with
        | 0, _ => rfl
        | 1, _ => rfl
        | 2, _ => rfl
    · simp [hi] at he
      obtain ⟨r, hr, ho⟩ := h.row i e he
      refine ⟨r, by rw [List.getElem?_set_ne hi]; exact hr, ho.chg hchg fun q hq => ?_⟩
      obtain ⟨C, c2, us2, rfl, ow2, _⟩ := id ho
      have hlt := (ow2.lt q hq).2
      refine hold q hlt (fun e => ?_) (fun e => ?_)
      · subst e
        rcases own_ne ow2 h1 (by decide) with h' | h'
        · rw [h'] at hq; cases hq
        · exact h' (by rw [hq]; rfl)
      · rcases h.ne i s _ _ (fun e => hi e.symm) hr hrow with h' | h'
        · rw [h'] at hq; cases hq
        · exact h' (by rw [hq, e])
  · have old : ∀ {i : Nat} {r : Value}, (rows.set s (.slice B' (m + 1) cc'))[i]? = some r → i ≠ s → rows[i]? = some r := fun {i r} hr hi => by
      rw [List.getElem?_set_ne (fun e => hi e.symm)] at hr; exact hr
    have at' : ∀ {r : Value}, (rows.set s (.slice B' (m + 1) cc'))[s]? = some r → r = .slice B' (m + 1) cc' := fun {r} hr => by
      rw [List.getElem?_set_self (by rw [hlen]; exact hs)] at hr; exact (Option.some.inj hr).symm
    have low : ∀ {i : Nat} {r : Value} {q : Nat}, rows[i]? = some r → r.ownBlock = some q → q < w.heap.size := fun {i r q} hr hq => by
      have hi : i < a.length := by have := lt_of_get hr; rw [hlen, h.n] at this; exact this
      obtain ⟨r2, hr2, C, c2, us2, rfl, ow2, _⟩ := h.row i _ (List.getElem?_eq_getElem hi)
      obtain rfl := Option.some.inj (hr2.symm.trans hr)
      exact (ow2.lt q hq).2
    have apart : ∀ {i : Nat} {r : Value}, i ≠ s → rows[i]? = some r → r.ownBlock = none ∨ r.ownBlock ≠ (Value.slice B' (m + 1) cc').ownBlock := fun {i r} hi hr => by
      cases hq : r.ownBlock with
      | none => exact .inl rfl
      | some q =>
        refine .inr fun e => ?_
        rcases hnew with hn | hn
        · rcases h.ne i s _ _ hi hr hrow with h' | h'
          · rw [h'] at hq; cases hq
          · exact h' (by rw [hq, e, hn])
        · rw [hn] at e
          injection e with e
          have := low hr hq
          omega
    by_cases hi : i = s
    · subst hi
      rw [at' hr]
      have hj := old hr' (fun e => hij e.symm)
      rcases apart (fun e => hij e.symm) hj with h' | h'
      · cases hq : (Value.slice B' (m + 1) cc').ownBlock with
        | none => exact .inl rfl
        | some q => exact .inr (by rw [h']; simp)
      · exact .inr fun e => h' e.symm
    · by_cases hj : j = s
      · subst hj
        rw [at' hr']
        exact apart hi (old hr hi)
      · exact h.ne i j r r' hij (old hr hi) (old hr' hj)

end Go.Proofs.YtcmmmgblkbbdnaaGreatDoor

namespace Go.Proofs.YtcmmmgblkbbdnaaGreatDoor
open Go.RowKit Pv

theorem own_emptyK (w : World) (base : Nat) (e : TypeId) (k n : Nat) (hn : n = w.heap.size) (hb : base ≤ n) : (w.alloc (.cells #[] e)).ownsRow base e k (.slice (some ⟨n, 0, none⟩) 0 0) 0 [] := by
  subst hn
  exact ⟨by simp, .inr ⟨w.heap.size, 0, #[], rfl, hb, by show (w.heap.push _)[w.heap.size]? = _; simp, Nat.le_refl _, by simp only [maxLen]; omega, by simp, by simp⟩⟩

set_option maxHeartbeats 1000000 in
set_option maxRecDepth 100000 in
theorem slices_Clone_rng (A : Option Addr) (c n : Nat) (l : List Rng) (w : World) (h : AtSet w A l) (HL : Hid (l.length = n)) (hn : n ≤ 1000000) :
    Calls Tryz.prog 95 #[.slice A n c] w fun e w' => ∃ B c', e = .returned (.slice B n c') ∧ OwnSet w' w.heap.size (.slice B n c') l ∧ Below w.heap.size w w' := by
  have hnil := fun (W : World) (a : Option Addr) (n c : Nat) => Lib.run_eql_slice_nil (P := Tryz.prog) W 35 93 a n c 0 0 Tryz.underlying35
  obtain ⟨i0, hi0, hz0, hs0, hb0⟩ := info_parts info_range
  cases A with
  | none =>
    have hn0 : n = 0 := by
      rcases Nat.eq_zero_or_pos n with h0 | h0
      · exact h0
      · obtain ⟨b, o, e, _⟩ := h.2 (by rw [HL.out]; exact h0)
        cases e
    subst hn0
    have hl : l = [] := List.eq_nil_of_length_eq_zero HL.out
    subst hl
    clear h
    go_enter Tryz.func95, Tryz.ntmps95
    go_wp2
    go_ret
    exact ⟨none, 0, rfl, OwnK.nil, Below.refl _ _⟩
  | some ad =>
    obtain ⟨us, hr, src⟩ := AtK.src h (fun _ _ => RRng.one)
    rw [HL.out] at src
    have hba : Below w.heap.size w (w.alloc (.cells #[] TRng)) := (Below.refl _ _).alloc (Nat.le_refl _) _
    have S1 := Lib.hid (src.keep (Keep.of hba)); have R1 := Lib.hid hr
    have OW := Lib.hid (own_emptyK w w.heap.size TRng 2 w.heap.size rfl (Nat.le_refl _))
    have HB := Lib.hid hba
    have Q1 : Hid (0 + n ≤ maxLen) := Lib.hid (by simp only [maxLen]; omega)
    have Q2 : Hid ((0 + n) * 16 ≤ 140737488355328) := Lib.hid (by omega)
    clear src hr h hba
    go_enter Tryz.func95, Tryz.ntmps95
    go_wp2_with (at_builtin
                 go_must (refine wpList_append_src _ rfl (.tmp 5) (.tmp 6) 35 rfl w.heap.size TRng i0 (.agg #[.int .i64 0, .int .i64 0]) 2 16 Tryz.underlying35 hi0 hz0 hs0 hb0 rfl (by decide) (some ⟨w.heap.size, 0, none⟩) 0 0 [] rfl OW.out (some ad) n c us rfl S1.out Q1.out Q2.out HB.out.size ?_)
                 intro A1 c1 w1 own1 gr1 _
                 simp only [List.nil_append, Nat.zero_add] at own1
                 have G1 := Lib.hid (HB.out.grown gr1 HB.out.size (fun g hg => (OW.out.lt g hg).1)); have O1 := Lib.hid own1
                 clear gr1 own1)
    go_ret
    exact ⟨A1, c1, by simp, ⟨A1, c1, us, by rw [HL.out], by rw [HL.out]; exact O1.out, R1.out⟩, G1.out⟩

end Go.Proofs.YtcmmmgblkbbdnaaGreatDoor

namespace Go.Proofs.YtcmmmgblkbbdnaaGreatDoor
open Go.RowKit Pv

end Go.Proofs.YtcmmmgblkbbdnaaGreatDoor
