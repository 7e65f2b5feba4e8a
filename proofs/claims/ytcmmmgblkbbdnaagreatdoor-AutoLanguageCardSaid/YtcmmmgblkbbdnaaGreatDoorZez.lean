/- Walks: sets of states, by the document: the list of a table, whether a number is on a list, where a number leads. PUT1 -/
import Derived.Test.YtcmmmgblkbbdnaaGreatDoorZbz
import Derived.Test.YtcmmmgblkbbdnaaGreatDoorHsz
import Derived.Test.YtcmmmgblkbbdnaaGreatDoorTbz
import Derived.Test.YtcmmmgblkbbdnaaGreatDoorQgz
import Derived.Test.YtcmmmgblkbbdnaaGreatDoorQvz
import Derived.Deep.OwnRows
import Derived.StillTailTactics
namespace Go.Proofs.YtcmmmgblkbbdnaaGreatDoor
open Go.RowKit Pv

theorem info_int9 : (Tryz.prog.info? 3).map (fun i => (i.zero, i.size, i.bytes)) = some (some (.int .i64 0), 1, 8) := by kernel_rfl
/-- A set's table: a row of bools. -/
def TbS (w : World) (g n : Nat) (S : Nat → Prop) : Prop := w.rowIs g 4 n (fun i => .bool (yes (S i)))
section
variable {w w' : World} {g n : Nat} {S S' : Nat → Prop}
theorem TbS.cell (h : TbS w g n S) {i : Nat} (hi : i < n) : w.cell? ⟨g, i, none⟩ = some (.bool (yes (S i))) := World.rowIs.cell h hi
theorem TbS.frozen (h : TbS w g n S) (i : Nat) : w.frozen? ⟨g, i, none⟩ = false := World.rowIs.frozen h i
theorem TbS.lt (h : TbS w g n S) : g < w.heap.size := World.rowIs.lt h
theorem TbS.of_block (h : TbS w g n S) (e : w'.heap[g]? = w.heap[g]?) : TbS w' g n S := World.rowIs.of_block h e
theorem TbS.below (h : TbS w g n S) (hb : Below w.heap.size w w') : TbS w' g n S := h.of_block (hb.block _ h.lt)
theorem TbS.congr (h : TbS w g n S) (e : ∀ i, i < n → (S i ↔ S' i)) : TbS w g n S' := World.rowIs.congr h fun i hi => by rw [show S i = S' i from propext (e i hi)]
theorem TbS.set (h : TbS w g n S) (i : Nat) (e : ∀ j, j < n → (S' j ↔ (S j ∨ j = i))) : TbS (w.setCell ⟨g, i, none⟩ (.bool true)) g n S' := by
  refine World.rowIs.congr (World.rowIs.set h i (.bool true)) fun j hj => ?_
  by_cases hji : j = i
  · rw [if_pos hji, yes_t ((e j hj).2 (.inr hji))]
  · rw [if_neg hji, show S' j = S j from propext ((e j hj).trans ⟨fun h => h.resolve_right hji, .inl⟩)]
theorem TbS.made (w : World) (n : Nat) : TbS (w.alloc (.cells (madeCells #[.bool false] n) 4)) w.heap.size n (fun _ => False) :=
  World.rowIs.congr (World.rowIs_made w (.bool false) n 4) fun i _ => by rw [yes_f (fun h => h)]
end

/-- Where a number leads: of the first states; of the first edges of one besides. -/
theorem stp_nil {a : Au} {p : Int} (t : Nat) : Stp a p (Of ([] : List Int)) t ↔ False := ⟨fun ⟨s, h, _⟩ => by simp [Of] at h, False.elim⟩
def StpE (a : Au) (p : Int) (S : Nat → Prop) (es : List Ed) (t : Nat) : Prop := Stp a p S t ∨ ∃ x, x ∈ es ∧ x.free = false ∧ InSet x.set p ∧ x.to = (t : Int)
theorem stpE_nil {a : Au} {p : Int} {S : Nat → Prop} (t : Nat) : StpE a p S [] t ↔ Stp a p S t := ⟨fun h => by rcases h with h | ⟨x, h, _⟩; exact h; simp at h, .inl⟩
theorem stpE_no {a : Au} {p : Int} {S : Nat → Prop} {es : List Ed} {x : Ed} (h : ¬ (x.free = false ∧ InSet x.set p)) (t : Nat) : StpE a p S (es ++ [x]) t ↔ StpE a p S es t := by
  constructor
  · rintro (h1 | ⟨y, h1, h2, h3, h4⟩)
    · exact .inl h1
    · rcases List.mem_append.1 h1 with h1 | h1
      · exact .inr ⟨y, h1, h2, h3, h4⟩
      · simp at h1; subst h1; exact absurd ⟨h2, h3⟩ h
  · rintro (h1 | ⟨y, h1, h2⟩)
    · exact .inl h1
    · exact .inr ⟨y, by simp [h1], h2⟩
theorem stpE_yes {a : Au} {p : Int} {S : Nat → Prop} {es : List Ed} {x : Ed} {q : Nat} (h : x.free = false) (h2 : InSet x.set p) (hq : x.to = (q : Int)) (t : Nat) : StpE a p S (es ++ [x]) t ↔ (StpE a p S es t ∨ t = q) := by
  constructor
  · rintro (h1 | ⟨y, h1, h2, h3, h4⟩)
    · exact .inl (.inl h1)
    · rcases List.mem_append.1 h1 with h1 | h1
      · exact .inl (.inr ⟨y, h1, h2, h3, h4⟩)
      · simp at h1; subst h1; right; omega
  · rintro ((h1 | ⟨y, h1, h2⟩) | rfl)
    · exact .inl h1
    · exact .inr ⟨y, by simp [h1], h2⟩
    · exact .inr ⟨x, by simp, h, h2, hq⟩
theorem stp_snoc {a : Au} {p : Int} {l : List Int} {s : Nat} {es : List Ed} (he : a[s]? = some es) (t : Nat) : StpE a p (Of l) es t ↔ Stp a p (Of (l ++ [(s : Int)])) t := by
  constructor
  · rintro (⟨q, h1, h2⟩ | ⟨x, h1, h2, h3, h4⟩)
    · exact ⟨q, by simp [Of] at h1 ⊢; exact .inl h1, h2⟩
    · exact ⟨s, by simp [Of], es, x, he, h1, h2, h3, h4⟩
  · rintro ⟨q, h1, h2⟩
    simp only [Of, List.mem_append, List.mem_singleton] at h1
    rcases h1 with h1 | h1
    · exact .inl ⟨q, h1, h2⟩
    · obtain rfl : q = s := by omega
      obtain ⟨es', x, e1, e2, e3, e4, e5⟩ := h2
      obtain rfl := Option.some.inj (e1.symm.trans he)
      exact .inr ⟨x, e2, e3, e4, e5⟩
end Go.Proofs.YtcmmmgblkbbdnaaGreatDoor

namespace Pv
open Go Go.RowKit
/-- How many states are not in a set. -/
noncomputable def cntF (n : Nat) (T : Nat → Prop) : Nat := (List.range n).countP fun i => yes (¬ T i)
theorem cntF_le {n : Nat} {T T' : Nat → Prop} (h : ∀ i, T i → T' i) : cntF n T' ≤ cntF n T :=
  List.countP_mono_left fun _ _ hi => yes_t fun ht => of_yes hi (h _ ht)
theorem countF_lt {T T' : Nat → Prop} (h : ∀ i, T i → T' i) : ∀ l : List Nat, (∃ i, i ∈ l ∧ T' i ∧ ¬ T i) → (l.countP fun i => yes (¬ T' i)) < l.countP fun i => yes (¬ T i)
  | [], ⟨i, hi, _⟩ => by simp at hi
  | x :: l, ⟨i, hi, h1, h2⟩ => by
    have hle : ∀ l : List Nat, (l.countP fun i => yes (¬ T' i)) ≤ l.countP fun i => yes (¬ T i) := fun l => List.countP_mono_left fun _ _ hi => yes_t fun ht => of_yes hi (h _ ht)
    rw [List.countP_cons, List.countP_cons]
    rcases List.mem_cons.1 hi with rfl | hi
    · rw [yes_f (fun hh => hh h1), yes_t h2]
      have := hle l
      simp; omega
    · have := countF_lt h l ⟨i, hi, h1, h2⟩
      by_cases hx : T x
      · rw [yes_f (fun hh => hh (h x hx)), yes_f (fun hh => hh hx)]; simp; omega
      · by_cases hx' : T' x
        · rw [yes_f (fun hh => hh hx'), yes_t hx]; simp; omega
        · rw [yes_t hx', yes_t hx]; simp; omega
theorem cntF_lt {n : Nat} {T T' : Nat → Prop} (h : ∀ i, T i → T' i) {i : Nat} (hi : i < n) (h1 : T' i) (h2 : ¬ T i) : cntF n T' < cntF n T := countF_lt h _ ⟨i, by simpa using hi, h1, h2⟩
/-- .. as a table's block tells it. -/
noncomputable def cntW (w : World) (g n : Nat) : Nat := (List.range n).countP fun i => yes (w.cell? ⟨g, i, none⟩ = some (.bool false))
/-- A pass over all edges. -/
structure PassR (a : Au) (S : Nat → Prop) (n : Nat) (T0 T : Nat → Prop) (gb : Bool) (D : Nat → Ed → Prop) : Prop where
  base : ∀ s, S s → T0 s
  up : ∀ s, T0 s → T s
  sub : ∀ s, T s → Clo a S s
  same : gb = false → (∀ s, T s → T0 s)
  done : gb = false → ∀ s x, D s x → T0 s → x.free = true → ∀ t : Nat, x.to = (t : Int) → T0 t
  grown : gb = true → cntF n T < cntF n T0
theorem PassR.start {a : Au} {S : Nat → Prop} {n : Nat} {T0 : Nat → Prop} {D : Nat → Ed → Prop} (h0 : ∀ s, S s → T0 s) (h : ∀ s, T0 s → Clo a S s) (hD : ∀ s x, ¬ D s x) : PassR a S n T0 T0 false D :=
  ⟨h0, fun _ h => h, h, fun _ _ h => h, fun _ s x hd => absurd hd (hD s x), fun h => by cases h⟩
theorem PassR.more {a : Au} {S : Nat → Prop} {n : Nat} {T0 T : Nat → Prop} {gb : Bool} {D D' : Nat → Ed → Prop} (h : PassR a S n T0 T gb D) (hd : gb = false → ∀ s x, D' s x → D s x ∨ (T s → x.free = true → ∀ t : Nat, x.to = (t : Int) → T t)) : PassR a S n T0 T gb D' :=
  ⟨h.base, h.up, h.sub, h.same, fun hg s x hx ht hf t he => by
    rcases hd hg s x hx with h1 | h1
    · exact h.done hg s x h1 ht hf t he
    · exact h.same hg t (h1 (h.up s ht) hf t he), h.grown⟩
theorem PassR.grow {a : Au} {S : Nat → Prop} {n : Nat} {T0 T : Nat → Prop} {gb : Bool} {D D' : Nat → Ed → Prop} (h : PassR a S n T0 T gb D) {s t : Nat} {es : List Ed} {x : Ed} (hs : T s) (he : a[s]? = some es) (hx : x ∈ es) (hf : x.free = true) (ht : x.to = (t : Int)) (htn : t < n) (hn : ¬ T t) :
    PassR a S n T0 (fun i => T i ∨ i = t) true D' :=
  ⟨h.base, fun i hi => .inl (h.up i hi), fun i hi => by
    rcases hi with hi | rfl
    · exact h.sub i hi
    · exact .step (h.sub s hs) ⟨es, x, he, hx, hf, ht⟩, (fun hh => by cases hh), (fun hh => by cases hh), fun _ => by
    have h1 := cntF_lt (T := T) (T' := fun i => T i ∨ i = t) (fun i hi => .inl hi) htn (.inr rfl) hn
    have h2 := cntF_le (n := n) h.up
    omega⟩
theorem PassR.shut {a : Au} {S : Nat → Prop} {n : Nat} {T0 T : Nat → Prop} {D : Nat → Ed → Prop} (h : PassR a S n T0 T false D) (hD : ∀ s es x, a[s]? = some es → x ∈ es → D s x) (s : Nat) : T s ↔ Clo a S s := by
  refine Clo.is (fun s hs => h.up s (h.base s hs)) (fun s t hs ⟨es, x, h1, h2, h3, h4⟩ => ?_) h.sub s
  exact h.up t (h.done rfl s x (hD s es x h1 h2) (h.same rfl s hs) h3 t h4)
end Pv
namespace Go.Proofs.YtcmmmgblkbbdnaaGreatDoor
open Go.RowKit Pv

theorem TbS.cnt {w : World} {g n : Nat} {T : Nat → Prop} (h : TbS w g n T) : cntW w g n = cntF n T := by
  unfold cntW cntF
  refine List.countP_congr fun i hi => ?_
  have hi' : i < n := by simpa using hi
  rw [h.cell hi']
  by_cases ht : T i
  · rw [yes_t ht, yes_f (by simp), yes_f (fun hh => hh ht)]
  · rw [yes_f ht, yes_t rfl, yes_t ht]
theorem TbS.alloc {w : World} {g n : Nat} {S : Nat → Prop} (h : TbS w g n S) (o : Obj) : TbS (w.alloc o) g n S := World.rowIs.alloc h o
theorem TbS.drewN {w : World} {g n : Nat} {S : Nat → Prop} (h : TbS w g n S) (k : Nat) : TbS (w.drewN k) g n S := h
end Go.Proofs.YtcmmmgblkbbdnaaGreatDoor

namespace Go.Proofs.YtcmmmgblkbbdnaaGreatDoor
open Go.RowKit Pv

theorem clo_in {a : Au} {acc : Int} {S : Nat → Prop} (h : AuOk a acc) (hS : ∀ s, S s → s < a.length) {s : Nat} (hs : Clo a S s) : s < a.length := by
  cases hs with
  | base h1 => exact hS s h1
  | step _ h2 =>
    obtain ⟨es, x, h1, h2, h3, h4⟩ := h2
    have := (h.each es (mem_of_get h1) x h2).2.1
    omega

end Go.Proofs.YtcmmmgblkbbdnaaGreatDoor
