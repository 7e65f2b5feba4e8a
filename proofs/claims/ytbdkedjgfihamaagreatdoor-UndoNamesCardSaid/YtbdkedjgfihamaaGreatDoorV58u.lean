/- Walks: a store under way, in a box. PUT1 -/
import Derived.Test.YtbdkedjgfihamaaGreatDoorV49u
namespace Pv
open Go Go.RowKit
theorem lt_of_getA {α : Type} {l : Array α} {k : Nat} {x : α} (h : l[k]? = some x) : k < l.size := by
  rcases Nat.lt_or_ge k l.size with h1 | h1
  · exact h1
  · rw [Array.getElem?_eq_none h1] at h; cases h
theorem some_blk {a b : Nat} (h : (some ⟨a, 0, none⟩ : Option Addr) = some ⟨b, 0, none⟩) : a = b := by injection h with e; injection e
theorem OwnK.front {α : Type} {w : World} {base k n c : Nat} {e : TypeId} {R : (Nat → Value) → α → Prop} {A : Option Addr} {xs : List α} (h : OwnK w base e k R (.slice A n c) xs) {m : Nat} (hm : m ≤ n) : OwnK w base e k R (.slice A m c) (xs.take m) := by
  obtain ⟨A', c', us, hv, ⟨h0, ho⟩, hr⟩ := h
  injection hv with e1 e2 e3
  subst e1; subst e2; subst e3
  have hl : (xs.take m).length = m := by rw [List.length_take]; omega
  have hle : m * k ≤ xs.length * k := Nat.mul_le_mul_right k hm
  refine ⟨A, c, us.take (m * k), by rw [hl], ?_, hr.take hm⟩
  rw [hl]
  refine ⟨by rw [List.length_take, h0, Nat.min_eq_left hle], ?_⟩
  rcases ho with ⟨hv, h1⟩ | ⟨g, cap, cur, hv, hg, hh, h1, h2, h3, h4⟩
  · injection hv with e1 _ e3
    subst e1; subst e3
    exact .inl ⟨by rw [show m = 0 by omega], by omega⟩
  · injection hv with e1 _ e3
    subst e1; subst e3
    exact .inr ⟨g, c, cur, rfl, hg, hh, by omega, h2, h3, by rw [← h4, List.take_take, Nat.min_eq_left hle]⟩
theorem OwnK.cap {α : Type} {w : World} {base k n c : Nat} {e : TypeId} {R : (Nat → Value) → α → Prop} {A : Option Addr} {xs : List α} (h : OwnK w base e k R (.slice A n c) xs) : n ≤ c := by
  obtain ⟨A', c', us, hv, ho, hr⟩ := h
  injection hv with e1 e2 e3
  subst e1; subst e2; subst e3
  rcases ho.2 with ⟨_, h1⟩ | ⟨g, cap, cur, hv, hg, hh, h1, _⟩
  · omega
  · injection hv with _ _ e3
    omega
/-- An element's cells, of a row of the call's own. -/
theorem OwnK.gt {α : Type} {w : World} {base k n c i : Nat} {e : TypeId} {R : (Nat → Value) → α → Prop} {A : Option Addr} {xs : List α} (h : OwnK w base e k R (.slice A n c) xs) (hi : i < n) :
    ∃ g cur x f, A = some ⟨g, 0, none⟩ ∧ base ≤ g ∧ Blk w g e cur ∧ xs[i]? = some x ∧ (∀ j, j < k → cur[i * k + j]? = some (f j)) ∧ R f x := by
  obtain ⟨A', c', us, hv, ho, hr⟩ := h
  injection hv with e1 e2 e3
  subst e1; subst e2; subst e3
  rcases ho.2 with ⟨_, h1⟩ | ⟨g, cap, cur, hv, hg, hh, h1, h2, h3, h4⟩
  · omega
  · injection hv with e1 _ e3
    subst e1; subst e3
    have hx : xs[i]? = some (xs[i]'hi) := List.getElem?_eq_getElem hi
    obtain ⟨f, hf, hR⟩ := hr.2 i _ hx
    refine ⟨g, cur, _, f, rfl, hg, hh, hx, fun j hj => ?_, hR⟩
    have h5 := hf j hj
    rw [← h4, List.getElem?_take] at h5
    split at h5
    · rw [← Array.getElem?_toList]; exact h5
    · cases h5
/-- An element laid anew, of a row of the call's own. -/
theorem OwnK.lay {α : Type} {w w' : World} {base k n c i g : Nat} {e : TypeId} {R R' : (Nat → Value) → α → Prop} {xs : List α} {x : α} {cur cs : Array Value} {f : Nat → Value} (h : OwnK w base e k R (.slice (some ⟨g, 0, none⟩) n c) xs) (hi : i < n) (hb : Blk w g e cur) (hr : RowSet w w' g e cs) (hs : cs.size = cur.size)
    (hin : ∀ j, j < k → cs[i * k + j]? = some (f j)) (hout : ∀ q, q < i * k ∨ (i + 1) * k ≤ q → cs[q]? = cur[q]?) (hm : ∀ f y, y ∈ xs → R f y → R' f y) (hx : R' f x) : OwnK w' base e k R' (.slice (some ⟨g, 0, none⟩) n c) (xs.set i x) := by
  obtain ⟨A', c', us, hv, ho, hrl⟩ := h
  injection hv with e1 e2 e3
  subst e1; subst e2; subst e3
  have hge : base ≤ g := (ho.lt g rfl).1
  rcases ho.2 with ⟨hv, _⟩ | ⟨g', cap, cur', hv, hg, hh, h1, h2, h3, h4⟩
  · simp at hv
  · simp only [Value.slice.injEq, Option.some.injEq, Addr.mk.injEq, and_true, true_and] at hv
    obtain ⟨rfl, rfl⟩ := hv
    have hcc : cur' = cur := by
      have : some (Obj.cells cur' e (0, 0)) = some (Obj.cells cur e (0, 0)) := hh.symm.trans hb
      simpa using this
    subst hcc
    have hle : xs.length * k ≤ c * k := Nat.mul_le_mul_right k h1
    have hcl : cs.toList.length = c * k := hs.trans h3
    refine ⟨_, c, cs.toList.take (xs.length * k), by rw [List.length_set], ?_, ?_⟩
    · rw [List.length_set]
      exact ⟨by rw [List.length_take, hcl, Nat.min_eq_left hle], .inr ⟨g, c, cs, rfl, hg, hr.blk, h1, h2, by rw [hs, h3], rfl⟩⟩
    · refine ⟨by rw [List.length_take, hcl, Nat.min_eq_left hle, List.length_set], fun q y hy => ?_⟩
      have hq := lt_of_get hy
      rw [List.length_set] at hq
      by_cases hqi : i = q
      · subst hqi
        rw [List.getElem?_set_self hq] at hy
        obtain rfl := Option.some.inj hy
        refine ⟨f, fun j hj => ?_, hx⟩
        rw [List.getElem?_take_of_lt (idx_lt hq hj), Array.getElem?_toList]
        exact hin j hj
      · rw [List.getElem?_set_ne hqi] at hy
        obtain ⟨f', hf', hR⟩ := hrl.2 q y hy
        refine ⟨f', fun j hj => ?_, hm f' y (mem_of_get hy) hR⟩
        have h5 := hf' j hj
        rw [← h4, List.getElem?_take_of_lt (idx_lt hq hj), Array.getElem?_toList] at h5
        rw [List.getElem?_take_of_lt (idx_lt hq hj), Array.getElem?_toList, hout _ ?_]
        · exact h5
        · rcases Nat.lt_or_gt_of_ne hqi with h6 | h6
          · right
            have := Nat.mul_le_mul_right k (show i + 1 ≤ q by omega)
            omega
          · left
            have := Nat.mul_le_mul_right k (show q + 1 ≤ i by omega)
            rw [Nat.add_mul, Nat.one_mul] at this
            omega
end Pv
namespace Go.Proofs.YtbdkedjgfihamaaGreatDoor
open Go.RowKit Pv Go.Maps
abbrev TSx : TypeId := 77
/-- A store under way. -/
structure StoIn (w W : World) (ob : Nat) (T : Option Addr) (tn tc : Nat) (L : Option Addr) (ln lc : Nat) (bad : Bool) (ts : List Tab) (log : List Chg) : Prop where
  ge : w.heap.size ≤ ob
  blk : Blk W ob TSx #[.slice T tn tc, .slice L ln lc, .bool bad]
  tabs : OwnK W w.heap.size TTb 4 (OTb W w.heap.size) (.slice T tn tc) ts
  log : OwnK W w.heap.size TCh 5 (OCg W w.heap.size) (.slice L ln lc) log
  k : Below w.heap.size w W
section
variable {w W W' : World} {ob tn tc ln lc : Nat} {T L : Option Addr} {bad : Bool} {ts : List Tab} {log : List Chg}
theorem StoIn.next (h : StoIn w W ob T tn tc L ln lc bad ts log) (k : Below W.heap.size W W') : StoIn w W' ob T tn tc L ln lc bad ts log :=
  ⟨h.ge, h.blk.below k h.blk.lt, (h.tabs.below k).monoR fun _ _ _ ho => ho.below k, (h.log.below k).monoR fun _ _ _ ho => ho.below k, h.k.trans (k.mono h.k.size)⟩
theorem StoIn.drewN (h : StoIn w W ob T tn tc L ln lc bad ts log) (n : Nat) : StoIn w (W.drewN n) ob T tn tc L ln lc bad ts log := h.next (below_drewN (Below.refl _ _) n)
theorem StoIn.drew (h : StoIn w W ob T tn tc L ln lc bad ts log) : StoIn w W.drew ob T tn tc L ln lc bad ts log := h.drewN 1
theorem blk_drew {b : Nat} {t : TypeId} {cs : Array Value} (h : Blk W b t cs) : Blk W.drew b t cs := h
theorem StoIn.turn (h : StoIn w W ob T tn tc L ln lc bad ts log) (b : Bool) : StoIn w (W.setCell ⟨ob, 2, none⟩ (.bool b)) ob T tn tc L ln lc b ts log :=
  ⟨h.ge, by simpa using h.blk.set 2 (.bool b), (h.tabs.setFar h.blk (by decide) _ _).monoR fun _ _ _ ho => ho.far h.blk (by decide) (by decide) (by decide), (h.log.setFar h.blk (by decide) _ _).monoR fun _ _ _ ho => ho.far h.blk (by decide), h.k.setCell h.ge _⟩
theorem StoIn.cut (h : StoIn w W ob T tn tc L ln lc bad ts log) {m : Nat} (hm : m ≤ ln) : StoIn w (W.setCell ⟨ob, 1, none⟩ (.slice L m lc)) ob T tn tc L m lc bad ts (log.take m) :=
  ⟨h.ge, by simpa using h.blk.set 1 (.slice L m lc), (h.tabs.setFar h.blk (by decide) _ _).monoR fun _ _ _ ho => ho.far h.blk (by decide) (by decide) (by decide), ((h.log.setFar h.blk (by decide) _ _).monoR fun _ _ _ ho => ho.far h.blk (by decide)).front hm, h.k.setCell h.ge _⟩
abbrev set4a (w : World) (b o : Nat) (v0 v1 v2 v3 : Value) : World := (((w.setCell ⟨b, o, none⟩ v0).setCell ⟨b, o + 1, none⟩ v1).setCell ⟨b, o + 2, none⟩ v2).setCell ⟨b, o + 3, none⟩ v3
theorem set4a_blk {w : World} {b o : Nat} {t : TypeId} {cur : Array Value} (h : Blk w b t cur) (v0 v1 v2 v3 : Value) : RowSet w (set4a w b o v0 v1 v2 v3) b t ((((cur.setIfInBounds o v0).setIfInBounds (o + 1) v1).setIfInBounds (o + 2) v2).setIfInBounds (o + 3) v3) :=
  (((RowSet.set h o v0).trans (RowSet.set (h.set o v0) (o + 1) v1)).trans (RowSet.set ((h.set o v0).set (o + 1) v1) (o + 2) v2)).trans (RowSet.set (((h.set o v0).set (o + 1) v1).set (o + 2) v2) (o + 3) v3)
theorem OTab.farRow {w W' : World} {base : Nat} {f : Nat → Value} {x : Tab} (h : OTb w base f x) {g : Nat} {cs : Array Value} {cur : Array Value} (hb : Blk w g TTb cur) (hr : RowSet w W' g TTb cs) : OTb W' base f x :=
  have kp : ∀ {e : TypeId} {s n : Nat} {v : Value} {us : List Value}, w.ownsRow base e s v n us → e ≠ TTb → W'.ownsRow base e s v n us := fun ho hne => ho.kept hr.grown (by
    rcases ho.2 with ⟨hv, _⟩ | ⟨g', cap, cur', hv, _, hh, _⟩
    · exact .inl (by rw [hv]; rfl)
    · refine .inr ?_
      rw [hv]
      simp only [Value.ownBlock, ne_eq, Option.some.injEq]
      exact fun e => Blk.ne (show Blk w g' _ _ from hh) hb hne e)
  have kc : ∀ {v : Value} {l : List Cel}, OwnK w base TCe 5 RCel v l → OwnK W' base TCe 5 RCel v l := fun ⟨A, c, us, hv, ho, hr⟩ => ⟨A, c, us, hv, kp ho (by decide), hr⟩
  ⟨h.1, h.2, (fun ⟨A, c, us, hv, ho, hr⟩ => ⟨A, c, us, hv, kp ho (by decide), hr⟩ : Own w base TSt RStr (f 2) x.uniques → Own W' base TSt RStr (f 2) x.uniques) h.3, (fun ⟨A, c, us, hv, ho, hr⟩ => ⟨A, c, us, hv, kp ho (by decide), hr.mono fun _ _ _ h => ⟨h.1, kc h.2⟩⟩ : OwnK w base TRe 2 (ORec w base TCe) (f 3) x.rows → OwnK W' base TRe 2 (ORec W' base TCe) (f 3) x.rows) h.4⟩
theorem OChg.farRow {w W' : World} {base : Nat} {f : Nat → Value} {x : Chg} (h : OCg w base f x) {g : Nat} {cs : Array Value} {cur : Array Value} (hb : Blk w g TTb cur) (hr : RowSet w W' g TTb cs) : OCg W' base f x :=
  have kp : ∀ {e : TypeId} {s n : Nat} {v : Value} {us : List Value}, w.ownsRow base e s v n us → e ≠ TTb → W'.ownsRow base e s v n us := fun ho hne => ho.kept hr.grown (by
    rcases ho.2 with ⟨hv, _⟩ | ⟨g', cap, cur', hv, _, hh, _⟩
    · exact .inl (by rw [hv]; rfl)
    · refine .inr ?_
      rw [hv]
      simp only [Value.ownBlock, ne_eq, Option.some.injEq]
      exact fun e => Blk.ne (show Blk w g' _ _ from hh) hb hne e)
  ⟨h.1, h.2, h.3, h.4, (fun ⟨A, c, us, hv, ho, hr⟩ => ⟨A, c, us, hv, kp ho (by decide), hr⟩ : OwnK w base TCe 5 RCel (f 4) x.was.data → OwnK W' base TCe 5 RCel (f 4) x.was.data) h.5⟩
/-- A table laid anew. -/
theorem StoIn.put {g : Nat} (h : StoIn w W ob (some ⟨g, 0, none⟩) tn tc L ln lc bad ts log) {i : Nat} (hi : i < tn) {t : Tab} {v0 v1 v2 v3 : Value} (ht : OTb W w.heap.size (f4 v0 v1 v2 v3) t) :
    StoIn w (set4a W g (i * 4) v0 v1 v2 v3) ob (some ⟨g, 0, none⟩) tn tc L ln lc bad (ts.set i t) log := by
  obtain ⟨g', cur, x, f, hA, hge, hb, hx, hf, _⟩ := h.tabs.gt hi
  obtain rfl : g = g' := by injection hA with e; injection e
  have hr := set4a_blk (o := i * 4) hb v0 v1 v2 v3
  have hne : ob ≠ g := fun e => h.blk.ne hb (by decide) e
  have hsz : i * 4 + 3 < cur.size := lt_of_getA (hf 3 (by omega))
  refine ⟨h.ge, hr.far h.blk hne, ?_, ?_, hr.below h.k hge⟩
  · refine h.tabs.lay (f := f4 v0 v1 v2 v3) hi hb hr (by simp) (fun j hj => ?_) (fun q hq => ?_) (fun f' y _ ho => OTab.farRow ho hb hr) (OTab.farRow ht hb hr)
    · match j, hj with
      | 0, _ => rw [Array.getElem?_setIfInBounds_ne (by omega), Array.getElem?_setIfInBounds_ne (by omega), Array.getElem?_setIfInBounds_ne (by omega), Nat.add_zero, Array.getElem?_setIfInBounds_self_of_lt (by omega)]; rfl
      | 1, _ => rw [Array.getElem?_setIfInBounds_ne (by omega), Array.getElem?_setIfInBounds_ne (by omega), Array.getElem?_setIfInBounds_self_of_lt (by simp; omega)]; rfl
      | 2, _ => rw [Array.getElem?_setIfInBounds_ne (by omega), Array.getElem?_setIfInBounds_self_of_lt (by simp; omega)]; rfl
      | 3, _ => rw [Array.getElem?_setIfInBounds_self_of_lt (by simp; omega)]; rfl
    · rw [Array.getElem?_setIfInBounds_ne (by omega), Array.getElem?_setIfInBounds_ne (by omega), Array.getElem?_setIfInBounds_ne (by omega), Array.getElem?_setIfInBounds_ne (by omega)]
  · obtain ⟨A, c, us, hv, ho, hrl⟩ := h.log
    refine ⟨A, c, us, hv, ho.kept hr.grown ?_, hrl.mono fun _ _ _ hc => OChg.farRow hc hb hr⟩
    rcases ho.2 with ⟨hv, _⟩ | ⟨g', cap, cur', hv, _, hh, _⟩
    · exact .inl (by rw [hv]; rfl)
    · refine .inr ?_
      rw [hv]
      simp only [Value.ownBlock, ne_eq, Option.some.injEq]
      exact fun e => Blk.ne (show Blk W g' _ _ from hh) hb (by decide) e
theorem StoIn.putFar {g : Nat} (h : StoIn w W ob (some ⟨g, 0, none⟩) tn tc L ln lc bad ts log) {i : Nat} (hi : i < tn) {b : Nat} {t : TypeId} {cs : Array Value} (hb : Blk W b t cs) (hne : t ≠ TTb) (v0 v1 v2 v3 : Value) : Blk (set4a W g (i * 4) v0 v1 v2 v3) b t cs := by
  obtain ⟨g', cur, x, f, hA, hge, hb2, _⟩ := h.tabs.gt hi
  obtain rfl : g = g' := by injection hA with e; injection e
  exact (set4a_blk (o := i * 4) hb2 v0 v1 v2 v3).far hb (hb.ne hb2 hne)
/-- A box of a table written. -/
theorem StoIn.box {g b : Nat} {cur cs : Array Value} (h : StoIn w W ob (some ⟨g, 0, none⟩) tn tc L ln lc bad ts log) (hb : Blk W b TTb cur) (hne : b ≠ g) (hr : RowSet W W' b TTb cs) (hge : w.heap.size ≤ b) : StoIn w W' ob (some ⟨g, 0, none⟩) tn tc L ln lc bad ts log := by
  refine ⟨h.ge, hr.far h.blk (h.blk.ne hb (by decide)), ?_, ?_, hr.below h.k hge⟩
  · obtain ⟨A, c, us, hv, ho, hrl⟩ := h.tabs
    refine ⟨A, c, us, hv, ho.kept hr.grown (.inr ?_), hrl.mono fun _ _ _ hc => OTab.farRow hc hb hr⟩
    rw [← hv]
    simp only [Value.ownBlock, ne_eq, Option.some.injEq]
    exact fun e => hne e.symm
  · obtain ⟨A, c, us, hv, ho, hrl⟩ := h.log
    refine ⟨A, c, us, hv, ho.kept hr.grown ?_, hrl.mono fun _ _ _ hc => OChg.farRow hc hb hr⟩
    rcases ho.2 with ⟨hv, _⟩ | ⟨g', cap, cur', hv, _, hh, _⟩
    · exact .inl (by rw [hv]; rfl)
    · refine .inr ?_
      rw [hv]
      simp only [Value.ownBlock, ne_eq, Option.some.injEq]
      exact fun e => Blk.ne (show Blk W g' _ _ from hh) hb (by decide) e
end
end Go.Proofs.YtbdkedjgfihamaaGreatDoor

namespace Go.Proofs.YtbdkedjgfihamaaGreatDoor
open Go.RowKit Pv Go.Maps
section
variable {w W : World} {ts : List Tab} {log : List Chg} {g tn tc i b rb ln lc : Nat} {L : Option Addr} {x0 x1 z0 z1 v0 v1 v2 v3 : Value} {t : Tab}
/-- A table laid, the log laid, the result's box written. -/
theorem turn_end (ht : OwnK W w.heap.size TTb 4 (OTb W w.heap.size) (.slice (some ⟨g, 0, none⟩) tn tc) ts) (hi : i < tn) (hl : OwnK W w.heap.size TCh 5 (OCg W w.heap.size) (.slice L ln lc) log)
    (hx : OTb W w.heap.size (f4 v0 v1 v2 v3) t) (hb : Blk W b TSto #[x0, x1]) (hr : Blk W rb TSto #[z0, z1]) (hne : rb ≠ b) (h1 : w.heap.size ≤ b) (h2 : w.heap.size ≤ rb) (k : Below w.heap.size w W) :
    Blk ((set4a W g (i * 4) v0 v1 v2 v3).setCell ⟨b, 1, none⟩ (.slice L ln lc)) b TSto #[x0, .slice L ln lc] ∧ Blk ((set4a W g (i * 4) v0 v1 v2 v3).setCell ⟨b, 1, none⟩ (.slice L ln lc)) rb TSto #[z0, z1] ∧
      StoV (set2 ((set4a W g (i * 4) v0 v1 v2 v3).setCell ⟨b, 1, none⟩ (.slice L ln lc)) rb (.slice (some ⟨g, 0, none⟩) tn tc) (.slice L ln lc)) w.heap.size (.agg #[.slice (some ⟨g, 0, none⟩) tn tc, .slice L ln lc]) ⟨ts.set i t, log⟩ ∧
      Below w.heap.size w (set2 ((set4a W g (i * 4) v0 v1 v2 v3).setCell ⟨b, 1, none⟩ (.slice L ln lc)) rb (.slice (some ⟨g, 0, none⟩) tn tc) (.slice L ln lc)) ∧
      RowSet ((set4a W g (i * 4) v0 v1 v2 v3).setCell ⟨b, 1, none⟩ (.slice L ln lc)) (set2 ((set4a W g (i * 4) v0 v1 v2 v3).setCell ⟨b, 1, none⟩ (.slice L ln lc)) rb (.slice (some ⟨g, 0, none⟩) tn tc) (.slice L ln lc)) rb TSto #[.slice (some ⟨g, 0, none⟩) tn tc, .slice L ln lc] := by
  obtain ⟨g', cur, x, f, hA, hge, hbg, hxx, hf, _⟩ := ht.gt hi
  obtain rfl : g = g' := by injection hA with e; injection e
  have hrs := set4a_blk (o := i * 4) hbg v0 v1 v2 v3
  have hsz : i * 4 + 3 < cur.size := lt_of_getA (hf 3 (by omega))
  have ht1 : OwnK (set4a W g (i * 4) v0 v1 v2 v3) w.heap.size TTb 4 (OTb (set4a W g (i * 4) v0 v1 v2 v3) w.heap.size) (.slice (some ⟨g, 0, none⟩) tn tc) (ts.set i t) := by
    refine ht.lay (f := f4 v0 v1 v2 v3) hi hbg hrs (by simp) (fun j hj => ?_) (fun q hq => ?_) (fun f' y _ ho => OTab.farRow ho hbg hrs) (OTab.farRow hx hbg hrs)
    · match j, hj with
      | 0, _ => rw [Array.getElem?_setIfInBounds_ne (by omega), Array.getElem?_setIfInBounds_ne (by omega), Array.getElem?_setIfInBounds_ne (by omega), Nat.add_zero, Array.getElem?_setIfInBounds_self_of_lt (by omega)]; rfl
      | 1, _ => rw [Array.getElem?_setIfInBounds_ne (by omega), Array.getElem?_setIfInBounds_ne (by omega), Array.getElem?_setIfInBounds_self_of_lt (by simp; omega)]; rfl
      | 2, _ => rw [Array.getElem?_setIfInBounds_ne (by omega), Array.getElem?_setIfInBounds_self_of_lt (by simp; omega)]; rfl
      | 3, _ => rw [Array.getElem?_setIfInBounds_self_of_lt (by simp; omega)]; rfl
    · rw [Array.getElem?_setIfInBounds_ne (by omega), Array.getElem?_setIfInBounds_ne (by omega), Array.getElem?_setIfInBounds_ne (by omega), Array.getElem?_setIfInBounds_ne (by omega)]
  have hl1 : OwnK (set4a W g (i * 4) v0 v1 v2 v3) w.heap.size TCh 5 (OCg (set4a W g (i * 4) v0 v1 v2 v3) w.heap.size) (.slice L ln lc) log := by
    obtain ⟨A, c, us, hv, ho, hrl⟩ := hl
    refine ⟨A, c, us, hv, ho.kept hrs.grown ?_, hrl.mono fun _ _ _ hc => OChg.farRow hc hbg hrs⟩
    rcases ho.2 with ⟨hv, _⟩ | ⟨g', cap, cur', hv, _, hh, _⟩
    · exact .inl (by rw [hv]; rfl)
    · refine .inr ?_
      rw [hv]
      simp only [Value.ownBlock, ne_eq, Option.some.injEq]
      exact fun e => Blk.ne (show Blk W g' _ _ from hh) hbg (by decide) e
  have hb1 := hrs.far hb (hb.ne hbg (by decide))
  have hr1 := hrs.far hr (hr.ne hbg (by decide))
  have k1 := hrs.below k hge
  have hb2 : Blk ((set4a W g (i * 4) v0 v1 v2 v3).setCell ⟨b, 1, none⟩ (.slice L ln lc)) b TSto #[x0, .slice L ln lc] := by simpa using hb1.set 1 (.slice L ln lc)
  have hr2 := hr1.far (p := ⟨b, 1, none⟩) hne (.slice L ln lc)
  have ht2 := (ht1.setFar hb1 (by decide) 1 (.slice L ln lc)).monoR fun _ _ _ ho => ho.far hb1 (i := 1) (u := .slice L ln lc) (by decide) (by decide) (by decide)
  have hl2 := (hl1.setFar hb1 (by decide) 1 (.slice L ln lc)).monoR fun _ _ _ ho => ho.far hb1 (i := 1) (u := .slice L ln lc) (by decide)
  have k2 := k1.setCell (p := ⟨b, 1, none⟩) h1 (.slice L ln lc)
  have hr3 := hr2.set 0 (.slice (some ⟨g, 0, none⟩) tn tc)
  have ht3 := (ht2.setFar hr2 (by decide) 0 (.slice (some ⟨g, 0, none⟩) tn tc)).monoR fun _ _ _ ho => ho.far hr2 (i := 0) (u := .slice (some ⟨g, 0, none⟩) tn tc) (by decide) (by decide) (by decide)
  have hl3 := (hl2.setFar hr2 (by decide) 0 (.slice (some ⟨g, 0, none⟩) tn tc)).monoR fun _ _ _ ho => ho.far hr2 (i := 0) (u := .slice (some ⟨g, 0, none⟩) tn tc) (by decide)
  have ht4 := (ht3.setFar hr3 (by decide) 1 (.slice L ln lc)).monoR fun _ _ _ ho => ho.far hr3 (i := 1) (u := .slice L ln lc) (by decide) (by decide) (by decide)
  have hl4 := (hl3.setFar hr3 (by decide) 1 (.slice L ln lc)).monoR fun _ _ _ ho => ho.far hr3 (i := 1) (u := .slice L ln lc) (by decide)
  exact ⟨hb2, hr2, ⟨_, _, _, _, _, _, rfl, ht4, hl4⟩, (k2.setCell (p := ⟨rb, 0, none⟩) h2 _).setCell (p := ⟨rb, 1, none⟩) h2 _, set2_blk hr2 _ _⟩
end
end Go.Proofs.YtbdkedjgfihamaaGreatDoor
