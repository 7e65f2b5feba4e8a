/- Walks: all sets' places (the document's). PUT1 -/
import Derived.Test.YtilhicefhhgecaaGreatDoorFan
import Derived.Test.YtilhicefhhgecaaGreatDoorHsn
import Derived.Test.YtilhicefhhgecaaGreatDoorZcn
import Derived.Test.YtilhicefhhgecaaGreatDoorTbn
import Derived.Test.YtilhicefhhgecaaGreatDoorLsn
import Derived.Test.YtilhicefhhgecaaGreatDoorQvn
import Derived.Test.YtilhicefhhgecaaGreatDoorWhn
namespace Pv
open Go Go.RowKit
end Pv
namespace Go.Proofs.YtilhicefhhgecaaGreatDoor
open Go.RowKit Pv

theorem own_lit (w : World) (b : Nat) (x : Value) (t : TypeId) (hb : b ≤ w.heap.size) : (w.alloc (.cells #[x] t)).ownsRow b t 1 (.slice (some ⟨w.heap.size, 0, none⟩) 1 1) 1 [x] :=
  ⟨rfl, .inr ⟨w.heap.size, 1, #[x], rfl, hb, Blk.new w t #[x], Nat.le_refl _, by simp [maxLen], rfl, rfl⟩⟩
/-- Sets from an address on. -/
abbrev AtSets (w : World) (A : Option Addr) (S : List (List Rng)) : Prop := At w A (IsSet w) S
theorem AtSets.gt {w : World} {A : Option Addr} {S : List (List Rng)} {n i : Nat} (h : AtSets w A S) (HL : Hid (S.length = n)) (hi : i < n) :
    ∃ b off T q tc s, A = some ⟨b, off, none⟩ ∧ b < w.heap.size ∧ w.cell? ⟨b, off + i, none⟩ = some (.slice T q tc) ∧ AtSet w T s ∧ Hid (s.length = q) ∧ q ≤ tc ∧ Hid (S[i]? = some s) := by
  obtain ⟨b, off, u, s, e, hb, hc, ⟨T, tc, rfl, hs, hm⟩, hx⟩ := At.gt h HL hi
  exact ⟨b, off, T, s.length, tc, s, e, hb, hc, hs, rfl, hm, hx⟩

end Go.Proofs.YtilhicefhhgecaaGreatDoor

namespace Pv
open Go Go.RowKit
theorem plcL_in {S : List (List Rng)} (h : ∀ s ∈ S, SetOk s) {x : Int} (hx : x ∈ plcL S) : 0 ≤ x ∧ x ≤ 1114111 := by
  obtain ⟨h1, h2⟩ := plcL_mem.1 hx
  refine ⟨?_, h2⟩
  rcases h1 with rfl | ⟨s, hs, r, hr, hx⟩
  · omega
  · obtain ⟨i, hi⟩ := List.getElem?_of_mem hr
    have := (h s hs).one i r hi
    omega
end Pv
namespace Go.Proofs.YtilhicefhhgecaaGreatDoor
open Go.RowKit Pv

end Go.Proofs.YtilhicefhhgecaaGreatDoor

namespace Pv
open Go Go.RowKit
/-- The sets of edges that are not free. -/
def rowSets (es : List Ed) : List (List Rng) := (es.filter fun x => !x.free).map Ed.set
def allSets (a : Au) : List (List Rng) := a.flatMap rowSets
theorem rowSets_snoc {es : List Ed} {k : Nat} {x : Ed} (h : es[k]? = some x) : rowSets (es.take (k + 1)) = if x.free = true then rowSets (es.take k) else rowSets (es.take k) ++ [x.set] := by
  unfold rowSets
  rw [take_snoc h, List.filter_append]
  by_cases hf : x.free = true
  · rw [if_pos hf]; simp [hf]
  · rw [if_neg hf]; simp [hf]
theorem allSets_snoc {a : Au} {i : Nat} {es : List Ed} (h : a[i]? = some es) : allSets (a.take (i + 1)) = allSets (a.take i) ++ rowSets es := by
  unfold allSets
  rw [take_snoc h, List.flatMap_append]
  simp
theorem rowSets_len (es : List Ed) : (rowSets es).length ≤ es.length := by
  unfold rowSets; rw [List.length_map]; exact List.length_filter_le _ _
theorem allSets_len (a : Au) : (allSets a).length ≤ edgesS a := by
  induction a with
  | nil => simp [allSets]
  | cons es a ih =>
    have := rowSets_len es
    unfold allSets edgesS at *
    simp only [List.flatMap_cons, List.length_append, List.map_cons, List.sum_cons]
    omega
theorem part_len {a : Au} {i : Nat} {es : List Ed} (h : a[i]? = some es) (k : Nat) : (allSets (a.take i) ++ rowSets (es.take k)).length ≤ edgesS a := by
  have h1 := allSets_len (a.take i)
  have h2 := rowSets_len (es.take k)
  have h3 := edgesS_take a (i + 1)
  rw [take_snoc h, edgesS_snoc] at h3
  have h4 : (es.take k).length ≤ es.length := by rw [List.length_take]; omega
  rw [List.length_append]
  omega
theorem allSets_ok {a : Au} {acc : Int} (h : AuOk a acc) : ∀ s ∈ allSets a, SetOk s := fun s hs => by
  unfold allSets rowSets at hs
  simp only [List.mem_flatMap, List.mem_map, List.mem_filter] at hs
  obtain ⟨es, h1, x, ⟨h2, _⟩, rfl⟩ := hs
  exact (h.each es h1 x h2).2.2.1
end Pv
namespace Go.Proofs.YtilhicefhhgecaaGreatDoor
open Go.RowKit Pv

abbrev TSet : TypeId := 50
abbrev TSets : TypeId := 137
theorem info_set : (Tryz.prog.info? TSet).map (fun i => (i.zero, i.size, i.bytes)) = some (some (.slice none 0 0), 1, 24) := by kernel_rfl

end Go.Proofs.YtilhicefhhgecaaGreatDoor

namespace Pv
open Go Go.RowKit
/-- Where some states come to by a number. -/
noncomputable def stepS (a : Au) (l : List Int) (p : Int) : List Int := stL a.length (Clo a (Stp a p (Of l)))
noncomputable def firstS (a : Au) : List Int := stL a.length (Clo a (fun s => s = 0))
/-- Some states' number among those met; those met with them. -/
noncomputable def numS (all : List (List Int)) (l : List Int) : Nat := all.idxOf l
noncomputable def addS (all : List (List Int)) (l : List Int) : List (List Int) := open Classical in if l ∈ all then all else all ++ [l]
theorem addS_in {all : List (List Int)} {l : List Int} (h : l ∈ all) : addS all l = all := by unfold addS; rw [if_pos h]
theorem addS_new {all : List (List Int)} {l : List Int} (h : l ∉ all) : addS all l = all ++ [l] := by unfold addS; rw [if_neg h]
theorem numS_new {all : List (List Int)} {l : List Int} (h : l ∉ all) : numS all l = all.length := List.idxOf_eq_length h
/-- One row: where a number of each class leads; those met behind it. None: too many. -/
noncomputable def rowM (a : Au) (l : List Int) : List Int → List Int → List (List Int) → Option (List Int × List (List Int))
  | [], row, all => some (row, all)
  | c :: cs, row, all => if 64 < (addS all (stepS a l c)).length then none else rowM a l cs (row ++ [(numS all (stepS a l c) : Int)]) (addS all (stepS a l c))
/-- The rows, and which accept. None: too many. -/
noncomputable def mkM (a : Au) (acc : Int) (cuts : List Int) : Nat → List (List Int) → List (List Int) → List Bool → Option (List (List Int) × List Bool)
  | 0, _, _, _ => none
  | f + 1, all, rows, accs => match all[rows.length]? with
    | none => some (rows, accs)
    | some l => match rowM a l cuts [] all with
      | none => none
      | some (row, all') => mkM a acc cuts f all' (rows ++ [row]) (accs ++ [decide (acc ∈ l)])
noncomputable def madeM (a : Au) (acc : Int) (cuts : List Int) : Option (List (List Int) × List Bool) := mkM a acc cuts 70 [firstS a] [] []
theorem mkM_end {a : Au} {acc : Int} {cuts : List Int} {f : Nat} {all rows : List (List Int)} {accs : List Bool} (h : all.length ≤ rows.length) (hf : 0 < f) : mkM a acc cuts f all rows accs = some (rows, accs) := by
  cases f with
  | zero => omega
  | succ f => unfold mkM; rw [List.getElem?_eq_none h]
theorem mkM_row {a : Au} {acc : Int} {cuts : List Int} {f : Nat} {all rows : List (List Int)} {accs : List Bool} {l : List Int} (h : all[rows.length]? = some l) :
    mkM a acc cuts (f + 1) all rows accs = match rowM a l cuts [] all with | none => none | some (row, all') => mkM a acc cuts f all' (rows ++ [row]) (accs ++ [decide (acc ∈ l)]) := by
  conv => lhs; unfold mkM
  rw [h]
theorem rowM_many {a : Au} {l cs row : List Int} {c : Int} {all : List (List Int)} (h : 64 < (addS all (stepS a l c)).length) : rowM a l (c :: cs) row all = none := by
  unfold rowM; rw [if_pos h]
theorem rowM_next {a : Au} {l cs row : List Int} {c : Int} {all : List (List Int)} (h : (addS all (stepS a l c)).length ≤ 64) : rowM a l (c :: cs) row all = rowM a l cs (row ++ [(numS all (stepS a l c) : Int)]) (addS all (stepS a l c)) := by
  conv => lhs; unfold rowM
  rw [if_neg (by omega)]
/-- What is met are some states of the automaton, each list rising. -/
def MetS (a : Au) (all : List (List Int)) : Prop := ∀ l ∈ all, ∃ S, l = stL a.length S
theorem MetS.one (a : Au) : MetS a [firstS a] := fun l hl => by simp at hl; exact ⟨_, hl⟩
theorem MetS.add {a : Au} {all : List (List Int)} (h : MetS a all) (l : List Int) (p : Int) : MetS a (addS all (stepS a l p)) := fun m hm => by
  unfold addS at hm
  split at hm
  · exact h m hm
  · rcases List.mem_append.1 hm with hm | hm
    · exact h m hm
    · simp at hm; exact ⟨_, hm⟩
theorem addS_len (all : List (List Int)) (l : List Int) : all.length ≤ (addS all l).length := by
  unfold addS
  split
  · omega
  · simp
theorem numS_lt (all : List (List Int)) (l : List Int) : numS all l < (addS all l).length := by
  unfold addS
  split
  · rename_i h; exact List.idxOf_lt_length_of_mem h
  · rename_i h; rw [numS_new h]; simp
def Row64 (r : List Int) : Prop := ∀ y, y ∈ r → 0 ≤ y ∧ y ≤ 64
theorem rowM_bd {a : Au} {l : List Int} : ∀ (cs row : List Int) (all : List (List Int)) (row' : List Int) (all' : List (List Int)), rowM a l cs row all = some (row', all') → Row64 row → all.length ≤ 64 → Row64 row' ∧ row'.length = row.length + cs.length ∧ all'.length ≤ 64
  | [], row, all, row', all', e, h, hl => by
    unfold rowM at e
    injection e with e
    injection e with e1 e2
    subst e1; subst e2
    exact ⟨h, by simp, hl⟩
  | c :: cs, row, all, row', all', e, h, hl => by
    by_cases h64 : 64 < (addS all (stepS a l c)).length
    · rw [rowM_many h64] at e; cases e
    · rw [rowM_next (by omega)] at e
      have h1 := numS_lt all (stepS a l c)
      obtain ⟨k1, k2, k3⟩ := rowM_bd cs _ _ row' all' e (fun y hy => by
        rcases List.mem_append.1 hy with hy | hy
        · exact h y hy
        · simp at hy; omega) (by omega)
      exact ⟨k1, by rw [k2]; simp; omega, k3⟩
/-- The rows that are made: how many, how long, where they lead. -/
structure RowsIn (cuts : List Int) (rows : List (List Int)) : Prop where
  each : ∀ r, r ∈ rows → Row64 r ∧ r.length = cuts.length
theorem mkM_bd {a : Au} {acc : Int} {cuts : List Int} : ∀ (f : Nat) (all rows : List (List Int)) (accs : List Bool) (rows' : List (List Int)) (accs' : List Bool), mkM a acc cuts f all rows accs = some (rows', accs') → RowsIn cuts rows → rows.length ≤ all.length → accs.length = rows.length → all.length ≤ 64 → RowsIn cuts rows' ∧ rows'.length ≤ 64 ∧ accs'.length = rows'.length
  | 0, _, _, _, _, _, e, _, _, _, _ => by unfold mkM at e; cases e
  | f + 1, all, rows, accs, rows', accs', e, h, hr, ha, hl => by
    cases hx : all[rows.length]? with
    | none =>
      unfold mkM at e
      rw [hx] at e
      injection e with e
      injection e with e1 e2
      subst e1; subst e2
      exact ⟨h, by omega, ha⟩
    | some l =>
      rw [mkM_row hx] at e
      cases hy : rowM a l cuts [] all with
      | none => rw [hy] at e; cases e
      | some q =>
        obtain ⟨row, all'⟩ := q
        rw [hy] at e
        obtain ⟨k1, k2, k3⟩ := rowM_bd cuts [] all row all' hy (fun y hy => by simp at hy) hl
        have hlt := lt_of_get hx
        have hmono : all.length ≤ all'.length := by
          have key : ∀ (cs row : List Int) (all : List (List Int)) (row' : List Int) (all' : List (List Int)), rowM a l cs row all = some (row', all') → all.length ≤ all'.length := fun cs => by
            induction cs with
            | nil => intro row all row' all' e; unfold rowM at e; injection e with e; injection e with e1 e2; subst e2; omega
            | cons c cs ih =>
              intro row all row' all' e
              by_cases h64 : 64 < (addS all (stepS a l c)).length
              · rw [rowM_many h64] at e; cases e
              · rw [rowM_next (by omega)] at e
                have h1 := ih _ _ _ _ e
                have h2 := addS_len all (stepS a l c)
                omega
          exact key _ _ _ _ _ hy
        exact mkM_bd f all' _ _ rows' accs' e ⟨fun r hr => by
          rcases List.mem_append.1 hr with hr | hr
          · exact h.each r hr
          · simp at hr; subst hr; exact ⟨k1, by simpa using k2⟩⟩ (by simp; omega) (by simp [ha]) k3
theorem madeM_bd {a : Au} {acc : Int} {cuts : List Int} {rows : List (List Int)} {accs : List Bool} (e : madeM a acc cuts = some (rows, accs)) : RowsIn cuts rows ∧ rows.length ≤ 64 ∧ accs.length = rows.length :=
  mkM_bd 70 _ _ _ _ _ e ⟨fun r hr => by simp at hr⟩ (by simp) rfl (by simp)
end Pv
