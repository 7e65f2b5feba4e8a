/- A map whose keys come one by one. No program stands here. -/
import Derived.Test.YtbdkedjgfihamaaGreatDoorMem3u
import Derived.Maps.Keyed
import Derived.WideKeyMaps
import Derived.MapKept
import Derived.MapFrom
import Derived.ChangeMaps4
import Derived.Laws.Entries
namespace Pv
open Go Go.RowKit Go.Maps Go.ChangeMaps
/-- How keys are written as values. -/
structure KeyE (P : Program) (tk : TypeId) {α : Type} (enc : α → Value) (ok : α → Prop) : Prop where
  law : Keyed P tk
  key : ∀ l, ok l → ∃ x, keyOf P tk (enc l) = some x
  inj : ∀ l m, ok l → ok m → enc l = enc m → l = m
/-- The map: val k stands at the k-th key. -/
def MapQ {α : Type} (enc : α → Value) (ok : α → Prop) (val : Nat → Int) (W : World) (mb : Nat) (all : List α) : Prop :=
  ∃ es clock, W.heap[mb]? = some (.map es clock) ∧ (∀ e, e ∈ es.toList → ∃ (k : Nat) (l : α), all[k]? = some l ∧ e.key = enc l ∧ e.val = .int .i64 (val k)) ∧ (∀ (k : Nat) (l : α), all[k]? = some l → ∃ e, e ∈ es.toList ∧ e.key = enc l) ∧
    (∀ l, l ∈ all → ok l) ∧ all.Nodup ∧ es.size = all.length
section
variable {α : Type} {P : Program} {tk tm ti : TypeId} {enc : α → Value} {ok : α → Prop} {val : Nat → Int} {W W' : World} {mb : Nat} {all : List α} {x : α}
theorem MapQ.nil (W : World) : MapQ enc ok val (W.alloc (.map #[] 0)) W.heap.size [] := ⟨#[], 0, by show (W.heap.push _)[W.heap.size]? = _; simp, fun e he => by simp at he, fun k l h => by simp at h, fun l h => by simp at h, by simp, rfl⟩
theorem MapQ.lt (h : MapQ enc ok val W mb all) : mb < W.heap.size := by
  obtain ⟨es, clock, h, _⟩ := h
  rcases Nat.lt_or_ge mb W.heap.size with hlt | hge
  · exact hlt
  · rw [Array.getElem?_eq_none hge] at h; cases h
theorem MapQ.of_block (h : MapQ enc ok val W mb all) (e : W'.heap[mb]? = W.heap[mb]?) : MapQ enc ok val W' mb all := by
  obtain ⟨es, clock, h, r⟩ := h
  exact ⟨es, clock, e.trans h, r⟩
theorem MapQ.nodup (h : MapQ enc ok val W mb all) : all.Nodup := by obtain ⟨_, _, _, _, _, _, h, _⟩ := h; exact h
theorem MapQ.below (h : MapQ enc ok val W mb all) (hb : Below W.heap.size W W') : MapQ enc ok val W' mb all := h.of_block (hb.block _ h.lt)
theorem nodup_getQ {l : List α} (h : l.Nodup) {i j : Nat} {x : α} (hi : l[i]? = some x) (hj : l[j]? = some x) : i = j := by
  have h1 := lt_of_get hi; have h2 := lt_of_get hj
  rw [List.getElem?_eq_getElem h1] at hi
  rw [List.getElem?_eq_getElem h2] at hj
  exact (List.getElem_inj h).1 (Option.some.inj (hi.trans hj.symm))
theorem MapQ.in (K : KeyE P tk enc ok) (hu : P.underlying tm = some (.map tk ti)) (_hz : ∀ w, (zeroValue ti).run P w = .ok (.int .i64 0) w) (h : MapQ enc ok val W mb all) (hok : ok x) {k : Nat} (hin : all[k]? = some x) :
    (Instr.lookup tm (.map (some mb)) (enc x) true).run P W = .ok (.tuple #[.int .i64 (val k), .bool true]) W ∧ (Instr.lookup tm (.map (some mb)) (enc x) false).run P W = .ok (.int .i64 (val k)) W := by
  obtain ⟨es, clock, hb, hes, hall, hst, hnd, _⟩ := h
  obtain ⟨y, hy⟩ := K.key x hok
  rcases K.law.find W hy es.toList (fun e he => by obtain ⟨k, l, h1, hk, _⟩ := hes e he; rw [hk]; exact K.key l (hst l (mem_of_get h1))) with ⟨_, h2⟩ | ⟨j, e0, h1, h2, h3⟩
  · obtain ⟨e, he, hke⟩ := hall k _ hin
    exact absurd hke (h2 e he)
  · obtain ⟨k', l, hk, hkey, hval⟩ := hes e0 (List.mem_of_getElem? h2)
    obtain rfl := K.inj _ _ (hst l (mem_of_get hk)) hok (hkey.symm.trans h3)
    obtain rfl := nodup_getQ hnd hk hin
    rw [hval] at h1
    exact ⟨by simp [Instr.lookup, run_underlying hu, MapKept.run_getObj_map hb, K.law.check W _ hy, h1, Result.andThen], by simp [Instr.lookup, run_underlying hu, MapKept.run_getObj_map hb, K.law.check W _ hy, h1, Result.andThen]⟩
theorem MapQ.out (K : KeyE P tk enc ok) (hu : P.underlying tm = some (.map tk ti)) (hz : ∀ w, (zeroValue ti).run P w = .ok (.int .i64 0) w) (h : MapQ enc ok val W mb all) (hok : ok x) (hin : x ∉ all) :
    (Instr.lookup tm (.map (some mb)) (enc x) true).run P W = .ok (.tuple #[.int .i64 0, .bool false]) W ∧ (Instr.lookup tm (.map (some mb)) (enc x) false).run P W = .ok (.int .i64 0) W := by
  obtain ⟨es, clock, hb, hes, hall, hst, hnd, _⟩ := h
  obtain ⟨y, hy⟩ := K.key x hok
  rcases K.law.find W hy es.toList (fun e he => by obtain ⟨k, l, h1, hk, _⟩ := hes e he; rw [hk]; exact K.key l (hst l (mem_of_get h1))) with ⟨h1, _⟩ | ⟨j, e0, h1, h2, h3⟩
  · exact ⟨by simp [Instr.lookup, run_underlying hu, MapKept.run_getObj_map hb, K.law.check W _ hy, h1, hz, Result.andThen], by simp [Instr.lookup, run_underlying hu, MapKept.run_getObj_map hb, K.law.check W _ hy, h1, hz, Result.andThen]⟩
  · obtain ⟨k, l, hk, hkey, hval⟩ := hes e0 (List.mem_of_getElem? h2)
    obtain rfl := K.inj _ _ (hst l (mem_of_get hk)) hok (hkey.symm.trans h3)
    exact absurd (mem_of_get hk) hin
theorem MapQ.put (K : KeyE P tk enc ok) (hu : P.underlying tm = some (.map tk ti)) (h : MapQ enc ok val W mb all) (hok : ok x) (hin : x ∉ all) {v : Int} (hv : val all.length = v) :
    ∃ W', (Instr.mapUpdate tm (.map (some mb)) (enc x) (.int .i64 v)).run P W = .ok () W' ∧ MapQ enc ok val W' mb (all ++ [x]) ∧ W'.os = W.os ∧ W'.tape = W.tape ∧ W'.output = W.output ∧ W'.heap.size = W.heap.size ∧ ∀ k, k ≠ mb → W'.heap[k]? = W.heap[k]? := by
  have hlt := h.lt
  subst hv
  obtain ⟨es, clock, hb, hes, hall, hst, hnd, hsz⟩ := h
  obtain ⟨y, hy⟩ := K.key x hok
  rcases K.law.find W hy es.toList (fun e he => by obtain ⟨k, l, h1, hk, _⟩ := hes e he; rw [hk]; exact K.key l (hst l (mem_of_get h1))) with ⟨h1, _⟩ | ⟨j, e0, h1, h2, h3⟩
  · refine ⟨setBlock W mb (.map (es.push ⟨enc x, .int .i64 (val all.length), clock⟩) (clock + 1)), ?_, ⟨es.push ⟨enc x, .int .i64 (val all.length), clock⟩, clock + 1, ?_, fun e he => ?_, fun k l hk => ?_, fun l hl => ?_, ?_, by simp [hsz]⟩, rfl, rfl, rfl, by show (W.heap.setIfInBounds mb _).size = _; simp, fun k hk => ?_⟩
    · simp [Instr.mapUpdate, run_underlying hu, MapKept.run_getObj_map hb, K.law.check W false hy, h1, MapKept.run_setObj_map _ hb, Result.andThen, setBlock]
    · show (W.heap.setIfInBounds mb _)[mb]? = _
      rw [Array.getElem?_setIfInBounds, if_pos rfl, if_pos hlt]
    · simp only [Array.toList_push, List.mem_append, List.mem_singleton] at he
      rcases he with he | rfl
      · obtain ⟨k, l, h4, h5⟩ := hes e he
        exact ⟨k, l, by rw [List.getElem?_append_left (lt_of_get h4)]; exact h4, h5⟩
      · exact ⟨all.length, x, by simp, rfl, rfl⟩
    · simp only [Array.toList_push, List.mem_append, List.mem_singleton]
      by_cases e : k < all.length
      · rw [List.getElem?_append_left e] at hk
        obtain ⟨e1, h4, h5⟩ := hall k l hk
        exact ⟨e1, .inl h4, h5⟩
      · have hk2 := lt_of_get hk
        rw [List.length_append] at hk2
        simp only [List.length_singleton] at hk2
        obtain rfl : k = all.length := by omega
        rw [List.getElem?_append_right (Nat.le_refl _)] at hk
        simp at hk
        exact ⟨_, .inr rfl, by simp [hk]⟩
    · rcases List.mem_append.1 hl with hl | hl
      · exact hst l hl
      · simp at hl; rw [hl]; exact hok
    · rw [List.nodup_append]
      exact ⟨hnd, by simp, fun a ha b hb => by simp at hb; subst hb; rintro rfl; exact hin ha⟩
    · show (W.heap.setIfInBounds mb _)[k]? = _
      rw [Array.getElem?_setIfInBounds, if_neg (fun e => hk e.symm)]
  · obtain ⟨k, l, hk, hkey, hval⟩ := hes e0 (List.mem_of_getElem? h2)
    obtain rfl := K.inj _ _ (hst l (mem_of_get hk)) hok (hkey.symm.trans h3)
    exact absurd (mem_of_get hk) hin
theorem MapQ.len (hu : P.underlying tm = some (.map tk ti)) (h : MapQ enc ok val W mb all) (ty : TypeId) : (Builtin.len_ #[tm] ty #[.map (some mb)]).run P W = .ok (.int .i64 all.length) W := by
  obtain ⟨es, clock, hb, _, _, _, _, hsz⟩ := h
  simp [Builtin.len_, run_underlying hu, MapKept.run_getObj_map hb, goInt, Result.andThen, hsz]
end
end Pv
