/- Walks: some states as four words; the map from these to numbers (the program's). PUT1 -/
import Derived.Test.YtcmmmgblkbbdnaaGreatDoorGcz
import Derived.Test.YtcmmmgblkbbdnaaGreatDoorFgz
import Derived.Test.YtcmmmgblkbbdnaaGreatDoorLsz
import Derived.DeepKeys4
import Derived.WideKeyMaps
import Derived.MapKept
import Derived.MapFrom
import Derived.ChangeMaps4
import Derived.Laws.Bits64b
namespace Go.Proofs.YtcmmmgblkbbdnaaGreatDoor
open Go.RowKit Go.ChangeMaps Pv

abbrev TSt : TypeId := 113
abbrev TMet : TypeId := 110
theorem laidOutM : laidOutB Tryz.prog = true := by kernel_rfl
theorem st_law : WideMaps.KeyLaw Tryz.prog TSt := deep_law_laid laidOutM (m := 3) (by omega) (of_decide_eq_true (by kernel_rfl)) (by kernel_rfl) (by kernel_rfl)
/-- The four words of some states; as a key. -/
def wArr (l : List Int) : Array Value := #[.int .u64 (wd l 0), .int .u64 (wd l 1), .int .u64 (wd l 2), .int .u64 (wd l 3)]
theorem kt_st : Tryz.prog.keyType TSt = true := by kernel_rfl
theorem c_st : Tryz.prog.cellsOf TSt = 4 := by kernel_rfl
theorem c_u64 : Tryz.prog.cellsOf 111 = 1 := by kernel_rfl
theorem depthM : ∃ d, Tryz.prog.types.size + 1 = d + 2 := ⟨Tryz.prog.types.size - 1, by have : 1 ≤ Tryz.prog.types.size := of_decide_eq_true (by kernel_rfl); omega⟩
theorem st_key (l : List Int) : ∃ x, keyOf Tryz.prog TSt (.agg (wArr l)) = some x := by
  obtain ⟨d, hd⟩ := depthM
  have hw : ∀ i, (Lit.int .u64 (wd l i : Int)).wf = true := fun i => by have := wd_lt l i; simp [Lit.wf, IntKind.min, IntKind.max, IntKind.signed, IntKind.bits]; omega
  unfold keyOf wArr
  rw [Tryz.underlying113]
  simp only [kt_st, Value.formed, Tryz.underlying113, c_st, hd]
  have h1 : Tryz.prog.keyLits (d + 2) TSt [.int .u64 (wd l 0), .int .u64 (wd l 1), .int .u64 (wd l 2), .int .u64 (wd l 3)] = some [.int .u64 (wd l 0), .int .u64 (wd l 1), .int .u64 (wd l 2), .int .u64 (wd l 3)] := by
    simp [Program.keyLits, Tryz.underlying113, Tryz.underlying111, c_st, c_u64, hw, List.range_succ]
  rw [if_pos (by simp), show (Value.agg #[.int .u64 (wd l 0), .int .u64 (wd l 1), .int .u64 (wd l 2), .int .u64 (wd l 3)]).cells.toList = [.int .u64 (wd l 0), .int .u64 (wd l 1), .int .u64 (wd l 2), .int .u64 (wd l 3)] from rfl, h1]
  exact ⟨_, rfl⟩
theorem wArr_inj {n : Nat} (hn : n ≤ 256) {S T : Nat → Prop} (h : Value.agg (wArr (stL n S)) = .agg (wArr (stL n T))) : stL n S = stL n T := by
  refine wd_inj hn fun i hi => ?_
  unfold wArr at h
  simp only [Value.agg.injEq, Array.mk.injEq, List.cons.injEq, Value.int.injEq, true_and, and_true] at h
  obtain ⟨h0, h1, h2, h3⟩ := h
  match i, hi with
  | 0, _ => omega
  | 1, _ => omega
  | 2, _ => omega
  | 3, _ => omega

/-- The map of what is met. -/
def MapM (W : World) (mb n : Nat) (all : List (List Int)) : Prop :=
  ∃ es clock, W.heap[mb]? = some (.map es clock) ∧ (∀ e, e ∈ es.toList → ∃ (k : Nat) (l : List Int), all[k]? = some l ∧ e.key = .agg (wArr l) ∧ e.val = .int .i64 k) ∧ (∀ (k : Nat) (l : List Int), all[k]? = some l → ∃ e, e ∈ es.toList ∧ e.key = .agg (wArr l)) ∧
    (∀ l, l ∈ all → ∃ S, l = stL n S) ∧ all.Nodup
theorem MapM.nil (W : World) (n : Nat) : MapM (W.alloc (.map #[] 0)) W.heap.size n [] := ⟨#[], 0, by show (W.heap.push _)[W.heap.size]? = _; simp, fun e he => by simp at he, fun k l h => by simp at h, fun l h => by simp at h, by simp⟩
theorem MapM.lt {W : World} {mb n : Nat} {all : List (List Int)} (h : MapM W mb n all) : mb < W.heap.size := by
  obtain ⟨es, clock, h, _⟩ := h
  rcases Nat.lt_or_ge mb W.heap.size with hlt | hge
  · exact hlt
  · rw [Array.getElem?_eq_none hge] at h; cases h
theorem MapM.of_block {W W' : World} {mb n : Nat} {all : List (List Int)} (h : MapM W mb n all) (e : W'.heap[mb]? = W.heap[mb]?) : MapM W' mb n all := by
  obtain ⟨es, clock, h, r⟩ := h
  exact ⟨es, clock, e.trans h, r⟩
theorem nodup_get {l : List (List Int)} (h : l.Nodup) {i j : Nat} {x : List Int} (hi : l[i]? = some x) (hj : l[j]? = some x) : i = j := by
  have h1 := lt_of_get hi; have h2 := lt_of_get hj
  rw [List.getElem?_eq_getElem h1] at hi
  rw [List.getElem?_eq_getElem h2] at hj
  have := Option.some.inj (hi.trans hj.symm)
  exact (List.getElem_inj h).1 this
theorem numS_get {all : List (List Int)} {l : List Int} {k : Nat} (hn : all.Nodup) (h : all[k]? = some l) : numS all l = k := by
  have hm := mem_of_get h
  have h1 : all[numS all l]? = some l := by
    unfold numS
    rw [List.getElem?_eq_getElem (List.idxOf_lt_length_of_mem hm), List.getElem_idxOf]
  exact nodup_get hn h1 h
section
variable {W : World} {mb n : Nat} {all : List (List Int)} {S : Nat → Prop}
theorem MapM.in (h : MapM W mb n all) (hn : n ≤ 256) (hin : stL n S ∈ all) :
    (Instr.lookup TMet (.map (some mb)) (.agg (wArr (stL n S))) true).run Tryz.prog W = .ok (.tuple #[.int .i64 (numS all (stL n S)), .bool true]) W ∧ (Instr.lookup TMet (.map (some mb)) (.agg (wArr (stL n S))) false).run Tryz.prog W = .ok (.int .i64 (numS all (stL n S))) W := by
  obtain ⟨es, clock, hb, hes, hall, hst, hnd⟩ := h
  obtain ⟨x, hx⟩ := st_key (stL n S)
  rcases st_law.find W hx es.toList (fun e he => by obtain ⟨k, l, _, hk, _⟩ := hes e he; rw [hk]; exact st_key l) with ⟨_, h2⟩ | ⟨j, e0, h1, h2, h3⟩
  · obtain ⟨k, hk⟩ := List.getElem?_of_mem hin
    obtain ⟨e, he, hke⟩ := hall k _ hk
    exact absurd hke (h2 e he)
  · obtain ⟨k, l, hk, hkey, hval⟩ := hes e0 (List.mem_of_getElem? h2)
    obtain ⟨T, rfl⟩ := hst l (mem_of_get hk)
    have he := wArr_inj hn (hkey.symm.trans h3)
    rw [he] at hk
    rw [hval] at h1
    rw [numS_get hnd hk]
    exact ⟨by simp [Instr.lookup, run_underlying Tryz.underlying110, MapKept.run_getObj_map hb, st_law.check W _ hx, h1, Result.andThen], by simp [Instr.lookup, run_underlying Tryz.underlying110, MapKept.run_getObj_map hb, st_law.check W _ hx, h1, Result.andThen]⟩
theorem MapM.out (h : MapM W mb n all) (hn : n ≤ 256) (hin : stL n S ∉ all) :
    (Instr.lookup TMet (.map (some mb)) (.agg (wArr (stL n S))) true).run Tryz.prog W = .ok (.tuple #[.int .i64 0, .bool false]) W := by
  obtain ⟨es, clock, hb, hes, hall, hst, hnd⟩ := h
  obtain ⟨x, hx⟩ := st_key (stL n S)
  rcases st_law.find W hx es.toList (fun e he => by obtain ⟨k, l, _, hk, _⟩ := hes e he; rw [hk]; exact st_key l) with ⟨h1, _⟩ | ⟨j, e0, h1, h2, h3⟩
  · simp [Instr.lookup, run_underlying Tryz.underlying110, MapKept.run_getObj_map hb, st_law.check W _ hx, h1, Result.andThen]
  · obtain ⟨k, l, hk, hkey, hval⟩ := hes e0 (List.mem_of_getElem? h2)
    obtain ⟨T, rfl⟩ := hst l (mem_of_get hk)
    have he := wArr_inj hn (hkey.symm.trans h3)
    exact absurd (he ▸ mem_of_get hk) hin
theorem MapM.put (h : MapM W mb n all) (hn : n ≤ 256) (hin : stL n S ∉ all) :
    ∃ W', (Instr.mapUpdate TMet (.map (some mb)) (.agg (wArr (stL n S))) (.int .i64 all.length)).run Tryz.prog W = .ok () W' ∧ MapM W' mb n (all ++ [stL n S]) ∧ W'.os = W.os ∧ W'.tape = W.tape ∧ W'.output = W.output ∧ W'.heap.size = W.heap.size ∧ ∀ k, k ≠ mb → W'.heap[k]? = W.heap[k]? := by
  have hlt := h.lt
  obtain ⟨es, clock, hb, hes, hall, hst, hnd⟩ := h
  obtain ⟨x, hx⟩ := st_key (stL n S)
  rcases st_law.find W hx es.toList (fun e he => by obtain ⟨k, l, _, hk, _⟩ := hes e he; rw [hk]; exact st_key l) with ⟨h1, _⟩ | ⟨j, e0, h1, h2, h3⟩
  · refine ⟨setBlock W mb (.map (es.push ⟨.agg (wArr (stL n S)), .int .i64 all.length, clock⟩) (clock + 1)), ?_, ⟨es.push ⟨.agg (wArr (stL n S)), .int .i64 all.length, clock⟩, clock + 1, ?_, fun e he => ?_, fun k l hk => ?_, fun l hl => ?_, ?_⟩, rfl, rfl, rfl, by show (W.heap.setIfInBounds mb _).size = _; simp, fun k hk => ?_⟩
    · simp [Instr.mapUpdate, run_underlying Tryz.underlying110, MapKept.run_getObj_map hb, st_law.check W false hx, h1, MapKept.run_setObj_map _ hb, Result.andThen, setBlock]
    · show (W.heap.setIfInBounds mb _)[mb]? = _
      rw [Array.getElem?_setIfInBounds, if_pos rfl, if_pos hlt]
    · simp only [Array.toList_push, List.mem_append, List.mem_singleton] at he
      rcases he with he | rfl
      · obtain ⟨k, l, h4, h5⟩ := hes e he
        exact ⟨k, l, by rw [List.getElem?_append_left (lt_of_get h4)]; exact h4, h5⟩
      · exact ⟨all.length, stL n S, by simp, rfl, rfl⟩
    · simp only [Array.toList_push, List.mem_append, List.mem_singleton]
      by_cases e : k < all.length
      · rw [List.getElem?_append_left e] at hk
        obtain ⟨e1, h4, h5⟩ := hall k l hk
        exact ⟨e1, .inl h4, h5⟩
      · have hk2 := lt_of_get hk
        rw [List.length_append] at hk2
        simp only [List.length_singleton] at hk2
        obtain rfl : k = all.length := by omega
        rw [List.getElem?_append_right (Nat.le_refl _)] at hk
        simp at hk
        exact ⟨_, .inr rfl, by simp [hk]⟩
    · rcases List.mem_append.1 hl with hl | hl
      · exact hst l hl
      · simp at hl; exact ⟨S, hl⟩
    · rw [List.nodup_append]
      exact ⟨hnd, by simp, fun a ha b hb => by simp at hb; subst hb; rintro rfl; exact hin ha⟩
    · show (W.heap.setIfInBounds mb _)[k]? = _
      rw [Array.getElem?_setIfInBounds, if_neg (fun e => hk e.symm)]
  · obtain ⟨k, l, hk, hkey, hval⟩ := hes e0 (List.mem_of_getElem? h2)
    obtain ⟨T, rfl⟩ := hst l (mem_of_get hk)
    have he := wArr_inj hn (hkey.symm.trans h3)
    exact absurd (he ▸ mem_of_get hk) hin
end

end Go.Proofs.YtcmmmgblkbbdnaaGreatDoor
