/- Names met, in a map; kinds in memory; where the walk through cells stands. PUT1 -/
import Derived.Test.YtbdkedjgfihamaaGreatDoorV6u
import Derived.Test.YtbdkedjgfihamaaGreatDoorGmu
import Derived.Test.YtbdkedjgfihamaaGreatDoorOnu
import Derived.Test.YtbdkedjgfihamaaGreatDoorMku
import Derived.StringKeys
import Derived.Deep.WholeRow
namespace Pv
open Go Go.RowKit Go.Maps Go.ChangeMaps
section
variable {α : Type} {P : Program} {tk tm ti : TypeId} {enc : α → Value} {ok : α → Prop} {val : Nat → Int} {W W' : World} {mb : Nat} {all : List α} {x : α}
/-- A key written over with what it has. -/
theorem MapQ.again (K : KeyE P tk enc ok) (hu : P.underlying tm = some (.map tk ti)) (h : MapQ enc ok val W mb all) (hok : ok x) {k : Nat} (hin : all[k]? = some x) {v : Int} (hv : val k = v) :
    ∃ W', (Instr.mapUpdate tm (.map (some mb)) (enc x) (.int .i64 v)).run P W = .ok () W' ∧ MapQ enc ok val W' mb all ∧ W'.os = W.os ∧ W'.tape = W.tape ∧ W'.output = W.output ∧ W'.heap.size = W.heap.size ∧ ∀ k, k ≠ mb → W'.heap[k]? = W.heap[k]? := by
  have hlt := h.lt
  subst hv
  obtain ⟨es, clock, hb, hes, hall, hst, hnd, hsz⟩ := h
  obtain ⟨y, hy⟩ := K.key x hok
  rcases K.law.find W hy es.toList (fun e he => by obtain ⟨k, l, h1, hk, _⟩ := hes e he; rw [hk]; exact K.key l (hst l (mem_of_get h1))) with ⟨_, h2⟩ | ⟨j, e0, h1, h2, h3⟩
  · obtain ⟨e, he, hke⟩ := hall k _ hin
    exact absurd hke (h2 e he)
  · obtain ⟨k', l, hk, hkey, hval⟩ := hes e0 (List.mem_of_getElem? h2)
    obtain rfl := K.inj _ _ (hst l (mem_of_get hk)) hok (hkey.symm.trans h3)
    obtain rfl := nodup_getQ hnd hk hin
    have h2' : es[j]? = some e0 := by rw [← Array.getElem?_toList]; exact h2
    obtain ⟨es2, he2⟩ : ∃ es2, es2 = es.modify j fun e => { e with key := enc l, val := .int .i64 (val k') } := ⟨_, rfl⟩
    have hget : ∀ q, es2[q]? = if j = q then (es[q]?).map (fun e => { e with key := enc l, val := .int .i64 (val k') }) else es[q]? := fun q => by
      rw [he2, Array.getElem?_modify]
    have hsz2 : es2.size = all.length := by rw [he2, Array.size_modify]; exact hsz
    have hmem : ∀ e, e ∈ es2.toList → ∃ e1, e1 ∈ es.toList ∧ e.key = e1.key ∧ e.val = e1.val := by
      intro e he
      obtain ⟨q, hq⟩ := List.getElem?_of_mem he
      rw [Array.getElem?_toList, hget] at hq
      split at hq
      · rename_i hjq
        subst hjq
        rw [h2'] at hq
        obtain rfl := Option.some.inj hq
        exact ⟨e0, List.mem_of_getElem? h2, h3.symm, hval.symm⟩
      · exact ⟨e, List.mem_of_getElem? (i := q) (by rw [Array.getElem?_toList]; exact hq), rfl, rfl⟩
    have hst2 := K.law.stays W hy
    refine ⟨setBlock W mb (.map es2 clock), ?_, ⟨es2, clock, ?_, fun e he => ?_, fun k l' hk => ?_, hst, hnd, hsz2⟩, rfl, rfl, rfl, ?_, fun k hk => ?_⟩
    · rw [he2]
      simp [Instr.mapUpdate, run_underlying hu, MapKept.run_getObj_map hb, K.law.check W false hy, h1, h2', h3, hst2, MapKept.run_setObj_map _ hb, Result.andThen, setBlock]
    · show (W.heap.setIfInBounds mb _)[mb]? = _
      rw [Array.getElem?_setIfInBounds, if_pos rfl, if_pos hlt]
    · obtain ⟨e1, he1, h4, h5⟩ := hmem e he
      obtain ⟨q, m, h6, h7, h8⟩ := hes e1 he1
      exact ⟨q, m, h6, h4.trans h7, h5.trans h8⟩
    · obtain ⟨e1, he1, h4⟩ := hall k l' hk
      obtain ⟨q, hq⟩ := List.getElem?_of_mem he1
      rw [Array.getElem?_toList] at hq
      by_cases hjq : j = q
      · subst hjq
        rw [h2'] at hq
        obtain rfl := Option.some.inj hq
        exact ⟨_, List.mem_of_getElem? (i := j) (by rw [Array.getElem?_toList, hget, if_pos rfl, h2']; rfl), h3.symm.trans h4⟩
      · exact ⟨e1, List.mem_of_getElem? (i := q) (by rw [Array.getElem?_toList, hget, if_neg hjq]; exact hq), h4⟩
    · show (W.heap.setIfInBounds mb _).size = _
      rw [Array.size_setIfInBounds]
    · show (W.heap.setIfInBounds mb _)[k]? = _
      rw [Array.getElem?_setIfInBounds, if_neg (fun e => hk e.symm)]
end
theorem Only.tr {b : Nat} {x y z : World} (h : Only b x y) (k : Only b y z) : Only b x z :=
  ⟨k.os.trans h.os, k.tape.trans h.tape, k.output.trans h.output, Nat.le_trans h.size k.size, fun q hq hr => (k.block q (Nat.lt_of_lt_of_le hq h.size) hr).trans (h.block q hq hr)⟩
theorem Only.ofB {b : Nat} {x y : World} (h : Below x.heap.size x y) : Only b x y := ⟨h.os, h.tape, h.output, h.size, fun k hk _ => h.block k hk⟩
/-- What of a cell's text, of its number a kind asks. -/
def txK (k : Int) (s : ByteArray) : Bool := if k = 3 then txtB s else if k = 4 ∨ k = 5 then namB s else decide (s.size = 0)
def nmK (k n : Int) : Bool := if k = 1 then decide (n = 0) || decide (n = 1) else if k = 2 then true else decide (n = 0)
theorem oneCl_eq {c : Cel} (h0 : 0 ≤ c.kind) (h7 : c.kind ≤ 7) : oneCl c = (txK c.kind c.text && nmK c.kind c.int && decide (0 ≤ c.many) && (nesB c.kind || decide (c.many = 0))) := by
  obtain ⟨k, nm, tx, n, m⟩ := c
  simp only at h0 h7 ⊢
  rcases (show k = 0 ∨ k = 1 ∨ k = 2 ∨ k = 3 ∨ k = 4 ∨ k = 5 ∨ k = 6 ∨ k = 7 by omega) with rfl | rfl | rfl | rfl | rfl | rfl | rfl | rfl
  all_goals
    by_cases hm : m = 0
    · subst hm
      simp [oneCl, txK, nmK, nesB]
    · have hm2 : decide (m = 0) = false := decide_eq_false hm
      simp [oneCl, txK, nmK, nesB, hm]
theorem oneCl_8 {c : Cel} (h7 : 7 < c.kind) : oneCl c = false := by
  unfold oneCl
  (repeat' split) <;> first | omega | rfl
end Pv
namespace Go.Proofs.YtbdkedjgfihamaaGreatDoor
open Go.RowKit Pv Go.Maps
abbrev okS (s : ByteArray) : Prop := s.size ≤ maxLen
theorem strE : KeyE Tryz.prog 9 Value.string okS := ⟨string_keyed Tryz.underlying9, fun _s h => ⟨_, WideMaps.keyOf_string_mk Tryz.underlying9 h⟩, fun _a _b _ _ h => Value.string.inj h⟩
abbrev fnv (n : Nat) : Value := .func (.func n) #[] #[]
/-- All kinds' tests, in their array. -/
def kcs : Array Value := #[fnv 138, fnv 139, .bool false, fnv 138, fnv 140, .bool false, fnv 138, fnv 141, .bool false, fnv 142, fnv 139, .bool false, fnv 143, fnv 139, .bool false, fnv 143, fnv 139, .bool false, fnv 138, fnv 139, .bool true, fnv 138, fnv 139, .bool true]
abbrev TK8 : TypeId := 151
abbrev TCe : TypeId := 72
set_option maxHeartbeats 1000000 in
set_option maxRecDepth 100000 in
theorem cell_kinds (w : World) : Calls Tryz.prog 129 #[] w fun e w' => e = .returned (.agg kcs) ∧ Below w.heap.size w w' := by
  have hr := fun tmps (W : World) (g : Nat) fr (hp : tmps.getD 0 undef = .pointer (some ⟨g, 0, none⟩)) (hg : W.heap[g]? = some (.cells kcs TK8 fr)) => results_cell_row (P := Tryz.prog) (fn := Tryz.f129) (p := 0) (ty := TK8) Tryz.results129 tmps W g TK8 kcs fr _ hp hg Tryz.underlying151 rfl (by kernel_rfl)
  have HR := Lib.hid hr
  clear hr
  go_enter Tryz.func129, Tryz.ntmps129
  go_wp2_with (first
  | (refine wpList_store_row rfl TK8 (.tmp 0) (.tmp 9) rfl w.heap.size kcs rfl rfl TK8 _ (heap_alloc_new w _) (by kernel_rfl) rfl (by kernel_rfl) ?_
     rw [World.setRow_alloc_new]))
  exact bodyPost_ret (HR.out _ _ w.heap.size (0, 0) rfl (heap_alloc_new w _)) rfl ⟨rfl, (Below.refl _ _).alloc (Nat.le_refl _) _⟩
/-- A kind's tests. -/
theorem kind_at (B : Nat) {k : Int} (h0 : 0 ≤ k) (h7 : k ≤ 7) : ∃ tf nf : Nat, kcs[k.toNat * 3]? = some (fnv tf) ∧ kcs[k.toNat * 3 + 1]? = some (fnv nf) ∧ kcs[k.toNat * 3 + 2]? = some (.bool (nesB k)) ∧
    (∀ s W, s.size ≤ 100000 → TabS B W → Calls Tryz.prog tf #[.string s] W fun e w' => e = .returned (.bool (txK k s)) ∧ Below W.heap.size W w') ∧ (∀ n W, Calls Tryz.prog nf #[.int .i64 n] W fun e w' => e = .returned (.bool (nmK k n)) ∧ W = w') ∧ (∀ args W, (callFunc tf args).run Tryz.prog W = .ok (.enter tf args) W) ∧ (∀ args W, (callFunc nf args).run Tryz.prog W = .ok (.enter nf args) W) := by
  have c1 : ∀ args W, (callFunc 138 args).run Tryz.prog W = .ok (.enter 138 args) W := fun _ _ => by kernel_rfl
  have c2 : ∀ args W, (callFunc 139 args).run Tryz.prog W = .ok (.enter 139 args) W := fun _ _ => by kernel_rfl
  have c3 : ∀ args W, (callFunc 140 args).run Tryz.prog W = .ok (.enter 140 args) W := fun _ _ => by kernel_rfl
  have c4 : ∀ args W, (callFunc 141 args).run Tryz.prog W = .ok (.enter 141 args) W := fun _ _ => by kernel_rfl
  have c5 : ∀ args W, (callFunc 142 args).run Tryz.prog W = .ok (.enter 142 args) W := fun _ _ => by kernel_rfl
  have c6 : ∀ args W, (callFunc 143 args).run Tryz.prog W = .ok (.enter 143 args) W := fun _ _ => by kernel_rfl
  have hn : ∀ s W, s.size ≤ 100000 → TabS B W → Calls Tryz.prog 138 #[.string s] W fun e w' => e = .returned (.bool (decide (s.size = 0))) ∧ Below W.heap.size W w' := fun s W _ _ => (cell_none s W).mono fun e w' ⟨h1, h2⟩ => ⟨h1, by rw [h2]; exact Below.refl _ _⟩
  rcases (show k = 0 ∨ k = 1 ∨ k = 2 ∨ k = 3 ∨ k = 4 ∨ k = 5 ∨ k = 6 ∨ k = 7 by omega) with rfl | rfl | rfl | rfl | rfl | rfl | rfl | rfl
  · exact ⟨_, _, rfl, rfl, rfl, hn, cell_zero, c1, c2⟩
  · exact ⟨_, _, rfl, rfl, rfl, hn, kinds_1, c1, c3⟩
  · exact ⟨_, _, rfl, rfl, rfl, hn, kinds_2, c1, c4⟩
  · exact ⟨_, _, rfl, rfl, rfl, fun s W hs hT => kinds_3 s W B (by omega) hT, cell_zero, c5, c2⟩
  · exact ⟨_, _, rfl, rfl, rfl, fun s W hs _ => cell_name s W hs, cell_zero, c6, c2⟩
  · exact ⟨_, _, rfl, rfl, rfl, fun s W hs _ => cell_name s W hs, cell_zero, c6, c2⟩
  · exact ⟨_, _, rfl, rfl, rfl, hn, cell_zero, c1, c2⟩
  · exact ⟨_, _, rfl, rfl, rfl, hn, cell_zero, c1, c2⟩
end Go.Proofs.YtbdkedjgfihamaaGreatDoor
