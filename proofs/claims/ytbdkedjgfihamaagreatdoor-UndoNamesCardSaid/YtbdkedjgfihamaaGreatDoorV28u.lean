/- copy of elements of several cells. Nothing of a program stands here. -/
import Derived.Test.YtbdkedjgfihamaaGreatDoorV11u
import Derived.Laws.CopyRow
import Derived.Laws.CopyOwn
namespace Pv
open Go Go.RowKit
theorem run_copy_rowK {P : Program} (w : World) (dT sT ty elem : TypeId) (k g o dLen dCap n : Nat) (a : Addr) (sLen sCap : Nat) (cur : Array Value) (t : TypeId) (cs : List Value)
    (hu : P.underlying dT = some (.slice elem)) (hs : (P.info? elem).map (·.size) = some k)
    (hg : w.heap[g]? = some (.cells cur t (0, 0))) (hn : n = Nat.min sLen dLen) (hcs : cs.length = n * k)
    (hsrc : ∀ j v, cs[j]? = some v → w.cell? (a.add j) = some v) (hfit : o + cs.length ≤ cur.size) (h1 : ∀ v ∈ cs, v.oneCell' = true) :
    (Builtin.copy_ #[dT, sT] ty #[.slice (some ⟨g, o, none⟩) dLen dCap, .slice (some a) sLen sCap]).run P w =
      .ok (goInt n) (w.setRow g (cur.toList.take o ++ cs ++ cur.toList.drop (o + cs.length)).toArray) := by
  have hl := run_loadCells_list (P := P) w a cs hsrc
  have hst := run_storeCells_at P g o t cs 0 cur w hg (by simpa using hfit) h1
  cases hq : P.info? elem with
  | none => simp [hq] at hs
  | some i =>
    have hi : i.size = k := by simpa [hq] using hs
    have hz : (Go.sizeOf elem).run P w = .ok k w := by simp [Go.sizeOf, Go.typeInfo, hq, hi]
    simp [Builtin.copy_, run_underlying hu, Builtin.lenOf, Builtin.firstCells, hz, ← hn, ← hcs, hl, hst]
/-- .. where nothing goes over. -/
theorem run_copy_nothingK {P : Program} (w : World) (dT sT ty elem : TypeId) (k : Nat) (d a : Option Addr) (dLen dCap sLen sCap : Nat) (hu : P.underlying dT = some (.slice elem)) (hs : (P.info? elem).map (·.size) = some k) (hn : Nat.min sLen dLen = 0) :
    (Builtin.copy_ #[dT, sT] ty #[.slice d dLen dCap, .slice a sLen sCap]).run P w = .ok (goInt 0) w := by
  cases hq : P.info? elem with
  | none => simp [hq] at hs
  | some i =>
    have hl : ∀ x : Addr, (loadCells x 0).run P w = .ok #[] w := fun x => by
      have := run_loadCells_list (P := P) w x [] (by simp)
      simpa using this
    have hi : i.size = k := by simpa [hq] using hs
    have hz : (Go.sizeOf elem).run P w = .ok k w := by simp [Go.sizeOf, Go.typeInfo, hq, hi]
    cases a <;> cases d <;> simp [Builtin.copy_, run_underlying hu, Builtin.lenOf, Builtin.firstCells, hz, hn, hl, storeCells]
/-- copy onto a row that is known whole: n elements of k cells each. -/
theorem wpList_copyK {P : Program} {w : World} {ops : Array Oper} {rest : List Oper} {o : Oper} {a : Act} {Q : Exit → Act → World → Prop} (hgd : o.guard = none) (d s : Operand) (dT sT : TypeId)
    (ho : o.op = .call { callee := .builtin .copy, args := #[d, s], argTypes := #[dT, sT] }) (elem : TypeId) (k : Nat) (hu : P.underlying dT = some (.slice elem)) (hsz : (P.info? elem).map (·.size) = some k)
    (g off dLen dCap n : Nat) (sp : Option Addr) (sLen sCap : Nat) (hd : a.eval d = .slice (some ⟨g, off, none⟩) dLen dCap) (hs : a.eval s = .slice sp sLen sCap)
    (cur : Array Value) (t : TypeId) (hg : w.heap[g]? = some (.cells cur t (0, 0))) (cs : List Value) (hn : n = Nat.min sLen dLen) (hcs : cs.length = n * k)
    (hsrc : 0 < n → ∃ ad, sp = some ad ∧ ∀ j v, cs[j]? = some v → w.cell? (ad.add j) = some v) (hfit : off + cs.length ≤ cur.size) (h1 : ∀ v ∈ cs, v.oneCell' = true)
    (h : wpList P ops Q rest (a.put o.dst (goInt n)) (w.setRow g (cur.toList.take off ++ cs ++ cur.toList.drop (off + cs.length)).toArray)) : wpList P ops Q (o :: rest) a w := by
  refine wpList_plain hgd fun K hK => ?_
  have hrun : (Builtin.copy_ #[dT, sT] o.type #[.slice (some ⟨g, off, none⟩) dLen dCap, .slice sp sLen sCap]).run P w = .ok (goInt n) (w.setRow g (cur.toList.take off ++ cs ++ cur.toList.drop (off + cs.length)).toArray) := by
    rcases Nat.eq_zero_or_pos n with h0 | h0
    · subst h0
      have hc : cs = [] := List.eq_nil_of_length_eq_zero (by omega)
      subst hc
      rw [run_copy_nothingK w dT sT o.type elem k _ sp dLen dCap sLen sCap hu hsz hn.symm]
      congr 1
      have e : (cur.toList.take off ++ [] ++ cur.toList.drop (off + ([] : List Value).length)).toArray = cur := by simp
      rw [e, setRow_self w g cur t (0, 0) hg]
    · obtain ⟨ad, rfl, hsr⟩ := hsrc h0
      exact run_copy_rowK w dT sT o.type elem k g off dLen dCap n ad sLen sCap cur t cs hu hsz hg hn hcs hsr hfit h1
  unfold Oper.wp
  simp [execOp, ho, resolve, invoke, builtin, hd, hs, hrun, Result.andThen]
  refine hK _ _ ?_
  simpa using h
/-- A row laid anew, all else as it was. -/
structure RowSet (w w' : World) (g : Nat) (t : TypeId) (cs : Array Value) : Prop where
  blk : Blk w' g t cs
  os : w'.os = w.os
  tape : w'.tape = w.tape
  output : w'.output = w.output
  size : w'.heap.size = w.heap.size
  other : ∀ k, k ≠ g → w'.heap[k]? = w.heap[k]?
theorem RowSet.below {B : Nat} {a w w' : World} {g : Nat} {t : TypeId} {cs : Array Value} (h : RowSet w w' g t cs) (hb : Below B a w) (hg : B ≤ g) : Below B a w' :=
  ⟨h.os.trans hb.os, h.tape.trans hb.tape, h.output.trans hb.output, by rw [h.size]; exact hb.size, fun k hk => (h.other k (by omega)).trans (hb.block k hk)⟩
theorem RowSet.far {w w' : World} {g g' : Nat} {t t' : TypeId} {cs cs' : Array Value} (h : RowSet w w' g t cs) (hb : Blk w g' t' cs') (hne : g' ≠ g) : Blk w' g' t' cs' := (h.other g' hne).trans hb
theorem setRow_blk {w : World} {g : Nat} {cur : Array Value} {t : TypeId} (h : Blk w g t cur) (cs : Array Value) : RowSet w (w.setRow g cs) g t cs :=
  ⟨setRow_heap w g cur cs t _ h, rfl, rfl, rfl, by simp [World.setRow], fun k hk => setRow_other w g k cs hk⟩
/-- copy that fills a whole row. -/
theorem wpList_copy_full {P : Program} {w : World} {ops : Array Oper} {rest : List Oper} {o : Oper} {a : Act} {Q : Exit → Act → World → Prop} (hgd : o.guard = none) (d s : Operand) (dT sT : TypeId)
    (ho : o.op = .call { callee := .builtin .copy, args := #[d, s], argTypes := #[dT, sT] }) (elem : TypeId) (k : Nat) (hu : P.underlying dT = some (.slice elem)) (hsz : (P.info? elem).map (·.size) = some k)
    (g n dc sc : Nat) (sp : Option Addr) (hd : a.eval d = .slice (some ⟨g, 0, none⟩) n dc) (hs : a.eval s = .slice sp n sc)
    (cur : Array Value) (t : TypeId) (hg : Blk w g t cur) (hcur : cur.size = n * k) (us : List Value) (hsrc : Pv.Src w sp k n us)
    (h : ∀ w', RowSet w w' g t us.toArray → wpList P ops Q rest (a.put o.dst (goInt n)) w') : wpList P ops Q (o :: rest) a w := by
  obtain ⟨hl, h1, hx⟩ := hsrc
  refine wpList_copyK hgd d s dT sT ho elem k hu hsz g 0 n dc n sp n sc hd hs cur t hg us (by simp) hl (fun hp => ?_) (by omega) h1 ?_
  · obtain ⟨b, off, e, _, hc⟩ := hx hp
    refine ⟨_, e, fun j v hj => ?_⟩
    have e2 : (⟨b, off, none⟩ : Addr).add j = ⟨b, off + j, none⟩ := by unfold Addr.add; split <;> simp_all
    rw [e2]
    exact hc j v hj
  · have e : (cur.toList.take 0 ++ us ++ cur.toList.drop (0 + us.length)).toArray = us.toArray := by
      rw [List.take_zero, List.nil_append, Nat.zero_add, List.drop_eq_nil_of_le (by simp; omega), List.append_nil]
    rw [e]
    exact h _ (setRow_blk hg us.toArray)
theorem run_copy_full {P : Program} {w : World} (dT sT ty elem : TypeId) (k : Nat) (hu : P.underlying dT = some (.slice elem)) (hsz : (P.info? elem).map (·.size) = some k)
    (g n dc sc : Nat) (sp : Option Addr) (cur : Array Value) (t : TypeId) (hg : Blk w g t cur) (hcur : cur.size = n * k) (us : List Value) (hsrc : Pv.Src w sp k n us) :
    ∃ w', (Builtin.copy_ #[dT, sT] ty #[.slice (some ⟨g, 0, none⟩) n dc, .slice sp n sc]).run P w = .ok (.int .i64 (n : Nat)) w' ∧ RowSet w w' g t us.toArray := by
  obtain ⟨hl, h1, hx⟩ := hsrc
  rcases Nat.eq_zero_or_pos n with h0 | h0
  · subst h0
    have hus : us = [] := List.eq_nil_of_length_eq_zero (by omega)
    have hcc : cur = #[] := Array.eq_empty_of_size_eq_zero (by omega)
    subst hus; subst hcc
    exact ⟨w, run_copy_nothingK w dT sT ty elem k _ sp 0 dc 0 sc hu hsz rfl, hg, rfl, rfl, rfl, rfl, fun _ _ => rfl⟩
  · obtain ⟨b, off, rfl, _, hc⟩ := hx h0
    have e : (cur.toList.take 0 ++ us ++ cur.toList.drop (0 + us.length)).toArray = us.toArray := by
      rw [List.take_zero, List.nil_append, Nat.zero_add, List.drop_eq_nil_of_le (by simp; omega), List.append_nil]
    have h := run_copy_rowK (P := P) w dT sT ty elem k g 0 n dc n ⟨b, off, none⟩ n sc cur t us hu hsz hg (by simp) hl (fun j v hj => by
      have e2 : (⟨b, off, none⟩ : Addr).add j = ⟨b, off + j, none⟩ := by unfold Addr.add; split <;> simp_all
      rw [e2]
      exact hc j v hj) (by omega) h1
    rw [e] at h
    exact ⟨_, h, setRow_blk hg us.toArray⟩
theorem own_of_blk {w : World} {base g n k : Nat} {t : TypeId} {cs : Array Value} (h : Blk w g t cs) (hb : base ≤ g) (hs : cs.size = n * k) (hn : n ≤ maxLen) : w.ownsRow base t k (.slice (some ⟨g, 0, none⟩) n n) n cs.toList :=
  ⟨by rw [Array.length_toList]; exact hs, .inr ⟨g, n, cs, rfl, hb, h, Nat.le_refl _, hn, hs, List.take_of_length_le (by rw [Array.length_toList, hs]; exact Nat.le_refl _)⟩⟩
end Pv
