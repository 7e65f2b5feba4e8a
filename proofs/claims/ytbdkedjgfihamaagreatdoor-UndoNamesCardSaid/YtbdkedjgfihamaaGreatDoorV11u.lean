/- Stores as data: what was done is undone. Nothing of a program stands here. -/
import Derived.Test.YtbdkedjgfihamaaGreatDoorV2u
namespace Pv
open Go Go.RowKit

structure Chg where
  table : Int
  id : ByteArray
  has : Bool
  was : Rec
deriving DecidableEq
structure Sto where
  tables : List Tab
  log : List Chg
deriving DecidableEq
structure TabsOk (l : List Tab) : Prop where
  each : ∀ t, t ∈ l → TabOk t
  names : (l.map (·.name)).Nodup
  few : l.length ≤ 32
def chgB (n : Nat) (c : Chg) : Bool := decide (0 ≤ c.table) && decide (c.table < n) && (if c.has then decide (c.was.id = c.id) else decide (c.was.id.size = 0) && decide (c.was.data.length = 0))
/-- One table, all tables, one change undone; none: it may not be. -/
noncomputable def backT (t : Tab) (c : Chg) : Option Tab := if c.has then (if yes (PutOk (t.drop c.id) c.was) then some ((t.drop c.id).put c.was) else none) else some (t.drop c.id)
noncomputable def back1 (ts : List Tab) (c : Chg) : Option (List Tab) := if chgB ts.length c then (match ts[c.table.toNat]? with
  | none => none
  | some t => (backT t c).map fun t' => ts.set c.table.toNat t') else none
/-- .. all changes of a list, in its order -/
noncomputable def backN : List Chg → List Tab → Option (List Tab)
  | [], ts => some ts
  | c :: cs, ts => (back1 ts c).bind (backN cs)
theorem backN_app : ∀ (a b : List Chg) (ts : List Tab), backN (a ++ b) ts = (backN a ts).bind (backN b)
  | [], _, _ => rfl
  | c :: a, b, ts => by
    show (back1 ts c).bind (backN (a ++ b)) = ((back1 ts c).bind (backN a)).bind (backN b)
    cases back1 ts c with
    | none => rfl
    | some x => exact backN_app a b x
structure StoOk (s : Sto) : Prop where
  tabs : TabsOk s.tables
  few : s.log.length ≤ 64
  back : (backN s.log.reverse s.tables).isSome = true
noncomputable def stoE (s : Sto) : Int := if yes (StoOk s) then 0 else 8
theorem stoE_yes {s : Sto} (h : StoOk s) : stoE s = 0 := by unfold stoE; rw [yes_t h]; rfl
theorem stoE_no {s : Sto} (h : ¬ StoOk s) : stoE s = 8 := by unfold stoE; rw [yes_f h]; rfl

theorem chgB_iff {n : Nat} {c : Chg} : chgB n c = true ↔ 0 ≤ c.table ∧ c.table < n ∧ (c.has = true → c.was.id = c.id) ∧ (c.has = false → c.was.id.size = 0 ∧ c.was.data.length = 0) := by
  unfold chgB
  cases c.has <;> simp [and_assoc]
theorem back1_some {ts ts' : List Tab} {c : Chg} (h : back1 ts c = some ts') : chgB ts.length c = true ∧ ∃ t t', ts[c.table.toNat]? = some t ∧ backT t c = some t' ∧ ts' = ts.set c.table.toNat t' := by
  unfold back1 at h
  split at h
  · rename_i h1
    cases hx : ts[c.table.toNat]? with
    | none => rw [hx] at h; cases h
    | some t =>
      rw [hx] at h
      simp only at h
      cases hb : backT t c with
      | none => rw [hb] at h; cases h
      | some t' => rw [hb] at h; exact ⟨h1, t, t', rfl, hb, (Option.some.inj h).symm⟩
  · cases h
theorem backT_ok {t t' : Tab} {c : Chg} (h : TabOk t) (hb : backT t c = some t') : TabOk t' ∧ t'.name = t.name := by
  unfold backT at hb
  split at hb
  · split at hb
    · rename_i h2
      obtain rfl := Option.some.inj hb
      exact ⟨(of_yes h2).tab, rfl⟩
    · cases hb
  · obtain rfl := Option.some.inj hb
    exact ⟨h.drop _, rfl⟩
theorem TabsOk.set {ts : List Tab} (h : TabsOk ts) {i : Nat} {t t' : Tab} (hi : ts[i]? = some t) (h' : TabOk t') (hn : t'.name = t.name) : TabsOk (ts.set i t') := by
  have hm : (ts.set i t').map (·.name) = ts.map (·.name) := by
    rw [List.map_set, hn]
    apply List.ext_getElem?
    intro j
    rw [List.getElem?_set]
    split
    · rename_i e
      subst e
      rw [List.getElem?_map, hi]
      simp [lt_of_get hi]
    · rfl
  refine ⟨fun x hx => ?_, by rw [hm]; exact h.names, by rw [List.length_set]; exact h.few⟩
  rcases List.mem_or_eq_of_mem_set hx with hx | rfl
  · exact h.each x hx
  · exact h'
theorem TabsOk.back1 {ts ts' : List Tab} {c : Chg} (h : TabsOk ts) (hb : back1 ts c = some ts') : TabsOk ts' ∧ ts'.length = ts.length := by
  obtain ⟨_, t, t', h1, h2, rfl⟩ := back1_some hb
  obtain ⟨h3, h4⟩ := backT_ok (h.each t (mem_of_get h1)) h2
  exact ⟨h.set h1 h3 h4, List.length_set ..⟩
theorem TabsOk.backN : ∀ {cs : List Chg} {ts ts' : List Tab}, TabsOk ts → backN cs ts = some ts' → TabsOk ts' ∧ ts'.length = ts.length
  | [], _, _, h, hb => by obtain rfl := Option.some.inj hb; exact ⟨h, rfl⟩
  | c :: cs, ts, ts', h, hb => by
    have hb' : (Pv.back1 ts c).bind (Pv.backN cs) = some ts' := hb
    cases e : Pv.back1 ts c with
    | none => rw [e] at hb'; cases hb'
    | some x =>
      rw [e] at hb'
      obtain ⟨h1, h2⟩ := h.back1 e
      obtain ⟨h3, h4⟩ := h1.backN hb'
      exact ⟨h3, by omega⟩
/-- Back to a mark. -/
noncomputable def backS (s : Sto) (m : Nat) : Sto := ⟨(backN (s.log.drop m).reverse s.tables).getD [], s.log.take m⟩
theorem rev_split (l : List Chg) (m : Nat) : l.reverse = (l.drop m).reverse ++ (l.take m).reverse := by rw [← List.reverse_append, List.take_append_drop]
theorem StoOk.to {s : Sto} (h : StoOk s) (m : Nat) : ∃ ts, backN (s.log.drop m).reverse s.tables = some ts ∧ (backS s m).tables = ts ∧ StoOk (backS s m) := by
  have hb := h.back
  rw [rev_split s.log m, backN_app] at hb
  cases e : backN (s.log.drop m).reverse s.tables with
  | none => rw [e] at hb; cases hb
  | some ts =>
    rw [e] at hb
    have e2 : (backS s m).tables = ts := by unfold backS; rw [e]; rfl
    have e3 : (backS s m).log = s.log.take m := rfl
    refine ⟨ts, rfl, e2, ⟨by rw [e2]; exact (h.tabs.backN e).1, by rw [e3, List.length_take]; have := h.few; omega, ?_⟩⟩
    rw [e2, e3]
    exact hb
theorem StoOk.to_to {s : Sto} (h : StoOk s) {a b : Nat} (hab : a ≤ b) : backS (backS s b) a = backS s a := by
  obtain ⟨ts, h1, h2, _⟩ := h.to b
  have e3 : (backS s b).log = s.log.take b := rfl
  have e4 : backN (s.log.drop a).reverse s.tables = backN ((s.log.take b).drop a).reverse ts := by
    have : (s.log.drop a).reverse = (s.log.drop b).reverse ++ ((s.log.take b).drop a).reverse := by
      rw [← List.reverse_append]
      congr 1
      conv => lhs; rw [← List.take_append_drop (b - a) (s.log.drop a)]
      rw [List.drop_drop, List.take_drop]
      congr 2
      · congr 1; omega
      · congr 1; omega
    rw [this, backN_app, h1]; rfl
  show (⟨_, _⟩ : Sto) = ⟨_, _⟩
  rw [h2, e3, e4, List.take_take, Nat.min_eq_left hab]
theorem backS_all (s : Sto) : backS s s.log.length = s := by
  unfold backS
  rw [List.drop_length, List.take_length]; rfl
/-- What a table had of an id. -/
def wasR (t : Tab) (id : ByteArray) : Rec × Bool := match t.rows.find? fun r => decide (r.id = id) with
  | none => (⟨ByteArray.empty, []⟩, false)
  | some r => (r, true)
theorem wasR_no {t : Tab} {id : ByteArray} (h : hasR t.rows id = false) : wasR t id = (⟨ByteArray.empty, []⟩, false) := by
  unfold wasR
  rw [List.find?_eq_none.2 fun r hr => by simpa using hasR_no.1 h r hr]
theorem wasR_yes {t : Tab} {id : ByteArray} (h : hasR t.rows id = true) : ∃ r, r ∈ t.rows ∧ r.id = id ∧ wasR t id = (r, true) := by
  unfold wasR
  cases e : t.rows.find? (fun r => decide (r.id = id)) with
  | none =>
    obtain ⟨r, h1, h2⟩ := hasR_iff.1 h
    have := List.find?_eq_none.1 e r h1
    simp [h2] at this
  | some r => exact ⟨r, List.mem_of_find?_eq_some e, by simpa using List.find?_some e, rfl⟩
/-- A table turned, so that the change undoes it. -/
structure Turned (t t' : Tab) (id : ByteArray) : Prop where
  ok : TabOk t'
  name : t'.name = t.name
  back : backT t' ⟨0, id, (wasR t id).2, (wasR t id).1⟩ = some t
theorem PutOk.turned {t : Tab} {r : Rec} (h : PutOk t r) : Turned t (t.put r) r.id := by
  refine ⟨h.tab, rfl, ?_⟩
  rw [wasR_no h.new]
  unfold backT
  simp only [Bool.false_eq_true, if_false, h.put_drop]
theorem TabOk.turned_drop {t : Tab} (h : TabOk t) {id : ByteArray} (hi : hasR t.rows id = true) : Turned t (t.drop id) id := by
  refine ⟨h.drop id, rfl, ?_⟩
  obtain ⟨r, h1, h2, h3⟩ := wasR_yes hi
  subst h2
  rw [h3]
  unfold backT
  have e : (t.drop r.id).drop r.id = t.drop r.id := by
    show ({ t with rows := delR (delR t.rows r.id) r.id } : Tab) = { t with rows := delR t.rows r.id }
    rw [delR_none (delR_has _ _)]
  simp only [if_true, e, yes_t (h.back h1), h.drop_put h1]
theorem TabOk.turned_set {t : Tab} (h : TabOk t) {x : Rec} (hx : oneR x = true) (hi : hasR t.rows x.id = true) (hc : clsR t.uniques t.rows x = false) : Turned t (t.set x) x.id := by
  have e : t.set x = (t.drop x.id).put x := by
    show ({ t with rows := setR t.rows x } : Tab) = { t with rows := insR (delR t.rows x.id) x }
    rw [setR_eq h.rise hi]
  have hp : PutOk (t.drop x.id) x := ⟨h.drop _, hx, delR_has _ _, by
    rw [clsR_no] at hc ⊢
    exact fun r hr hne => hc r (delR_sub hr) hne, by
    obtain ⟨r, h1, h2⟩ := hasR_iff.1 hi
    have := insR_len (delR t.rows r.id) r
    rw [ins_del h.rise h1] at this
    have h3 := h.few
    show ((delR t.rows x.id).length : Int) < t.most
    rw [← h2]
    omega⟩
  refine ⟨by rw [e]; exact hp.tab, rfl, ?_⟩
  obtain ⟨r, h1, h2, h3⟩ := wasR_yes hi
  rw [h3, ← h2]
  unfold backT
  have e2 : (t.set x).drop r.id = t.drop r.id := by
    show ({ t with rows := delR (setR t.rows x) r.id } : Tab) = { t with rows := delR t.rows r.id }
    rw [h2, delR_set]
  simp only [if_true, e2, yes_t (h.back h1), h.drop_put h1]
/-- What a verb makes of a store. -/
def doneS (s : Sto) (i : Nat) (t t' : Tab) (id : ByteArray) : Sto := ⟨s.tables.set i t', s.log ++ [⟨(i : Int), id, (wasR t id).2, (wasR t id).1⟩]⟩
theorem StoOk.done {s : Sto} (h : StoOk s) {i : Nat} {t t' : Tab} {id : ByteArray} (hi : s.tables[i]? = some t) (ht : Turned t t' id) (hl : s.log.length < 64) :
    StoOk (doneS s i t t' id) ∧ ∀ m, m ≤ s.log.length → backS (doneS s i t t' id) m = backS s m := by
  have hlt := lt_of_get hi
  have h1 : back1 (s.tables.set i t') ⟨(i : Int), id, (wasR t id).2, (wasR t id).1⟩ = some s.tables := by
    unfold back1
    have hc : chgB (s.tables.set i t').length ⟨(i : Int), id, (wasR t id).2, (wasR t id).1⟩ = true := by
      rw [chgB_iff]
      refine ⟨by simp only; omega, by simp only [List.length_set]; omega, ?_, ?_⟩
      · intro hh
        cases e : hasR t.rows id with
        | false => rw [wasR_no e] at hh; cases hh
        | true => obtain ⟨r, _, h2, h3⟩ := wasR_yes e; rw [h3]; exact h2
      · intro hh
        cases e : hasR t.rows id with
        | false => rw [wasR_no e]; exact ⟨rfl, rfl⟩
        | true => obtain ⟨r, _, h2, h3⟩ := wasR_yes e; rw [h3] at hh; cases hh
    rw [if_pos hc]
    have e1 : (s.tables.set i t')[(i : Int).toNat]? = some t' := by simp [hlt]
    simp only [e1]
    have hb := ht.back
    unfold backT at hb ⊢
    simp only at hb ⊢
    rw [hb]
    simp only [Option.map_some, Int.toNat_natCast, List.set_set]
    congr 1
    obtain ⟨_, e2⟩ := List.getElem?_eq_some_iff.1 hi
    rw [← e2, List.set_getElem_self]
  have hlog : (doneS s i t t' id).log = s.log ++ [⟨(i : Int), id, (wasR t id).2, (wasR t id).1⟩] := rfl
  have htab : (doneS s i t t' id).tables = s.tables.set i t' := rfl
  refine ⟨⟨h.tabs.set hi ht.ok ht.name, by rw [hlog]; simp; omega, ?_⟩, fun m hm => ?_⟩
  · rw [hlog, htab, List.reverse_append]
    show ((back1 _ _).bind (backN s.log.reverse)).isSome = true
    rw [h1]
    exact h.back
  · unfold backS
    rw [hlog, htab, List.drop_append_of_le_length hm, List.take_append_of_le_length hm, List.reverse_append]
    show (⟨((back1 _ _).bind (backN (s.log.drop m).reverse)).getD [], _⟩ : Sto) = _
    rw [h1]; rfl
end Pv
namespace Pv
end Pv

namespace Pv
open Go Go.RowKit

def RK8 (v : Value) (n : Int) : Prop := v = .int .u8 n ∧ 0 ≤ n ∧ n ≤ 255
def RStr (v : Value) (s : ByteArray) : Prop := v = .string s ∧ s.size ≤ 140737488355328
structure RCel (f : Nat → Value) (x : Cel) : Prop where
  kind : RK8 (f 0) x.kind
  name : RStr (f 1) x.name
  text : RStr (f 2) x.text
  int : RI (f 3) x.int
  many : RI (f 4) x.many
structure RRec (w : World) (f : Nat → Value) (x : Rec) : Prop where
  id : RStr (f 0) x.id
  data : SlK w 5 RCel (f 1) x.data
structure RTab (w : World) (f : Nat → Value) (x : Tab) : Prop where
  name : RStr (f 0) x.name
  most : RI (f 1) x.most
  uniques : Sl w RStr (f 2) x.uniques
  rows : SlK w 2 (RRec w) (f 3) x.rows
structure RChg (w : World) (f : Nat → Value) (x : Chg) : Prop where
  table : RI (f 0) x.table
  id : RStr (f 1) x.id
  has : RB (f 2) x.has
  wid : RStr (f 3) x.was.id
  wdata : SlK w 5 RCel (f 4) x.was.data
abbrev AtCel (w : World) (A : Option Addr) (v : List Cel) : Prop := AtK w 5 A RCel v
abbrev AtRec (w : World) (A : Option Addr) (v : List Rec) : Prop := AtK w 2 A (RRec w) v
abbrev AtTab (w : World) (A : Option Addr) (v : List Tab) : Prop := AtK w 4 A (RTab w) v
abbrev AtChg (w : World) (A : Option Addr) (v : List Chg) : Prop := AtK w 5 A (RChg w) v
section
variable {w w' : World} {A : Option Addr}
theorem RRec.keep {f : Nat → Value} {x : Rec} (h : RRec w f x) (k : Keep w w') : RRec w' f x := ⟨h.1, SlK.keep h.2 k⟩
theorem RTab.keep {f : Nat → Value} {x : Tab} (h : RTab w f x) (k : Keep w w') : RTab w' f x := ⟨h.1, h.2, Sl.keep h.3 k, SlK.keepR h.4 k fun _ _ h => h.keep k⟩
theorem RChg.keep {f : Nat → Value} {x : Chg} (h : RChg w f x) (k : Keep w w') : RChg w' f x := ⟨h.1, h.2, h.3, h.4, SlK.keep h.5 k⟩
theorem AtRec.keep {v : List Rec} (h : AtRec w A v) (k : Keep w w') : AtRec w' A v := AtK.keepR h k fun _ _ h => h.keep k
theorem AtTab.keep {v : List Tab} (h : AtTab w A v) (k : Keep w w') : AtTab w' A v := AtK.keepR h k fun _ _ h => h.keep k
theorem AtChg.keep {v : List Chg} (h : AtChg w A v) (k : Keep w w') : AtChg w' A v := AtK.keepR h k fun _ _ h => h.keep k
end
/-- A cell's five places. -/
structure L5 (w : World) (b o : Nat) (c : Cel) : Prop where
  lt : b < w.heap.size
  c0 : w.cell? ⟨b, o, none⟩ = some (.int .u8 c.kind)
  c1 : w.cell? ⟨b, o + 1, none⟩ = some (.string c.name)
  c2 : w.cell? ⟨b, o + 2, none⟩ = some (.string c.text)
  c3 : w.cell? ⟨b, o + 3, none⟩ = some (.int .i64 c.int)
  c4 : w.cell? ⟨b, o + 4, none⟩ = some (.int .i64 c.many)
theorem L5.next {w w' : World} {b o : Nat} {c : Cel} (h : L5 w b o c) (k : Keep w w') : L5 w' b o c :=
  ⟨Nat.lt_of_lt_of_le h.lt k.size, (k.cell _ _ h.lt).trans h.c0, (k.cell _ _ h.lt).trans h.c1, (k.cell _ _ h.lt).trans h.c2, (k.cell _ _ h.lt).trans h.c3, (k.cell _ _ h.lt).trans h.c4⟩
/-- A cell's bounds. -/
structure CelB (c : Cel) : Prop where
  kind : 0 ≤ c.kind ∧ c.kind ≤ 255
  name : c.name.size ≤ 140737488355328
  text : c.text.size ≤ 140737488355328
  int : -9223372036854775808 ≤ c.int ∧ c.int ≤ 9223372036854775807
  many : -9223372036854775808 ≤ c.many ∧ c.many ≤ 9223372036854775807
theorem AtCel.g5 {w : World} {A : Option Addr} {v : List Cel} {n i : Nat} (h : AtCel w A v) (HL : Hid (v.length = n)) (hi : i < n) :
    ∃ b off c, A = some ⟨b, off, none⟩ ∧ L5 w b (off + i * 5) c ∧ CelB c ∧ Hid (v[i]? = some c) := by
  obtain ⟨b, off, f, c, e, hb, hc, ⟨⟨k0, k1, k2⟩, ⟨n0, n1⟩, ⟨t0, t1⟩, ⟨i0, i1, i2⟩, ⟨m0, m1, m2⟩⟩, hx⟩ := AtK.gt h HL hi
  have c0 := hc 0 (by omega); have c1 := hc 1 (by omega); have c2 := hc 2 (by omega); have c3 := hc 3 (by omega); have c4 := hc 4 (by omega)
  rw [k0] at c0; rw [n0] at c1; rw [t0] at c2; rw [i0] at c3; rw [m0] at c4
  exact ⟨b, off, c, e, ⟨hb, c0, c1, c2, c3, c4⟩, ⟨⟨k1, k2⟩, n1, t1, ⟨i1, i2⟩, ⟨m1, m2⟩⟩, hx⟩
theorem AtRec.g2 {w : World} {A : Option Addr} {v : List Rec} {n i : Nat} (h : AtRec w A v) (HL : Hid (v.length = n)) (hi : i < n) :
    ∃ b off x D m c, A = some ⟨b, off, none⟩ ∧ b < w.heap.size ∧ w.cell? ⟨b, off + i * 2, none⟩ = some (.string x.id) ∧ w.cell? ⟨b, off + i * 2 + 1, none⟩ = some (.slice D m c) ∧
      x.id.size ≤ 140737488355328 ∧ AtCel w D x.data ∧ Hid (x.data.length = m) ∧ m ≤ c ∧ Hid (v[i]? = some x) := by
  obtain ⟨b, off, f, x, e, hb, hc, ⟨⟨k0, k1⟩, ⟨D, c, d0, d1, d2⟩⟩, hx⟩ := AtK.gt h HL hi
  have c0 := hc 0 (by omega); have c1 := hc 1 (by omega)
  rw [k0] at c0; rw [d0] at c1
  exact ⟨b, off, x, D, _, c, e, hb, c0, c1, k1, d1, Lib.hid rfl, d2, hx⟩
/-- A table as a value: its name, Most, uniques, rows. -/
structure TabAt (w : World) (U : Option Addr) (un : Nat) (R : Option Addr) (rn : Nat) (t : Tab) : Prop where
  uniques : At w U RStr t.uniques
  rows : AtRec w R t.rows
  un : Hid (t.uniques.length = un)
  rn : Hid (t.rows.length = rn)
  name : t.name.size ≤ 140737488355328
  most : -9223372036854775808 ≤ t.most ∧ t.most ≤ 9223372036854775807
theorem TabAt.keep {w w' : World} {U R : Option Addr} {un rn : Nat} {t : Tab} (h : TabAt w U un R rn t) (k : Keep w w') : TabAt w' U un R rn t := ⟨h.uniques.keep k, AtRec.keep h.rows k, h.un, h.rn, h.name, h.most⟩
theorem RTab.opens {w : World} {f : Nat → Value} {t : Tab} (h : RTab w f t) : ∃ U un uc R rn rc, f 0 = .string t.name ∧ f 1 = .int .i64 t.most ∧ f 2 = .slice U un uc ∧ f 3 = .slice R rn rc ∧ un ≤ uc ∧ rn ≤ rc ∧ TabAt w U un R rn t := by
  obtain ⟨⟨h0, h01⟩, ⟨h1, h11, h12⟩, ⟨U, uc, h2, h21, h22⟩, ⟨R, rc, h3, h31, h32⟩⟩ := h
  exact ⟨U, _, uc, R, _, rc, h0, h1, h2, h3, h22, h32, ⟨h21, h31, Lib.hid rfl, Lib.hid rfl, h01, ⟨h11, h12⟩⟩⟩
/-- Of the call's own: records, tables, changes (tc, tr, ts: the element types of cells, records, strings). -/
structure ORec (w : World) (base : Nat) (tc : TypeId) (f : Nat → Value) (x : Rec) : Prop where
  id : RStr (f 0) x.id
  data : OwnK w base tc 5 RCel (f 1) x.data
structure OTab (w : World) (base : Nat) (tc tr ts : TypeId) (f : Nat → Value) (x : Tab) : Prop where
  name : RStr (f 0) x.name
  most : RI (f 1) x.most
  uniques : Own w base ts RStr (f 2) x.uniques
  rows : OwnK w base tr 2 (ORec w base tc) (f 3) x.rows
structure OChg (w : World) (base : Nat) (tc : TypeId) (f : Nat → Value) (x : Chg) : Prop where
  table : RI (f 0) x.table
  id : RStr (f 1) x.id
  has : RB (f 2) x.has
  wid : RStr (f 3) x.was.id
  wdata : OwnK w base tc 5 RCel (f 4) x.was.data
section
variable {w w' : World} {base b' : Nat} {tc tr ts : TypeId} {f : Nat → Value}
theorem Own.lowerS {α : Type} {e : TypeId} {R : Value → α → Prop} {v : Value} {xs : List α} (h : Own w base e R v xs) (hb : b' ≤ base) : Own w b' e R v xs := by
  obtain ⟨A, c, us, rfl, ⟨h0, h⟩, k⟩ := h
  refine ⟨A, c, us, rfl, ⟨h0, ?_⟩, k⟩
  rcases h with h2 | ⟨g, cap, cur, hv, hg, r⟩
  · exact .inl h2
  · exact .inr ⟨g, cap, cur, hv, Nat.le_trans hb hg, r⟩
theorem ORec.below {x : Rec} (h : ORec w base tc f x) (hb : Below w.heap.size w w') : ORec w' base tc f x := ⟨h.1, h.2.below hb⟩
theorem ORec.lower {x : Rec} (h : ORec w base tc f x) (hb : b' ≤ base) : ORec w b' tc f x := ⟨h.1, h.2.lower hb⟩
theorem OTab.below {x : Tab} (h : OTab w base tc tr ts f x) (hb : Below w.heap.size w w') : OTab w' base tc tr ts f x := ⟨h.1, h.2, h.3.below hb, (h.4.below hb).monoR fun _ _ _ h => h.below hb⟩
theorem OTab.lower {x : Tab} (h : OTab w base tc tr ts f x) (hb : b' ≤ base) : OTab w b' tc tr ts f x := ⟨h.1, h.2, h.3.lowerS hb, (h.4.lower hb).monoR fun _ _ _ h => h.lower hb⟩
theorem OChg.below {x : Chg} (h : OChg w base tc f x) (hb : Below w.heap.size w w') : OChg w' base tc f x := ⟨h.1, h.2, h.3, h.4, h.5.below hb⟩
theorem OChg.lower {x : Chg} (h : OChg w base tc f x) (hb : b' ≤ base) : OChg w b' tc f x := ⟨h.1, h.2, h.3, h.4, h.5.lower hb⟩
theorem ORec.far {x : Rec} (h : ORec w base tc f x) {g i : Nat} {t : TypeId} {cs : Array Value} {u : Value} (hb : Blk w g t cs) (h1 : tc ≠ t) : ORec (w.setCell ⟨g, i, none⟩ u) base tc f x := ⟨h.1, h.2.setFar hb h1 _ _⟩
theorem OTab.far {x : Tab} (h : OTab w base tc tr ts f x) {g i : Nat} {t : TypeId} {cs : Array Value} {u : Value} (hb : Blk w g t cs) (h1 : tc ≠ t) (h2 : tr ≠ t) (h3 : ts ≠ t) : OTab (w.setCell ⟨g, i, none⟩ u) base tc tr ts f x :=
  ⟨h.1, h.2, h.3.setFar hb h3 _ _, (h.4.setFar hb h2 _ _).monoR fun _ _ _ h => h.far hb h1⟩
theorem OChg.far {x : Chg} (h : OChg w base tc f x) {g i : Nat} {t : TypeId} {cs : Array Value} {u : Value} (hb : Blk w g t cs) (h1 : tc ≠ t) : OChg (w.setCell ⟨g, i, none⟩ u) base tc f x := ⟨h.1, h.2, h.3, h.4, h.5.setFar hb h1 _ _⟩
/-- what is owned reads -/
theorem ORec.reads {x : Rec} (h : ORec w base tc f x) (hl : x.data.length ≤ 140737488355328) : RRec w f x := ⟨h.1, h.2.sl hl⟩
theorem OTab.reads {x : Tab} (h : OTab w base tc tr ts f x) (h1 : x.uniques.length ≤ 140737488355328) (h2 : x.rows.length ≤ 140737488355328) (h3 : ∀ r, r ∈ x.rows → r.data.length ≤ 140737488355328) : RTab w f x :=
  ⟨h.1, h.2, h.3.sl h1, (h.4.monoR fun _ _ hm h => h.reads (h3 _ hm)).sl h2⟩
theorem OChg.reads {x : Chg} (h : OChg w base tc f x) (hl : x.was.data.length ≤ 140737488355328) : RChg w f x := ⟨h.1, h.2, h.3, h.4, h.5.sl hl⟩
end
end Pv

namespace Pv
open Go Go.RowKit
/-- The place so many values on. -/
def posV (v : List Cel) : Nat → Nat → Nat
  | 0, a => a
  | q + 1, a => endV v (posV v q a)
theorem posV_front (v : List Cel) : ∀ (q a : Nat), posV v (q + 1) a = posV v q (endV v a)
  | 0, _ => rfl
  | q + 1, a => by
    show endV v (posV v (q + 1) a) = endV v (posV v q (endV v a))
    rw [posV_front v q a]
theorem kidsL_len (v : List Cel) : ∀ (n a : Nat), (kidsL v n a).length = n
  | 0, _ => rfl
  | n + 1, a => by rw [kidsL, List.length_cons, kidsL_len v n]
theorem kidsL_snoc (v : List Cel) : ∀ (n a : Nat), kidsL v (n + 1) a = kidsL v n a ++ [posV v n a]
  | 0, _ => rfl
  | n + 1, a => by
    rw [kidsL, kidsL_snoc v n (endV v a), posV_front, kidsL, List.cons_append]
theorem kidsL_at (v : List Cel) (n a q : Nat) (h : q < n) : (kidsL v n a)[q]? = some (posV v q a) := by
  induction n with
  | zero => omega
  | succ n ih =>
    rw [kidsL_snoc]
    by_cases hq : q < n
    · rw [List.getElem?_append_left (by rw [kidsL_len]; exact hq)]
      exact ih hq
    · obtain rfl : q = n := by omega
      rw [List.getElem?_append_right (by rw [kidsL_len]; exact Nat.le_refl _), kidsL_len]
      simp
/-- The kids' places, as found one behind the other. -/
theorem posV_chain {v : List Cel} {g : Nat → Option Nat} {obj : Bool} (hg : ∀ a e, g a = some e → endV v a = e ∧ a < e ∧ e ≤ v.length) : ∀ (n : Nat) (p r : KS), p.1 ≤ v.length → kidsN g v obj n p = some r → posV v n p.1 = r.1 ∧ (∀ q, q < n → posV v q p.1 < r.1 ∧ posV v q p.1 < v.length) ∧ p.1 ≤ r.1
  | 0, p, r, hp, h => by
    obtain rfl := Option.some.inj h
    exact ⟨rfl, fun q hq => by omega, Nat.le_refl _⟩
  | n + 1, p, r, hp, h => by
    cases hs : stepK g v obj p with
    | none => rw [show kidsN g v obj (n + 1) p = (stepK g v obj p).bind _ from rfl, hs] at h; cases h
    | some s =>
      rw [show kidsN g v obj (n + 1) p = (stepK g v obj p).bind _ from rfl, hs] at h
      obtain ⟨k, h1, _, h3, _⟩ := stepK_some hs
      obtain ⟨e1, e2, e3⟩ := hg _ _ h3
      obtain ⟨i1, i2, i3⟩ := posV_chain hg n s r e3 h
      have hlt := lt_of_get h1
      refine ⟨by rw [posV_front, e1]; exact i1, fun q hq => ?_, by omega⟩
      cases q with
      | zero => exact ⟨by show p.1 < r.1; omega, hlt⟩
      | succ q => rw [posV_front, e1]; exact i2 q (by omega)
theorem MayV.kids {v : List Cel} (h : MayV v) {i : Nat} {c : Cel} (hi : v[i]? = some c) : posV v c.many.toNat (i + 1) = endV v i ∧ ∀ q, q < c.many.toNat → posV v q (i + 1) < endV v i ∧ posV v q (i + 1) < v.length := by
  have hlt := lt_of_get hi
  obtain ⟨h1, h2, h3⟩ := h.end_ hlt
  cases hc : oneCl c with
  | false => rw [behC_bad hi hc] at h1; cases h1
  | true =>
    rw [behC_all hi hc (fun _ => by omega)] at h1
    cases hk : kidsN (behC v 15) v (decide (c.kind = 7)) c.many.toNat (i + 1, []) with
    | none => rw [show (16 - 1 : Nat) = 15 from rfl, hk] at h1; cases h1
    | some r =>
      rw [show (16 - 1 : Nat) = 15 from rfl, hk] at h1
      have e1 : r.1 = endV v i := Option.some.inj h1
      obtain ⟨k1, k2, _⟩ := posV_chain (fun a e he => by
        have h9 := behC_up he (show 15 ≤ 16 by omega)
        have h8 := behC_lt 16 h9
        exact ⟨by unfold endV; rw [h9]; rfl, h8⟩) c.many.toNat (i + 1, []) r (by simp only; omega) hk
      rw [e1] at k1 k2
      exact ⟨k1, k2⟩
end Pv
