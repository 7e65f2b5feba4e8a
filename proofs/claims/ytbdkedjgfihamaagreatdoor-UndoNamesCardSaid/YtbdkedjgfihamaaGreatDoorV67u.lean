/- Stores: bounds kept, what verbs make. PUT1 -/
import Derived.Test.YtbdkedjgfihamaaGreatDoorV59u
import Derived.Test.YtbdkedjgfihamaaGreatDoorV63u
import Derived.Test.YtbdkedjgfihamaaGreatDoorV65u
namespace Go.Proofs.YtbdkedjgfihamaaGreatDoor
open Go.RowKit Pv Go.Maps
theorem putB_ok {t : Tab} {r : Rec} (h : putB t r = 0) : PutOk t r := by
  unfold putB at h
  split at h
  · rename_i h1
    split at h
    · rename_i h2
      split at h
      · cases h
      · rename_i h3
        split at h
        · cases h
        · rename_i h4
          simp only [Bool.or_eq_true, not_or, Bool.not_eq_true] at h3
          have ht := (tabB_iff t).1 h1
          exact ⟨ht, h2, h3.1, h3.2, by have := ht.few; omega⟩
    · cases h
  · cases h
theorem setE_ok {t : Tab} {r : Rec} (h : setE t r = 0) : TabOk t ∧ oneR r = true ∧ hasR t.rows r.id = true ∧ clsR t.uniques t.rows r = false := by
  unfold setE at h
  split at h
  · rename_i h1
    split at h
    · rename_i h2
      split at h
      · rename_i h3
        split at h
        · cases h
        · rename_i h4
          exact ⟨(tabB_iff t).1 h1, h2, h3, by simpa using h4⟩
      · cases h
    · cases h
  · cases h
theorem dropB_ok {t : Tab} {id : ByteArray} (h : dropB t id = 0) : TabOk t ∧ hasR t.rows id = true := by
  unfold dropB at h
  split at h
  · rename_i h1
    split at h
    · rename_i h2
      exact ⟨(tabB_iff t).1 h1, h2⟩
    · cases h
  · cases h
theorem put_done {t : Tab} {r : Rec} (hb : TabBd t) (hs : CelsB r.data) (h : putB t r = 0) : Turned t (t.put r) r.id ∧ TabBd (t.put r) := by
  have h1 := putB_ok h
  refine ⟨h1.turned, TabOk.bd h1.turned.ok hb.un fun x hx => ?_⟩
  rcases insR_mem.1 hx with rfl | hx
  · exact hs
  · exact hb.rb x hx
theorem set_done {t : Tab} {r : Rec} (hb : TabBd t) (hs : CelsB r.data) (h : setE t r = 0) : Turned t (t.set r) r.id ∧ TabBd (t.set r) := by
  obtain ⟨h1, h2, h3, h4⟩ := setE_ok h
  refine ⟨h1.turned_set h2 h3 h4, TabOk.bd (h1.turned_set h2 h3 h4).ok hb.un fun x hx => ?_⟩
  have hx : x ∈ setR t.rows r := hx
  unfold setR at hx
  obtain ⟨y, hy, he⟩ := List.mem_map.1 hx
  split at he
  · subst he; exact hs
  · subst he; exact hb.rb y hy
theorem drop_done {t : Tab} {id : ByteArray} (hb : TabBd t) (h : dropB t id = 0) : Turned t (t.drop id) id ∧ TabBd (t.drop id) := by
  obtain ⟨h1, h2⟩ := dropB_ok h
  exact ⟨h1.turned_drop h2, TabOk.bd (h1.turned_drop h2).ok hb.un fun x hx => hb.rb x (delR_sub hx)⟩
theorem backN_bd : ∀ {cs : List Chg} {ts ts' : List Tab}, TabsOk ts → (∀ t, t ∈ ts → TabBd t) → (∀ c, c ∈ cs → CelsB c.was.data) → backN cs ts = some ts' → ∀ t, t ∈ ts' → TabBd t
  | [], _, _, _, hb, _, hk => by obtain rfl := Option.some.inj hk; exact hb
  | c :: cs, ts, ts', h, hb, hc, hk => by
    have hk' : (back1 ts c).bind (backN cs) = some ts' := hk
    cases e : back1 ts c with
    | none => rw [e] at hk'; cases hk'
    | some x =>
      rw [e] at hk'
      exact backN_bd (h.back1 e).1 (back1_bd h hb (hc c (by simp)) e) (fun c hc' => hc c (by simp [hc'])) hk'
theorem StoBd.backS {s : Sto} (hb : StoBd s) (h : StoOk s) (m : Nat) : StoBd (backS s m) := by
  obtain ⟨ts, h1, h2, h3⟩ := h.to m
  have hl : (Pv.backS s m).log = s.log.take m := rfl
  refine ⟨by have := h3.tabs.few; omega, by have := h3.few; omega, ?_, fun x hx => hb.was x (List.mem_of_mem_take (by rw [hl] at hx; exact hx))⟩
  rw [h2]
  exact backN_bd h.tabs hb.tab (fun c hc => (hb.was c (List.mem_of_mem_drop (List.mem_reverse.1 hc))).2) h1
theorem StoBd.done {s : Sto} {i : Nat} {t t' : Tab} {id : ByteArray} (hb : StoBd s) (h : StoOk (doneS s i t t' id)) (hi : s.tables[i]? = some t) (ht : TabBd t') : StoBd (doneS s i t t' id) := by
  refine ⟨by have := h.tabs.few; omega, by have := h.few; omega, fun x hx => ?_, fun x hx => ?_⟩
  · rcases List.mem_or_eq_of_mem_set (show x ∈ s.tables.set i t' from hx) with hx | rfl
    · exact hb.tab x hx
    · exact ht
  · have hx : x ∈ s.log ++ [⟨(i : Int), id, (wasR t id).2, (wasR t id).1⟩] := hx
    rcases List.mem_append.1 hx with hx | hx
    · exact hb.was x hx
    · obtain rfl := List.mem_singleton.1 hx
      have hbt := hb.tab t (mem_of_get hi)
      cases e : hasR t.rows id with
      | false => rw [wasR_no e]; exact ⟨by simp, by intro y hy; cases hy⟩
      | true =>
        obtain ⟨r, h1, h2, h3⟩ := wasR_yes e
        rw [h3]
        exact ⟨hbt.dl r h1, hbt.rb r h1⟩
/-- A store done: what it was is what one comes back to. -/
structure DoneP (s s' : Sto) : Prop where
  ok : StoOk s'
  bd : StoBd s'
  len : s'.log.length = s.log.length + 1
  back : ∀ m, m ≤ s.log.length → backS s' m = backS s m
theorem DoneP.of {s : Sto} {i : Nat} {t t' : Tab} {id : ByteArray} (h : StoOk s) (hb : StoBd s) (hi : s.tables[i]? = some t) (ht : Turned t t' id ∧ TabBd t') (hl : s.log.length < 64) : DoneP s (doneS s i t t' id) := by
  obtain ⟨h1, h2⟩ := h.done hi ht.1 hl
  refine ⟨h1, hb.done h1 hi ht.2, ?_, h2⟩
  show (s.log ++ [_]).length = _
  simp
theorem turnE_ok {s : Sto} {i : Nat} {t : Tab} {cE : Tab → Int} (h : turnE s (i : Int) cE = 0) (hi : s.tables[i]? = some t) : StoOk s ∧ cE t = 0 ∧ s.log.length < 64 := by
  by_cases hok : StoOk s
  · rw [turnE_at hok hi] at h
    split at h
    · rename_i h1
      split at h
      · cases h
      · have := hok.few; exact ⟨hok, h1, by omega⟩
    · contradiction
  · rw [turnE_bad hok] at h; cases h
theorem TurnPost.done {w w' : World} {e : Ending} {s : Sto} {p : Int} {id : ByteArray} {cE : Tab → Int} {cT : Tab → Tab} (h : TurnPost w w' e s p id cE cT) (hb : StoBd s) (hT : ∀ t, TabBd t → cE t = 0 → Turned t (cT t) id ∧ TabBd (cT t)) :
    ((∃ E, E ≠ 0 ∧ e = .returned (.tuple #[zSto, .int .i64 E])) ∨ ∃ v s', e = .returned (.tuple #[v, .int .i64 0]) ∧ StoV w' w.heap.size v s' ∧ DoneP s s') ∧ Below w.heap.size w w' := by
  obtain ⟨h1 | ⟨h0, i, t, v, rfl, hi, he, hv⟩, k⟩ := h
  · exact ⟨.inl ⟨_, h1⟩, k⟩
  · obtain ⟨h2, h3, h4⟩ := turnE_ok h0 hi
    exact ⟨.inr ⟨v, _, he, hv, DoneP.of h2 hb hi (hT t (hb.tab t (mem_of_get hi)) h3) h4⟩, k⟩
theorem TurnPost.exact {w w' : World} {e : Ending} {s : Sto} {i : Nat} {t : Tab} {id : ByteArray} {cE : Tab → Int} {cT : Tab → Tab} (h : TurnPost w w' e s (i : Int) id cE cT) (hok : StoOk s) (hi : s.tables[i]? = some t) (hc : cE t = 0) (hl : s.log.length < 64) :
    ∃ v, e = .returned (.tuple #[v, .int .i64 0]) ∧ StoV w' w.heap.size v (doneS s i t (cT t) id) ∧ Below w.heap.size w w' := by
  have h0 : turnE s (i : Int) cE = 0 := by rw [turnE_at hok hi, if_pos hc, if_neg (by omega)]
  obtain ⟨h1 | ⟨_, j, t', v, hp, hi', he, hv⟩, k⟩ := h
  · exact absurd h0 h1.1
  · obtain rfl : i = j := by omega
    obtain rfl : t = t' := Option.some.inj (hi.symm.trans hi')
    exact ⟨v, he, hv, k⟩
theorem TurnPost.err {w w' : World} {e : Ending} {s : Sto} {p : Int} {id : ByteArray} {cE : Tab → Int} {cT : Tab → Tab} {E : Int} (h : TurnPost w w' e s p id cE cT) (hE : turnE s p cE = E) (h0 : E ≠ 0) : e = .returned (.tuple #[zSto, .int .i64 E]) ∧ Below w.heap.size w w' := by
  subst hE
  obtain ⟨h1 | h1, k⟩ := h
  · exact ⟨h1.2, k⟩
  · exact absurd h1.1 h0
/-- A store of the call's own reads. -/
theorem StoV.at_ {W : World} {base : Nat} {v : Value} {s : Sto} (h : StoV W base v s) (hb : StoBd s) : ∃ T tn tc L ln lc, v = .agg #[.slice T tn tc, .slice L ln lc] ∧ StoAt W T tn L ln s ∧ tn ≤ tc ∧ ln ≤ lc := by
  obtain ⟨T, tn, tc, L, ln, lc, rfl, h1, h2⟩ := h
  have h3 := (h1.monoR (R' := RTab W) fun f t ht ho => OTab.reads ho (by have := (hb.tab t ht).un; omega) (by have := (hb.tab t ht).rn; omega) (fun r hr => by have := (hb.tab t ht).dl r hr; omega)).sl (by have := hb.tn; omega)
  have h4 := (h2.monoR (R' := RChg W) fun f t ht ho => OChg.reads ho (by have := (hb.was t ht).1; omega)).sl (by have := hb.ln; omega)
  obtain ⟨T', tc', e1, a1, a2⟩ := h3
  obtain ⟨L', lc', e2, b1, b2⟩ := h4
  injection e1 with e11 e12 e13
  injection e2 with e21 e22 e23
  subst e11; subst e13; subst e21; subst e23; subst e12; subst e22
  exact ⟨_, _, _, _, _, _, rfl, ⟨a1, b1, Lib.hid rfl, Lib.hid rfl⟩, a2, b2⟩
theorem StoV.below {W W' : World} {base : Nat} {v : Value} {s : Sto} (h : StoV W base v s) (k : Below W.heap.size W W') : StoV W' base v s := by
  obtain ⟨T, tn, tc, L, ln, lc, rfl, h1, h2⟩ := h
  exact ⟨T, tn, tc, L, ln, lc, rfl, (h1.below k).monoR fun _ _ _ ho => ho.below k, (h2.below k).monoR fun _ _ _ ho => ho.below k⟩
theorem greatC_f {l : List Cel} (h : greatC l 60 = false) : CelsB l ∧ l.length ≤ 60 := by
  unfold greatC at h
  simp only [Bool.or_eq_false_iff, decide_eq_false_iff_not, List.any_eq_false] at h
  obtain ⟨h1, h2⟩ := h
  have hl : l.length ≤ 60 := by omega
  rw [List.take_of_length_le hl] at h1
  refine ⟨fun x hx => ?_, hl⟩
  have := h1 x hx
  simp only [bigC, Bool.or_eq_true, decide_eq_true_eq, not_or] at this
  omega
theorem greatR_f {r : Rec} (h : greatR r = false) : CelsB r.data ∧ r.data.length ≤ 60 ∧ r.id.size ≤ 300 := by
  unfold greatR at h
  simp only [Bool.or_eq_false_iff, decide_eq_false_iff_not] at h
  obtain ⟨h1, h2⟩ := greatC_f h.2
  exact ⟨h1, h2, by omega⟩
theorem greatT_f {t : Tab} (h : greatT t = false) : TabBd t := by
  unfold greatT at h
  simp only [Bool.or_eq_false_iff, decide_eq_false_iff_not, List.any_eq_false, Bool.not_eq_true] at h
  obtain ⟨⟨h1, h2⟩, h3, h4, h5⟩ := h
  rw [List.take_of_length_le (show t.rows.length ≤ 20 by omega)] at h1
  exact ⟨by omega, by omega, fun r hr => (greatR_f (h1 r hr)).1, fun r hr => by have := (greatR_f (h1 r hr)).2.1; omega⟩
theorem greatS_f {s : Sto} (h : greatS s = false) : StoBd s := by
  unfold greatS at h
  simp only [Bool.or_eq_false_iff, decide_eq_false_iff_not, List.any_eq_false, Bool.not_eq_true] at h
  obtain ⟨⟨h1, h2⟩, h3, h4⟩ := h
  rw [List.take_of_length_le (show s.tables.length ≤ 10 by omega)] at h1
  rw [List.take_of_length_le (show s.log.length ≤ 30 by omega)] at h2
  refine ⟨by omega, by omega, fun t ht => greatT_f (h1 t ht), fun x hx => ?_⟩
  have := h2 x hx
  unfold bigL at this
  simp only [Bool.or_eq_false_iff] at this
  obtain ⟨a1, a2, _⟩ := greatR_f this.1
  exact ⟨by omega, a1⟩
end Go.Proofs.YtbdkedjgfihamaaGreatDoor

namespace Go.Proofs.YtbdkedjgfihamaaGreatDoor
open Go.RowKit Pv Go.Maps
def recC (id : ByteArray) (n : Int) : List Cel := objC [⟨3, ByteArray.empty, id, 0, 0⟩, ⟨2, ByteArray.empty, ByteArray.empty, n, 0⟩] [sId, ⟨#[110]⟩] 2 2
theorem at_cel {w : World} {g : Nat} {k i m : Int} {nm tx : ByteArray} (h : Blk w g TCe #[.int .u8 k, .string nm, .string tx, .int .i64 i, .int .i64 m]) (hb : CelB ⟨k, nm, tx, i, m⟩) : AtCel w (some ⟨g, 0, none⟩) [⟨k, nm, tx, i, m⟩] :=
  (AtK.of_own (base := 0) (own_of_blk (n := 1) (k := 5) h (Nat.zero_le _) rfl (by decide)) (RelK.one (f := f5 (.int .u8 k) (.string nm) (.string tx) (.int .i64 i) (.int .i64 m)) rfl (fun j hj => by match j, hj with | 0, _ => rfl | 1, _ => rfl | 2, _ => rfl | 3, _ => rfl | 4, _ => rfl) ⟨⟨rfl, hb.kind⟩, ⟨rfl, hb.name⟩, ⟨rfl, hb.text⟩, ⟨rfl, hb.int⟩, ⟨rfl, hb.many⟩⟩) rfl (by simp)).2
theorem blk5 (w : World) (c1 c2 c3 c4 c5 : Array Value) (t1 t2 t3 t4 t5 : TypeId) : Blk (((((w.alloc (.cells c1 t1)).alloc (.cells c2 t2)).alloc (.cells c3 t3)).alloc (.cells c4 t4)).alloc (.cells c5 t5)) (w.heap.size) t1 c1 ∧ Blk (((((w.alloc (.cells c1 t1)).alloc (.cells c2 t2)).alloc (.cells c3 t3)).alloc (.cells c4 t4)).alloc (.cells c5 t5)) (w.heap.size + 1) t2 c2 ∧ Blk (((((w.alloc (.cells c1 t1)).alloc (.cells c2 t2)).alloc (.cells c3 t3)).alloc (.cells c4 t4)).alloc (.cells c5 t5)) (w.heap.size + 1 + 1) t3 c3 ∧ Blk (((((w.alloc (.cells c1 t1)).alloc (.cells c2 t2)).alloc (.cells c3 t3)).alloc (.cells c4 t4)).alloc (.cells c5 t5)) (w.heap.size + 1 + 1 + 1) t4 c4 ∧ Blk (((((w.alloc (.cells c1 t1)).alloc (.cells c2 t2)).alloc (.cells c3 t3)).alloc (.cells c4 t4)).alloc (.cells c5 t5)) (w.heap.size + 1 + 1 + 1 + 1) t5 c5 := by
  have e1 : (w.alloc (.cells c1 t1)).heap.size = w.heap.size + 1 := by simp
  have e2 : ((w.alloc (.cells c1 t1)).alloc (.cells c2 t2)).heap.size = w.heap.size + 1 + 1 := by simp
  have e3 : (((w.alloc (.cells c1 t1)).alloc (.cells c2 t2)).alloc (.cells c3 t3)).heap.size = w.heap.size + 1 + 1 + 1 := by simp
  have e4 : ((((w.alloc (.cells c1 t1)).alloc (.cells c2 t2)).alloc (.cells c3 t3)).alloc (.cells c4 t4)).heap.size = w.heap.size + 1 + 1 + 1 + 1 := by simp
  have a1 := Blk.new w t1 c1
  have a2 := Blk.new (w.alloc (.cells c1 t1)) t2 c2
  rw [e1] at a2
  have a3 := Blk.new ((w.alloc (.cells c1 t1)).alloc (.cells c2 t2)) t3 c3
  rw [e2] at a3
  have a4 := Blk.new (((w.alloc (.cells c1 t1)).alloc (.cells c2 t2)).alloc (.cells c3 t3)) t4 c4
  rw [e3] at a4
  have a5 := Blk.new ((((w.alloc (.cells c1 t1)).alloc (.cells c2 t2)).alloc (.cells c3 t3)).alloc (.cells c4 t4)) t5 c5
  rw [e4] at a5
  exact ⟨((((a1.alloc _).alloc _).alloc _).alloc _), (((a2.alloc _).alloc _).alloc _), ((a3.alloc _).alloc _), (a4.alloc _), a5⟩
set_option maxHeartbeats 4000000 in
set_option maxRecDepth 100000 in
theorem law_record (B : Nat) (id : ByteArray) (n : Int) (w : World) (h1 : mayV [⟨3, ByteArray.empty, id, 0, 0⟩] = true) (h2 : mayV (recC id n) = true) (hid : id.size ≤ 100000) (hn : -9223372036854775808 ≤ n ∧ n ≤ 9223372036854775807) (hT : TabS B w) (hB : B ≤ w.heap.size) :
    Calls Tryz.prog 9 #[.string id, .int .i64 n] w fun e w' => ∃ D c, e = .returned (.agg #[.string id, .slice D 3 c]) ∧ OwnC w' w.heap.size (.slice D 3 c) (recC id n) ∧ Below w.heap.size w w' := by
  have hk : Below w.heap.size w (((((w.alloc (.cells #[.string ⟨#[]⟩, .slice none 0 0] TRe)).alloc (.cells #[.string ⟨#[105, 100]⟩, .string ⟨#[110]⟩] TSt)).alloc (.cells #[.int .u8 3, .string ⟨#[]⟩, .string id, .int .i64 0, .int .i64 0] TCe)).alloc (.cells #[.int .u8 2, .string ⟨#[]⟩, .string ⟨#[]⟩, .int .i64 n, .int .i64 0] TCe)).alloc (.cells #[.slice (some ⟨w.heap.size + 1 + 1, 0, none⟩) 1 1, .slice (some ⟨w.heap.size + 1 + 1 + 1, 0, none⟩) 1 1] 30)) := ((((((Below.refl _ _).alloc (Nat.le_refl _) _).alloc (by simp) _).alloc (by simp; omega) _).alloc (by simp; omega) _).alloc (by simp; omega) _)
  obtain ⟨b0, b1, b2, b3, b4⟩ := blk5 w #[.string ⟨#[]⟩, .slice none 0 0] #[.string ⟨#[105, 100]⟩, .string ⟨#[110]⟩] #[.int .u8 3, .string ⟨#[]⟩, .string id, .int .i64 0, .int .i64 0] #[.int .u8 2, .string ⟨#[]⟩, .string ⟨#[]⟩, .int .i64 n, .int .i64 0] #[.slice (some ⟨w.heap.size + 1 + 1, 0, none⟩) 1 1, .slice (some ⟨w.heap.size + 1 + 1 + 1, 0, none⟩) 1 1] TRe TSt TCe TCe 30
  have HB0 := Lib.hid b0; have HK := Lib.hid hk
  have z0 : (⟨#[]⟩ : ByteArray).size ≤ 140737488355328 := by decide
  have c1 := at_cel b2 ⟨by simp, z0, by simp only; omega, by simp, by simp⟩
  have c2 := at_cel b3 ⟨by simp, z0, z0, by simpa using hn, by simp⟩
  have hva : ValsAt _ (some ⟨w.heap.size + 1 + 1 + 1 + 1, 0, none⟩) 2 [⟨3, ByteArray.empty, id, 0, 0⟩, ⟨2, ByteArray.empty, ByteArray.empty, n, 0⟩] := fun q hq => by
    match q, hq with
    | 0, _ => exact ⟨_, 0, _, 1, _, rfl, b4.lt, b4.cell 0, c1, rfl⟩
    | 1, _ => exact ⟨_, 0, _, 1, _, rfl, b4.lt, b4.cell 1, c2, rfl⟩
  have hat : At _ (some ⟨w.heap.size + 1, 0, none⟩) RStr [sId, ⟨#[110]⟩] := (At.of_own (base := 0) (own_of_blk (n := 2) (k := 1) b1 (Nat.zero_le _) rfl (by decide)) (show Rel RStr [.string ⟨#[105, 100]⟩, .string ⟨#[110]⟩] [sId, ⟨#[110]⟩] from ⟨rfl, fun i u x hu hx => by
    match i with
    | 0 => simp at hu hx; subst hu; subst hx; exact ⟨rfl, by decide⟩
    | 1 => simp at hu hx; subst hu; subst hx; exact ⟨rfl, by decide⟩
    | _ + 2 => simp at hu⟩) (by simp)).2.2
  have h3 : CelsB (recC id n) := by
    intro x hx
    simp [recC, objC, memC] at hx
    rcases hx with rfl | rfl | rfl
    · simp
    · simp [sId]; exact ⟨by decide, hid⟩
    · simp; decide
  have HM := Lib.hid (cell_Members B _ _ 2 2 2 _ _ _ hva (by omega) (Lib.hid rfl) hat (Lib.hid rfl) (fun x hx => by
    simp at hx
    rcases hx with rfl | rfl
    · exact ⟨h1, fun y hy => by simp at hy; subst hy; exact ⟨by simp, hid⟩⟩
    · exact ⟨by unfold mayV; rfl, fun y hy => by simp at hy; subst hy; exact ⟨by simp, by simp⟩⟩) h3 h2 (hT.next (hk.mono hB)) (Nat.le_trans hB hk.size))
  clear h1 h2 hT hk b0 b1 b2 b3 b4 c1 c2 hva hat h3
  go_enter Tryz.func9, Tryz.ntmps9
  go_wp2_with fail
  refine HM.out.mono ?_
  rintro e w1 ⟨O, oc, rfl, ho, k⟩
  have HF := Lib.hid (HK.out.trans (k.mono HK.out.size))
  have hb1 := HB0.out.below k HB0.out.lt
  have q0 := hb1.cell 0; have q1 := hb1.cell 1; have f0 := hb1.frozen 0; have f1 := hb1.frozen 1; have ql := hb1.lt
  have HRS := Lib.hid (set2_blk hb1 (.string id) (.slice O 3 oc))
  have HO := Lib.hid (((OwnK.lower ho HK.out.size).setFar hb1 (by decide) 0 (.string id)).setFar (hb1.set 0 (.string id)) (by decide) 1 (.slice O 3 oc))
  clear ho k hb1
  go_wp2
  have k0 := HRS.out.blk.cell 0; have k1 := HRS.out.blk.cell 1
  simp at k0 k1
  refine bodyPost_ret (v := .agg #[.string id, .slice O 3 oc]) (by simp [results, Tryz.results9, go_sem, k0, k1]) rfl ⟨O, oc, rfl, HO.out, HRS.out.below HF.out (Nat.le_refl _)⟩
end Go.Proofs.YtbdkedjgfihamaaGreatDoor
