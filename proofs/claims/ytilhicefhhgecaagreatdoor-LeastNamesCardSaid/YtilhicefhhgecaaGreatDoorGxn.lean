/- Keys: what a state tells, numbers, pairs. PUT1 -/
import Derived.Test.YtilhicefhhgecaaGreatDoorGmn
import Derived.Test.YtilhicefhhgecaaGreatDoorGnn
import Derived.Test.YtilhicefhhgecaaGreatDoorGen
namespace Go.Proofs.YtilhicefhhgecaaGreatDoor
open Go.RowKit Go.Maps Pv

abbrev TTold : TypeId := 197
abbrev TArr : TypeId := 195
abbrev TBoth : TypeId := 103
theorem told_law : Keyed Tryz.prog TTold := Keyed.of_law (deep_law_laid laidOutM (m := 4) (by omega) (of_decide_eq_true (by kernel_rfl)) (by kernel_rfl) (by kernel_rfl))
theorem both_law : Keyed Tryz.prog TBoth := Keyed.of_law (deep_law_laid laidOutM (m := 4) (by omega) (of_decide_eq_true (by kernel_rfl)) (by kernel_rfl) (by kernel_rfl))
theorem kt_told : Tryz.prog.keyType TTold = true := by kernel_rfl
theorem kt_both : Tryz.prog.keyType TBoth = true := by kernel_rfl
theorem c_told : Tryz.prog.cellsOf TTold = 257 := by kernel_rfl
theorem c_arr : Tryz.prog.cellsOf TArr = 256 := by kernel_rfl
theorem c_both : Tryz.prog.cellsOf TBoth = 2 := by kernel_rfl
theorem c_int9 : Tryz.prog.cellsOf 3 = 1 := by kernel_rfl
theorem depth3 : ∃ d, Tryz.prog.types.size + 1 = d + 3 := ⟨Tryz.prog.types.size - 2, by have : 2 ≤ Tryz.prog.types.size := of_decide_eq_true (by kernel_rfl); omega⟩
/-- A value that is a number. -/
def IsN (v : Value) : Prop := ∃ n : Int, v = .int .i64 n ∧ (Lit.int .i64 n).wf = true
theorem wf_int {x : Int} (h1 : -9223372036854775808 ≤ x) (h2 : x ≤ 9223372036854775807) : (Lit.int .i64 x).wf = true := by
  simp [Lit.wf, IntKind.min, IntKind.max, IntKind.signed, IntKind.bits]; omega
theorem lits_one {d : Nat} {v : Value} (h : IsN v) : ∃ l, Tryz.prog.keyLits (d + 1) 3 [v] = some [l] := by
  obtain ⟨n, rfl, hw⟩ := h
  exact ⟨.int .i64 n, by simp [Program.keyLits, Tryz.underlying3, hw]⟩
theorem lits_arr {d : Nat} {ds : List Value} (hl : ds.length = 256) (h : ∀ v, v ∈ ds → IsN v) : ∃ ls, Tryz.prog.keyLits (d + 2) TArr ds = some ls := by
  have h2 : ∀ i, i ∈ List.range 256 → ∃ l, Tryz.prog.keyLits (d + 1) 3 ((ds.drop (i * 1)).take 1) = some l := fun i hi => by
    have hi : i < ds.length := by rw [hl]; simpa using hi
    rw [Nat.mul_one, List.drop_eq_getElem_cons hi, List.take_succ_cons, List.take_zero]
    obtain ⟨l, e⟩ := lits_one (d := d) (h _ (List.getElem_mem hi))
    exact ⟨_, e⟩
  have h3 : (List.range 256).mapM (fun i => Tryz.prog.keyLits (d + 1) 3 ((ds.drop (i * 1)).take 1)) = some ((List.range 256).map fun i => (Tryz.prog.keyLits (d + 1) 3 ((ds.drop (i * 1)).take 1)).getD []) := mapM_some fun i hi => by
    obtain ⟨l, e⟩ := h2 i hi
    rw [e]; rfl
  rw [Program.keyLits.eq_def]
  simp only [Tryz.underlying195, c_arr, c_int9, hl, if_true]
  rw [h3]
  exact ⟨_, rfl⟩
theorem told_lits {d : Nat} {v : Value} {ds : List Value} (hl : ds.length = 256) (h0 : IsN v) (h : ∀ v, v ∈ ds → IsN v) : ∃ ls, Tryz.prog.keyLits (d + 3) TTold (v :: ds) = some ls := by
  obtain ⟨l0, e0⟩ := lits_one (d := d + 1) h0
  obtain ⟨l1, e1⟩ := lits_arr (d := d) hl h
  have e2 : (ds.take 256) = ds := List.take_of_length_le (by omega)
  rw [Program.keyLits.eq_def]
  simp only [Tryz.underlying197, c_told, List.length_cons, hl]
  simp only [List.mapM_cons, List.mapM_nil, List.drop_zero, List.drop_succ_cons, c_arr, c_int9, List.take_succ_cons, List.take_zero, e0, e1, e2]
  rw [if_pos ⟨trivial, by kernel_rfl⟩]
  simp only [Option.bind_eq_bind, Option.bind_some, Option.pure_def, Option.map_some]
  exact ⟨_, rfl⟩
theorem row_isN {l : List Int} (hb : ∀ x, x ∈ l → -9223372036854775808 ≤ x ∧ x ≤ 9223372036854775807) : ∀ v, v ∈ (rowCs l 257).toList → IsN v := fun v hv => by
  simp only [rowCs, List.mem_append, List.mem_map, List.mem_replicate] at hv
  rcases hv with ⟨x, hx, rfl⟩ | ⟨_, rfl⟩
  · exact ⟨x, rfl, wf_int (hb x hx).1 (hb x hx).2⟩
  · exact ⟨0, rfl, by decide⟩
theorem told_key {l : List Int} (hl : l.length ≤ 257) (hb : ∀ x, x ∈ l → -9223372036854775808 ≤ x ∧ x ≤ 9223372036854775807) : ∃ x, keyOf Tryz.prog TTold (.agg (rowCs l 257)) = some x := by
  obtain ⟨d, hd⟩ := depth3
  have hsz := rowCs_size hl
  have hall := row_isN hb
  obtain ⟨cs, hcs⟩ : ∃ cs, rowCs l 257 = cs := ⟨_, rfl⟩
  rw [hcs] at hsz hall ⊢
  obtain ⟨v, ds, hv⟩ : ∃ v ds, cs.toList = v :: ds := by
    cases h : cs.toList with
    | nil => have : cs.size = 0 := by rw [← Array.length_toList, h]; rfl
             omega
    | cons v ds => exact ⟨v, ds, rfl⟩
  have hdl : ds.length = 256 := by
    have h1 : cs.toList.length = 257 := by rw [Array.length_toList]; exact hsz
    rw [hv] at h1; simpa using h1
  rw [hv] at hall
  obtain ⟨ls, hls⟩ := told_lits (d := d) hdl (hall v (by simp)) (fun u hu => hall u (by simp [hu]))
  unfold keyOf
  rw [Tryz.underlying197]
  simp only [kt_told, Value.formed, Tryz.underlying197, c_told, hd, hsz]
  rw [if_pos (by simp), show (Value.agg cs).cells.toList = v :: ds from hv, hls]
  exact ⟨_, rfl⟩
/-- What a state tells. -/
abbrev encT (l : List Int) : Value := .agg (rowCs l 257)
def okT (q : Nat) (l : List Int) : Prop := l.length = q ∧ q ≤ 257 ∧ ∀ x, x ∈ l → -9223372036854775808 ≤ x ∧ x ≤ 9223372036854775807
theorem keyT (q : Nat) : KeyE Tryz.prog TTold encT (okT q) where
  law := told_law
  key l h := told_key (by have := h.1; have := h.2.1; omega) h.2.2
  inj l m hl hm e := by
    simp only [Value.agg.injEq, rowCs, Array.mk.injEq, hl.1, hm.1] at e
    have := List.append_inj_left e (by simp [hl.1, hm.1])
    exact List.map_inj_right (fun x y h => by simpa using h) |>.1 this
/-- A number. -/
abbrev encI (x : Int) : Value := .int .i64 x
def okI (x : Int) : Prop := -9223372036854775808 ≤ x ∧ x ≤ 9223372036854775807
theorem keyI : KeyE Tryz.prog 3 encI okI where
  law := int_keyed Tryz.underlying3
  key x h := ⟨_, keyOf_int_mk Tryz.underlying3 (wf_int h.1 h.2)⟩
  inj x y _ _ e := by simpa using e
/-- Two states. -/
abbrev encB (x : Nat × Nat) : Value := .agg #[.int .i64 (x.1 : Int), .int .i64 (x.2 : Int)]
def okB (x : Nat × Nat) : Prop := x.1 ≤ 1000000 ∧ x.2 ≤ 1000000
theorem keyB : KeyE Tryz.prog TBoth encB okB where
  law := both_law
  key x h := by
    obtain ⟨d, hd⟩ := depth3
    obtain ⟨l0, e0⟩ := lits_one (d := d + 1) (v := .int .i64 (x.1 : Int)) ⟨_, rfl, wf_int (by omega) (by have := h.1; omega)⟩
    obtain ⟨l1, e1⟩ := lits_one (d := d + 1) (v := .int .i64 (x.2 : Int)) ⟨_, rfl, wf_int (by omega) (by have := h.2; omega)⟩
    have hls : ∃ ls, Tryz.prog.keyLits (d + 3) TBoth [.int .i64 (x.1 : Int), .int .i64 (x.2 : Int)] = some ls := by
      rw [Program.keyLits.eq_def]
      simp only [Tryz.underlying103, c_both]
      simp only [List.mapM_cons, List.mapM_nil, List.drop_zero, List.drop_succ_cons, c_int9, List.take_succ_cons, List.take_zero, e0, e1]
      rw [if_pos ⟨rfl, by kernel_rfl⟩]
      simp only [Option.bind_eq_bind, Option.bind_some, Option.pure_def, Option.map_some]
      exact ⟨_, rfl⟩
    obtain ⟨ls, hls⟩ := hls
    unfold keyOf
    rw [Tryz.underlying103]
    simp only [kt_both, Value.formed, Tryz.underlying103, c_both, hd]
    rw [if_pos (by simp), show (encB x).cells.toList = [.int .i64 (x.1 : Int), .int .i64 (x.2 : Int)] from rfl, hls]
    exact ⟨_, rfl⟩
  inj x y _ _ e := by
    simp only [Value.agg.injEq, Array.mk.injEq, List.cons.injEq, Value.int.injEq, true_and, and_true] at e
    exact Prod.ext (by omega) (by omega)
end Go.Proofs.YtilhicefhhgecaaGreatDoor

namespace Pv
open Go Go.RowKit
/-- A key more, if it is new. -/
noncomputable def addK {α : Type} (l : List α) (x : α) : List α := by classical exact if x ∈ l then l else l ++ [x]
theorem addK_in {α : Type} {l : List α} {x : α} (h : x ∈ l) : addK l x = l := by unfold addK; rw [if_pos h]
theorem addK_new {α : Type} {l : List α} {x : α} (h : x ∉ l) : addK l x = l ++ [x] := by unfold addK; rw [if_neg h]
end Pv
namespace Go.Proofs.YtilhicefhhgecaaGreatDoor
open Go.RowKit Go.Maps Go.ChangeMaps Pv

theorem Blk.cell1 {w : World} {g : Nat} {t : TypeId} {a : Value} (h : Blk w g t #[a]) : w.cell? ⟨g, 0, none⟩ = some a := h.cell 0
theorem Blk.frz1 {w : World} {g : Nat} {t : TypeId} {cs : Array Value} (h : Blk w g t cs) : w.frozen? ⟨g, 0, none⟩ = false := h.frozen 0
/-- Keys numbered: the box, and its map. -/
def NumAt {α : Type} (enc : α → Value) (ok : α → Prop) (T : TypeId) (W : World) (base N : Nat) (keys : List α) : Prop :=
  base ≤ N ∧ ((keys = [] ∧ Blk W N T #[.map none]) ∨ ∃ mb, base ≤ mb ∧ Blk W N T #[.map (some mb)] ∧ MapQ enc ok (fun k => (k : Int)) W mb keys)
section
variable {α : Type} {enc : α → Value} {ok : α → Prop} {T : TypeId} {W W' : World} {base N : Nat} {keys : List α}
theorem NumAt.below (h : NumAt enc ok T W base N keys) (hb : Below W.heap.size W W') : NumAt enc ok T W' base N keys := by
  obtain ⟨h0, ⟨h1, h2⟩ | ⟨mb, h1, h2, h3⟩⟩ := h
  · exact ⟨h0, .inl ⟨h1, h2.below hb h2.lt⟩⟩
  · exact ⟨h0, .inr ⟨mb, h1, h2.below hb h2.lt, h3.below hb⟩⟩
/-- behind an append onto a row of another type -/
theorem NumAt.grown (h : NumAt enc ok T W base N keys) {b s n : Nat} {e : TypeId} {v : Value} {us : List Value} (hr : W.ownsRow b e s v n us) (hne : T ≠ e) (hg : W.grownBy W' v.ownBlock) : NumAt enc ok T W' base N keys := by
  obtain ⟨h0, ⟨h1, h2⟩ | ⟨mb, h1, h2, h3⟩⟩ := h
  · exact ⟨h0, .inl ⟨h1, h2.grown hg (own_blk_ne hr h2 (Ne.symm hne))⟩⟩
  · refine ⟨h0, .inr ⟨mb, h1, h2.grown hg (own_blk_ne hr h2 (Ne.symm hne)), h3.of_block (hg.block mb h3.lt fun e => ?_)⟩⟩
    rcases hr.2 with ⟨h, _⟩ | ⟨g, cap, cur, h, _, hh, _⟩
    · rw [h] at e; cases e
    · rw [h] at e
      injection e with e
      subst e
      exact h3.ne (show Blk _ _ _ cur from hh) rfl
theorem NumAt.far (h : NumAt enc ok T W base N keys) {g i : Nat} {t : TypeId} {cs : Array Value} {u : Value} (hb : Blk W g t cs) (hne : T ≠ t) : NumAt enc ok T (W.setCell ⟨g, i, none⟩ u) base N keys := by
  obtain ⟨h0, ⟨h1, h2⟩ | ⟨mb, h1, h2, h3⟩⟩ := h
  · exact ⟨h0, .inl ⟨h1, h2.far (p := ⟨g, i, none⟩) (h2.ne hb hne) u⟩⟩
  · exact ⟨h0, .inr ⟨mb, h1, h2.far (p := ⟨g, i, none⟩) (h2.ne hb hne) u, h3.of_block (Below.heap_setCell _ _ _ _ (fun e => h3.ne hb e.symm))⟩⟩
end
/-- What numbering one key gives. -/
def OfPost {α : Type} [BEq α] (enc : α → Value) (ok : α → Prop) (T : TypeId) (base N : Nat) (keys : List α) (x : α) (w : World) (e : Ending) (w' : World) : Prop :=
  e = .returned (.int .i64 ((addK keys x).idxOf x : Nat)) ∧ NumAt enc ok T w' base N (addK keys x) ∧ Oth T w w' ∧ Below base w w'
abbrev TNI : TypeId := 147
abbrev TMI : TypeId := 145
theorem nil_mapI (w : World) : (binOp .eql TMI (.map none) (.map none)).run Tryz.prog w = .ok (.bool true) w := by kernel_rfl
theorem some_mapI (mb : Nat) (w : World) : (binOp .eql TMI (.map (some mb)) (.map none)).run Tryz.prog w = .ok (.bool false) w := by kernel_rfl
theorem idxOf_snoc {α : Type} [BEq α] [LawfulBEq α] {l : List α} {x : α} (h : x ∉ l) : (l ++ [x]).idxOf x = l.length := by
  rw [List.idxOf_append, if_neg h]; simp

set_option maxHeartbeats 2000000 in
set_option maxRecDepth 100000 in
theorem num_int (base N : Nat) (keys : List Int) (x : Int) (w : World) (h : NumAt encI okI TNI w base N keys) (hx : okI x) (hl : keys.length ≤ 1000000) (hbase : base ≤ w.heap.size) :
    Calls Tryz.prog 92 #[.pointer (some ⟨N, 0, none⟩), .int .i64 x] w (OfPost encI okI TNI base N keys x w) := by
  have hmm := @run_makeMap Tryz.prog
  have HX := Lib.hid hx
  have hn1 := nil_mapI; have hn2 := some_mapI
  obtain ⟨hN, h⟩ := h
  rcases h with ⟨h1, h2⟩ | ⟨mb, hmb, h2, h3⟩
  · subst h1
    have HB := Lib.hid h2
    have p0 := Blk.cell1 h2; have f0 := Blk.frz1 h2
    have hlt := h2.lt
    have hne : N ≠ w.heap.size := by omega
    obtain ⟨W1, hW1⟩ : ∃ W, (w.setCell ⟨N, 0, none⟩ (.map (some w.heap.size))).alloc (.map #[] 0) = W := ⟨_, rfl⟩
    have e0 : (w.setCell ⟨N, 0, none⟩ (.map (some w.heap.size))).heap.size = w.heap.size := by simp [World.setCell]
    have HM0 := MapQ.nil (enc := encI) (ok := okI) (val := fun k => (k : Int)) (w.setCell ⟨N, 0, none⟩ (.map (some w.heap.size)))
    rw [hW1, e0] at HM0
    have HM := Lib.hid HM0
    have HB1 := Lib.hid (show Blk W1 N TNI #[.map (some w.heap.size)] by rw [← hW1]; exact (h2.set 0 _).alloc _)
    have q0 := Blk.cell1 HB1.out
    have HOUT : Hid (x ∉ ([] : List Int)) := Lib.hid (by simp)
    have HGE : Hid (base ≤ w.heap.size) := Lib.hid hbase
    obtain ⟨r1, _⟩ := HM0.out keyI Tryz.underlying145 zero_int9 hx HOUT.out
    have HO0 : Hid (Oth TNI w W1) := Lib.hid (by
      rw [← hW1]
      exact ⟨rfl, rfl, rfl, by simp [World.setCell], fun g t cs ht hb => (hb.far (p := ⟨N, 0, none⟩) (hb.ne h2 ht) _).alloc _⟩)
    have HL0 : Hid (Below base w W1) := Lib.hid (by
      rw [← hW1]
      exact ((Below.refl base w).setCell (p := ⟨N, 0, none⟩) hN _).alloc (by rw [e0]; exact hbase) _)
    clear h2 HM0
    go_enter Tryz.func92, Tryz.ntmps92
    have HMD := Lib.hid (MapQ.below HM.out (Below.refl _ _).drew)
    have HBD := Lib.hid (HB1.out.below (Below.refl _ _).drew HB1.out.lt)
    have hq0 := Blk.cell1 HBD.out
    have hlen : ∀ ty, (Builtin.len_ #[TMI] ty #[.map (some w.heap.size)]).run Tryz.prog ((W1).drew) = .ok (.int .i64 (0)) (W1).drew := MapQ.len Tryz.underlying145 HMD.out
    obtain ⟨W', hput, hM', e1, e2, e3, e4, hblk⟩ := MapQ.put keyI Tryz.underlying145 HMD.out HX.out HOUT.out (v := 0) rfl
    have HM' := Lib.hid hM'
    have hNm : N ≠ w.heap.size := HM.out.ne HB1.out
    have HB' : Hid (Blk W' N TNI #[.map (some w.heap.size)]) := Lib.hid ((hblk N hNm).trans HBD.out)
    have p1 := Blk.cell1 HB'.out
    obtain ⟨_, s2⟩ := HM'.out.in keyI Tryz.underlying145 zero_int9 HX.out (k := 0) (by simp)
    have HOT : Hid (Oth TNI (W1) W') := Lib.hid ⟨e1, e2, e3, by rw [e4]; exact Nat.le_refl _, fun g t cs ht hb => (hblk g (HM.out.ne hb)).trans hb⟩
    have HBL : Hid (Below base (W1) W') := Lib.hid ⟨e1, e2, e3, by rw [e4]; exact Nat.le_refl _, fun g hg => hblk g (by have := HGE.out; omega)⟩
    clear e1 e2 e3 e4 hblk hNm hM' 
    go_wp2
    refine wp_region_T 10 (fun W => W.cell? ⟨N, 0, none⟩ = some (.map (some w.heap.size)) ∧ ∀ ty, (Builtin.len_ #[TMI] ty #[.map (some w.heap.size)]).run Tryz.prog W = .ok (.int .i64 (0)) W) (by kernel_rfl) ?_
    have HS := Lib.hid (And.intro hq0 hlen)
    refine wpAnyT_take (i := 0) (v := ?_) rfl (by kernel_rfl) (by kernel_rfl) (by kernel_rfl) (by kernel_rfl) (by kernel_rfl) (fun _ _ _ h => h) (.inl ⟨rfl, ?_⟩) HS.out ?_
    rotate_left
    · intro W__ hW__
      obtain ⟨h1, h2⟩ := hW__
      go_simp
      (try with_reducible rfl)
    try simp only [Act.put]
    refine wpAnyT_take (i := 4) (v := ?_) rfl (by kernel_rfl) (by kernel_rfl) (by kernel_rfl) (by kernel_rfl) (by kernel_rfl) (fun _ _ _ h => h) (.inl ⟨rfl, ?_⟩) HS.out ?_
    rotate_left
    · intro W__ hW__
      obtain ⟨h1, h2⟩ := hW__
      go_simp
      (try with_reducible rfl)
    try simp only [Act.put]
    refine wpAnyT_take (i := 5) (v := ?_) rfl (by kernel_rfl) (by kernel_rfl) (by kernel_rfl) (by kernel_rfl) (by kernel_rfl) (fun _ _ _ h => h) (.inl ⟨rfl, ?_⟩) HS.out ?_
    rotate_left
    · intro W__ hW__
      obtain ⟨h1, h2⟩ := hW__
      go_simp
      (try with_reducible rfl)
    try simp only [Act.put]
    refine wpAnyT_take (i := 1) (v := ?_) rfl (by kernel_rfl) (by kernel_rfl) (by kernel_rfl) (by kernel_rfl) (by kernel_rfl) (fun _ _ _ h => h) (.inl ⟨rfl, ?_⟩) HS.out ?_
    rotate_left
    · intro W__ hW__
      obtain ⟨h1, h2⟩ := hW__
      go_simp
      (try with_reducible rfl)
    try simp only [Act.put]
    refine wpAnyT_take (i := 6) (v := ?_) rfl (by kernel_rfl) (by kernel_rfl) (by kernel_rfl) (by kernel_rfl) (by kernel_rfl) (fun _ _ _ h => h) (.inl ⟨rfl, ?_⟩) HS.out ?_
    rotate_left
    · intro W__ hW__
      obtain ⟨h1, h2⟩ := hW__
      go_simp
      (try with_reducible rfl)
    try simp only [Act.put]
    refine wpAnyT_take (i := 2) (v := ?_) rfl (by kernel_rfl) (by kernel_rfl) (by kernel_rfl) (by kernel_rfl) (by kernel_rfl) (fun _ _ _ h => h) (.inl ⟨rfl, ?_⟩) HS.out ?_
    rotate_left
    · intro W__ hW__
      obtain ⟨h1, h2⟩ := hW__
      go_simp
      (try with_reducible rfl)
    try simp only [Act.put]
    refine wpAnyT_take (i := 7) (v := ?_) rfl (by kernel_rfl) (by kernel_rfl) (by kernel_rfl) (by kernel_rfl) (by kernel_rfl) (fun _ _ _ h => h) (.inl ⟨rfl, ?_⟩) HS.out ?_
    rotate_left
    · intro W__ hW__
      obtain ⟨h1, h2⟩ := hW__
      go_simp
      (try with_reducible rfl)
    try simp only [Act.put]
    refine wpAnyT_take (i := 3) (v := ?_) rfl (by kernel_rfl) (by kernel_rfl) (by kernel_rfl) (by kernel_rfl) (by kernel_rfl) (fun _ _ _ h => h) (.inl ⟨rfl, ?_⟩) HS.out ?_
    rotate_left
    · intro W__ hW__
      obtain ⟨h1, h2⟩ := hW__
      go_simp
      (try with_reducible rfl)
    try simp only [Act.put]
    refine wpAnyT_take (i := 8) (v := ?_) rfl (by kernel_rfl) (by kernel_rfl) (by kernel_rfl) (by kernel_rfl) (by kernel_rfl) (fun _ _ _ h => h) (.inl ⟨rfl, ?_⟩) HS.out ?_
    rotate_left
    · intro W__ hW__
      obtain ⟨h1, h2⟩ := hW__
      go_simp
      (try with_reducible rfl)
    try simp only [Act.put]
    refine wpAnyT_take (i := 9) (v := ?_) rfl (by kernel_rfl) (by kernel_rfl) (by kernel_rfl) (by kernel_rfl) (by kernel_rfl) (fun _ _ _ h => h) (.inl ⟨rfl, ?_⟩) HS.out ?_
    rotate_left
    · intro W__ hW__
      obtain ⟨h1, h2⟩ := hW__
      go_simp
      (try with_reducible rfl)
    try simp only [Act.put]
    refine wpAnyT_end (i := 10) rfl (by kernel_rfl) rfl (by kernel_rfl) fun K__ hK__ => ?_
    unfold Oper.wp
    go_simp
    refine hK__ _ _ ?_
    clear hK__
    refine wpAnyT_done (by kernel_rfl) ?_ _
    go_wp2
    go_ret
    refine ⟨?_, ?_, HO0.out.trans HOT.out, HL0.out.trans HBL.out⟩
    · rw [addK_new HOUT.out, idxOf_snoc HOUT.out]; rfl
    · rw [addK_new HOUT.out]; exact ⟨hN, .inr ⟨w.heap.size, hbase, HB'.out, HM'.out⟩⟩
  · have HB := Lib.hid h2
    have p0 := Blk.cell1 h2; have f0 := Blk.frz1 h2
    have hlt := h2.lt
    by_cases hin : x ∈ keys
    · obtain ⟨k, hk⟩ := List.getElem?_of_mem hin
      have HI := Lib.hid hin
      obtain ⟨r1, r2⟩ := h3.in keyI Tryz.underlying145 zero_int9 hx hk
      have HM := Lib.hid h3
      have HK : Hid (keys.idxOf x = k) := Lib.hid (nodup_getQ h3.nodup (by rw [List.getElem?_eq_getElem (List.idxOf_lt_length_of_mem hin), List.getElem_idxOf]) hk)
      clear h2 h3 hk hin
      go_enter Tryz.func92, Tryz.ntmps92
      go_wp2
      go_ret
      refine ⟨?_, ?_, Oth.refl _ _, Below.refl _ _⟩
      · rw [addK_in HI.out, HK.out]; rfl
      · rw [addK_in HI.out]; exact ⟨hN, .inr ⟨mb, hmb, HB.out, HM.out⟩⟩
    · have HM := Lib.hid h3
      have HB1 := HB
      have HOUT := Lib.hid hin
      have HGE : Hid (base ≤ mb) := Lib.hid hmb
      obtain ⟨r1, _⟩ := h3.out keyI Tryz.underlying145 zero_int9 hx hin
      clear h2 h3 hin
      go_enter Tryz.func92, Tryz.ntmps92
      have HMD := Lib.hid (MapQ.below HM.out (Below.refl _ _).drew)
      have HBD := Lib.hid (HB1.out.below (Below.refl _ _).drew HB1.out.lt)
      have hq0 := Blk.cell1 HBD.out
      have hlen : ∀ ty, (Builtin.len_ #[TMI] ty #[.map (some mb)]).run Tryz.prog ((w).drew) = .ok (.int .i64 ((keys.length : Int))) (w).drew := MapQ.len Tryz.underlying145 HMD.out
      obtain ⟨W', hput, hM', e1, e2, e3, e4, hblk⟩ := MapQ.put keyI Tryz.underlying145 HMD.out HX.out HOUT.out (v := (keys.length : Int)) rfl
      have HM' := Lib.hid hM'
      have hNm : N ≠ mb := HM.out.ne HB1.out
      have HB' : Hid (Blk W' N TNI #[.map (some mb)]) := Lib.hid ((hblk N hNm).trans HBD.out)
      have p1 := Blk.cell1 HB'.out
      obtain ⟨_, s2⟩ := HM'.out.in keyI Tryz.underlying145 zero_int9 HX.out (k := keys.length) (by simp)
      have HOT : Hid (Oth TNI (w) W') := Lib.hid ⟨e1, e2, e3, by rw [e4]; exact Nat.le_refl _, fun g t cs ht hb => (hblk g (HM.out.ne hb)).trans hb⟩
      have HBL : Hid (Below base (w) W') := Lib.hid ⟨e1, e2, e3, by rw [e4]; exact Nat.le_refl _, fun g hg => hblk g (by have := HGE.out; omega)⟩
      clear e1 e2 e3 e4 hblk hNm hM' 
      go_wp2
      refine wp_region_T 10 (fun W => W.cell? ⟨N, 0, none⟩ = some (.map (some mb)) ∧ ∀ ty, (Builtin.len_ #[TMI] ty #[.map (some mb)]).run Tryz.prog W = .ok (.int .i64 ((keys.length : Int))) W) (by kernel_rfl) ?_
      have HS := Lib.hid (And.intro hq0 hlen)
      refine wpAnyT_take (i := 0) (v := ?_) rfl (by kernel_rfl) (by kernel_rfl) (by kernel_rfl) (by kernel_rfl) (by kernel_rfl) (fun _ _ _ h => h) (.inl ⟨rfl, ?_⟩) HS.out ?_
      rotate_left
      · intro W__ hW__
        obtain ⟨h1, h2⟩ := hW__
        go_simp
        (try with_reducible rfl)
      try simp only [Act.put]
      refine wpAnyT_take (i := 4) (v := ?_) rfl (by kernel_rfl) (by kernel_rfl) (by kernel_rfl) (by kernel_rfl) (by kernel_rfl) (fun _ _ _ h => h) (.inl ⟨rfl, ?_⟩) HS.out ?_
      rotate_left
      · intro W__ hW__
        obtain ⟨h1, h2⟩ := hW__
        go_simp
        (try with_reducible rfl)
      try simp only [Act.put]
      refine wpAnyT_take (i := 5) (v := ?_) rfl (by kernel_rfl) (by kernel_rfl) (by kernel_rfl) (by kernel_rfl) (by kernel_rfl) (fun _ _ _ h => h) (.inl ⟨rfl, ?_⟩) HS.out ?_
      rotate_left
      · intro W__ hW__
        obtain ⟨h1, h2⟩ := hW__
        go_simp
        (try with_reducible rfl)
      try simp only [Act.put]
      refine wpAnyT_take (i := 1) (v := ?_) rfl (by kernel_rfl) (by kernel_rfl) (by kernel_rfl) (by kernel_rfl) (by kernel_rfl) (fun _ _ _ h => h) (.inl ⟨rfl, ?_⟩) HS.out ?_
      rotate_left
      · intro W__ hW__
        obtain ⟨h1, h2⟩ := hW__
        go_simp
        (try with_reducible rfl)
      try simp only [Act.put]
      refine wpAnyT_take (i := 6) (v := ?_) rfl (by kernel_rfl) (by kernel_rfl) (by kernel_rfl) (by kernel_rfl) (by kernel_rfl) (fun _ _ _ h => h) (.inl ⟨rfl, ?_⟩) HS.out ?_
      rotate_left
      · intro W__ hW__
        obtain ⟨h1, h2⟩ := hW__
        go_simp
        (try with_reducible rfl)
      try simp only [Act.put]
      refine wpAnyT_take (i := 2) (v := ?_) rfl (by kernel_rfl) (by kernel_rfl) (by kernel_rfl) (by kernel_rfl) (by kernel_rfl) (fun _ _ _ h => h) (.inl ⟨rfl, ?_⟩) HS.out ?_
      rotate_left
      · intro W__ hW__
        obtain ⟨h1, h2⟩ := hW__
        go_simp
        (try with_reducible rfl)
      try simp only [Act.put]
      refine wpAnyT_take (i := 7) (v := ?_) rfl (by kernel_rfl) (by kernel_rfl) (by kernel_rfl) (by kernel_rfl) (by kernel_rfl) (fun _ _ _ h => h) (.inl ⟨rfl, ?_⟩) HS.out ?_
      rotate_left
      · intro W__ hW__
        obtain ⟨h1, h2⟩ := hW__
        go_simp
        (try with_reducible rfl)
      try simp only [Act.put]
      refine wpAnyT_take (i := 3) (v := ?_) rfl (by kernel_rfl) (by kernel_rfl) (by kernel_rfl) (by kernel_rfl) (by kernel_rfl) (fun _ _ _ h => h) (.inl ⟨rfl, ?_⟩) HS.out ?_
      rotate_left
      · intro W__ hW__
        obtain ⟨h1, h2⟩ := hW__
        go_simp
        (try with_reducible rfl)
      try simp only [Act.put]
      refine wpAnyT_take (i := 8) (v := ?_) rfl (by kernel_rfl) (by kernel_rfl) (by kernel_rfl) (by kernel_rfl) (by kernel_rfl) (fun _ _ _ h => h) (.inl ⟨rfl, ?_⟩) HS.out ?_
      rotate_left
      · intro W__ hW__
        obtain ⟨h1, h2⟩ := hW__
        go_simp
        (try with_reducible rfl)
      try simp only [Act.put]
      refine wpAnyT_take (i := 9) (v := ?_) rfl (by kernel_rfl) (by kernel_rfl) (by kernel_rfl) (by kernel_rfl) (by kernel_rfl) (fun _ _ _ h => h) (.inl ⟨rfl, ?_⟩) HS.out ?_
      rotate_left
      · intro W__ hW__
        obtain ⟨h1, h2⟩ := hW__
        go_simp
        (try with_reducible rfl)
      try simp only [Act.put]
      refine wpAnyT_end (i := 10) rfl (by kernel_rfl) rfl (by kernel_rfl) fun K__ hK__ => ?_
      unfold Oper.wp
      go_simp
      refine hK__ _ _ ?_
      clear hK__
      refine wpAnyT_done (by kernel_rfl) ?_ _
      go_wp2
      go_ret
      refine ⟨?_, ?_, HOT.out, HBL.out⟩
      · rw [addK_new HOUT.out, idxOf_snoc HOUT.out]; rfl
      · rw [addK_new HOUT.out]; exact ⟨hN, .inr ⟨mb, hmb, HB'.out, HM'.out⟩⟩
set_option maxHeartbeats 2000000 in
set_option maxRecDepth 100000 in
theorem num_int_in (base N k : Nat) (keys : List Int) (x : Int) (w : World) (h : NumAt encI okI TNI w base N keys) (hx : okI x) (hk : keys[k]? = some x) :
    Calls Tryz.prog 92 #[.pointer (some ⟨N, 0, none⟩), .int .i64 x] w fun e w' => e = .returned (.int .i64 (k : Nat)) ∧ w' = w := by
  have hn2 := some_mapI
  obtain ⟨hN, ⟨h1, _⟩ | ⟨mb, hmb, h2, h3⟩⟩ := h
  · subst h1; simp at hk
  have p0 := Blk.cell1 h2; have f0 := Blk.frz1 h2
  have hlt := h2.lt
  obtain ⟨r1, r2⟩ := h3.in keyI Tryz.underlying145 zero_int9 hx hk
  clear h2 h3 hk
  go_enter Tryz.func92, Tryz.ntmps92
  go_wp2
  go_ret
  exact ⟨rfl, rfl⟩
end Go.Proofs.YtilhicefhhgecaaGreatDoor

namespace Pv
open Go Go.RowKit
theorem idxOf_map_on {α β : Type} [BEq α] [LawfulBEq α] [BEq β] [LawfulBEq β] {f : α → β} {b : α} : ∀ {l : List α}, (∀ a, a ∈ l → f a = f b → a = b) → (l.map f).idxOf (f b) = l.idxOf b
  | [], _ => rfl
  | x :: l, h => by
    rw [List.map_cons, List.idxOf_cons, List.idxOf_cons, idxOf_map_on (fun a ha => h a (by simp [ha]))]
    by_cases e : x = b
    · subst e; simp
    · have e2 : f x ≠ f b := fun e2 => e (h x (by simp) e2)
      rw [beq_false_of_ne e, beq_false_of_ne e2]
noncomputable def keysJ (d : Dfa) (k : Nat) (out : List Int) (j : Nat) : List (List Int) := (fsts d (k + 1) j).map (keyP d out)
section
variable {d : Dfa} {k : Nat} {out : List Int}
theorem keysJ_zero : keysJ d k out 0 = [] := by simp [keysJ, fsts]
theorem keysJ_mem (hd : d.Ok) (h : PartsK d k out) {j : Nat} (hj : j < d.next.length) : keyP d out j ∈ keysJ d k out j ↔ fstOf d (k + 1) j ≠ j := by
  unfold keysJ
  constructor
  · intro hm e
    obtain ⟨s, hs, e2⟩ := List.mem_map.1 hm
    have h1 := fsts_mem.1 hs
    have h2 := (keyP_iff hd h (by omega) hj).1 e2
    have := fstOf_le h2
    omega
  · intro hne
    have h1 := fstOf_self (d := d) (k + 1) j
    exact List.mem_map.2 ⟨fstOf d (k + 1) j, fsts_mem.2 ⟨by omega, fstOf_fst _ _⟩, (keyP_iff hd h (by omega) hj).2 (fstOf_lk _ _)⟩
theorem keysJ_succ (hd : d.Ok) (h : PartsK d k out) {j : Nat} (hj : j < d.next.length) : addK (keysJ d k out j) (keyP d out j) = keysJ d k out (j + 1) := by
  by_cases e : fstOf d (k + 1) j = j
  · rw [addK_new (fun hm => (keysJ_mem hd h hj).1 hm e)]
    unfold keysJ
    rw [fsts_succ, if_pos (yes_t e)]; simp
  · rw [addK_in ((keysJ_mem hd h hj).2 e)]
    unfold keysJ
    rw [fsts_succ, if_neg (by rw [yes_f e]; simp)]
theorem keysJ_idx (hd : d.Ok) (h : PartsK d k out) {j : Nat} (hj : j < d.next.length) : (keysJ d k out (j + 1)).idxOf (keyP d out j) = prt d (k + 1) d.next.length j := by
  have h1 := fstOf_self (d := d) (k + 1) j
  have e : keyP d out j = keyP d out (fstOf d (k + 1) j) := ((keyP_iff hd h (by omega) hj).2 (fstOf_lk _ _)).symm
  rw [prt_pre (j := j + 1) (by omega) (by omega)]
  unfold keysJ prt
  rw [e]
  refine idxOf_map_on fun a ha e2 => ?_
  have h2 := fsts_mem.1 ha
  have h3 := (keyP_iff hd h (by omega) (by omega)).1 e2
  have h4 := fstOf_eq h3
  rw [h2.2, fstOf_fst] at h4
  exact h4
theorem keysJ_len {j : Nat} : (keysJ d k out j).length = (fsts d (k + 1) j).length := by simp [keysJ]
/-- The parts of one step more. -/
noncomputable def partL (d : Dfa) (k : Nat) (j : Nat) : List Int := (List.range j).map fun s => (prt d k d.next.length s : Int)
theorem partL_succ (k j : Nat) : partL d k (j + 1) = partL d k j ++ [(prt d k d.next.length j : Int)] := by simp [partL, List.range_succ]
theorem partL_len (k j : Nat) : (partL d k j).length = j := by simp [partL]
theorem partL_getD {k j s : Nat} (h : s < j) : (partL d k j).getD s 0 = (prt d k d.next.length s : Int) := by
  rw [List.getD_eq_getElem?_getD, partL, List.getElem?_map, List.getElem?_range h]; rfl
theorem partL_ok (k : Nat) : PartsK d k (partL d k d.next.length) :=
  ⟨partL_len _ _, fun s t hs ht => by rw [partL_getD hs, partL_getD ht]; rw [← prt_iff hs ht]; omega⟩
theorem partL_bd (k : Nat) : ∀ x, x ∈ partL d k d.next.length → 0 ≤ x ∧ x ≤ (d.next.length : Int) := fun x hx => by
  obtain ⟨s, hs, rfl⟩ := List.mem_map.1 hx
  have := prt_lt (d := d) (k := k) (List.mem_range.1 hs)
  have := fsts_len (d := d) k d.next.length
  omega
/-- What accepts, as numbers. -/
noncomputable def accL (d : Dfa) (j : Nat) : List Int := (List.range j).map fun s => if d.acc s = true then 1 else 0
theorem accL_succ (j : Nat) : accL d (j + 1) = accL d j ++ [if d.acc j = true then 1 else 0] := by simp [accL, List.range_succ]
theorem accL_len (j : Nat) : (accL d j).length = j := by simp [accL]
theorem accL_ok : PartsK d 0 (accL d d.next.length) := by
  refine ⟨accL_len _, fun s t hs ht => ?_⟩
  have g : ∀ s, s < d.next.length → (accL d d.next.length).getD s 0 = if d.acc s = true then 1 else 0 := fun s hs => by
    rw [List.getD_eq_getElem?_getD, accL, List.getElem?_map, List.getElem?_range hs]; rfl
  rw [g s hs, g t ht]
  show _ ↔ d.acc s = d.acc t
  cases d.acc s <;> cases d.acc t <;> simp
theorem accL_bd : ∀ x, x ∈ accL d d.next.length → 0 ≤ x ∧ x ≤ 1 := fun x hx => by
  obtain ⟨s, hs, rfl⟩ := List.mem_map.1 hx
  split <;> omega
/-- When no part more comes, the parts tell what is alike. -/
theorem parts_done (hd : d.Ok) {k : Nat} (h : (fsts d (k + 1) d.next.length).length = (fsts d k d.next.length).length) {s t : Nat} (hs : s < d.next.length) (ht : t < d.next.length) :
    (partL d (k + 1) d.next.length).getD s 0 = (partL d (k + 1) d.next.length).getD t 0 ↔ Lks d s t := by
  rw [(partL_ok (k + 1)).iff s t hs ht]
  have st : ∀ s t, s < d.next.length → t < d.next.length → Lk d k s t → Lk d (k + 1) s t := fun s t hs ht hl => still_of h hs ht hl
  constructor
  · intro hl; exact (Lks.still hd st hs ht).1 hl.1
  · intro hl; exact hl (k + 1)
theorem fsts_pos {k : Nat} (hd : d.Ok) : 1 ≤ (fsts d k d.next.length).length := by
  have h1 := hd.n1
  have := fstOf_self (d := d) k 0
  have : 0 ∈ fsts d k d.next.length := fsts_mem.2 ⟨by omega, by omega⟩
  exact List.length_pos_of_mem this
/-- How many parts are known. -/
noncomputable def manyK (d : Dfa) : Nat → Nat
  | 0 => 0
  | k + 1 => (fsts d (k + 1) d.next.length).length
theorem manyK_le (k : Nat) : manyK d k ≤ d.next.length := by
  cases k with
  | zero => exact Nat.zero_le _
  | succ k => exact fsts_len _ _
theorem manyK_grow (hd : d.Ok) (k : Nat) (h : manyK d (k + 1) ≠ manyK d k) : manyK d k < manyK d (k + 1) := by
  cases k with
  | zero => have := fsts_pos (k := 1) hd; show 0 < (fsts d 1 d.next.length).length; omega
  | succ k =>
    have := fsts_grow (d := d) (k + 1) d.next.length
    have h' : (fsts d (k + 1 + 1) d.next.length).length ≠ (fsts d (k + 1) d.next.length).length := h
    show (fsts d (k + 1) d.next.length).length < (fsts d (k + 1 + 1) d.next.length).length
    omega
theorem manyK_done (hd : d.Ok) (k : Nat) (h : manyK d (k + 1) = manyK d k) {s t : Nat} (hs : s < d.next.length) (ht : t < d.next.length) :
    (partL d (k + 1) d.next.length).getD s 0 = (partL d (k + 1) d.next.length).getD t 0 ↔ Lks d s t := by
  cases k with
  | zero => have := fsts_pos (k := 1) hd; have h' : (fsts d 1 d.next.length).length = 0 := h; omega
  | succ k => exact parts_done hd h hs ht
end
end Pv

namespace Pv
open Go Go.RowKit
theorem idxOf_map_two {α β γ : Type} [BEq β] [LawfulBEq β] [BEq γ] [LawfulBEq γ] {f : α → β} {g : α → γ} {b : α} : ∀ {l : List α}, (∀ a, a ∈ l → (f a = f b ↔ g a = g b)) → (l.map f).idxOf (f b) = (l.map g).idxOf (g b)
  | [], _ => rfl
  | x :: l, h => by
    rw [List.map_cons, List.map_cons, List.idxOf_cons, List.idxOf_cons, idxOf_map_two (fun a ha => h a (by simp [ha]))]
    have h1 := h x (by simp)
    by_cases e : f x = f b
    · have e2 := h1.1 e; rw [beq_iff_eq.2 e, beq_iff_eq.2 e2]
    · have e2 : g x ≠ g b := fun e2 => e (h1.2 e2)
      rw [beq_false_of_ne e, beq_false_of_ne e2]
/-- The parts tell what is alike. -/
def PtOk (d : Dfa) (part : List Int) : Prop := ∀ s t, s < d.next.length → t < d.next.length → (part.getD s 0 = part.getD t 0 ↔ Lks d s t)
/-- Parts of states. -/
def ptL (part : List Int) (st : List Nat) : List Int := st.map fun s => part.getD s 0
section
variable {d : Dfa} {part : List Int} {st : List Nat}
theorem ptL_mem (h : PtOk d part) (hs : ∀ s, s ∈ st → s < d.next.length) {t : Nat} (ht : t < d.next.length) : part.getD t 0 ∈ ptL part st ↔ rep d t ∈ st.map (rep d) := by
  unfold ptL
  simp only [List.mem_map]
  constructor
  · rintro ⟨s, h1, h2⟩; exact ⟨s, h1, rep_iff.2 ((h s t (hs s h1) ht).1 h2)⟩
  · rintro ⟨s, h1, h2⟩; exact ⟨s, h1, (h s t (hs s h1) ht).2 (rep_iff.1 h2)⟩
theorem ptL_add (h : PtOk d part) (hs : ∀ s, s ∈ st → s < d.next.length) {t : Nat} (ht : t < d.next.length) : addK (ptL part st) (part.getD t 0) = ptL part (addT d st t) := by
  by_cases e : rep d t ∈ st.map (rep d)
  · rw [addK_in ((ptL_mem h hs ht).2 e), addT_in e]
  · rw [addK_new (fun h2 => e ((ptL_mem h hs ht).1 h2)), addT_new e]; simp [ptL]
theorem ptL_idx_in (h : PtOk d part) (hs : ∀ s, s ∈ st → s < d.next.length) {t : Nat} (ht : t < d.next.length) (e : rep d t ∈ st.map (rep d)) : (addK (ptL part st) (part.getD t 0)).idxOf (part.getD t 0) < st.length := by
  have h1 := (ptL_mem h hs ht).2 e
  rw [addK_in h1]
  have := List.idxOf_lt_length_of_mem h1
  simpa [ptL] using this
theorem ptL_idx_new (h : PtOk d part) (hs : ∀ s, s ∈ st → s < d.next.length) {t : Nat} (ht : t < d.next.length) (e : rep d t ∉ st.map (rep d)) : (addK (ptL part st) (part.getD t 0)).idxOf (part.getD t 0) = st.length := by
  have h1 : part.getD t 0 ∉ ptL part st := fun h2 => e ((ptL_mem h hs ht).1 h2)
  rw [addK_new h1, List.idxOf_append, if_neg h1]
  simp [ptL]
theorem ptL_num (h : PtOk d part) (hs : ∀ s, s ∈ st → s < d.next.length) {t : Nat} (ht : t < d.next.length) (e : rep d t ∈ st.map (rep d)) : (ptL part st)[(st.map (rep d)).idxOf (rep d t)]? = some (part.getD t 0) := by
  have h1 : (ptL part st).idxOf (part.getD t 0) = (st.map (rep d)).idxOf (rep d t) := by
    unfold ptL
    exact idxOf_map_two (f := fun s => part.getD s 0) (g := rep d) fun a ha => by rw [h a t (hs a ha) ht, rep_iff]
  rw [← h1]
  have h2 := (ptL_mem h hs ht).2 e
  rw [List.getElem?_eq_getElem (List.idxOf_lt_length_of_mem h2), List.getElem_idxOf]
theorem rowT_ok (hd : d.Ok) (h : StOk d st) {s : Nat} (hs : s < d.next.length) : ∀ c, c ≤ d.cuts.length → StOk d (rowT d s st c)
  | 0, _ => h
  | c + 1, hc => by rw [rowT_succ]; exact (rowT_ok hd h hs c (by omega)).add (go_lt hd hs (by omega))
theorem stF_ok (hd : d.Ok) : ∀ (f i : Nat) (st : List Nat), StOk d st → StOk d (stF d f i st)
  | 0, _, _, h => h
  | f + 1, i, st, h => by
    cases e : st[i]? with
    | none => rw [stF_end (by simpa using e)]; exact h
    | some s => rw [stF_row e]; exact stF_ok hd f (i + 1) _ (rowT_ok hd h (h.lt s (mem_of_get e)) _ (Nat.le_refl _))
theorem stA_ok (hd : d.Ok) : StOk d (stA d) := stF_ok hd _ _ _ (StOk.one hd)
theorem stA_mem (hd : d.Ok) {s c : Nat} (hs : s ∈ stA d) (hc : c < d.cuts.length) : rep d (d.go s c) ∈ (stA d).map (rep d) := by
  rw [stA_map]
  have h1 : rep d s ∈ metL d := by rw [← stA_map]; exact List.mem_map.2 ⟨s, hs, rfl⟩
  have := metL_shut hd h1 hc
  rwa [rep_go hc] at this
/-- What stands in row i, for some classes. -/
noncomputable def colF (d : Dfa) (cls : List Nat) (i : Nat) : List Int := cls.map fun c => ((metL d).idxOf (rep d (d.go ((stA d).getD i 0) c)) : Int)
theorem colF_len (cls : List Nat) (i : Nat) : (colF d cls i).length = cls.length := by simp [colF]
theorem colF_snoc (cls : List Nat) (c i : Nat) : colF d (cls ++ [c]) i = colF d cls i ++ [((metL d).idxOf (rep d (d.go ((stA d).getD i 0) c)) : Int)] := by simp [colF]
theorem rows_col {cls : List Nat} (h : ∀ c, c ∈ cls → c < d.cuts.length) {i : Nat} {r : List Int} (hr : ((metL d).map (rowN d (metL d) cls))[i]? = some r) : r = colF d cls i := by
  rw [← stA_map, List.getElem?_map] at hr
  obtain ⟨m, h1, rfl⟩ := Option.map_eq_some_iff.1 hr
  rw [List.getElem?_map] at h1
  obtain ⟨s, h2, rfl⟩ := Option.map_eq_some_iff.1 h1
  rw [stA_map, row_st h]
  unfold colF
  rw [List.getD_eq_getElem?_getD, h2]; rfl
theorem accs_st : (metL d).map d.acc = (stA d).map d.acc := by
  rw [← stA_map, List.map_map]
  exact List.map_congr_left fun s _ => (rep_alike s).acc
theorem turns_pt (h : PtOk d part) (hd : d.Ok) {c : Nat} (hc : c < d.cuts.length) : (c = 0 ∨ ∃ s, s ∈ stA d ∧ part.getD (d.go s c) 0 ≠ part.getD (d.go s (c - 1)) 0) ↔ TurnsC d (metL d) c := by
  rw [turns_st hc]
  refine or_congr_right ⟨fun ⟨s, h1, h2⟩ => ⟨s, h1, fun e => h2 ?_⟩, fun ⟨s, h1, h2⟩ => ⟨s, h1, fun e => h2 ?_⟩⟩
  · have hs := (stA_ok hd).lt s h1
    exact (h _ _ (go_lt hd hs hc) (go_lt hd hs (by omega))).2 (rep_iff.1 e)
  · have hs := (stA_ok hd).lt s h1
    exact rep_iff.2 ((h _ _ (go_lt hd hs hc) (go_lt hd hs (by omega))).1 e)
end
end Pv
