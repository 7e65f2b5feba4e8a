/- Walks: some states as four words; the map from these to numbers (the program's). PUT1 -/
import Derived.Test.YtilhicefhhgecaaGreatDoorGcn
import Derived.Test.YtilhicefhhgecaaGreatDoorFgn
import Derived.Test.YtilhicefhhgecaaGreatDoorLsn
import Derived.DeepKeys4
import Derived.WideKeyMaps
import Derived.MapKept
import Derived.MapFrom
import Derived.ChangeMaps4
import Derived.Laws.Bits64b
namespace Go.Proofs.YtilhicefhhgecaaGreatDoor
open Go.RowKit Go.ChangeMaps Pv

abbrev TSt : TypeId := 89
abbrev TMet : TypeId := 86
theorem laidOutM : laidOutB Tryz.prog = true := by kernel_rfl
theorem st_law : WideMaps.KeyLaw Tryz.prog TSt := deep_law_laid laidOutM (m := 3) (by omega) (of_decide_eq_true (by kernel_rfl)) (by kernel_rfl) (by kernel_rfl)
/-- The four words of some states; as a key. -/
def wArr (l : List Int) : Array Value := #[.int .u64 (wd l 0), .int .u64 (wd l 1), .int .u64 (wd l 2), .int .u64 (wd l 3)]
theorem kt_st : Tryz.prog.keyType TSt = true := by kernel_rfl
theorem c_st : Tryz.prog.cellsOf TSt = 4 := by kernel_rfl
theorem c_u64 : Tryz.prog.cellsOf 87 = 1 := by kernel_rfl
theorem depthM : ∃ d, Tryz.prog.types.size + 1 = d + 2 := ⟨Tryz.prog.types.size - 1, by have : 1 ≤ Tryz.prog.types.size := of_decide_eq_true (by kernel_rfl); omega⟩
theorem st_key (l : List Int) : ∃ x, keyOf Tryz.prog TSt (.agg (wArr l)) = some x := by
  obtain ⟨d, hd⟩ := depthM
  have hw : ∀ i, (Lit.int .u64 (wd l i : Int)).wf = true := fun i => by have := wd_lt l i; simp [Lit.wf, IntKind.min, IntKind.max, IntKind.signed, IntKind.bits]; omega
  unfold keyOf wArr
  rw [Tryz.underlying89]
  simp only [kt_st, Value.formed, Tryz.underlying89, c_st, hd]
  have h1 : Tryz.prog.keyLits (d + 2) TSt [.int .u64 (wd l 0), .int .u64 (wd l 1), .int .u64 (wd l 2), .int .u64 (wd l 3)] = some [.int .u64 (wd l 0), .int .u64 (wd l 1), .int .u64 (wd l 2), .int .u64 (wd l 3)] := by
    simp [Program.keyLits, Tryz.underlying89, Tryz.underlying87, c_st, c_u64, hw, List.range_succ]
  rw [if_pos (by simp), show (Value.agg #[.int .u64 (wd l 0), .int .u64 (wd l 1), .int .u64 (wd l 2), .int .u64 (wd l 3)]).cells.toList = [.int .u64 (wd l 0), .int .u64 (wd l 1), .int .u64 (wd l 2), .int .u64 (wd l 3)] from rfl, h1]
  exact ⟨_, rfl⟩
theorem wArr_inj {n : Nat} (hn : n ≤ 256) {S T : Nat → Prop} (h : Value.agg (wArr (stL n S)) = .agg (wArr (stL n T))) : stL n S = stL n T := by
  refine wd_inj hn fun i hi => ?_
  unfold wArr at h
  simp only [Value.agg.injEq, Array.mk.injEq, List.cons.injEq, Value.int.injEq, true_and, and_true] at h
  obtain ⟨h0, h1, h2, h3⟩ := h
  match i, hi with
  | 0, _ => omega
  | 1, _ => omega
  | 2, _ => omega
  | 3, _ => omega

/-- The map of what is met. -/
def MapM (W : World) (mb n : Nat) (all : List (List Int)) : Prop :=
  ∃ es clock, W.heap[mb]? = some (.map es clock) ∧ (∀ e, e ∈ es.toList → ∃ (k : Nat) (l : List Int), all[k]? = some l ∧ e.key = .agg (wArr l) ∧ e.val = .int .i64 k) ∧ (∀ (k : Nat) (l : List Int), all[k]? = some l → ∃ e, e ∈ es.toList ∧ e.key = .agg (wArr l)) ∧
    (∀ l, l ∈ all → ∃ S, l = stL n S) ∧ all.Nodup
theorem MapM.nil (W : World) (n : Nat) : MapM (W.alloc (.map #[] 0)) W.heap.size n [] := ⟨#[], 0, by show (W.heap.push _)[W.heap.size]? = _; simp, fun e he => by simp at he, fun k l h => by simp at h, fun l h => by simp at h, by simp⟩
theorem MapM.lt {W : World} {mb n : Nat} {all : List (List Int)} (h : MapM W mb n all) : mb < W.heap.size := by
  obtain ⟨es, clock, h, _⟩ := h
  rcases Nat.lt_or_ge mb W.heap.size with hlt | hge
  · exact hlt
  · rw [Array.getElem?_eq_none hge] at h; cases h
theorem MapM.of_block {W W' : World} {mb n : Nat} {all : List (List Int)} (h : MapM W mb n all) (e : W'.heap[mb]? = W.heap[mb]?) : MapM W' mb n all := by
  obtain ⟨es, clock, h, r⟩ := h
  exact ⟨es, clock, e.trans h, r⟩
theorem nodup_get {l : List (List Int)} (h : l.Nodup) {i j : Nat} {x : List Int} (hi : l[i]? = some x) (hj : l[j]? = some x) : i = j := by
  have h1 := lt_of_get hi; have h2 := lt_of_get hj
  rw [List.getElem?_eq_getElem h1] at hi
  rw [List.getElem?_eq_getElem h2] at hj
  have := Option.some.inj (hi.trans hj.symm)
  exact (List.getElem_inj h).1 this
theorem numS_get {all : List (List Int)} {l : List Int} {k : Nat} (hn : all.Nodup) (h : all[k]? = some l) : numS all l = k := by
  have hm := mem_of_get h
  have h1 : all[numS all l]? = some l := by
    unfold numS
    rw [List.getElem?_eq_getElem (List.idxOf_lt_length_of_mem hm), List.getElem_idxOf]
  exact nodup_get hn h1 h
theorem zero_int9 (w : World) : (zeroValue 3).run Tryz.prog w = .ok (.int .i64 0) w := by kernel_rfl
section
variable {W : World} {mb n : Nat} {all : List (List Int)} {S : Nat → Prop}
theorem MapM.in (h : MapM W mb n all) (hn : n ≤ 256) (hin : stL n S ∈ all) :
    (Instr.lookup TMet (.map (some mb)) (.agg (wArr (stL n S))) true).run Tryz.prog W = .ok (.tuple #[.int .i64 (numS all (stL n S)), .bool true]) W ∧ (Instr.lookup TMet (.map (some mb)) (.agg (wArr (stL n S))) false).run Tryz.prog W = .ok (.int .i64 (numS all (stL n S))) W := by
  obtain ⟨es, clock, hb, hes, hall, hst, hnd⟩ := h
  obtain ⟨x, hx⟩ := st_key (stL n S)
  rcases st_law.find W hx es.toList (fun e he => by obtain ⟨k, l, _, hk, _⟩ := hes e he; rw [hk]; exact st_key l) with ⟨_, h2⟩ | ⟨j, e0, h1, h2, h3⟩
  · obtain ⟨k, hk⟩ := List.getElem?_of_mem hin
    obtain ⟨e, he, hke⟩ := hall k _ hk
    exact absurd hke (h2 e he)
  · obtain ⟨k, l, hk, hkey, hval⟩ := hes e0 (List.mem_of_getElem? h2)
    obtain ⟨T, rfl⟩ := hst l (mem_of_get hk)
    have he := wArr_inj hn (hkey.symm.trans h3)
    rw [he] at hk
    rw [hval] at h1
    rw [numS_get hnd hk]
    exact ⟨by simp [Instr.lookup, run_underlying Tryz.underlying86, MapKept.run_getObj_map hb, st_law.check W _ hx, h1, Result.andThen], by simp [Instr.lookup, run_underlying Tryz.underlying86, MapKept.run_getObj_map hb, st_law.check W _ hx, h1, Result.andThen]⟩
theorem MapM.out (h : MapM W mb n all) (hn : n ≤ 256) (hin : stL n S ∉ all) :
    (Instr.lookup TMet (.map (some mb)) (.agg (wArr (stL n S))) true).run Tryz.prog W = .ok (.tuple #[.int .i64 0, .bool false]) W := by
  obtain ⟨es, clock, hb, hes, hall, hst, hnd⟩ := h
  obtain ⟨x, hx⟩ := st_key (stL n S)
  rcases st_law.find W hx es.toList (fun e he => by obtain ⟨k, l, _, hk, _⟩ := hes e he; rw [hk]; exact st_key l) with ⟨h1, _⟩ | ⟨j, e0, h1, h2, h3⟩
  · simp [Instr.lookup, run_underlying Tryz.underlying86, MapKept.run_getObj_map hb, st_law.check W _ hx, h1, Result.andThen]
  · obtain ⟨k, l, hk, hkey, hval⟩ := hes e0 (List.mem_of_getElem? h2)
    obtain ⟨T, rfl⟩ := hst l (mem_of_get hk)
    have he := wArr_inj hn (hkey.symm.trans h3)
    exact absurd (he ▸ mem_of_get hk) hin
theorem MapM.put (h : MapM W mb n all) (hn : n ≤ 256) (hin : stL n S ∉ all) :
    ∃ W', (Instr.mapUpdate TMet (.map (some mb)) (.agg (wArr (stL n S))) (.int .i64 all.length)).run Tryz.prog W = .ok () W' ∧ MapM W' mb n (all ++ [stL n S]) ∧ W'.os = W.os ∧ W'.tape = W.tape ∧ W'.output = W.output ∧ W'.heap.size = W.heap.size ∧ ∀ k, k ≠ mb → W'.heap[k]? = W.heap[k]? := by
  have hlt := h.lt
  obtain ⟨es, clock, hb, hes, hall, hst, hnd⟩ := h
  obtain ⟨x, hx⟩ := st_key (stL n S)
  rcases st_law.find W hx es.toList (fun e he => by obtain ⟨k, l, _, hk, _⟩ := hes e he; rw [hk]; exact st_key l) with ⟨h1, _⟩ | ⟨j, e0, h1, h2, h3⟩
  · refine ⟨setBlock W mb (.map (es.push ⟨.agg (wArr (stL n S)), .int .i64 all.length, clock⟩) (clock + 1)), ?_, ⟨es.push ⟨.agg (wArr (stL n S)), .int .i64 all.length, clock⟩, clock + 1, ?_, fun e he => ?_, fun k l hk => ?_, fun l hl => ?_, ?_⟩, rfl, rfl, rfl, by show (W.heap.setIfInBounds mb _).size = _; simp, fun k hk => ?_⟩
    · simp [Instr.mapUpdate, run_underlying Tryz.underlying86, MapKept.run_getObj_map hb, st_law.check W false hx, h1, MapKept.run_setObj_map _ hb, Result.andThen, setBlock]
    · show (W.heap.setIfInBounds mb _)[mb]? = _
      rw [Array.getElem?_setIfInBounds, if_pos rfl, if_pos hlt]
    · simp only [Array.toList_push, List.mem_append, List.mem_singleton] at he
      rcases he with he | rfl
      · obtain ⟨k, l, h4, h5⟩ := hes e he
        exact ⟨k, l, by rw [List.getElem?_append_left (lt_of_get h4)]; exact h4, h5⟩
      · exact ⟨all.length, stL n S, by simp, rfl, rfl⟩
    · simp only [Array.toList_push, List.mem_append, List.mem_singleton]
      by_cases e : k < all.length
      · rw [List.getElem?_append_left e] at hk
        obtain ⟨e1, h4, h5⟩ := hall k l hk
        exact ⟨e1, .inl h4, h5⟩
      · have hk2 := lt_of_get hk
        rw [List.length_append] at hk2
        simp only [List.length_singleton] at hk2
        obtain rfl : k = all.length := by omega
        rw [List.getElem?_append_right (Nat.le_refl _)] at hk
        simp at hk
        exact ⟨_, .inr rfl, by simp [hk]⟩
    · rcases List.mem_append.1 hl with hl | hl
      · exact hst l hl
      · simp at hl; exact ⟨S, hl⟩
    · rw [List.nodup_append]
      exact ⟨hnd, by simp, fun a ha b hb => by simp at hb; subst hb; rintro rfl; exact hin ha⟩
    · show (W.heap.setIfInBounds mb _)[k]? = _
      rw [Array.getElem?_setIfInBounds, if_neg (fun e => hk e.symm)]
  · obtain ⟨k, l, hk, hkey, hval⟩ := hes e0 (List.mem_of_getElem? h2)
    obtain ⟨T, rfl⟩ := hst l (mem_of_get hk)
    have he := wArr_inj hn (hkey.symm.trans h3)
    exact absurd (he ▸ mem_of_get hk) hin
end

theorem wArr_snoc (l : List Int) (x : Nat) {q T : Nat} (hq : x / 64 = q) (hq4 : q < 4) (hT : wd l q ||| (1 <<< (x % 64)) = T) : (wArr l).setIfInBounds q (.int .u64 T) = wArr (l ++ [(x : Int)]) := by
  have h1 : ∀ i, wd (l ++ [(x : Int)]) i = if q = i then T else wd l i := fun i => by
    rw [wd_snoc]
    simp only [Int.toNat_natCast, hq]
    by_cases e : q = i
    · subst e; rw [if_pos rfl, if_pos rfl, hT]
    · rw [if_neg e, if_neg e]
  unfold wArr
  rw [h1, h1, h1, h1]
  match q, hq4 with
  | 0, _ => rfl
  | 1, _ => rfl
  | 2, _ => rfl
  | 3, _ => rfl
theorem Blk.four {w : World} {g : Nat} {t : TypeId} {a b c d : Value} (h : Blk w g t #[a, b, c, d]) : w.cell? ⟨g, 0, none⟩ = some a ∧ w.cell? ⟨g, 1, none⟩ = some b ∧ w.cell? ⟨g, 2, none⟩ = some c ∧ w.cell? ⟨g, 3, none⟩ = some d ∧ w.frozen? ⟨g, 0, none⟩ = false ∧ w.frozen? ⟨g, 1, none⟩ = false ∧ w.frozen? ⟨g, 2, none⟩ = false ∧ w.frozen? ⟨g, 3, none⟩ = false :=
  ⟨h.cell 0, h.cell 1, h.cell 2, h.cell 3, h.frozen 0, h.frozen 1, h.frozen 2, h.frozen 3⟩

set_option maxHeartbeats 2000000 in
set_option maxRecDepth 100000 in
theorem subset_of (A : Option Addr) (c m n : Nat) (l : List Int) (w : World) (h : At w A RI l) (HM : Hid (l.length = m)) (hin : InAu n l) (hn : n ≤ 256) :
    Calls Tryz.prog 47 #[.slice A m c] w fun e w' => e = .returned (.agg (wArr l)) ∧ Below w.heap.size w w' := by
  have hml : m ≤ 140737488355328 := by have := h.1; rwa [HM.out] at this
  have HA := Lib.hid h; have HIN := Lib.hid hin
  have B0 := Lib.hid (Blk.new w TSt #[.int .u64 0, .int .u64 0, .int .u64 0, .int .u64 0])
  have HB0 := Lib.hid ((Below.refl w.heap.size w).alloc (Nat.le_refl _) (.cells #[.int .u64 0, .int .u64 0, .int .u64 0, .int .u64 0] TSt))
  clear h hin
  go_enter Tryz.func47, Tryz.ntmps47
  go_wp2
  go_loopw [7] (fun iv wr => ∃ k : Nat, iv = .int .i64 k ∧ k ≤ m ∧ Hid (Blk wr w.heap.size TSt (wArr (l.take k))) ∧ Hid (Below w.heap.size w wr)) (fun iv _ => m - (intOf iv).toNat)
  case atStart => exact ⟨0, rfl, by omega, B0, HB0⟩
  case round =>
    clear B0 HB0
    obtain ⟨k, rfl, hk, HB, HW⟩ := hrel
    have i1 : (0 : Int) ≤ (k : Int) := by omega
    by_cases hlt : k < m
    · obtain ⟨b, off, u, s, rfl, hbl, x0, ⟨rfl, _, _⟩, HX⟩ := HA.out.gt HM hlt
      have x0' := ((Keep.of HW.out).cell _ _ hbl).trans x0
      have i2 : (k : Int) < (m : Int) := by omega
      have hs := HIN.out s (mem_of_get HX.out)
      obtain ⟨x, rfl⟩ : ∃ x : Nat, s = x := ⟨s.toNat, by omega⟩
      have hx : x < 256 := by omega
      clear hs x0
      obtain ⟨q, hq⟩ : ∃ q, x / 64 = q := ⟨_, rfl⟩
      obtain ⟨j, hj⟩ : ∃ j, x % 64 = j := ⟨_, rfl⟩
      have hq4 : q < 4 := by omega
      have hj64 : j < 64 := by omega
      have g2 : (x : Int).tdiv 64 = (q : Int) := by rw [← hq]; exact (Int.ofNat_tdiv x 64).symm
      have g3 : (x : Int).tmod 64 = (j : Int) := by rw [← hj]; exact (Int.ofNat_tmod x 64).symm
      have g1 : IntKind.i64.wrap (q : Int) = (q : Int) := by rw [IntKind.wrap_i64]; omega
      have g4 : IntKind.i64.wrap (j : Int) = (j : Int) := by rw [IntKind.wrap_i64]; omega
      have g5 : (0 : Int) ≤ (q : Int) := by omega
      have g6 : (q : Int) < 4 := by omega
      have g7 : (0 : Int) ≤ (j : Int) := by omega
      have g8 : (j : Int) < 64 := by omega
      obtain ⟨P, hP⟩ : ∃ P, 1 <<< j = P := ⟨_, rfl⟩
      have hP2 : P < 18446744073709551616 := by
        rw [← hP, Nat.one_shiftLeft]
        exact Nat.lt_of_lt_of_le (Nat.pow_lt_pow_right (by omega) hj64) (by decide)
      have g9 : IntKind.u64.wrap ((2 : Int) ^ j) = (P : Int) := by
        have e : ((2 : Int) ^ j) = (P : Int) := by rw [← hP, Nat.one_shiftLeft]; simp
        rw [e, IntKind.wrap_u64]; omega
      obtain ⟨p, hp⟩ : ∃ p, wd (l.take k) q = p := ⟨_, rfl⟩
      have hpl : p < 18446744073709551616 := by rw [← hp]; exact wd_lt _ _
      obtain ⟨T, hT⟩ : ∃ T, p ||| P = T := ⟨_, rfl⟩
      have g10 : bits .or .u64 (p : Int) (P : Int) = (T : Int) := by rw [← hT]; exact bits_or_u64_nat p P hpl hP2
      have hc : wr.drew.cell? ⟨w.heap.size, q, none⟩ = some (.int .u64 p) := by
        rw [← hp]
        refine (HB.out.cell q).trans ?_
        match q, hq4 with
        | 0, _ => rfl
        | 1, _ => rfl
        | 2, _ => rfl
        | 3, _ => rfl
      have hf : wr.drew.frozen? ⟨w.heap.size, q, none⟩ = false := HB.out.frozen q
      have HS := Lib.hid (And.intro hc hf)
      have HBN : Hid (Blk (wr.setCell ⟨w.heap.size, q, none⟩ (.int .u64 T)).drew w.heap.size TSt (wArr (l.take (k + 1)))) := Lib.hid (by
        have h1 := HB.out.set q (.int .u64 T)
        rw [wArr_snoc (l.take k) x hq hq4 (by rw [hj, hP, hp, hT]), ← take_snoc HX.out] at h1
        exact h1.drewN 1)
      have HWN : Hid (Below w.heap.size w (wr.setCell ⟨w.heap.size, q, none⟩ (.int .u64 T)).drew) := Lib.hid ((HW.out.setCell (p := ⟨w.heap.size, q, none⟩) (Nat.le_refl _) _).drew)
      clear hq hj hP hp hT
      go_wp2
      refine wp_region_T 9 (fun W => W.cell? ⟨w.heap.size, q, none⟩ = some (.int .u64 p) ∧ W.frozen? ⟨w.heap.size, q, none⟩ = false) (by kernel_rfl) ?_
      refine wpAnyT_take (i := 0) (v := ?_) rfl (by kernel_rfl) (by kernel_rfl) (by kernel_rfl) (by kernel_rfl) (by kernel_rfl) (fun _ _ _ h => h) (.inl ⟨rfl, ?_⟩) HS.out ?_
      rotate_left
      · intro W__ hW__
        obtain ⟨h1, h2⟩ := hW__
        go_simp
        (try with_reducible rfl)
      try simp only [Act.put]
      refine wpAnyT_take (i := 4) (v := ?_) rfl (by kernel_rfl) (by kernel_rfl) (by kernel_rfl) (by kernel_rfl) (by kernel_rfl) (fun _ _ _ h => h) (.inl ⟨rfl, ?_⟩) HS.out ?_
      rotate_left
      · intro W__ hW__
        obtain ⟨h1, h2⟩ := hW__
        go_simp
        (try with_reducible rfl)
      try simp only [Act.put]
      refine wpAnyT_take (i := 1) (v := ?_) rfl (by kernel_rfl) (by kernel_rfl) (by kernel_rfl) (by kernel_rfl) (by kernel_rfl) (fun _ _ _ h => h) (.inl ⟨rfl, ?_⟩) HS.out ?_
      rotate_left
      · intro W__ hW__
        obtain ⟨h1, h2⟩ := hW__
        go_simp
        (try with_reducible rfl)
      try simp only [Act.put]
      refine wpAnyT_take (i := 5) (v := ?_) rfl (by kernel_rfl) (by kernel_rfl) (by kernel_rfl) (by kernel_rfl) (by kernel_rfl) (fun _ _ _ h => h) (.inl ⟨rfl, ?_⟩) HS.out ?_
      rotate_left
      · intro W__ hW__
        obtain ⟨h1, h2⟩ := hW__
        go_simp
        (try with_reducible rfl)
      try simp only [Act.put]
      refine wpAnyT_take (i := 2) (v := ?_) rfl (by kernel_rfl) (by kernel_rfl) (by kernel_rfl) (by kernel_rfl) (by kernel_rfl) (fun _ _ _ h => h) (.inl ⟨rfl, ?_⟩) HS.out ?_
      rotate_left
      · intro W__ hW__
        obtain ⟨h1, h2⟩ := hW__
        go_simp
        (try with_reducible rfl)
      try simp only [Act.put]
      refine wpAnyT_take (i := 6) (v := ?_) rfl (by kernel_rfl) (by kernel_rfl) (by kernel_rfl) (by kernel_rfl) (by kernel_rfl) (fun _ _ _ h => h) (.inl ⟨rfl, ?_⟩) HS.out ?_
      rotate_left
      · intro W__ hW__
        obtain ⟨h1, h2⟩ := hW__
        go_simp
        (try with_reducible rfl)
      try simp only [Act.put]
      refine wpAnyT_take (i := 3) (v := ?_) rfl (by kernel_rfl) (by kernel_rfl) (by kernel_rfl) (by kernel_rfl) (by kernel_rfl) (fun _ _ _ h => h) (.inl ⟨rfl, ?_⟩) HS.out ?_
      rotate_left
      · intro W__ hW__
        obtain ⟨h1, h2⟩ := hW__
        go_simp
        (try with_reducible rfl)
      try simp only [Act.put]
      refine wpAnyT_take (i := 7) (v := ?_) rfl (by kernel_rfl) (by kernel_rfl) (by kernel_rfl) (by kernel_rfl) (by kernel_rfl) (fun _ _ _ h => h) (.inl ⟨rfl, ?_⟩) HS.out ?_
      rotate_left
      · intro W__ hW__
        obtain ⟨h1, h2⟩ := hW__
        go_simp
        (try with_reducible rfl)
      try simp only [Act.put]
      refine wpAnyT_take (i := 8) (v := ?_) rfl (by kernel_rfl) (by kernel_rfl) (by kernel_rfl) (by kernel_rfl) (by kernel_rfl) (fun _ _ _ h => h) (.inl ⟨rfl, ?_⟩) HS.out ?_
      rotate_left
      · intro W__ hW__
        obtain ⟨h1, h2⟩ := hW__
        go_simp
        (try with_reducible rfl)
      try simp only [Act.put]
      refine wpAnyT_end (i := 9) rfl (by kernel_rfl) rfl (by kernel_rfl) fun K__ hK__ => ?_
      unfold Oper.wp
      go_simp
      refine hK__ _ _ ?_
      clear hK__
      refine wpAnyT_done (by kernel_rfl) ?_ _
      go_wp2
      go_roundw
      case rel => exact ⟨k + 1, by go_num, by omega, HBN, HWN⟩
      case measure => simp [intOf]; omega
    · obtain rfl : k = m := by omega
      have HTK := Lib.hid (show l.take k = l from List.take_of_length_le (by rw [HM.out]; exact Nat.le_refl _))
      rw [HTK.out] at HB
      obtain ⟨a0, a1, a2, a3, f0, f1, f2, f3⟩ := Blk.four HB.out
      have hN := HB.out.lt
      go_wp2
      obtain ⟨y0, y1, y2, y3, _, _, _, _⟩ := Blk.four ((((HB.out.set 0 (.int .u64 (wd l 0))).set 1 (.int .u64 (wd l 1))).set 2 (.int .u64 (wd l 2))).set 3 (.int .u64 (wd l 3)))
      refine bodyPost_ret (v := .agg (wArr l)) (by simp [results, Tryz.results47, go_sem, y0, y1, y2, y3, wArr]) rfl ⟨rfl, ?_⟩
      exact (((HW.out.setCell (p := ⟨w.heap.size, 0, none⟩) (Nat.le_refl _) _).setCell (p := ⟨w.heap.size, 1, none⟩) (Nat.le_refl _) _).setCell (p := ⟨w.heap.size, 2, none⟩) (Nat.le_refl _) _).setCell (p := ⟨w.heap.size, 3, none⟩) (Nat.le_refl _) _
end Go.Proofs.YtilhicefhhgecaaGreatDoor
