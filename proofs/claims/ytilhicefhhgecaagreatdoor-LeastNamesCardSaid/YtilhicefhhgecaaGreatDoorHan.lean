/- Walks: what states tell, numbered as it comes (the program's). PUT1 -/
import Derived.Test.YtilhicefhhgecaaGreatDoorGxn
import Derived.Test.YtilhicefhhgecaaGreatDoorQvn
import Derived.Deep.WholeRow
import Derived.Test.YtilhicefhhgecaaGreatDoorGin
import Derived.Test.YtilhicefhhgecaaGreatDoorGnn
import Derived.Test.YtilhicefhhgecaaGreatDoorGen
import Derived.Deep.RegionHeld3
import Derived.Test.YtilhicefhhgecaaGreatDoorWhn
import Derived.Test.YtilhicefhhgecaaGreatDoorDfan
namespace Go.Proofs.YtilhicefhhgecaaGreatDoor
open Go.RowKit Go.Maps Go.ChangeMaps Pv
abbrev TNT : TypeId := 194
abbrev TMT : TypeId := 192
theorem nil_mapT (w : World) : (binOp .eql TMT (.map none) (.map none)).run Tryz.prog w = .ok (.bool true) w := by kernel_rfl
theorem some_mapT (mb : Nat) (w : World) : (binOp .eql TMT (.map (some mb)) (.map none)).run Tryz.prog w = .ok (.bool false) w := by kernel_rfl
theorem info_told : (Tryz.prog.info? TTold).map (·.size) = some 257 := by kernel_rfl
theorem exec_load_row {o : Oper} {a : Act} {w : World} (ty : TypeId) (x : Operand) (ho : o.op = .load ty x) (g : Nat) (hx : a.eval x = .pointer (some ⟨g, 0, none⟩)) (t : TypeId) (cs : Array Value) (fs : Array Field) (hg : Blk w g t cs)
    (hu : Tryz.prog.underlying ty = some (.struct fs)) (hi : (Tryz.prog.info? ty).map (·.size) = some cs.size) : (execOp a.eval o).run Tryz.prog w = .ok (.value (.agg cs)) w := by
  unfold execOp
  simp only [ho, hx, Instr.loadAt, Instr.sureAddr, Sem.run_bind, Sem.run_pure, Result.andThen_ok, run_loadVar_row w g t ty cs (0, 0) (.struct fs) hg hu rfl hi]
set_option maxHeartbeats 2000000 in
set_option maxRecDepth 100000 in
theorem num_told (q base N : Nat) (keys : List (List Int)) (x : List Int) (w : World) (h : NumAt encT (okT q) TNT w base N keys) (hx : okT q x) (hl : keys.length ≤ 1000000) (hbase : base ≤ w.heap.size) :
    Calls Tryz.prog 131 #[.pointer (some ⟨N, 0, none⟩), encT x] w (OfPost encT (okT q) TNT base N keys x w) := by
  have hmm := @run_makeMap Tryz.prog
  have HX := Lib.hid hx
  have hn1 := nil_mapT; have hn2 := some_mapT
  obtain ⟨hN, h⟩ := h
  obtain ⟨cs, hcs⟩ : ∃ cs, rowCs x 257 = cs := ⟨_, rfl⟩
  have HCS := Lib.hid hcs
  have hsz : cs.size = 257 := by rw [← hcs]; exact rowCs_size (by have := hx.1; have := hx.2.1; omega)
  have HI : Hid ((Tryz.prog.info? TTold).map (·.size) = some cs.size) := Lib.hid (by rw [hsz]; exact info_told)
  have HSZ := Lib.hid hsz
  show Calls Tryz.prog _ #[_, .agg (rowCs x 257)] w _
  rw [hcs]
  have HE : Hid (encT x = .agg cs) := Lib.hid (by show Value.agg (rowCs x 257) = _; rw [hcs])
  have hbw : Below w.heap.size w (w.alloc (.cells cs TTold)) := (Below.refl _ _).alloc (Nat.le_refl _) _
  have BX := Lib.hid (Blk.new w TTold cs)
  clear hsz
  rcases h with ⟨h1, h2⟩ | ⟨mb, hmb, h2, h3⟩
  · subst h1
    have HB := Lib.hid h2
    have p0 := Blk.cell1 h2; have f0 := Blk.frz1 h2
    have hlt := h2.lt
    have es : (w.setCell ⟨N, 0, none⟩ (.map (some (w.heap.size + 1)))).heap.size = w.heap.size := by simp [World.setCell]
    have BN := Blk.new (w.setCell ⟨N, 0, none⟩ (.map (some (w.heap.size + 1)))) TTold cs
    rw [es] at BN
    obtain ⟨W1, hW1⟩ : ∃ W, ((w.setCell ⟨N, 0, none⟩ (.map (some (w.heap.size + 1)))).alloc (.cells cs TTold)).alloc (.map #[] 0) = W := ⟨_, rfl⟩
    have e0 : ((w.setCell ⟨N, 0, none⟩ (.map (some (w.heap.size + 1)))).alloc (.cells cs TTold)).heap.size = w.heap.size + 1 := by simp [World.setCell]
    have HM0 := MapQ.nil (enc := encT) (ok := okT q) (val := fun k => (k : Int)) ((w.setCell ⟨N, 0, none⟩ (.map (some (w.heap.size + 1)))).alloc (.cells cs TTold))
    rw [hW1, e0] at HM0
    have HM := Lib.hid HM0
    have HB1 := Lib.hid (show Blk W1 N TNT #[.map (some (w.heap.size + 1))] by rw [← hW1]; exact ((h2.set 0 _).alloc _).alloc _)
    have BX1 := Lib.hid (show Blk W1 w.heap.size TTold cs by rw [← hW1]; exact BN.alloc _)
    have HOUT : Hid (x ∉ ([] : List (List Int))) := Lib.hid (by simp)
    have HGE : Hid (base ≤ w.heap.size + 1) := Lib.hid (by omega)
    have HO0 : Hid (Oth TNT w W1) := Lib.hid (by
      rw [← hW1]
      exact ⟨rfl, rfl, rfl, by simp [World.setCell]; omega, fun g t cs ht hb => ((hb.far (p := ⟨N, 0, none⟩) (hb.ne h2 ht) _).alloc _).alloc _⟩)
    have HL0 : Hid (Below base w W1) := Lib.hid (by
      rw [← hW1]
      exact (((Below.refl base w).setCell (p := ⟨N, 0, none⟩) hN _).alloc (by rw [es]; exact hbase) _).alloc (by rw [e0]; omega) _)
    clear h2 HM0 hcs hbw BN es e0
    go_enter Tryz.func131, Tryz.ntmps131
    have HMD := Lib.hid (MapQ.below HM.out (Below.refl _ _).drew)
    have HBD := Lib.hid (HB1.out.below (Below.refl _ _).drew HB1.out.lt)
    have BXD := Lib.hid (BX1.out.below (Below.refl _ _).drew BX1.out.lt)
    have hlk := (HMD.out.out (keyT q) Tryz.underlying192 zero_int9 HX.out HOUT.out).1
    have hlk2 : (Instr.lookup TMT (.map (some (w.heap.size + 1))) (.agg cs) true).run Tryz.prog ((W1).drew) = .ok (.tuple #[.int .i64 0, .bool false]) (W1).drew := by rw [HE.out] at hlk; exact hlk
    have HS := Lib.hid (And.intro (Blk.cell1 HBD.out) (And.intro BXD.out hlk2))
    go_wp2
    refine wp_region_T 10 (fun W => W.cell? ⟨N, 0, none⟩ = some (.map (some (w.heap.size + 1))) ∧ Blk W w.heap.size TTold cs ∧ (Instr.lookup TMT (.map (some (w.heap.size + 1))) (.agg cs) true).run Tryz.prog W = .ok (.tuple #[.int .i64 0, .bool false]) W) (by kernel_rfl) ?_
    refine wpAnyT_take (i := 0) (v := ?_) rfl (by kernel_rfl) (by kernel_rfl) (by kernel_rfl) (by kernel_rfl) (by kernel_rfl) (fun _ _ _ h => h) (.inl ⟨rfl, ?_⟩) HS.out ?_
    rotate_left
    · intro W__ hW__
      obtain ⟨h1, h2, h3⟩ := hW__
      go_simp
      (try with_reducible rfl)
    try simp only [Act.put]
    refine wpAnyT_take (i := 1) (v := ?_) rfl (by kernel_rfl) (by kernel_rfl) (by kernel_rfl) (by kernel_rfl) (by kernel_rfl) (fun _ _ _ h => h) (.inl ⟨rfl, ?_⟩) HS.out ?_
    rotate_left
    · intro W__ hW__
      obtain ⟨h1, h2, h3⟩ := hW__
      go_simp
      (try with_reducible rfl)
    try simp only [Act.put]
    refine wpAnyT_take (i := 2) (v := ?_) rfl (by kernel_rfl) (by kernel_rfl) (by kernel_rfl) (by kernel_rfl) (by kernel_rfl) (fun _ _ _ h => h) (.inl ⟨rfl, ?_⟩) HS.out ?_
    rotate_left
    · intro W__ hW__
      obtain ⟨h1, h2, h3⟩ := hW__
      go_simp
      (try with_reducible rfl)
    try simp only [Act.put]
    refine wpAnyT_take (i := 3) (v := ?_) rfl (by kernel_rfl) (by kernel_rfl) (by kernel_rfl) (by kernel_rfl) (by kernel_rfl) (fun _ _ _ h => h) (.inl ⟨rfl, ?_⟩) HS.out ?_
    rotate_left
    · intro W__ hW__
      obtain ⟨h1, h2, h3⟩ := hW__
      go_simp
      (try with_reducible rfl)
    try simp only [Act.put]
    refine wpAnyT_take (i := 4) (v := .agg cs) rfl (by kernel_rfl) (by kernel_rfl) (by kernel_rfl) (by kernel_rfl) (by kernel_rfl) (fun _ _ _ h => h) (.inl ⟨rfl, ?_⟩) HS.out ?_
    · intro W__ hW__
      obtain ⟨h1, h2, h3⟩ := hW__
      exact exec_load_row TTold _ rfl w.heap.size (by simp [Act.eval]) TTold cs _ h2 Tryz.underlying197 HI.out
    try simp only [Act.put]
    refine wpAnyT_take (i := 5) (v := ?_) rfl (by kernel_rfl) (by kernel_rfl) (by kernel_rfl) (by kernel_rfl) (by kernel_rfl) (fun _ _ _ h => h) (.inl ⟨rfl, ?_⟩) HS.out ?_
    rotate_left
    · intro W__ hW__
      obtain ⟨h1, h2, h3⟩ := hW__
      go_simp
      (try with_reducible rfl)
    try simp only [Act.put]
    refine wpAnyT_take (i := 6) (v := ?_) rfl (by kernel_rfl) (by kernel_rfl) (by kernel_rfl) (by kernel_rfl) (by kernel_rfl) (fun _ _ _ h => h) (.inl ⟨rfl, ?_⟩) HS.out ?_
    rotate_left
    · intro W__ hW__
      obtain ⟨h1, h2, h3⟩ := hW__
      go_simp
      (try with_reducible rfl)
    try simp only [Act.put]
    refine wpAnyT_take (i := 7) (v := ?_) rfl (by kernel_rfl) (by kernel_rfl) (by kernel_rfl) (by kernel_rfl) (by kernel_rfl) (fun _ _ _ h => h) (.inl ⟨rfl, ?_⟩) HS.out ?_
    rotate_left
    · intro W__ hW__
      obtain ⟨h1, h2, h3⟩ := hW__
      go_simp
      (try with_reducible rfl)
    try simp only [Act.put]
    refine wpAnyT_take (i := 8) (v := ?_) rfl (by kernel_rfl) (by kernel_rfl) (by kernel_rfl) (by kernel_rfl) (by kernel_rfl) (fun _ _ _ h => h) (.inl ⟨rfl, ?_⟩) HS.out ?_
    rotate_left
    · intro W__ hW__
      obtain ⟨h1, h2, h3⟩ := hW__
      go_simp
      (try with_reducible rfl)
    try simp only [Act.put]
    refine wpAnyT_take (i := 9) (v := ?_) rfl (by kernel_rfl) (by kernel_rfl) (by kernel_rfl) (by kernel_rfl) (by kernel_rfl) (fun _ _ _ h => h) (.inl ⟨rfl, ?_⟩) HS.out ?_
    rotate_left
    · intro W__ hW__
      obtain ⟨h1, h2, h3⟩ := hW__
      go_simp
      (try with_reducible rfl)
    try simp only [Act.put]
    refine wpAnyT_end (i := 10) rfl (by kernel_rfl) rfl (by kernel_rfl) fun K__ hK__ => ?_
    unfold Oper.wp
    go_simp
    refine hK__ _ _ ?_
    clear hK__
    refine wpAnyT_done (by kernel_rfl) ?_ _
    clear HS hlk hlk2
    go_wp2
    have HMD2 := Lib.hid (MapQ.below HMD.out (Below.refl _ _).drew)
    have HBD2 := Lib.hid (HBD.out.below (Below.refl _ _).drew HBD.out.lt)
    have BXD2 := Lib.hid (BXD.out.below (Below.refl _ _).drew BXD.out.lt)
    have hlen : ∀ ty, (Builtin.len_ #[TMT] ty #[.map (some (w.heap.size + 1))]).run Tryz.prog ((W1).drew.drew) = .ok (.int .i64 (0)) (W1).drew.drew := MapQ.len Tryz.underlying192 HMD2.out
    have HS := Lib.hid (And.intro (Blk.cell1 HBD2.out) (And.intro BXD2.out hlen))
    obtain ⟨W', hput', hM', e1, e2, e3, e4, hblk⟩ := MapQ.put (keyT q) Tryz.underlying192 HMD2.out HX.out HOUT.out (v := 0) rfl
    have hput : (Instr.mapUpdate TMT (.map (some (w.heap.size + 1))) (.agg cs) (.int .i64 (0))).run Tryz.prog ((W1).drew.drew) = .ok () W' := by rw [HE.out] at hput'; exact hput'
    have HM' := Lib.hid hM'
    have hNm : N ≠ (w.heap.size + 1) := HM.out.ne HB1.out
    have hXm : w.heap.size ≠ (w.heap.size + 1) := HM.out.ne BX1.out
    have HB' : Hid (Blk W' N TNT #[.map (some (w.heap.size + 1))]) := Lib.hid ((hblk N hNm).trans HBD2.out)
    have BX' : Hid (Blk W' w.heap.size TTold cs) := Lib.hid ((hblk w.heap.size hXm).trans BXD2.out)
    have HOT : Hid (Oth TNT (W1) W') := Lib.hid ⟨e1, e2, e3, by rw [e4]; exact Nat.le_refl _, fun g t cs ht hb => (hblk g (HM.out.ne hb)).trans hb⟩
    have HBL : Hid (Below base (W1) W') := Lib.hid ⟨e1, e2, e3, by rw [e4]; exact Nat.le_refl _, fun g hg => hblk g (by have := HGE.out; omega)⟩
    clear e1 e2 e3 e4 hblk hNm hXm hM' hput'
    refine wp_region_T 10 (fun W => W.cell? ⟨N, 0, none⟩ = some (.map (some (w.heap.size + 1))) ∧ Blk W w.heap.size TTold cs ∧ ∀ ty, (Builtin.len_ #[TMT] ty #[.map (some (w.heap.size + 1))]).run Tryz.prog W = .ok (.int .i64 (0)) W) (by kernel_rfl) ?_
    refine wpAnyT_take (i := 0) (v := ?_) rfl (by kernel_rfl) (by kernel_rfl) (by kernel_rfl) (by kernel_rfl) (by kernel_rfl) (fun _ _ _ h => h) (.inl ⟨rfl, ?_⟩) HS.out ?_
    rotate_left
    · intro W__ hW__
      obtain ⟨h1, h2, h3⟩ := hW__
      go_simp
      (try with_reducible rfl)
    try simp only [Act.put]
    refine wpAnyT_take (i := 1) (v := ?_) rfl (by kernel_rfl) (by kernel_rfl) (by kernel_rfl) (by kernel_rfl) (by kernel_rfl) (fun _ _ _ h => h) (.inl ⟨rfl, ?_⟩) HS.out ?_
    rotate_left
    · intro W__ hW__
      obtain ⟨h1, h2, h3⟩ := hW__
      go_simp
      (try with_reducible rfl)
    try simp only [Act.put]
    refine wpAnyT_take (i := 2) (v := ?_) rfl (by kernel_rfl) (by kernel_rfl) (by kernel_rfl) (by kernel_rfl) (by kernel_rfl) (fun _ _ _ h => h) (.inl ⟨rfl, ?_⟩) HS.out ?_
    rotate_left
    · intro W__ hW__
      obtain ⟨h1, h2, h3⟩ := hW__
      go_simp
      (try with_reducible rfl)
    try simp only [Act.put]
    refine wpAnyT_take (i := 3) (v := ?_) rfl (by kernel_rfl) (by kernel_rfl) (by kernel_rfl) (by kernel_rfl) (by kernel_rfl) (fun _ _ _ h => h) (.inl ⟨rfl, ?_⟩) HS.out ?_
    rotate_left
    · intro W__ hW__
      obtain ⟨h1, h2, h3⟩ := hW__
      go_simp
      (try with_reducible rfl)
    try simp only [Act.put]
    refine wpAnyT_take (i := 4) (v := .agg cs) rfl (by kernel_rfl) (by kernel_rfl) (by kernel_rfl) (by kernel_rfl) (by kernel_rfl) (fun _ _ _ h => h) (.inl ⟨rfl, ?_⟩) HS.out ?_
    · intro W__ hW__
      obtain ⟨h1, h2, h3⟩ := hW__
      exact exec_load_row TTold _ rfl w.heap.size (by simp [Act.eval]) TTold cs _ h2 Tryz.underlying197 HI.out
    try simp only [Act.put]
    refine wpAnyT_take (i := 5) (v := ?_) rfl (by kernel_rfl) (by kernel_rfl) (by kernel_rfl) (by kernel_rfl) (by kernel_rfl) (fun _ _ _ h => h) (.inl ⟨rfl, ?_⟩) HS.out ?_
    rotate_left
    · intro W__ hW__
      obtain ⟨h1, h2, h3⟩ := hW__
      go_simp
      (try with_reducible rfl)
    try simp only [Act.put]
    refine wpAnyT_take (i := 6) (v := ?_) rfl (by kernel_rfl) (by kernel_rfl) (by kernel_rfl) (by kernel_rfl) (by kernel_rfl) (fun _ _ _ h => h) (.inl ⟨rfl, ?_⟩) HS.out ?_
    rotate_left
    · intro W__ hW__
      obtain ⟨h1, h2, h3⟩ := hW__
      go_simp
      (try with_reducible rfl)
    try simp only [Act.put]
    refine wpAnyT_take (i := 7) (v := ?_) rfl (by kernel_rfl) (by kernel_rfl) (by kernel_rfl) (by kernel_rfl) (by kernel_rfl) (fun _ _ _ h => h) (.inl ⟨rfl, ?_⟩) HS.out ?_
    rotate_left
    · intro W__ hW__
      obtain ⟨h1, h2, h3⟩ := hW__
      go_simp
      (try with_reducible rfl)
    try simp only [Act.put]
    refine wpAnyT_take (i := 8) (v := ?_) rfl (by kernel_rfl) (by kernel_rfl) (by kernel_rfl) (by kernel_rfl) (by kernel_rfl) (fun _ _ _ h => h) (.inl ⟨rfl, ?_⟩) HS.out ?_
    rotate_left
    · intro W__ hW__
      obtain ⟨h1, h2, h3⟩ := hW__
      go_simp
      (try with_reducible rfl)
    try simp only [Act.put]
    refine wpAnyT_take (i := 9) (v := ?_) rfl (by kernel_rfl) (by kernel_rfl) (by kernel_rfl) (by kernel_rfl) (by kernel_rfl) (fun _ _ _ h => h) (.inl ⟨rfl, ?_⟩) HS.out ?_
    rotate_left
    · intro W__ hW__
      obtain ⟨h1, h2, h3⟩ := hW__
      go_simp
      (try with_reducible rfl)
    try simp only [Act.put]
    refine wpAnyT_end (i := 10) rfl (by kernel_rfl) rfl (by kernel_rfl) fun K__ hK__ => ?_
    unfold Oper.wp
    go_simp
    refine hK__ _ _ ?_
    clear hK__
    refine wpAnyT_done (by kernel_rfl) ?_ _
    clear HS hput hlen
    go_wp2
    have HMD3 := Lib.hid (MapQ.below HM'.out (Below.refl _ _).drew)
    have HBD3 := Lib.hid (HB'.out.below (Below.refl _ _).drew HB'.out.lt)
    have BXD3 := Lib.hid (BX'.out.below (Below.refl _ _).drew BX'.out.lt)
    have s2' := (HMD3.out.in (keyT q) Tryz.underlying192 zero_int9 HX.out (k := 0) (by simp)).2
    have s2 : (Instr.lookup TMT (.map (some (w.heap.size + 1))) (.agg cs) false).run Tryz.prog W'.drew = .ok (.int .i64 (0)) W'.drew := by rw [HE.out] at s2'; exact s2'
    have HS := Lib.hid (And.intro (Blk.cell1 HBD3.out) (And.intro BXD3.out s2))
    refine wp_region_T 6 (fun W => W.cell? ⟨N, 0, none⟩ = some (.map (some (w.heap.size + 1))) ∧ Blk W w.heap.size TTold cs ∧ (Instr.lookup TMT (.map (some (w.heap.size + 1))) (.agg cs) false).run Tryz.prog W = .ok (.int .i64 (0)) W) (by kernel_rfl) ?_
    refine wpAnyT_take (i := 0) (v := ?_) rfl (by kernel_rfl) (by kernel_rfl) (by kernel_rfl) (by kernel_rfl) (by kernel_rfl) (fun _ _ _ h => h) (.inl ⟨rfl, ?_⟩) HS.out ?_
    rotate_left
    · intro W__ hW__
      obtain ⟨h1, h2, h3⟩ := hW__
      go_simp
      (try with_reducible rfl)
    try simp only [Act.put]
    refine wpAnyT_take (i := 1) (v := ?_) rfl (by kernel_rfl) (by kernel_rfl) (by kernel_rfl) (by kernel_rfl) (by kernel_rfl) (fun _ _ _ h => h) (.inl ⟨rfl, ?_⟩) HS.out ?_
    rotate_left
    · intro W__ hW__
      obtain ⟨h1, h2, h3⟩ := hW__
      go_simp
      (try with_reducible rfl)
    try simp only [Act.put]
    refine wpAnyT_take (i := 2) (v := ?_) rfl (by kernel_rfl) (by kernel_rfl) (by kernel_rfl) (by kernel_rfl) (by kernel_rfl) (fun _ _ _ h => h) (.inl ⟨rfl, ?_⟩) HS.out ?_
    rotate_left
    · intro W__ hW__
      obtain ⟨h1, h2, h3⟩ := hW__
      go_simp
      (try with_reducible rfl)
    try simp only [Act.put]
    refine wpAnyT_take (i := 3) (v := ?_) rfl (by kernel_rfl) (by kernel_rfl) (by kernel_rfl) (by kernel_rfl) (by kernel_rfl) (fun _ _ _ h => h) (.inl ⟨rfl, ?_⟩) HS.out ?_
    rotate_left
    · intro W__ hW__
      obtain ⟨h1, h2, h3⟩ := hW__
      go_simp
      (try with_reducible rfl)
    try simp only [Act.put]
    refine wpAnyT_take (i := 4) (v := .agg cs) rfl (by kernel_rfl) (by kernel_rfl) (by kernel_rfl) (by kernel_rfl) (by kernel_rfl) (fun _ _ _ h => h) (.inl ⟨rfl, ?_⟩) HS.out ?_
    · intro W__ hW__
      obtain ⟨h1, h2, h3⟩ := hW__
      exact exec_load_row TTold _ rfl w.heap.size (by simp [Act.eval]) TTold cs _ h2 Tryz.underlying197 HI.out
    try simp only [Act.put]
    refine wpAnyT_take (i := 5) (v := ?_) rfl (by kernel_rfl) (by kernel_rfl) (by kernel_rfl) (by kernel_rfl) (by kernel_rfl) (fun _ _ _ h => h) (.inl ⟨rfl, ?_⟩) HS.out ?_
    rotate_left
    · intro W__ hW__
      obtain ⟨h1, h2, h3⟩ := hW__
      go_simp
      (try with_reducible rfl)
    try simp only [Act.put]
    refine wpAnyT_end (i := 6) rfl (by kernel_rfl) rfl (by kernel_rfl) fun K__ hK__ => ?_
    unfold Oper.wp
    go_simp
    refine hK__ _ _ ?_
    clear hK__
    refine wpAnyT_done (by kernel_rfl) ?_ _
    clear HS s2 s2'
    go_wp2
    go_ret
    refine ⟨?_, ?_, HO0.out.trans (HOT.out.trans (Oth.of (Below.refl _ _).drew)), HL0.out.trans HBL.out.drew⟩
    · rw [addK_new HOUT.out, idxOf_snoc HOUT.out]; rfl
    · rw [addK_new HOUT.out]; exact ⟨hN, .inr ⟨w.heap.size + 1, by omega, HB'.out, HM'.out⟩⟩
  · have HB := Lib.hid h2
    have p0 := Blk.cell1 h2; have f0 := Blk.frz1 h2
    have hlt := h2.lt
    by_cases hin : x ∈ keys
    · obtain ⟨k, hk⟩ := List.getElem?_of_mem hin
      have HIN := Lib.hid hin
      have HM := Lib.hid h3
      have HK : Hid (keys.idxOf x = k) := Lib.hid (nodup_getQ h3.nodup (by rw [List.getElem?_eq_getElem (List.idxOf_lt_length_of_mem hin), List.getElem_idxOf]) hk)
      have HLK := Lib.hid (fun W (hb : Below w.heap.size w W) => (h3.below hb).in (keyT q) Tryz.underlying192 zero_int9 hx hk)
      have HBW := Lib.hid hbw
      have lk1 : (Instr.lookup TMT (.map (some mb)) (.agg cs) true).run Tryz.prog (w.alloc (.cells cs TTold)).drew = .ok (.tuple #[.int .i64 k, .bool true]) (w.alloc (.cells cs TTold)).drew := by have h := (HLK.out _ hbw.drew).1; rw [HE.out] at h; exact h
      have lk2 : (Instr.lookup TMT (.map (some mb)) (.agg cs) false).run Tryz.prog (w.alloc (.cells cs TTold)).drew.drew = .ok (.int .i64 k) (w.alloc (.cells cs TTold)).drew.drew := by have h := (HLK.out _ hbw.drew.drew).2; rw [HE.out] at h; exact h
      have HS := Lib.hid (show (w.alloc (.cells cs TTold)).drew.cell? ⟨N, 0, none⟩ = some (.map (some mb)) ∧ Blk (w.alloc (.cells cs TTold)).drew w.heap.size TTold cs ∧ _ from And.intro (Blk.cell1 (h2.below hbw.drew h2.lt)) (And.intro (BX.out.below (Below.refl _ _).drew BX.out.lt) lk1))
      have HS2 := Lib.hid (show (w.alloc (.cells cs TTold)).drew.drew.cell? ⟨N, 0, none⟩ = some (.map (some mb)) ∧ Blk (w.alloc (.cells cs TTold)).drew.drew w.heap.size TTold cs ∧ _ from And.intro (Blk.cell1 (h2.below hbw.drew.drew h2.lt)) (And.intro (BX.out.below (Below.refl _ _).drew.drew BX.out.lt) lk2))
      clear h2 h3 hk hin lk1 lk2 hcs hbw
      go_enter Tryz.func131, Tryz.ntmps131
      go_wp2
      refine wp_region_T 10 (fun W => W.cell? ⟨N, 0, none⟩ = some (.map (some mb)) ∧ Blk W w.heap.size TTold cs ∧ (Instr.lookup TMT (.map (some mb)) (.agg cs) true).run Tryz.prog W = .ok (.tuple #[.int .i64 k, .bool true]) W) (by kernel_rfl) ?_
      refine wpAnyT_take (i := 0) (v := ?_) rfl (by kernel_rfl) (by kernel_rfl) (by kernel_rfl) (by kernel_rfl) (by kernel_rfl) (fun _ _ _ h => h) (.inl ⟨rfl, ?_⟩) HS.out ?_
      rotate_left
      · intro W__ hW__
        obtain ⟨h1, h2, h3⟩ := hW__
        go_simp
        (try with_reducible rfl)
      try simp only [Act.put]
      refine wpAnyT_take (i := 1) (v := ?_) rfl (by kernel_rfl) (by kernel_rfl) (by kernel_rfl) (by kernel_rfl) (by kernel_rfl) (fun _ _ _ h => h) (.inl ⟨rfl, ?_⟩) HS.out ?_
      rotate_left
      · intro W__ hW__
        obtain ⟨h1, h2, h3⟩ := hW__
        go_simp
        (try with_reducible rfl)
      try simp only [Act.put]
      refine wpAnyT_take (i := 2) (v := ?_) rfl (by kernel_rfl) (by kernel_rfl) (by kernel_rfl) (by kernel_rfl) (by kernel_rfl) (fun _ _ _ h => h) (.inl ⟨rfl, ?_⟩) HS.out ?_
      rotate_left
      · intro W__ hW__
        obtain ⟨h1, h2, h3⟩ := hW__
        go_simp
        (try with_reducible rfl)
      try simp only [Act.put]
      refine wpAnyT_take (i := 3) (v := ?_) rfl (by kernel_rfl) (by kernel_rfl) (by kernel_rfl) (by kernel_rfl) (by kernel_rfl) (fun _ _ _ h => h) (.inl ⟨rfl, ?_⟩) HS.out ?_
      rotate_left
      · intro W__ hW__
        obtain ⟨h1, h2, h3⟩ := hW__
        go_simp
        (try with_reducible rfl)
      try simp only [Act.put]
      refine wpAnyT_take (i := 4) (v := .agg cs) rfl (by kernel_rfl) (by kernel_rfl) (by kernel_rfl) (by kernel_rfl) (by kernel_rfl) (fun _ _ _ h => h) (.inl ⟨rfl, ?_⟩) HS.out ?_
      · intro W__ hW__
        obtain ⟨h1, h2, h3⟩ := hW__
        exact exec_load_row TTold _ rfl w.heap.size (by simp [Act.eval]) TTold cs _ h2 Tryz.underlying197 HI.out
      try simp only [Act.put]
      refine wpAnyT_take (i := 5) (v := ?_) rfl (by kernel_rfl) (by kernel_rfl) (by kernel_rfl) (by kernel_rfl) (by kernel_rfl) (fun _ _ _ h => h) (.inl ⟨rfl, ?_⟩) HS.out ?_
      rotate_left
      · intro W__ hW__
        obtain ⟨h1, h2, h3⟩ := hW__
        go_simp
        (try with_reducible rfl)
      try simp only [Act.put]
      refine wpAnyT_take (i := 6) (v := ?_) rfl (by kernel_rfl) (by kernel_rfl) (by kernel_rfl) (by kernel_rfl) (by kernel_rfl) (fun _ _ _ h => h) (.inl ⟨rfl, ?_⟩) HS.out ?_
      rotate_left
      · intro W__ hW__
        obtain ⟨h1, h2, h3⟩ := hW__
        go_simp
        (try with_reducible rfl)
      try simp only [Act.put]
      refine wpAnyT_take (i := 7) (v := ?_) rfl (by kernel_rfl) (by kernel_rfl) (by kernel_rfl) (by kernel_rfl) (by kernel_rfl) (fun _ _ _ h => h) (.inl ⟨rfl, ?_⟩) HS.out ?_
      rotate_left
      · intro W__ hW__
        obtain ⟨h1, h2, h3⟩ := hW__
        go_simp
        (try with_reducible rfl)
      try simp only [Act.put]
      refine wpAnyT_take (i := 8) (v := ?_) rfl (by kernel_rfl) (by kernel_rfl) (by kernel_rfl) (by kernel_rfl) (by kernel_rfl) (fun _ _ _ h => h) (.inl ⟨rfl, ?_⟩) HS.out ?_
      rotate_left
      · intro W__ hW__
        obtain ⟨h1, h2, h3⟩ := hW__
        go_simp
        (try with_reducible rfl)
      try simp only [Act.put]
      refine wpAnyT_take (i := 9) (v := ?_) rfl (by kernel_rfl) (by kernel_rfl) (by kernel_rfl) (by kernel_rfl) (by kernel_rfl) (fun _ _ _ h => h) (.inl ⟨rfl, ?_⟩) HS.out ?_
      rotate_left
      · intro W__ hW__
        obtain ⟨h1, h2, h3⟩ := hW__
        go_simp
        (try with_reducible rfl)
      try simp only [Act.put]
      refine wpAnyT_end (i := 10) rfl (by kernel_rfl) rfl (by kernel_rfl) fun K__ hK__ => ?_
      unfold Oper.wp
      go_simp
      refine hK__ _ _ ?_
      clear hK__
      refine wpAnyT_done (by kernel_rfl) ?_ _
      clear HS
      have HS := HS2
      go_wp2
      refine wp_region_T 6 (fun W => W.cell? ⟨N, 0, none⟩ = some (.map (some mb)) ∧ Blk W w.heap.size TTold cs ∧ (Instr.lookup TMT (.map (some mb)) (.agg cs) false).run Tryz.prog W = .ok (.int .i64 k) W) (by kernel_rfl) ?_
      refine wpAnyT_take (i := 0) (v := ?_) rfl (by kernel_rfl) (by kernel_rfl) (by kernel_rfl) (by kernel_rfl) (by kernel_rfl) (fun _ _ _ h => h) (.inl ⟨rfl, ?_⟩) HS.out ?_
      rotate_left
      · intro W__ hW__
        obtain ⟨h1, h2, h3⟩ := hW__
        go_simp
        (try with_reducible rfl)
      try simp only [Act.put]
      refine wpAnyT_take (i := 1) (v := ?_) rfl (by kernel_rfl) (by kernel_rfl) (by kernel_rfl) (by kernel_rfl) (by kernel_rfl) (fun _ _ _ h => h) (.inl ⟨rfl, ?_⟩) HS.out ?_
      rotate_left
      · intro W__ hW__
        obtain ⟨h1, h2, h3⟩ := hW__
        go_simp
        (try with_reducible rfl)
      try simp only [Act.put]
      refine wpAnyT_take (i := 2) (v := ?_) rfl (by kernel_rfl) (by kernel_rfl) (by kernel_rfl) (by kernel_rfl) (by kernel_rfl) (fun _ _ _ h => h) (.inl ⟨rfl, ?_⟩) HS.out ?_
      rotate_left
      · intro W__ hW__
        obtain ⟨h1, h2, h3⟩ := hW__
        go_simp
        (try with_reducible rfl)
      try simp only [Act.put]
      refine wpAnyT_take (i := 3) (v := ?_) rfl (by kernel_rfl) (by kernel_rfl) (by kernel_rfl) (by kernel_rfl) (by kernel_rfl) (fun _ _ _ h => h) (.inl ⟨rfl, ?_⟩) HS.out ?_
      rotate_left
      · intro W__ hW__
        obtain ⟨h1, h2, h3⟩ := hW__
        go_simp
        (try with_reducible rfl)
      try simp only [Act.put]
      refine wpAnyT_take (i := 4) (v := .agg cs) rfl (by kernel_rfl) (by kernel_rfl) (by kernel_rfl) (by kernel_rfl) (by kernel_rfl) (fun _ _ _ h => h) (.inl ⟨rfl, ?_⟩) HS.out ?_
      · intro W__ hW__
        obtain ⟨h1, h2, h3⟩ := hW__
        exact exec_load_row TTold _ rfl w.heap.size (by simp [Act.eval]) TTold cs _ h2 Tryz.underlying197 HI.out
      try simp only [Act.put]
      refine wpAnyT_take (i := 5) (v := ?_) rfl (by kernel_rfl) (by kernel_rfl) (by kernel_rfl) (by kernel_rfl) (by kernel_rfl) (fun _ _ _ h => h) (.inl ⟨rfl, ?_⟩) HS.out ?_
      rotate_left
      · intro W__ hW__
        obtain ⟨h1, h2, h3⟩ := hW__
        go_simp
        (try with_reducible rfl)
      try simp only [Act.put]
      refine wpAnyT_end (i := 6) rfl (by kernel_rfl) rfl (by kernel_rfl) fun K__ hK__ => ?_
      unfold Oper.wp
      go_simp
      refine hK__ _ _ ?_
      clear hK__
      refine wpAnyT_done (by kernel_rfl) ?_ _
      go_wp2
      go_ret
      have HBE := HBW.out.drew.drew
      refine ⟨?_, ?_, Oth.of HBE, HBE.mono hbase⟩
      · rw [addK_in HIN.out, HK.out]; rfl
      · rw [addK_in HIN.out]; exact ⟨hN, .inr ⟨mb, hmb, HB.out.below HBE HB.out.lt, HM.out.below HBE⟩⟩
    · have HM := Lib.hid (h3.below hbw)
      have HB1 := Lib.hid (h2.below hbw h2.lt)
      have BX1 := BX
      have HOUT := Lib.hid hin
      have HGE : Hid (base ≤ mb) := Lib.hid hmb
      have HBW := Lib.hid hbw
      clear h2 h3 hin hcs hbw
      go_enter Tryz.func131, Tryz.ntmps131
      have HMD := Lib.hid (MapQ.below HM.out (Below.refl _ _).drew)
      have HBD := Lib.hid (HB1.out.below (Below.refl _ _).drew HB1.out.lt)
      have BXD := Lib.hid (BX1.out.below (Below.refl _ _).drew BX1.out.lt)
      have hlk := (HMD.out.out (keyT q) Tryz.underlying192 zero_int9 HX.out HOUT.out).1
      have hlk2 : (Instr.lookup TMT (.map (some mb)) (.agg cs) true).run Tryz.prog (((w.alloc (.cells cs TTold))).drew) = .ok (.tuple #[.int .i64 0, .bool false]) ((w.alloc (.cells cs TTold))).drew := by rw [HE.out] at hlk; exact hlk
      have HS := Lib.hid (And.intro (Blk.cell1 HBD.out) (And.intro BXD.out hlk2))
      go_wp2
      refine wp_region_T 10 (fun W => W.cell? ⟨N, 0, none⟩ = some (.map (some mb)) ∧ Blk W w.heap.size TTold cs ∧ (Instr.lookup TMT (.map (some mb)) (.agg cs) true).run Tryz.prog W = .ok (.tuple #[.int .i64 0, .bool false]) W) (by kernel_rfl) ?_
      refine wpAnyT_take (i := 0) (v := ?_) rfl (by kernel_rfl) (by kernel_rfl) (by kernel_rfl) (by kernel_rfl) (by kernel_rfl) (fun _ _ _ h => h) (.inl ⟨rfl, ?_⟩) HS.out ?_
      rotate_left
      · intro W__ hW__
        obtain ⟨h1, h2, h3⟩ := hW__
        go_simp
        (try with_reducible rfl)
      try simp only [Act.put]
      refine wpAnyT_take (i := 1) (v := ?_) rfl (by kernel_rfl) (by kernel_rfl) (by kernel_rfl) (by kernel_rfl) (by kernel_rfl) (fun _ _ _ h => h) (.inl ⟨rfl, ?_⟩) HS.out ?_
      rotate_left
      · intro W__ hW__
        obtain ⟨h1, h2, h3⟩ := hW__
        go_simp
        (try with_reducible rfl)
      try simp only [Act.put]
      refine wpAnyT_take (i := 2) (v := ?_) rfl (by kernel_rfl) (by kernel_rfl) (by kernel_rfl) (by kernel_rfl) (by kernel_rfl) (fun _ _ _ h => h) (.inl ⟨rfl, ?_⟩) HS.out ?_
      rotate_left
      · intro W__ hW__
        obtain ⟨h1, h2, h3⟩ := hW__
        go_simp
        (try with_reducible rfl)
      try simp only [Act.put]
      refine wpAnyT_take (i := 3) (v := ?_) rfl (by kernel_rfl) (by kernel_rfl) (by kernel_rfl) (by kernel_rfl) (by kernel_rfl) (fun _ _ _ h => h) (.inl ⟨rfl, ?_⟩) HS.out ?_
      rotate_left
      · intro W__ hW__
        obtain ⟨h1, h2, h3⟩ := hW__
        go_simp
        (try with_reducible rfl)
      try simp only [Act.put]
      refine wpAnyT_take (i := 4) (v := .agg cs) rfl (by kernel_rfl) (by kernel_rfl) (by kernel_rfl) (by kernel_rfl) (by kernel_rfl) (fun _ _ _ h => h) (.inl ⟨rfl, ?_⟩) HS.out ?_
      · intro W__ hW__
        obtain ⟨h1, h2, h3⟩ := hW__
        exact exec_load_row TTold _ rfl w.heap.size (by simp [Act.eval]) TTold cs _ h2 Tryz.underlying197 HI.out
      try simp only [Act.put]
      refine wpAnyT_take (i := 5) (v := ?_) rfl (by kernel_rfl) (by kernel_rfl) (by kernel_rfl) (by kernel_rfl) (by kernel_rfl) (fun _ _ _ h => h) (.inl ⟨rfl, ?_⟩) HS.out ?_
      rotate_left
      · intro W__ hW__
        obtain ⟨h1, h2, h3⟩ := hW__
        go_simp
        (try with_reducible rfl)
      try simp only [Act.put]
      refine wpAnyT_take (i := 6) (v := ?_) rfl (by kernel_rfl) (by kernel_rfl) (by kernel_rfl) (by kernel_rfl) (by kernel_rfl) (fun _ _ _ h => h) (.inl ⟨rfl, ?_⟩) HS.out ?_
      rotate_left
      · intro W__ hW__
        obtain ⟨h1, h2, h3⟩ := hW__
        go_simp
        (try with_reducible rfl)
      try simp only [Act.put]
      refine wpAnyT_take (i := 7) (v := ?_) rfl (by kernel_rfl) (by kernel_rfl) (by kernel_rfl) (by kernel_rfl) (by kernel_rfl) (fun _ _ _ h => h) (.inl ⟨rfl, ?_⟩) HS.out ?_
      rotate_left
      · intro W__ hW__
        obtain ⟨h1, h2, h3⟩ := hW__
        go_simp
        (try with_reducible rfl)
      try simp only [Act.put]
      refine wpAnyT_take (i := 8) (v := ?_) rfl (by kernel_rfl) (by kernel_rfl) (by kernel_rfl) (by kernel_rfl) (by kernel_rfl) (fun _ _ _ h => h) (.inl ⟨rfl, ?_⟩) HS.out ?_
      rotate_left
      · intro W__ hW__
        obtain ⟨h1, h2, h3⟩ := hW__
        go_simp
        (try with_reducible rfl)
      try simp only [Act.put]
      refine wpAnyT_take (i := 9) (v := ?_) rfl (by kernel_rfl) (by kernel_rfl) (by kernel_rfl) (by kernel_rfl) (by kernel_rfl) (fun _ _ _ h => h) (.inl ⟨rfl, ?_⟩) HS.out ?_
      rotate_left
      · intro W__ hW__
        obtain ⟨h1, h2, h3⟩ := hW__
        go_simp
        (try with_reducible rfl)
      try simp only [Act.put]
      refine wpAnyT_end (i := 10) rfl (by kernel_rfl) rfl (by kernel_rfl) fun K__ hK__ => ?_
      unfold Oper.wp
      go_simp
      refine hK__ _ _ ?_
      clear hK__
      refine wpAnyT_done (by kernel_rfl) ?_ _
      clear HS hlk hlk2
      go_wp2
      have HMD2 := Lib.hid (MapQ.below HMD.out (Below.refl _ _).drew)
      have HBD2 := Lib.hid (HBD.out.below (Below.refl _ _).drew HBD.out.lt)
      have BXD2 := Lib.hid (BXD.out.below (Below.refl _ _).drew BXD.out.lt)
      have hlen : ∀ ty, (Builtin.len_ #[TMT] ty #[.map (some mb)]).run Tryz.prog (((w.alloc (.cells cs TTold))).drew.drew) = .ok (.int .i64 ((keys.length : Int))) ((w.alloc (.cells cs TTold))).drew.drew := MapQ.len Tryz.underlying192 HMD2.out
      have HS := Lib.hid (And.intro (Blk.cell1 HBD2.out) (And.intro BXD2.out hlen))
      obtain ⟨W', hput', hM', e1, e2, e3, e4, hblk⟩ := MapQ.put (keyT q) Tryz.underlying192 HMD2.out HX.out HOUT.out (v := (keys.length : Int)) rfl
      have hput : (Instr.mapUpdate TMT (.map (some mb)) (.agg cs) (.int .i64 ((keys.length : Int)))).run Tryz.prog (((w.alloc (.cells cs TTold))).drew.drew) = .ok () W' := by rw [HE.out] at hput'; exact hput'
      have HM' := Lib.hid hM'
      have hNm : N ≠ mb := HM.out.ne HB1.out
      have hXm : w.heap.size ≠ mb := HM.out.ne BX1.out
      have HB' : Hid (Blk W' N TNT #[.map (some mb)]) := Lib.hid ((hblk N hNm).trans HBD2.out)
      have BX' : Hid (Blk W' w.heap.size TTold cs) := Lib.hid ((hblk w.heap.size hXm).trans BXD2.out)
      have HOT : Hid (Oth TNT ((w.alloc (.cells cs TTold))) W') := Lib.hid ⟨e1, e2, e3, by rw [e4]; exact Nat.le_refl _, fun g t cs ht hb => (hblk g (HM.out.ne hb)).trans hb⟩
      have HBL : Hid (Below base ((w.alloc (.cells cs TTold))) W') := Lib.hid ⟨e1, e2, e3, by rw [e4]; exact Nat.le_refl _, fun g hg => hblk g (by have := HGE.out; omega)⟩
      clear e1 e2 e3 e4 hblk hNm hXm hM' hput'
      refine wp_region_T 10 (fun W => W.cell? ⟨N, 0, none⟩ = some (.map (some mb)) ∧ Blk W w.heap.size TTold cs ∧ ∀ ty, (Builtin.len_ #[TMT] ty #[.map (some mb)]).run Tryz.prog W = .ok (.int .i64 ((keys.length : Int))) W) (by kernel_rfl) ?_
      refine wpAnyT_take (i := 0) (v := ?_) rfl (by kernel_rfl) (by kernel_rfl) (by kernel_rfl) (by kernel_rfl) (by kernel_rfl) (fun _ _ _ h => h) (.inl ⟨rfl, ?_⟩) HS.out ?_
      rotate_left
      · intro W__ hW__
        obtain ⟨h1, h2, h3⟩ := hW__
        go_simp
        (try with_reducible rfl)
      try simp only [Act.put]
      refine wpAnyT_take (i := 1) (v := ?_) rfl (by kernel_rfl) (by kernel_rfl) (by kernel_rfl) (by kernel_rfl) (by kernel_rfl) (fun _ _ _ h => h) (.inl ⟨rfl, ?_⟩) HS.out ?_
      rotate_left
      · intro W__ hW__
        obtain ⟨h1, h2, h3⟩ := hW__
        go_simp
        (try with_reducible rfl)
      try simp only [Act.put]
      refine wpAnyT_take (i := 2) (v := ?_) rfl (by kernel_rfl) (by kernel_rfl) (by kernel_rfl) (by kernel_rfl) (by kernel_rfl) (fun _ _ _ h => h) (.inl ⟨rfl, ?_⟩) HS.out ?_
      rotate_left
      · intro W__ hW__
        obtain ⟨h1, h2, h3⟩ := hW__
        go_simp
        (try with_reducible rfl)
      try simp only [Act.put]
      refine wpAnyT_take (i := 3) (v := ?_) rfl (by kernel_rfl) (by kernel_rfl) (by kernel_rfl) (by kernel_rfl) (by kernel_rfl) (fun _ _ _ h => h) (.inl ⟨rfl, ?_⟩) HS.out ?_
      rotate_left
      · intro W__ hW__
        obtain ⟨h1, h2, h3⟩ := hW__
        go_simp
        (try with_reducible rfl)
      try simp only [Act.put]
      refine wpAnyT_take (i := 4) (v := .agg cs) rfl (by kernel_rfl) (by kernel_rfl) (by kernel_rfl) (by kernel_rfl) (by kernel_rfl) (fun _ _ _ h => h) (.inl ⟨rfl, ?_⟩) HS.out ?_
      · intro W__ hW__
        obtain ⟨h1, h2, h3⟩ := hW__
        exact exec_load_row TTold _ rfl w.heap.size (by simp [Act.eval]) TTold cs _ h2 Tryz.underlying197 HI.out
      try simp only [Act.put]
      refine wpAnyT_take (i := 5) (v := ?_) rfl (by kernel_rfl) (by kernel_rfl) (by kernel_rfl) (by kernel_rfl) (by kernel_rfl) (fun _ _ _ h => h) (.inl ⟨rfl, ?_⟩) HS.out ?_
      rotate_left
      · intro W__ hW__
        obtain ⟨h1, h2, h3⟩ := hW__
        go_simp
        (try with_reducible rfl)
      try simp only [Act.put]
      refine wpAnyT_take (i := 6) (v := ?_) rfl (by kernel_rfl) (by kernel_rfl) (by kernel_rfl) (by kernel_rfl) (by kernel_rfl) (fun _ _ _ h => h) (.inl ⟨rfl, ?_⟩) HS.out ?_
      rotate_left
      · intro W__ hW__
        obtain ⟨h1, h2, h3⟩ := hW__
        go_simp
        (try with_reducible rfl)
      try simp only [Act.put]
      refine wpAnyT_take (i := 7) (v := ?_) rfl (by kernel_rfl) (by kernel_rfl) (by kernel_rfl) (by kernel_rfl) (by kernel_rfl) (fun _ _ _ h => h) (.inl ⟨rfl, ?_⟩) HS.out ?_
      rotate_left
      · intro W__ hW__
        obtain ⟨h1, h2, h3⟩ := hW__
        go_simp
        (try with_reducible rfl)
      try simp only [Act.put]
      refine wpAnyT_take (i := 8) (v := ?_) rfl (by kernel_rfl) (by kernel_rfl) (by kernel_rfl) (by kernel_rfl) (by kernel_rfl) (fun _ _ _ h => h) (.inl ⟨rfl, ?_⟩) HS.out ?_
      rotate_left
      · intro W__ hW__
        obtain ⟨h1, h2, h3⟩ := hW__
        go_simp
        (try with_reducible rfl)
      try simp only [Act.put]
      refine wpAnyT_take (i := 9) (v := ?_) rfl (by kernel_rfl) (by kernel_rfl) (by kernel_rfl) (by kernel_rfl) (by kernel_rfl) (fun _ _ _ h => h) (.inl ⟨rfl, ?_⟩) HS.out ?_
      rotate_left
      · intro W__ hW__
        obtain ⟨h1, h2, h3⟩ := hW__
        go_simp
        (try with_reducible rfl)
      try simp only [Act.put]
      refine wpAnyT_end (i := 10) rfl (by kernel_rfl) rfl (by kernel_rfl) fun K__ hK__ => ?_
      unfold Oper.wp
      go_simp
      refine hK__ _ _ ?_
      clear hK__
      refine wpAnyT_done (by kernel_rfl) ?_ _
      clear HS hput hlen
      go_wp2
      have HMD3 := Lib.hid (MapQ.below HM'.out (Below.refl _ _).drew)
      have HBD3 := Lib.hid (HB'.out.below (Below.refl _ _).drew HB'.out.lt)
      have BXD3 := Lib.hid (BX'.out.below (Below.refl _ _).drew BX'.out.lt)
      have s2' := (HMD3.out.in (keyT q) Tryz.underlying192 zero_int9 HX.out (k := keys.length) (by simp)).2
      have s2 : (Instr.lookup TMT (.map (some mb)) (.agg cs) false).run Tryz.prog W'.drew = .ok (.int .i64 ((keys.length : Int))) W'.drew := by rw [HE.out] at s2'; exact s2'
      have HS := Lib.hid (And.intro (Blk.cell1 HBD3.out) (And.intro BXD3.out s2))
      refine wp_region_T 6 (fun W => W.cell? ⟨N, 0, none⟩ = some (.map (some mb)) ∧ Blk W w.heap.size TTold cs ∧ (Instr.lookup TMT (.map (some mb)) (.agg cs) false).run Tryz.prog W = .ok (.int .i64 ((keys.length : Int))) W) (by kernel_rfl) ?_
      refine wpAnyT_take (i := 0) (v := ?_) rfl (by kernel_rfl) (by kernel_rfl) (by kernel_rfl) (by kernel_rfl) (by kernel_rfl) (fun _ _ _ h => h) (.inl ⟨rfl, ?_⟩) HS.out ?_
      rotate_left
      · intro W__ hW__
        obtain ⟨h1, h2, h3⟩ := hW__
        go_simp
        (try with_reducible rfl)
      try simp only [Act.put]
      refine wpAnyT_take (i := 1) (v := ?_) rfl (by kernel_rfl) (by kernel_rfl) (by kernel_rfl) (by kernel_rfl) (by kernel_rfl) (fun _ _ _ h => h) (.inl ⟨rfl, ?_⟩) HS.out ?_
      rotate_left
      · intro W__ hW__
        obtain ⟨h1, h2, h3⟩ := hW__
        go_simp
        (try with_reducible rfl)
      try simp only [Act.put]
      refine wpAnyT_take (i := 2) (v := ?_) rfl (by kernel_rfl) (by kernel_rfl) (by kernel_rfl) (by kernel_rfl) (by kernel_rfl) (fun _ _ _ h => h) (.inl ⟨rfl, ?_⟩) HS.out ?_
      rotate_left
      · intro W__ hW__
        obtain ⟨h1, h2, h3⟩ := hW__
        go_simp
        (try with_reducible rfl)
      try simp only [Act.put]
      refine wpAnyT_take (i := 3) (v := ?_) rfl (by kernel_rfl) (by kernel_rfl) (by kernel_rfl) (by kernel_rfl) (by kernel_rfl) (fun _ _ _ h => h) (.inl ⟨rfl, ?_⟩) HS.out ?_
      rotate_left
      · intro W__ hW__
        obtain ⟨h1, h2, h3⟩ := hW__
        go_simp
        (try with_reducible rfl)
      try simp only [Act.put]
      refine wpAnyT_take (i := 4) (v := .agg cs) rfl (by kernel_rfl) (by kernel_rfl) (by kernel_rfl) (by kernel_rfl) (by kernel_rfl) (fun _ _ _ h => h) (.inl ⟨rfl, ?_⟩) HS.out ?_
      · intro W__ hW__
        obtain ⟨h1, h2, h3⟩ := hW__
        exact exec_load_row TTold _ rfl w.heap.size (by simp [Act.eval]) TTold cs _ h2 Tryz.underlying197 HI.out
      try simp only [Act.put]
      refine wpAnyT_take (i := 5) (v := ?_) rfl (by kernel_rfl) (by kernel_rfl) (by kernel_rfl) (by kernel_rfl) (by kernel_rfl) (fun _ _ _ h => h) (.inl ⟨rfl, ?_⟩) HS.out ?_
      rotate_left
      · intro W__ hW__
        obtain ⟨h1, h2, h3⟩ := hW__
        go_simp
        (try with_reducible rfl)
      try simp only [Act.put]
      refine wpAnyT_end (i := 6) rfl (by kernel_rfl) rfl (by kernel_rfl) fun K__ hK__ => ?_
      unfold Oper.wp
      go_simp
      refine hK__ _ _ ?_
      clear hK__
      refine wpAnyT_done (by kernel_rfl) ?_ _
      clear HS s2 s2'
      go_wp2
      go_ret
      refine ⟨?_, ?_, (Oth.of HBW.out).trans (HOT.out.trans (Oth.of (Below.refl _ _).drew)), (HBW.out.mono hbase).trans HBL.out.drew⟩
      · rw [addK_new HOUT.out, idxOf_snoc HOUT.out]; rfl
      · rw [addK_new HOUT.out]; exact ⟨hN, .inr ⟨mb, hmb, HB'.out, HM'.out⟩⟩
end Go.Proofs.YtilhicefhhgecaaGreatDoor

namespace Pv
open Go Go.RowKit
theorem rowCs_zero {row : List Int} {nc : Nat} (h : row.length < nc) : rowCs (row ++ [0]) nc = rowCs row nc := by
  rw [← rowCs_put h]
  refine Array.ext (by simp) fun i h1 h2 => ?_
  rw [Array.getElem_setIfInBounds]
  split
  · rename_i e
    subst e
    simp [rowCs]
  · rfl
  all_goals simpa using h1
theorem rowCs_at {row : List Int} {nc i : Nat} (h : row.length = nc) (hi : i < nc) : (rowCs row nc)[i]? = some (.int .i64 (row.getD i 0)) := by
  have h1 : i < row.length := by omega
  rw [List.getD_eq_getElem?_getD, List.getElem?_eq_getElem h1, rowCs, List.getElem?_toArray, List.getElem?_append_left (by simpa using h1), List.getElem?_map, List.getElem?_eq_getElem h1]
  rfl
end Pv
namespace Go.Proofs.YtilhicefhhgecaaGreatDoor
open Go.RowKit Go.Maps Go.ChangeMaps Pv

theorem zero_told : Tryz.zeroCells197 = rowCs [] 257 := by kernel_rfl
theorem store_told (y : Int) (w : World) : (storeCells ⟨w.heap.size, 0, none⟩ (Tryz.zeroCells197.toList.set 0 (.int .i64 y))).run Tryz.prog (w.alloc (.cells Tryz.zeroCells197 TTold)) = .ok () (w.alloc (.cells (rowCs [y] 257) TTold)) := by
  have e : Tryz.zeroCells197.toList.set 0 (.int .i64 y) = (rowCs [y] 257).toList := by
    have h := rowCs_put (row := []) (nc := 257) (by decide) y
    have h2 : rowCs ([] ++ [y]) 257 = rowCs [y] 257 := rfl
    rw [zero_told, ← h2, ← h, Array.toList_setIfInBounds]; rfl
  have hs : (rowCs [y] 257).size = 257 := rowCs_size (by simp)
  have hs0 : (rowCs [] 257).size = 257 := rowCs_size (by simp)
  rw [e]
  refine run_storeCells_new w TTold _ _ (by rw [hs]; exact info_told) (by rw [hs, zero_told, hs0]) ?_
  rw [← Array.all_toList, List.all_eq_true]
  intro v hv
  simp only [rowCs, List.mem_append, List.mem_map, List.mem_replicate] at hv
  rcases hv with ⟨x, _, rfl⟩ | ⟨_, rfl⟩ <;> rfl
/-- What is under way in one pass. -/
structure PtIn (w W : World) (M P n q : Nat) (keys : List (List Int)) (news out : List Int) (av : Array Value) : Prop where
  u : NumAt encT (okT q) TNT W M M keys
  q : Blk W (M + 1) TLI (rowCs news n)
  p : Blk W P TLI (rowCs out n)
  a : Blk W w.heap.size TDfa av
  b : Below w.heap.size w W
section
variable {w W W' : World} {M P n q : Nat} {keys keys' : List (List Int)} {news out : List Int} {av : Array Value}
theorem PtIn.next (h : PtIn w W M P n q keys news out av) (hb : Below W.heap.size W W') : PtIn w W' M P n q keys news out av :=
  ⟨h.u.below hb, h.q.below hb h.q.lt, h.p.below hb h.p.lt, h.a.below hb h.a.lt, h.b.trans (hb.mono h.b.size)⟩
theorem PtIn.told {X i : Nat} {cs : Array Value} {v : Value} (h : PtIn w W M P n q keys news out av) (hb : Blk W X TTold cs) (hX : w.heap.size ≤ X) : PtIn w (W.setCell ⟨X, i, none⟩ v) M P n q keys news out av :=
  ⟨h.u.far hb (by decide), h.q.far (p := ⟨X, i, none⟩) (h.q.ne hb (by decide)) v, h.p.far (p := ⟨X, i, none⟩) (h.p.ne hb (by decide)) v, h.a.far (p := ⟨X, i, none⟩) (h.a.ne hb (by decide)) v, h.b.setCell (p := ⟨X, i, none⟩) hX v⟩
theorem PtIn.come (h : PtIn w W M P n q keys news out av) (hu : NumAt encT (okT q) TNT W' M M keys') (ho : Oth TNT W W') (hb : Below M W W') (hM : w.heap.size ≤ M) : PtIn w W' M P n q keys' news out av :=
  ⟨hu, ho.blk _ _ _ (by decide) h.q, ho.blk _ _ _ (by decide) h.p, ho.blk _ _ _ (by decide) h.a, h.b.trans (hb.mono hM)⟩
theorem PtIn.set {y : Int} (h : PtIn w W M P n q keys news out av) (hl : news.length < n) (hP : P < M) (hM : w.heap.size ≤ M) : PtIn w (W.setCell ⟨M + 1, news.length, none⟩ (.int .i64 y)) M P n q keys (news ++ [y]) out av :=
  ⟨h.u.far h.q (by decide), by rw [← rowCs_put hl]; exact h.q.set _ _, h.p.far (p := ⟨M + 1, news.length, none⟩) (by simp; omega) _, h.a.far (p := ⟨M + 1, news.length, none⟩) (h.a.ne h.q (by decide)) _, h.b.setCell (p := ⟨M + 1, news.length, none⟩) (by simp; omega) _⟩
end
/-- What a state tells, class by class. -/
noncomputable def keyC (d : Dfa) (out : List Int) (s c : Nat) : List Int := out.getD s 0 :: (List.range c).map fun c => out.getD (d.go s c) 0
theorem keyC_len (d : Dfa) (out : List Int) (s c : Nat) : (keyC d out s c).length = c + 1 := by simp [keyC]
theorem keyC_succ (d : Dfa) (out : List Int) (s c : Nat) : keyC d out s (c + 1) = keyC d out s c ++ [out.getD (d.go s c) 0] := by simp [keyC, List.range_succ]
theorem keyC_all (d : Dfa) (out : List Int) (s : Nat) : keyC d out s d.cuts.length = keyP d out s := rfl
theorem getD_bd {out : List Int} (h : ∀ x, x ∈ out → 0 ≤ x ∧ x ≤ 64) (s : Nat) : 0 ≤ out.getD s 0 ∧ out.getD s 0 ≤ 64 := by
  rw [List.getD_eq_getElem?_getD]
  cases e : out[s]? with
  | none => simp
  | some x => exact h x (mem_of_get e)
theorem keyP_bd {d : Dfa} {out : List Int} (h : ∀ x, x ∈ out → 0 ≤ x ∧ x ≤ 64) (s : Nat) : ∀ x, x ∈ keyP d out s → -9223372036854775808 ≤ x ∧ x ≤ 9223372036854775807 := fun x hx => by
  have key : 0 ≤ x ∧ x ≤ 64 := by
    rcases List.mem_cons.1 hx with rfl | hx
    · exact getD_bd h s
    · obtain ⟨c, _, rfl⟩ := List.mem_map.1 hx
      exact getD_bd h _
  omega
/-- Parts of states. -/
def PartsP (d : Dfa) (n : Nat) (w : World) (e : Ending) (w' : World) : Prop :=
  ∃ P out, e = .returned (.slice (some ⟨P, 0, none⟩) n n) ∧ Blk w' P TLI (rowCs out n) ∧ w.heap.size ≤ P ∧ Below w.heap.size w w' ∧ out.length = n ∧ (∀ s t, s < n → t < n → (out.getD s 0 = out.getD t 0 ↔ Lks d s t)) ∧ ∀ x, x ∈ out → 0 ≤ x ∧ x ≤ 1000000

set_option maxHeartbeats 8000000 in
set_option maxRecDepth 100000 in
theorem least_parts (A1 A2 A3 : Option Addr) (c1 c2 c3 n1 n n3 : Nat) (d : Dfa) (w : World) (H : DfaAt w A1 A2 A3 n1 n n3 d) (hok : d.Ok) :
    Calls Tryz.prog 91 #[.agg #[.slice A1 n1 c1, .slice A2 n c2, .slice A3 n3 c3]] w (PartsP d n w) := by
  obtain ⟨b2, o2, b3, o3, e2, e3, hb2, hb3, e4, hrow, hacc⟩ := H.rows hok
  subst e2; subst e3
  obtain rfl := e4.symm
  have hn : n ≤ 64 := by have := hok.n2; have := H.hn.out; omega
  have hn1 : 1 ≤ n := by have := hok.n1; have := H.hn.out; omega
  have hc : n1 ≤ 256 := by have := hok.c2; have := H.hc.out; omega
  have hm1 := fun W : World => run_make_row' (P := Tryz.prog) 22 3 (.int .i64 0) 8 Tryz.underlying22 info_int9 rfl .i64 .i64 n (by omega) (by omega) W
  have HNN := H.hn; have HNC := H.hc
  have HOK := Lib.hid hok; have HR := Lib.hid hrow; have HA := Lib.hid hacc
  have KA := Lib.hid (Blk.new w TDfa #[.slice A1 n1 c1, .slice (some ⟨b2, o2, none⟩) n c2, .slice (some ⟨b3, o3, none⟩) n c3])
  have e1 : (w.alloc (.cells #[.slice A1 n1 c1, .slice (some ⟨b2, o2, none⟩) n c2, .slice (some ⟨b3, o3, none⟩) n c3] TDfa)).heap.size = w.heap.size + 1 := by simp
  have BP := Blk.new (w.alloc (.cells #[.slice A1 n1 c1, .slice (some ⟨b2, o2, none⟩) n c2, .slice (some ⟨b3, o3, none⟩) n c3] TDfa)) TLI (madeCells #[.int .i64 0] n)
  rw [e1] at BP
  have HP0 : Hid (Blk ((w.alloc (.cells #[.slice A1 n1 c1, .slice (some ⟨b2, o2, none⟩) n c2, .slice (some ⟨b3, o3, none⟩) n c3] TDfa)).alloc (.cells (madeCells #[.int .i64 0] n) TLI)) (w.heap.size + 1) TLI (rowCs (accL d 0) n)) := Lib.hid (by
    rw [show accL d 0 = [] from rfl, rowCs_nil]; exact BP)
  have HA0 := Lib.hid (KA.out.alloc (.cells (madeCells #[.int .i64 0] n) TLI))
  have HB0 := Lib.hid (((Below.refl w.heap.size w).alloc (Nat.le_refl _) (.cells #[.slice A1 n1 c1, .slice (some ⟨b2, o2, none⟩) n c2, .slice (some ⟨b3, o3, none⟩) n c3] TDfa)).alloc (by simp) (.cells (madeCells #[.int .i64 0] n) TLI))
  clear hrow hacc H hok BP e1
  go_enter Tryz.func91, Tryz.ntmps91
  go_wp2
  go_loopw [21] (fun iv W => ∃ i : Nat, iv = .int .i64 i ∧ i ≤ n ∧ Hid (Blk W (w.heap.size + 1) TLI (rowCs (accL d i) n)) ∧ Hid (Blk W w.heap.size TDfa #[.slice A1 n1 c1, .slice (some ⟨b2, o2, none⟩) n c2, .slice (some ⟨b3, o3, none⟩) n c3]) ∧ Hid (Below w.heap.size w W)) (fun iv _ => n - (intOf iv).toNat)
  case atStart => exact ⟨0, rfl, by omega, HP0, HA0, HB0⟩
  case round =>
    clear HP0 HA0 HB0 KA
    obtain ⟨i, rfl, hi, HP, HAB, HB⟩ := hrel
    have i1 : (0 : Int) ≤ (i : Int) := by omega
    obtain ⟨p0, p1, p2, _, _, _⟩ := Blk.three HAB.out
    have hN := HAB.out.lt
    by_cases hlt : i < n
    · have i2 : (i : Int) < (n : Int) := by omega
      have ca := ((Keep.of HB.out).cell _ _ hb3).trans (HA.out i hlt)
      obtain ⟨bb, hbb⟩ : ∃ bb, d.acc i = bb := ⟨_, rfl⟩
      have HBB := Lib.hid hbb
      rw [hbb] at ca
      have HLN : Hid ((accL d i).length = i) := Lib.hid (accL_len i)
      clear hbb
      cases bb
      case false =>
        have HE : Hid (rowCs (accL d (i + 1)) n = rowCs (accL d i) n) := Lib.hid (by rw [accL_succ, HBB.out]; exact rowCs_zero (by rw [accL_len]; exact hlt))
        go_wp2
        go_roundw
        case rel => exact ⟨i + 1, by go_num, by omega, Lib.hid (by rw [HE.out]; exact HP.out), HAB, HB⟩
        case measure => simp [intOf]; omega
      case true =>
        have HE : Hid (rowCs (accL d (i + 1)) n = (rowCs (accL d i) n).setIfInBounds i (.int .i64 1)) := Lib.hid (by
          have h := rowCs_put (row := accL d i) (nc := n) (by rw [accL_len]; exact hlt) 1
          rw [accL_len] at h
          rw [h, accL_succ, HBB.out]; rfl)
        have pc : wr.cell? ⟨w.heap.size + 1, i, none⟩ = some (.int .i64 0) := (HP.out.cell i).trans (by
          have h1 : i < (rowCs (accL d i) n).size := by rw [rowCs_size (by rw [accL_len]; omega)]; exact hlt
          rw [Array.getElem?_eq_getElem h1]
          simp [rowCs, accL_len])
        have pf := HP.out.frozen i
        go_wp2
        go_roundw
        case rel => exact ⟨i + 1, by go_num, by omega, Lib.hid (by rw [HE.out]; exact HP.out.set i _), Lib.hid (HAB.out.far (p := ⟨w.heap.size + 1, i, none⟩) (by simp) _), Lib.hid (HB.out.setCell (p := ⟨w.heap.size + 1, i, none⟩) (by simp) _)⟩
        case measure => simp [intOf]; omega
    · obtain rfl : n = i := by omega
      have hW := HB.out.size
      go_wp2
      go_loopw [6, 3] (fun mv ov W => ∃ (k P : Nat) (out : List Int), mv = .int .i64 (manyK d k : Nat) ∧ ov = .slice (some ⟨P, 0, none⟩) n n ∧ Hid (PartsK d k out) ∧ Hid (∀ x, x ∈ out → 0 ≤ x ∧ x ≤ 64) ∧ w.heap.size < P ∧ Hid (Blk W P TLI (rowCs out n)) ∧
        Hid (Blk W w.heap.size TDfa #[.slice A1 n1 c1, .slice (some ⟨b2, o2, none⟩) n c2, .slice (some ⟨b3, o3, none⟩) n c3]) ∧ Hid (Below w.heap.size w W)) (fun mv _ _ => n + 1 - (intOf mv).toNat)
      case atStart => exact ⟨0, w.heap.size + 1, accL d n, rfl, rfl, Lib.hid (by rw [← HNN.out]; exact accL_ok), Lib.hid (fun x hx => by rw [← HNN.out] at hx; have := accL_bd x hx; omega), by omega, HP, HAB, HB⟩
      case round =>
        clear HP HAB HB p0 p1 p2 hN hW
        obtain ⟨k, P, out, rfl, rfl, HPK, HBD, hP, HP, HAB, HB⟩ := hrel
        obtain ⟨p0, p1, p2, _, _, _⟩ := Blk.three HAB.out
        have hN := HAB.out.lt
        have hPl := HP.out.lt
        have hwP := HB.out.size
        have BN := Blk.new wr TNT #[.map none]
        have BQ := Blk.new (wr.alloc (.cells #[.map none] TNT)) TLI (madeCells #[.int .i64 0] n)
        rw [show (wr.alloc (.cells #[.map none] TNT)).heap.size = wr.heap.size + 1 by simp] at BQ
        have bb := ((Below.refl wr.heap.size wr).alloc (Nat.le_refl _) (.cells #[.map none] TNT)).alloc (by simp) (.cells (madeCells #[.int .i64 0] n) TLI)
        have HN0 : Hid (NumAt encT (okT (n1 + 1)) TNT ((wr.alloc (.cells #[.map none] TNT)).alloc (.cells (madeCells #[.int .i64 0] n) TLI)) wr.heap.size wr.heap.size (keysJ d k out 0)) := Lib.hid ⟨Nat.le_refl _, .inl ⟨keysJ_zero, BN.alloc _⟩⟩
        have HQ0 : Hid (Blk ((wr.alloc (.cells #[.map none] TNT)).alloc (.cells (madeCells #[.int .i64 0] n) TLI)) (wr.heap.size + 1) TLI (rowCs (partL d (k + 1) 0) n)) := Lib.hid (by
          rw [show partL d (k + 1) 0 = [] from rfl, rowCs_nil]; exact BQ)
        have HIN0 : Hid (PtIn w ((wr.alloc (.cells #[.map none] TNT)).alloc (.cells (madeCells #[.int .i64 0] n) TLI)) wr.heap.size P n (n1 + 1) (keysJ d k out 0) (partL d (k + 1) 0) out #[.slice A1 n1 c1, .slice (some ⟨b2, o2, none⟩) n c2, .slice (some ⟨b3, o3, none⟩) n c3]) := Lib.hid
          ⟨HN0.out, HQ0.out, HP.out.below bb HP.out.lt, HAB.out.below bb HAB.out.lt, HB.out.trans (bb.mono hwP)⟩
        have HPM := Lib.hid HP.out.lt
        clear BN BQ bb HN0 HQ0
        go_wp2
        clear p0 p1 p2 hN HP HAB HB
        obtain ⟨w8, rfl⟩ : ∃ w8, w8 = wr := ⟨_, rfl⟩
        generalize w8.heap.size = M at *
        go_loopw [37] (fun jv W => ∃ j : Nat, jv = .int .i64 j ∧ j ≤ n ∧ Hid (PtIn w W M P n (n1 + 1) (keysJ d k out j) (partL d (k + 1) j) out #[.slice A1 n1 c1, .slice (some ⟨b2, o2, none⟩) n c2, .slice (some ⟨b3, o3, none⟩) n c3])) (fun jv _ => n - (intOf jv).toNat)
        case atStart => exact ⟨0, rfl, by omega, HIN0⟩
        case round =>
          clear HIN0
          obtain ⟨j, rfl, hj, HI⟩ := hrel
          have j1 : (0 : Int) ≤ (j : Int) := by omega
          obtain ⟨p0, p1, p2, _, _, _⟩ := Blk.three HI.out.a
          have hN := HI.out.a.lt
          by_cases hjn : j < n
          · have j2 : (j : Int) < (n : Int) := by omega
            obtain ⟨rb, ro, rc, hrb, k1, k2⟩ := HR.out j hjn
            have HK2 := Lib.hid k2
            have k1 := ((Keep.of HI.out.b).cell _ _ hb2).trans k1
            have hol : out.length = n := by have := HPK.out.len; rw [HNN.out] at this; exact this
            have HOL := Lib.hid hol
            obtain ⟨y, hy⟩ : ∃ y, out.getD j 0 = y := ⟨_, rfl⟩
            have HY := Lib.hid hy
            have po := (HI.out.p.cell j).trans (rowCs_at hol hjn)
            rw [hy] at po
            have hst := store_told y wr
            have HX0 : Hid (Blk (wr.alloc (.cells (rowCs [y] 257) TTold)) wr.heap.size TTold (rowCs (keyC d out j 0) 257)) := Lib.hid (by
              rw [show keyC d out j 0 = [y] by rw [← hy]; rfl]; exact Blk.new wr TTold _)
            have HI0 := Lib.hid (HI.out.next ((Below.refl _ _).alloc (Nat.le_refl _) (.cells (rowCs [y] 257) TTold)))
            have HWX := Lib.hid HI.out.b.size
            clear k2 hy hol
            go_wp2
            clear hst po k1 p0 p1 p2 hN HI
            obtain ⟨w9, rfl⟩ : ∃ w9, w9 = wr := ⟨_, rfl⟩
            generalize w9.heap.size = X at *
            go_loopw [49] (fun cv W => ∃ c : Nat, cv = .int .i64 c ∧ c ≤ n1 ∧ Hid (Blk W X TTold (rowCs (keyC d out j c) 257)) ∧ Hid (PtIn w W M P n (n1 + 1) (keysJ d k out j) (partL d (k + 1) j) out #[.slice A1 n1 c1, .slice (some ⟨b2, o2, none⟩) n c2, .slice (some ⟨b3, o3, none⟩) n c3])) (fun cv _ => n1 - (intOf cv).toNat)
            case atStart => exact ⟨0, rfl, by omega, HX0, HI0⟩
            case round =>
              clear HX0 HI0
              obtain ⟨c, rfl, hc1, HX, HI⟩ := hrel
              have c0' : (0 : Int) ≤ (c : Int) := by omega
              by_cases hcn : c < n1
              · have c1' : (c : Int) < (n1 : Int) := by omega
                have c2' : (c : Int) < 256 := by omega
                obtain ⟨k3, k4⟩ := HK2.out c hcn
                have k3 := ((Keep.of HI.out.b).cell _ _ (World.block_lt_of_cell? _ _ k3)).trans k3
                have po := (HI.out.p.cell (d.go j c)).trans (rowCs_at HOL.out k4)
                obtain ⟨z, hz⟩ : ∃ z, out.getD (d.go j c) 0 = z := ⟨_, rfl⟩
                rw [hz] at po
                obtain ⟨t, ht⟩ : ∃ t, d.go j c = t := ⟨_, rfl⟩
                rw [ht] at po k3 k4
                have t0 : (0 : Int) ≤ (t : Int) := by omega
                have t1 : (t : Int) < (n : Int) := by omega
                have HKS : Hid (rowCs (keyC d out j (c + 1)) 257 = (rowCs (keyC d out j c) 257).setIfInBounds (1 + c) (.int .i64 z)) := Lib.hid (by
                  rw [keyC_succ, hz, ← rowCs_put (by rw [keyC_len]; omega), keyC_len, Nat.add_comm])
                have pc : wr.cell? ⟨X, 1 + c, none⟩ = some (.int .i64 0) := (HX.out.cell (1 + c)).trans (by
                  have h1 : 1 + c < (rowCs (keyC d out j c) 257).size := by rw [rowCs_size (by rw [keyC_len]; omega)]; omega
                  rw [Array.getElem?_eq_getElem h1]
                  simp [rowCs, keyC_len, Nat.add_comm])
                have pf := HX.out.frozen (1 + c)
                clear hz ht
                go_wp2
                go_roundw
                case rel => exact ⟨c + 1, by go_num, by omega, Lib.hid (by rw [HKS.out]; exact HX.out.set (1 + c) _), Lib.hid (HI.out.told HX.out HWX.out)⟩
                case measure => simp [intOf]; omega
              · obtain rfl : n1 = c := by omega
                have HKE : Hid (keyC d out j n1 = keyP d out j) := Lib.hid (by rw [← HNC.out]; exact keyC_all d out j)
                have hokk : okT (n1 + 1) (keyP d out j) := ⟨by rw [← HKE.out, keyC_len], by omega, keyP_bd HBD.out j⟩
                have hjd : j < d.next.length := by rw [HNN.out]; exact hjn
                rw [HKE.out] at HX
                have hMl : M + 1 < wr.heap.size := HI.out.q.lt
                have hnm := num_told (n1 + 1) M M (keysJ d k out j) (keyP d out j) wr HI.out.u hokk (by rw [keysJ_len]; have := fsts_len (d := d) (k + 1) j; omega) (by omega)
                unfold OfPost at hnm
                rw [keysJ_succ HOK.out HPK.out hjd, keysJ_idx HOK.out HPK.out hjd] at hnm
                obtain ⟨pj, hpj⟩ : ∃ pj, prt d (k + 1) d.next.length j = pj := ⟨_, rfl⟩
                rw [hpj] at hnm
                have HPJ := Lib.hid hpj
                have HNM := Lib.hid hnm
                obtain ⟨cs, hcs⟩ : ∃ cs, rowCs (keyP d out j) 257 = cs := ⟨_, rfl⟩
                have HSZ : Hid ((Tryz.prog.info? TTold).map (·.size) = some cs.size) := Lib.hid (by rw [← hcs, rowCs_size (by have := hokk.1; omega)]; exact info_told)
                have HE : Hid (encT (keyP d out j) = .agg cs) := Lib.hid (by show Value.agg (rowCs (keyP d out j) 257) = _; rw [hcs])
                rw [HE.out] at HNM
                rw [hcs] at HX
                clear hnm hpj hcs hokk hjd HKE
                go_wp2_with (first
                | (refine wpList_load_row rfl TTold _ rfl X rfl TTold _ (0, 0) _ HX.out Tryz.underlying197 rfl HSZ.out ?_)
                | (go_at_call 131
                   refine HNM.out.mono ?_
                   rintro e w5 ⟨rfl, hu, ho, hb⟩
                   have HI5 := Lib.hid (HI.out.come hu ho hb (by omega))
                   have pc : w5.cell? ⟨M + 1, j, none⟩ = some (.int .i64 0) := (HI5.out.q.cell j).trans (by
                     have h1 : j < (rowCs (partL d (k + 1) j) n).size := by rw [rowCs_size (by rw [partL_len]; omega)]; exact hjn
                     rw [Array.getElem?_eq_getElem h1]
                     simp [rowCs, partL_len])
                   have pf := HI5.out.q.frozen j
                   clear hu ho hb))
                go_roundw
                case rel => exact ⟨j + 1, by go_num, by omega, Lib.hid (by
                  have h := PtIn.set (y := (pj : Int)) HI5.out (by rw [partL_len]; exact hjn) HPM.out (by omega)
                  rw [partL_len] at h
                  rw [partL_succ, HPJ.out]
                  exact h)⟩
                case measure => simp [intOf]; omega
          · obtain rfl : n = j := by omega
            obtain ⟨_, ⟨h0, _⟩ | ⟨mb, hmb, hbx, hmq⟩⟩ := HI.out.u
            · have h1 := keysJ_len (d := d) (k := k) (out := out) (j := n)
              rw [h0] at h1
              have h2 := fsts_pos (k := k + 1) HOK.out
              rw [HNN.out] at h2
              simp at h1
              omega
            have pN := Blk.cell1 hbx
            have hlen := MapQ.len Tryz.underlying192 hmq
            have hml : (keysJ d k out n).length = manyK d (k + 1) := by rw [keysJ_len, ← HNN.out]; rfl
            rw [hml] at hlen
            have hM1 : M < wr.heap.size := by have := HI.out.q.lt; omega
            by_cases hq : manyK d (k + 1) = manyK d k
            · have HDN := Lib.hid (fun s t hs ht => manyK_done HOK.out k hq (s := s) (t := t) hs ht)
              have q1 : ((manyK d (k + 1) : Int) == (manyK d k : Int)) = true := by rw [hq]; simp
              clear hq hml
              go_wp2
              go_ret
              refine ⟨M + 1, partL d (k + 1) n, rfl, HI.out.q, by omega, HI.out.b, partL_len _ _, fun s t hs ht => ?_, fun x hx => ?_⟩
              · have := HDN.out s t (by rw [HNN.out]; exact hs) (by rw [HNN.out]; exact ht)
                rw [HNN.out] at this
                exact this
              · rw [← HNN.out] at hx
                have := partL_bd (k + 1) x hx
                have := HNN.out
                omega
            · have q1 : ((manyK d (k + 1) : Int) == (manyK d k : Int)) = false := by simp; omega
              have HG := Lib.hid (manyK_grow HOK.out k hq)
              have HLE := Lib.hid (manyK_le (d := d) (k + 1))
              clear hq hml
              go_wp2
              go_roundw
              case rel => exact ⟨k + 1, M + 1, partL d (k + 1) n, rfl, rfl, Lib.hid (by rw [← HNN.out]; exact partL_ok (k + 1)), Lib.hid (fun x hx => by rw [← HNN.out] at hx; have := partL_bd (k + 1) x hx; have := HNN.out; omega), by omega, HI.out.q, HI.out.a, HI.out.b⟩
              case measure => have := HG.out; have := HLE.out; have := HNN.out; simp [intOf]; omega
end Go.Proofs.YtilhicefhhgecaaGreatDoor

namespace Go.Proofs.YtilhicefhhgecaaGreatDoor
open Go.RowKit Pv

/-- What the closure reads. -/
structure TEnv (W : World) (bs bp bd : Nat) (S : Option Addr) (m sc P n n1 : Nat) (part : List Int) (st : List Nat) (d : Dfa) (b2 o2 c2 : Nat) : Prop where
  s : W.cell? ⟨bs, 0, none⟩ = some (.slice S m sc)
  p : W.cell? ⟨bp, 0, none⟩ = some (.slice (some ⟨P, 0, none⟩) n n)
  q : Blk W P TLI (rowCs part n)
  a : W.cell? ⟨bd, 1, none⟩ = some (.slice (some ⟨b2, o2, none⟩) n c2)
  r : ∀ s, s < n → ∃ rb ro rc, W.cell? ⟨b2, o2 + s, none⟩ = some (.slice (some ⟨rb, ro, none⟩) n1 rc) ∧ ∀ c, c < n1 → W.cell? ⟨rb, ro + c, none⟩ = some (.int .i64 (d.go s c)) ∧ d.go s c < n
  t : At W S RI (numI st)
theorem TEnv.next {W W' : World} {bs bp bd : Nat} {S : Option Addr} {m sc P n n1 : Nat} {part : List Int} {st : List Nat} {d : Dfa} {b2 o2 c2 : Nat} (h : TEnv W bs bp bd S m sc P n n1 part st d b2 o2 c2) (hb : Below W.heap.size W W') : TEnv W' bs bp bd S m sc P n n1 part st d b2 o2 c2 := by
  have k := fun b o v (h : W.cell? ⟨b, o, none⟩ = some v) => ((Keep.of hb).cell b o (World.block_lt_of_cell? _ _ h)).trans h
  refine ⟨k _ _ _ h.s, k _ _ _ h.p, h.q.below hb h.q.lt, k _ _ _ h.a, fun s hs => ?_, h.t.keep (Keep.of hb)⟩
  obtain ⟨rb, ro, rc, h1, h2⟩ := h.r s hs
  exact ⟨rb, ro, rc, k _ _ _ h1, fun c hc => ⟨k _ _ _ (h2 c hc).1, (h2 c hc).2⟩⟩
/-- Where a state's part changes from one class to the next. -/
def Tpart (part : List Int) (d : Dfa) (c s : Nat) : Prop := part.getD (d.go s c) 0 ≠ part.getD (d.go s (c - 1)) 0
theorem cell_row {W : World} {P n : Nat} {part : List Int} (h : Blk W P TLI (rowCs part n)) (hl : part.length = n) {i : Nat} (hi : i < n) : W.cell? ⟨P, i, none⟩ = some (.int .i64 (part.getD i 0)) := (h.cell i).trans (rowCs_at hl hi)

set_option maxHeartbeats 2000000 in
set_option maxRecDepth 100000 in
theorem least_11 (bs bp bd bc : Nat) (S : Option Addr) (m sc P n n1 : Nat) (part : List Int) (st : List Nat) (d : Dfa) (b2 o2 c2 s c : Nat) (W : World) (h : TEnv W bs bp bd S m sc P n n1 part st d b2 o2 c2) (hl : part.length = n) (hs : s < n) (_hn : n ≤ 64) (hc0 : 0 < c) (hc : c < n1) (hn1 : n1 ≤ 256) (hbc : W.cell? ⟨bc, 0, none⟩ = some (.int .i64 (c : Nat))) :
    Calls Tryz.prog 95 #[.int .i64 s, .pointer (some ⟨bp, 0, none⟩), .pointer (some ⟨bd, 0, none⟩), .pointer (some ⟨bc, 0, none⟩)] W fun e w' => e = .returned (.bool (yes (Tpart part d c s))) ∧ Below W.heap.size W w' := by
  obtain ⟨rb, ro, rc, k1, k2⟩ := h.r s hs
  obtain ⟨k3, k4⟩ := k2 c hc
  obtain ⟨c', HC⟩ : ∃ c', Hid (c - 1 = c') := ⟨_, Lib.hid rfl⟩
  have hcc := HC.out
  obtain ⟨k5, k6⟩ := k2 c' (by omega)
  have p1 := h.p; have p2 := h.a
  have x1 := cell_row h.q hl k4
  have x2 := cell_row h.q hl k6
  have s0 : (0 : Int) ≤ (s : Int) := by omega
  have s1 : (s : Int) < (n : Int) := by omega
  have w1' : wrap64 ((c : Int) - 1) = (c' : Int) := by rw [show (c : Int) - 1 = (c' : Int) by omega]; simp [wrap64]; omega
  have w2' : IntKind.i64.wrap ((c : Int) - 1) = (c' : Int) := by rw [IntKind.wrap_i64]; omega
  have i1 : (0 : Int) ≤ (c : Int) := by omega
  have i2 : (c : Int) < (n1 : Int) := by omega
  have i3 : (0 : Int) ≤ (c' : Int) := by omega
  have i4 : (c' : Int) < (n1 : Int) := by omega
  have HANS : Hid ((!(part.getD (d.go s c) 0 == part.getD (d.go s c') 0)) = yes (Tpart part d c s)) := Lib.hid (by
    unfold Tpart
    rw [HC.out]
    by_cases e : part.getD (d.go s c) 0 = part.getD (d.go s c') 0
    · rw [yes_f (fun h => h e), e]; simp
    · rw [yes_t e, beq_false_of_ne e]; rfl)
  obtain ⟨t, ht⟩ : ∃ t, d.go s c = t := ⟨_, rfl⟩
  obtain ⟨u, hu⟩ : ∃ u, d.go s c' = u := ⟨_, rfl⟩
  rw [ht] at k3 k4 x1 HANS
  rw [hu] at k5 k6 x2 HANS
  obtain ⟨x, hx⟩ : ∃ x, part.getD t 0 = x := ⟨_, rfl⟩
  obtain ⟨y, hy⟩ : ∃ y, part.getD u 0 = y := ⟨_, rfl⟩
  rw [hx] at x1 HANS
  rw [hy] at x2 HANS
  obtain ⟨ans, hans⟩ : ∃ ans, yes (Tpart part d c s) = ans := ⟨_, rfl⟩
  rw [hans] at HANS ⊢
  have t0 : (0 : Int) ≤ (t : Int) := by omega
  have t1 : (t : Int) < (n : Int) := by omega
  have u0 : (0 : Int) ≤ (u : Int) := by omega
  have u1 : (u : Int) < (n : Int) := by omega
  clear k2 h hcc ht hu hx hy hans
  go_enter Tryz.func95, Tryz.ntmps95
  go_wp2
  go_quiet (fail)
  rename_i nq
  go_wp2
  go_ret
  exact ⟨ret_bool HANS.out, below_drewN (Below.refl _ _) nq⟩

abbrev clT (bp bd bc : Nat) : Value := .func (.func 95) #[] #[.pointer (some ⟨bp, 0, none⟩), .pointer (some ⟨bd, 0, none⟩), .pointer (some ⟨bc, 0, none⟩)]
set_option maxHeartbeats 2000000 in
set_option maxRecDepth 100000 in
theorem index_turns (bs bp bd bc : Nat) (S : Option Addr) (m sc P n n1 : Nat) (part : List Int) (st : List Nat) (d : Dfa) (b2 o2 c2 c : Nat) (w : World) (h : TEnv w bs bp bd S m sc P n n1 part st d b2 o2 c2) (hl : part.length = n) (hn : n ≤ 64) (hc0 : 0 < c) (hc : c < n1) (hn1 : n1 ≤ 256) (hbc : w.cell? ⟨bc, 0, none⟩ = some (.int .i64 (c : Nat)))
    (hst : ∀ s, s ∈ st → s < n) (HM : Hid ((numI st).length = m)) :
    Calls Tryz.prog 132 #[.slice S m sc, clT bp bd bc] w fun e w' => (∃ r : Int, e = .returned (.int .i64 r) ∧ (0 ≤ r ↔ ∃ s, s ∈ st ∧ Tpart part d c s)) ∧ Below w.heap.size w w' := by
  have hm : m ≤ 140737488355328 := by have := h.t.1; rwa [HM.out] at this
  have HH := Lib.hid h; have HST := Lib.hid hst
  clear h hst
  go_enter Tryz.func132, Tryz.ntmps132
  go_wp2
  go_loopw [8] (fun i wr => ∃ k : Nat, i = .int .i64 k ∧ k ≤ m ∧ Hid (∀ (i : Nat) s, i < k → st[i]? = some s → ¬ Tpart part d c s) ∧ Hid (Below w.heap.size w wr)) (fun i _ => m - (intOf i).toNat)
  case atStart => exact ⟨0, rfl, by omega, Lib.hid (by intros; omega), Lib.hid (Below.refl _ _)⟩
  case round =>
    obtain ⟨k, rfl, hk, HNO, HB⟩ := hrel
    by_cases hlt : k < m
    · obtain ⟨bb, off, u, x, rfl, hbl, cc, ⟨rfl, _, _⟩, HX⟩ := (HH.out.t.keep (Keep.of HB.out)).gt HM hlt
      obtain ⟨s, hs, rfl⟩ : ∃ s : Nat, st[k]? = some s ∧ (s : Int) = x := by
        have h1 := HX.out
        rw [List.getElem?_map] at h1
        obtain ⟨y, h2, h3⟩ := Option.map_eq_some_iff.1 h1
        exact ⟨y, h2, h3⟩
      have HS := Lib.hid hs
      have k1 : (0 : Int) ≤ (k : Int) := by omega
      have k2 : (k : Int) < (m : Int) := by omega
      have HC := Lib.hid (least_11 bs bp bd bc _ m sc P n n1 part st d b2 o2 c2 s c wr (HH.out.next HB.out) hl (HST.out s (mem_of_get hs)) hn hc0 hc hn1 (((Keep.of HB.out).cell bc 0 (World.block_lt_of_cell? _ _ hbc)).trans hbc))
      clear hs
      by_cases hh : Tpart part d c s
      · rw [yes_t hh] at HC
        have HY := Lib.hid (show ∃ s, s ∈ st ∧ Tpart part d c s from ⟨s, mem_of_get HS.out, hh⟩)
        clear hh
        go_wp2_with fail
        refine HC.out.mono ?_
        rintro e w2 ⟨rfl, hb2⟩
        have B2 := Lib.hid (HB.out.trans (hb2.mono HB.out.size))
        clear hb2
        go_wp2
        go_ret
        exact ⟨⟨_, rfl, fun _ => HY.out, fun _ => by omega⟩, B2.out⟩
      · rw [yes_f hh] at HC
        have HN2 := Lib.hid (fun (i : Nat) (x : Nat) (hi' : i < k + 1) (hx : st[i]? = some x) => (show ¬ Tpart part d c x from by
          by_cases e : i = k
          · subst e
            obtain rfl := Option.some.inj (hx.symm.trans HS.out)
            exact hh
          · exact HNO.out i x (by omega) hx))
        clear hh
        go_wp2_with fail
        refine HC.out.mono ?_
        rintro e w2 ⟨rfl, hb2⟩
        have B2 := Lib.hid (HB.out.trans (hb2.mono HB.out.size))
        clear hb2
        go_wp2
        go_roundw
        case rel => exact ⟨k + 1, by go_num, by omega, HN2, B2⟩
        case measure => simp [intOf]; omega
    · have HN := Lib.hid (show ¬ ∃ s, s ∈ st ∧ Tpart part d c s from by
        rintro ⟨s, h1, h2⟩
        obtain ⟨i, hi⟩ := List.getElem?_of_mem h1
        exact HNO.out i s (by have := lt_of_get hi; have := HM.out; simp at this; omega) hi h2)
      go_wp2
      go_ret
      exact ⟨⟨-1, rfl, fun h => by omega, fun h => absurd h HN.out⟩, HB.out⟩

set_option maxHeartbeats 1000000 in
set_option maxRecDepth 100000 in
theorem contains_turns (bs bp bd bc : Nat) (S : Option Addr) (m sc P n n1 : Nat) (part : List Int) (st : List Nat) (d : Dfa) (b2 o2 c2 c : Nat) (w : World) (h : TEnv w bs bp bd S m sc P n n1 part st d b2 o2 c2) (hl : part.length = n) (hn : n ≤ 64) (hc0 : 0 < c) (hc : c < n1) (hn1 : n1 ≤ 256) (hbc : w.cell? ⟨bc, 0, none⟩ = some (.int .i64 (c : Nat)))
    (hst : ∀ s, s ∈ st → s < n) (HM : Hid ((numI st).length = m)) :
    Calls Tryz.prog 94 #[.slice S m sc, clT bp bd bc] w fun e w' => e = .returned (.bool (yes (∃ s, s ∈ st ∧ Tpart part d c s))) ∧ Below w.heap.size w w' := by
  have HI := Lib.hid (index_turns bs bp bd bc S m sc P n n1 part st d b2 o2 c2 c w h hl hn hc0 hc hn1 hbc hst HM)
  clear h hbc
  go_enter Tryz.func94, Tryz.ntmps94
  go_wp2_with fail
  refine HI.out.mono ?_
  rintro e w2 ⟨⟨r, rfl, hr⟩, hb2⟩
  have HR := Lib.hid (show decide (0 ≤ r) = yes (∃ s, s ∈ st ∧ Tpart part d c s) by
    by_cases h0 : ∃ s, s ∈ st ∧ Tpart part d c s
    · rw [yes_t h0]; exact decide_eq_true (hr.2 h0)
    · rw [yes_f h0]; exact decide_eq_false (fun h1 => h0 (hr.1 h1)))
  have B2 := Lib.hid hb2
  clear hr hb2
  go_wp2
  go_ret
  exact ⟨ret_bool HR.out, B2.out⟩

set_option maxHeartbeats 1000000 in
set_option maxRecDepth 100000 in
theorem least_1 (bs bp bd : Nat) (S : Option Addr) (m sc P n n1 : Nat) (part : List Int) (st : List Nat) (d : Dfa) (b2 o2 c2 c : Nat) (w : World) (h : TEnv w bs bp bd S m sc P n n1 part st d b2 o2 c2) (hl : part.length = n) (hn : n ≤ 64) (hc : c < n1) (hn1 : n1 ≤ 256)
    (hst : ∀ s, s ∈ st → s < n) (HM : Hid ((numI st).length = m)) :
    Calls Tryz.prog 93 #[.int .i64 c, .pointer (some ⟨bs, 0, none⟩), .pointer (some ⟨bp, 0, none⟩), .pointer (some ⟨bd, 0, none⟩)] w fun e w' => e = .returned (.bool (yes (c = 0 ∨ ∃ s, s ∈ st ∧ Tpart part d c s))) ∧ Below w.heap.size w w' := by
  have hW : Below w.heap.size w (w.alloc (.cells #[.int .i64 c] 3)) := (Below.refl _ _).alloc (Nat.le_refl _) _
  have HW := Lib.hid hW
  by_cases h0 : c = 0
  · have HA : Hid (true = yes (c = 0 ∨ ∃ s, s ∈ st ∧ Tpart part d c s)) := Lib.hid (yes_t (.inl h0)).symm
    generalize yes (c = 0 ∨ ∃ s, s ∈ st ∧ Tpart part d c s) = ans at *
    subst h0
    clear h hW
    go_enter Tryz.func93, Tryz.ntmps93
    go_wp2
    go_ret
    exact ⟨ret_bool HA.out, HW.out⟩
  · have h1 : ¬ (c : Int) = 0 := by omega
    have h2 : ((c : Int) == 0) = false := by simp; omega
    have HC := Lib.hid (contains_turns bs bp bd w.heap.size S m sc P n n1 part st d b2 o2 c2 c _ (h.next hW) hl hn (by omega) hc hn1 ((Blk.new w 3 #[.int .i64 c]).cell 0) hst HM)
    have HA : Hid (yes (∃ s, s ∈ st ∧ Tpart part d c s) = yes (c = 0 ∨ ∃ s, s ∈ st ∧ Tpart part d c s)) := Lib.hid (by
      congr 1; exact propext ⟨fun h => .inr h, fun h => h.resolve_left h0⟩)
    have p1 := h.s
    have hbs := World.block_lt_of_cell? _ _ p1
    clear h hW h0
    go_enter Tryz.func93, Tryz.ntmps93
    go_wp2_with fail
    refine HC.out.mono ?_
    rintro e w2 ⟨rfl, hb2⟩
    have B2 := Lib.hid (HW.out.trans (hb2.mono HW.out.size))
    clear hb2
    go_wp2
    go_ret
    exact ⟨ret_bool HA.out, B2.out⟩
end Go.Proofs.YtilhicefhhgecaaGreatDoor

namespace Go.Proofs.YtilhicefhhgecaaGreatDoor
open Go.RowKit Go.Maps Pv

/-- The automaton's box, the parts' and the states', the states, the numbers. M: what was there when the parts were made. -/
structure LIn (w W : World) (M N Bp Bs P n m sc : Nat) (S : Option Addr) (part : List Int) (st : List Nat) (av : Array Value) : Prop where
  a : Blk W w.heap.size TDfa av
  pb : Blk W Bp TLL #[.slice (some ⟨P, 0, none⟩) n n]
  q : Blk W P TLI (rowCs part n)
  sb : Blk W Bs TLL #[.slice S m sc]
  sr : W.ownsRow M TLI 1 (.slice S m sc) m ((numI st).map (Value.int .i64))
  u : NumAt encI okI TNI W M N (ptL part st)
  b : Below w.heap.size w W
  pm : P < M
  wm : w.heap.size + 1 < M
  bp : M ≤ Bp
  bs : M ≤ Bs
section
variable {w W W' : World} {M N Bp Bs P n m sc : Nat} {S : Option Addr} {part : List Int} {st : List Nat} {av : Array Value}
theorem LIn.next (h : LIn w W M N Bp Bs P n m sc S part st av) (hb : Below W.heap.size W W') : LIn w W' M N Bp Bs P n m sc S part st av :=
  ⟨h.a.below hb h.a.lt, h.pb.below hb h.pb.lt, h.q.below hb h.q.lt, h.sb.below hb h.sb.lt, ownsRow_below h.sr hb, h.u.below hb, h.b.trans (hb.mono h.b.size), h.pm, h.wm, h.bp, h.bs⟩
/-- A key's number is asked for. -/
theorem LIn.come (h : LIn w W M N Bp Bs P n m sc S part st av) (ho : Oth TNI W W') (hb : Below M W W') :
    Blk W' w.heap.size TDfa av ∧ Blk W' Bp TLL #[.slice (some ⟨P, 0, none⟩) n n] ∧ Blk W' P TLI (rowCs part n) ∧ Blk W' Bs TLL #[.slice S m sc] ∧ W'.ownsRow M TLI 1 (.slice S m sc) m ((numI st).map (Value.int .i64)) ∧ Below w.heap.size w W' :=
  ⟨ho.blk _ _ _ (by decide) h.a, ho.blk _ _ _ (by decide) h.pb, ho.blk _ _ _ (by decide) h.q, ho.blk _ _ _ (by decide) h.sb, ho.own (by decide) h.sr, h.b.trans (hb.mono (by have := h.wm; omega))⟩
/-- A state more. -/
theorem LIn.push {W2 : World} {t : Nat} {S2 : Option Addr} {sc2 : Nat} (h1 : Blk W w.heap.size TDfa av) (h2 : Blk W Bp TLL #[.slice (some ⟨P, 0, none⟩) n n]) (h3 : Blk W P TLI (rowCs part n)) (h4 : Blk W Bs TLL #[.slice S m sc]) (h5 : W.ownsRow M TLI 1 (.slice S m sc) m ((numI st).map (Value.int .i64))) (h6 : Below w.heap.size w W)
    (hu : NumAt encI okI TNI W M N (ptL part (st ++ [t]))) (hpm : P < M) (hwm : w.heap.size + 1 < M) (hbp : M ≤ Bp) (hbs : M ≤ Bs) (hne : Bp ≠ Bs)
    (own : W2.ownsRow M TLI 1 (.slice S2 (m + 1) sc2) (m + 1) ((numI st).map (Value.int .i64) ++ [.int .i64 (t : Int)])) (gr : (W.alloc (.cells #[.int .i64 (t : Int)] TLI)).grownBy W2 (Value.slice S m sc).ownBlock) :
    LIn w (W2.setCell ⟨Bs, 0, none⟩ (.slice S2 (m + 1) sc2)) M N Bp Bs P n (m + 1) sc2 S2 part (st ++ [t]) av := by
  have hb : Below W.heap.size W (W.alloc (.cells #[.int .i64 (t : Int)] TLI)) := (Below.refl _ _).alloc (Nat.le_refl _) _
  have ow := ownsRow_below h5 hb
  have s4 := (h4.below hb h4.lt).grown gr (own_blk_ne ow (h4.below hb h4.lt) (by decide))
  have hP : some P ≠ (Value.slice S m sc).ownBlock := fun e => by have := (ow.lt P e.symm).1; omega
  refine ⟨((h1.below hb h1.lt).grown gr (own_blk_ne ow (h1.below hb h1.lt) (by decide))).far (p := ⟨Bs, 0, none⟩) (by simp; omega) _, ((h2.below hb h2.lt).grown gr (own_blk_ne ow (h2.below hb h2.lt) (by decide))).far (p := ⟨Bs, 0, none⟩) hne _, ((h3.below hb h3.lt).grown gr hP).far (p := ⟨Bs, 0, none⟩) (by simp; omega) _, s4.set 0 _, ?_, (((hu.below hb).grown ow (by decide) gr).far s4 (by decide)), ((h6.alloc h6.size _).grown gr (by have := h6.size; simp; omega) (fun g hg => by have := (ow.lt g hg).1; omega)).setCell (p := ⟨Bs, 0, none⟩) (by simp; omega) _, hpm, hwm, hbp, hbs⟩
  have e : (numI (st ++ [t])).map (Value.int .i64) = (numI st).map (Value.int .i64) ++ [.int .i64 (t : Int)] := by simp
  rw [e]
  exact ownsRow_setFar own s4 (by decide) _ _
/-- A store into a box of another type than lists. -/
theorem LIn.far {g i : Nat} {v : Value} (h : LIn w W M N Bp Bs P n m sc S part st av) {t : TypeId} {cs : Array Value} (hb : Blk W g t cs) (hg : g ≠ w.heap.size) (hg2 : w.heap.size ≤ g) (h1 : TLL ≠ t) (h2 : TLI ≠ t) (h3 : TNI ≠ t) : LIn w (W.setCell ⟨g, i, none⟩ v) M N Bp Bs P n m sc S part st av :=
  ⟨h.a.far (p := ⟨g, i, none⟩) (Ne.symm hg) v, h.pb.far (p := ⟨g, i, none⟩) (h.pb.ne hb h1) v, h.q.far (p := ⟨g, i, none⟩) (h.q.ne hb h2) v, h.sb.far (p := ⟨g, i, none⟩) (h.sb.ne hb h1) v, ownsRow_setFar h.sr hb h2 i v, h.u.far hb h3, h.b.setCell (p := ⟨g, i, none⟩) hg2 v, h.pm, h.wm, h.bp, h.bs⟩
/-- An append onto numbers that came later. -/
theorem LIn.growI {G k : Nat} {rv : Value} {us : List Value} (h : LIn w W M N Bp Bs P n m sc S part st av) (hr : W.ownsRow G TLI 1 rv k us) (hg : W.grownBy W' rv.ownBlock) (hG : M ≤ G) (hS : ∀ g, (Value.slice S m sc).ownBlock = some g → g < G) : LIn w W' M N Bp Bs P n m sc S part st av := by
  have hP : some P ≠ rv.ownBlock := fun e => by have := (hr.lt P e.symm).1; have := h.pm; omega
  have hs : (Value.slice S m sc).ownBlock = none ∨ (Value.slice S m sc).ownBlock ≠ rv.ownBlock := by
    cases e : (Value.slice S m sc).ownBlock with
    | none => exact .inl rfl
    | some g => exact .inr fun e2 => by have := (hr.lt g e2.symm).1; have := hS g e; omega
  exact ⟨h.a.grown hg (own_blk_ne hr h.a (by decide)), h.pb.grown hg (own_blk_ne hr h.pb (by decide)), h.q.grown hg hP, h.sb.grown hg (own_blk_ne hr h.sb (by decide)), h.sr.kept hg hs, h.u.grown hr (by decide) hg, h.b.grown hg h.b.size (fun g hgg => by have := (hr.lt g hgg).1; have := h.wm; omega), h.pm, h.wm, h.bp, h.bs⟩
/-- An append onto what accepts. -/
theorem LIn.growB {G k : Nat} {rv : Value} {us : List Value} (h : LIn w W M N Bp Bs P n m sc S part st av) (hr : W.ownsRow G 4 1 rv k us) (hg : W.grownBy W' rv.ownBlock) (hG : M ≤ G) : LIn w W' M N Bp Bs P n m sc S part st av :=
  ⟨h.a.grown hg (own_blk_ne hr h.a (by decide)), h.pb.grown hg (own_blk_ne hr h.pb (by decide)), h.q.grown hg (own_blk_ne hr h.q (by decide)), h.sb.grown hg (own_blk_ne hr h.sb (by decide)), h.sr.kept hg (own_ne h.sr hr (by decide)), h.u.grown hr (by decide) hg, h.b.grown hg h.b.size (fun g hgg => by have := (hr.lt g hgg).1; have := h.wm; omega), h.pm, h.wm, h.bp, h.bs⟩
/-- A store into the block of rows. -/
theorem LIn.col {G i : Nat} {v : Value} {cs : Array Value} (h : LIn w W M N Bp Bs P n m sc S part st av) (hb : Blk W G TLL cs) (hG : M ≤ G) (h1 : Bp ≠ G) (h2 : Bs ≠ G) : LIn w (W.setCell ⟨G, i, none⟩ v) M N Bp Bs P n m sc S part st av :=
  ⟨h.a.far (p := ⟨G, i, none⟩) (by have := h.wm; simp; omega) v, h.pb.far (p := ⟨G, i, none⟩) h1 v, h.q.far (p := ⟨G, i, none⟩) (by have := h.pm; simp; omega) v, h.sb.far (p := ⟨G, i, none⟩) h2 v, ownsRow_setFar h.sr hb (by decide) i v, h.u.far hb (by decide), h.b.setCell (p := ⟨G, i, none⟩) (by have := h.wm; simp; omega) v, h.pm, h.wm, h.bp, h.bs⟩
/-- What the closure reads. -/
theorem LIn.env {n1 b2 o2 c2 c1 c3 : Nat} {A1 A3 : Option Addr} {n3 : Nat} {d : Dfa} (h : LIn w W M N Bp Bs P n m sc S part st #[.slice A1 n1 c1, .slice (some ⟨b2, o2, none⟩) n c2, .slice A3 n3 c3]) (hst : ∀ s, s ∈ st → s < n) (hn : n ≤ 1000000) (hm : st.length = m) (hm2 : m ≤ 1000000)
    (hr : ∀ s, s < n → ∃ rb ro rc, rb < w.heap.size ∧ w.cell? ⟨b2, o2 + s, none⟩ = some (.slice (some ⟨rb, ro, none⟩) n1 rc) ∧ ∀ c, c < n1 → w.cell? ⟨rb, ro + c, none⟩ = some (.int .i64 (d.go s c)) ∧ d.go s c < n) : TEnv W Bs Bp w.heap.size S m sc P n n1 part st d b2 o2 c2 := by
  have k := fun b o v (h' : w.cell? ⟨b, o, none⟩ = some v) => ((Keep.of h.b).cell b o (World.block_lt_of_cell? _ _ h')).trans h'
  refine ⟨h.sb.cell 0, h.pb.cell 0, h.q, h.a.cell 1, fun s hs => ?_, ?_⟩
  · obtain ⟨rb, ro, rc, _, h1, h2⟩ := hr s hs
    exact ⟨rb, ro, rc, k _ _ _ h1, fun c hc => ⟨k _ _ _ (h2 c hc).1, (h2 c hc).2⟩⟩
  · exact (own_states h.sr hst hn hm hm2).1
end
end Go.Proofs.YtilhicefhhgecaaGreatDoor

namespace Go.Proofs.YtilhicefhhgecaaGreatDoor
open Go.RowKit Go.Maps Pv

theorem getPt {_d : Dfa} {part : List Int} {n : Nat} (hb : ∀ x, x ∈ part → 0 ≤ x ∧ x ≤ 1000000) (_ : part.length = n) (s : Nat) : 0 ≤ part.getD s 0 ∧ part.getD s 0 ≤ 1000000 := by
  rw [List.getD_eq_getElem?_getD]
  cases e : part[s]? with
  | none => simp
  | some x => exact hb x (mem_of_get e)

set_option maxHeartbeats 8000000 in
set_option maxRecDepth 100000 in
theorem least_least (A1 A2 A3 : Option Addr) (c1 c2 c3 n1 n n3 : Nat) (d : Dfa) (w : World) (H : DfaAt w A1 A2 A3 n1 n n3 d) (hok : d.Ok) :
    Calls Tryz.prog 56 #[.agg #[.slice A1 n1 c1, .slice A2 n c2, .slice A3 n3 c3]] w (LeastPost d w) := by
  obtain ⟨b2, o2, b3, o3, e2, e3, hb2, hb3, e4, hrow, hacc⟩ := H.rows hok
  subst e2; subst e3
  obtain rfl := e4.symm
  have hn : n ≤ 64 := by have := hok.n2; have := H.hn.out; omega
  have hn1 : 1 ≤ n := by have := hok.n1; have := H.hn.out; omega
  have hc : n1 ≤ 256 := by have := hok.c2; have := H.hc.out; omega
  have HNN := H.hn; have HNC := H.hc
  have HD := Lib.hid H
  have HOK := Lib.hid hok; have HR := Lib.hid hrow; have HA := Lib.hid hacc
  obtain ⟨i0, hi0, hz0, hs0, hb0⟩ := info_parts info_int9
  obtain ⟨i1', hi1, hz1, hs1, hb1'⟩ := info_parts info_bool9
  obtain ⟨av, hav⟩ : ∃ av, #[Value.slice A1 n1 c1, .slice (some ⟨b2, o2, none⟩) n c2, .slice (some ⟨b3, o3, none⟩) n c3] = av := ⟨_, rfl⟩
  have KK := blk2 w #[.slice A1 n1 c1, .slice (some ⟨b2, o2, none⟩) n c2, .slice (some ⟨b3, o3, none⟩) n c3] #[.slice none 0 0, .slice none 0 0, .slice none 0 0] TDfa TDfa
  have KA := Lib.hid KK.1; have KO := Lib.hid KK.2
  have HB0 := Lib.hid (((Below.refl w.heap.size w).alloc (Nat.le_refl _) (.cells #[.slice A1 n1 c1, .slice (some ⟨b2, o2, none⟩) n c2, .slice (some ⟨b3, o3, none⟩) n c3] TDfa)).alloc (by simp) (.cells #[.slice none 0 0, .slice none 0 0, .slice none 0 0] TDfa))
  have HPT := Lib.hid (least_parts A1 (some ⟨b2, o2, none⟩) (some ⟨b3, o3, none⟩) c1 c2 c3 n1 n n d _ (H.keep (Keep.of HB0.out)) hok)
  clear hrow hacc H hok KK hav
  go_enter Tryz.func56, Tryz.ntmps56
  go_wp2_with fail
  refine HPT.out.mono ?_
  rintro e w1 ⟨P, part, rfl, hP, hPl, hb1, hpl, hpt, hpb⟩
  have HB1 := Lib.hid (HB0.out.trans (hb1.mono HB0.out.size))
  have HPA := Lib.hid (show PtOk d part from fun s t hs ht => hpt s t (by rw [← HNN.out]; exact hs) (by rw [← HNN.out]; exact ht))
  have HPB := Lib.hid (fun s => getPt (_d := d) hpb hpl s)
  have HPL := Lib.hid hpl; have HBP := Lib.hid hP
  have KA1 := Lib.hid (KA.out.below hb1 KA.out.lt); have KO1 := Lib.hid (KO.out.below hb1 KO.out.lt)
  have hPm : P < w1.heap.size := hP.lt
  have HPM := Lib.hid hPm
  have hWM : w.heap.size + 1 < w1.heap.size := KO1.out.lt
  obtain ⟨p0', hp0'⟩ : ∃ p0', part.getD 0 0 = p0' := ⟨_, rfl⟩
  have x0 := cell_row hP hpl (i := 0) (by omega)
  rw [hp0'] at x0
  -- what stands before the first number is asked for
  have B1 := Blk.new w1 TLL #[.slice (some ⟨P, 0, none⟩) n n]
  have B2 := own_lit (w1.alloc (.cells #[.slice (some ⟨P, 0, none⟩) n n] TLL)) w1.heap.size (.int .i64 0) TLI (by simp)
  rw [show (w1.alloc (.cells #[.slice (some ⟨P, 0, none⟩) n n] TLL)).heap.size = w1.heap.size + 1 by simp] at B2
  have B3 := Blk.new ((w1.alloc (.cells #[.slice (some ⟨P, 0, none⟩) n n] TLL)).alloc (.cells #[.int .i64 0] TLI)) TLL #[.slice (some ⟨w1.heap.size + 1, 0, none⟩) 1 1]
  rw [show ((w1.alloc (.cells #[.slice (some ⟨P, 0, none⟩) n n] TLL)).alloc (.cells #[.int .i64 0] TLI)).heap.size = w1.heap.size + 1 + 1 by simp] at B3
  have B4 := Blk.new (((w1.alloc (.cells #[.slice (some ⟨P, 0, none⟩) n n] TLL)).alloc (.cells #[.int .i64 0] TLI)).alloc (.cells #[.slice (some ⟨w1.heap.size + 1, 0, none⟩) 1 1] TLL)) TNI #[.map none]
  rw [show (((w1.alloc (.cells #[.slice (some ⟨P, 0, none⟩) n n] TLL)).alloc (.cells #[.int .i64 0] TLI)).alloc (.cells #[.slice (some ⟨w1.heap.size + 1, 0, none⟩) 1 1] TLL)).heap.size = w1.heap.size + 1 + 1 + 1 by simp] at B4
  obtain ⟨W0, hW0⟩ : ∃ W0, (((w1.alloc (.cells #[.slice (some ⟨P, 0, none⟩) n n] TLL)).alloc (.cells #[.int .i64 0] TLI)).alloc (.cells #[.slice (some ⟨w1.heap.size + 1, 0, none⟩) 1 1] TLL)).alloc (.cells #[.map none] TNI) = W0 := ⟨_, rfl⟩
  have bb : Below w1.heap.size w1 W0 := by
    rw [← hW0]
    exact ((((Below.refl _ _).alloc (Nat.le_refl _) _).alloc (by simp) _).alloc (by simp; omega) _).alloc (by simp; omega) _
  have HU0 : NumAt encI okI TNI W0 w1.heap.size (w1.heap.size + 1 + 1 + 1) ([] : List Int) := ⟨by omega, .inl ⟨rfl, by rw [← hW0]; exact B4⟩⟩
  have hokp : okI p0' := by have := HPB.out 0; rw [hp0'] at this; unfold okI; omega
  have HNU := Lib.hid (num_int w1.heap.size (w1.heap.size + 1 + 1 + 1) [] p0' W0 HU0 hokp (by simp) bb.size)
  have HBB := Lib.hid bb
  have C1 : Hid (Blk W0 w1.heap.size TLL #[.slice (some ⟨P, 0, none⟩) n n]) := Lib.hid (by rw [← hW0]; exact ((B1.alloc _).alloc _).alloc _)
  have C2 : Hid (W0.ownsRow w1.heap.size TLI 1 (.slice (some ⟨w1.heap.size + 1, 0, none⟩) 1 1) 1 ((numI [0]).map (Value.int .i64))) := Lib.hid (by rw [← hW0]; exact (B2.alloc _).alloc _)
  have C3 : Hid (Blk W0 (w1.heap.size + 1 + 1) TLL #[.slice (some ⟨w1.heap.size + 1, 0, none⟩) 1 1]) := Lib.hid (by rw [← hW0]; exact B3.alloc _)
  have HKY : Hid (addK ([] : List Int) p0' = ptL part [0]) := Lib.hid (by rw [addK_new (by simp), ← hp0']; rfl)
  have x1' := Blk.cell1 C1.out
  have x2' : W0.cell? ⟨P, 0, none⟩ = some (.int .i64 p0') := by rw [← hp0']; exact cell_row (HBP.out.below bb hPm) hpl (by omega)
  clear B1 B2 B3 B4 HU0 hokp bb hp0' hb1 hpl hpt hpb hP
  go_wp2_with fail
  refine HNU.out.mono ?_
  rintro e w2 ⟨rfl, hu, ho, hb2'⟩
  rw [HKY.out] at hu
  have HLI : Hid (LIn w w2 w1.heap.size (w1.heap.size + 1 + 1 + 1) w1.heap.size (w1.heap.size + 1 + 1) P n 1 1 (some ⟨w1.heap.size + 1, 0, none⟩) part [0] #[.slice A1 n1 c1, .slice (some ⟨b2, o2, none⟩) n c2, .slice (some ⟨b3, o3, none⟩) n c3]) := Lib.hid
    ⟨ho.blk _ _ _ (by decide) (KA1.out.below HBB.out KA1.out.lt), ho.blk _ _ _ (by decide) C1.out, ho.blk _ _ _ (by decide) (HBP.out.below HBB.out hPm), ho.blk _ _ _ (by decide) C3.out, ho.own (by decide) C2.out, hu, HB1.out.trans ((HBB.out.trans hb2').mono HB1.out.size), hPm, hWM, Nat.le_refl _, by omega⟩
  have HOX : Hid (Blk w2 (w.heap.size + 1) TDfa #[.slice none 0 0, .slice none 0 0, .slice none 0 0]) := Lib.hid (ho.blk _ _ _ (by decide) (KO1.out.below HBB.out KO1.out.lt))
  clear C1 C2 C3 HKY HNU hu ho hb2' x0 x1' x2' hW0 HBP KA1 KO1 HBB
  go_wp2
  generalize w1.heap.size = M at *
  have HST0 : Hid (stF d (n + 1 - 0) 0 [0] = stA d) := Lib.hid (by rw [← HNN.out]; rfl)
  go_loopw [6] (fun iv W => ∃ (i m sc : Nat) (S : Option Addr) (st : List Nat), iv = .int .i64 i ∧ i ≤ m ∧ m ≤ n ∧ Hid (st.length = m) ∧ Hid (StOk d st) ∧ Hid (stF d (n + 1 - i) i st = stA d) ∧ Hid (LIn w W M (M + 1 + 1 + 1) M (M + 1 + 1) P n m sc S part st #[.slice A1 n1 c1, .slice (some ⟨b2, o2, none⟩) n c2, .slice (some ⟨b3, o3, none⟩) n c3]) ∧
    Hid (Blk W (w.heap.size + 1) TDfa #[.slice none 0 0, .slice none 0 0, .slice none 0 0])) (fun iv _ => n + 1 - (intOf iv).toNat)
  case atStart => exact ⟨0, 1, 1, _, [0], rfl, by omega, by omega, Lib.hid rfl, Lib.hid (StOk.one HOK.out), HST0, HLI, HOX⟩
  case round =>
    clear HST0 HLI HOX
    obtain ⟨i, m, sc, S, st, rfl, him, hmn, HM, HSO, HRE, HI, HOX⟩ := hrel
    have i1 : (0 : Int) ≤ (i : Int) := by omega
    obtain ⟨p0, p1, p2, _, _, _⟩ := Blk.three HI.out.a
    have hN := HI.out.a.lt
    have q0 := Blk.cell1 HI.out.sb
    have hltS := HI.out.sb.lt
    by_cases hlt : i < m
    · have i2 : (i : Int) < (m : Int) := by omega
      obtain ⟨hat, hmc⟩ := own_states HI.out.sr (fun x hx => by have := HSO.out.lt x hx; rwa [HNN.out] at this) (by omega : n ≤ 1000000) HM.out (by omega)
      obtain ⟨bm, om, um, xm, eS, hbm, cm, ⟨rfl, _, _⟩, HXM⟩ := hat.gt (n := m) (Lib.hid (by simp; exact HM.out)) hlt
      subst eS
      obtain ⟨s, hs, rfl⟩ : ∃ s : Nat, st[i]? = some s ∧ (s : Int) = xm := by
        have h1 := HXM.out
        rw [List.getElem?_map] at h1
        obtain ⟨y, h2, h3⟩ := Option.map_eq_some_iff.1 h1
        exact ⟨y, h2, h3⟩
      have HSI := Lib.hid hs
      have hsn : s < n := by have := HSO.out.lt s (mem_of_get hs); rwa [HNN.out] at this
      obtain ⟨rb, ro, rc, hrb, k1, k2⟩ := HR.out s hsn
      have HK2 := Lib.hid k2
      have k1 := ((Keep.of HI.out.b).cell _ _ hb2).trans k1
      have s0 : (0 : Int) ≤ (s : Int) := by omega
      have s1 : (s : Int) < (n : Int) := by omega
      have HRE2 : Hid (stF d (n - i) (i + 1) (rowT d s st d.cuts.length) = stA d) := Lib.hid (by
        rw [← HRE.out, show n + 1 - i = (n - i) + 1 by omega, stF_row HSI.out])
      clear k2 hs hat HXM
      go_wp2
      go_quiet (fail)
      rename_i nq
      go_wp2
      have HID := Lib.hid (HI.out.next (below_drewN (Below.refl _ _) nq))
      have HOD := Lib.hid (HOX.out.below (below_drewN (Below.refl _ _) nq) HOX.out.lt)
      clear p0 p1 p2 hN q0 hltS cm hbm k1
      go_loopw [38] (fun cv W => ∃ (c m sc : Nat) (S : Option Addr), cv = .int .i64 c ∧ c ≤ n1 ∧ i < m ∧ m ≤ n ∧ Hid ((rowT d s st c).length = m) ∧ Hid (LIn w W M (M + 1 + 1 + 1) M (M + 1 + 1) P n m sc S part (rowT d s st c) #[.slice A1 n1 c1, .slice (some ⟨b2, o2, none⟩) n c2, .slice (some ⟨b3, o3, none⟩) n c3]) ∧
        Hid (Blk W (w.heap.size + 1) TDfa #[.slice none 0 0, .slice none 0 0, .slice none 0 0])) (fun cv _ => n1 - (intOf cv).toNat)
      case atStart => exact ⟨0, m, sc, _, rfl, by omega, hlt, hmn, HM, HID, HOD⟩
      case round =>
        clear HM HID HOD HI HOX him hmn hlt i2 HRE
        obtain ⟨c, m, sc, S, rfl, hcn, him, hmn, HM, HI, HOX⟩ := hrel
        have i3 : (0 : Int) ≤ (c : Int) := by omega
        have hbS : M < M + 1 + 1 := by omega
        by_cases hc1 : c < n1
        · have i4 : (c : Int) < (n1 : Int) := by omega
          have hcd : c < d.cuts.length := by rw [HNC.out]; exact hc1
          have hsd : s < d.next.length := by rw [HNN.out]; exact hsn
          obtain ⟨k3, k4⟩ := HK2.out c hc1
          have k3 := ((Keep.of HI.out.b).cell _ _ (World.block_lt_of_cell? _ _ k3)).trans k3
          obtain ⟨t, ht⟩ : ∃ t, d.go s c = t := ⟨_, rfl⟩
          have HT := Lib.hid ht
          rw [ht] at k3 k4
          have t0 : (0 : Int) ≤ (t : Int) := by omega
          have t1 : (t : Int) < (n : Int) := by omega
          have htd : t < d.next.length := by rw [HNN.out]; exact k4
          have hst := rowT_ok HOK.out HSO.out hsd c (by omega)
          have hstn : ∀ x, x ∈ rowT d s st c → x < d.next.length := hst.lt
          have x1 := cell_row HI.out.q HPL.out k4
          have q1 := Blk.cell1 HI.out.pb; have q2 := Blk.cell1 HI.out.sb
          have hM := HI.out.wm
          have hsb := HI.out.sb.lt
          have HIW := Lib.hid (HI.out.next (Below.refl _ _).drew)
          have hadd := ptL_add HPA.out hstn htd
          have HSC : Hid (rowT d s st (c + 1) = addT d (rowT d s st c) t) := Lib.hid (by rw [rowT_succ, HT.out])
          have hnum := num_int M (M + 1 + 1 + 1) (ptL part (rowT d s st c)) (part.getD t 0) wr.drew HIW.out.u (by have := HPB.out t; unfold okI; omega) (by rw [ptL, List.length_map, HM.out]; omega) (by have : wr.drew.heap.size = wr.heap.size := rfl; omega)
          unfold OfPost at hnum
          rw [hadd] at hnum
          obtain ⟨pt, hpt⟩ : ∃ pt, part.getD t 0 = pt := ⟨_, rfl⟩
          rw [hpt] at hnum x1
          obtain ⟨num, hnm⟩ : ∃ num, (ptL part (addT d (rowT d s st c) t)).idxOf pt = num := ⟨_, rfl⟩
          rw [hnm] at hnum
          have HNU := Lib.hid hnum
          have HADD := Lib.hid hadd
          have HNM : Hid ((rep d t ∈ (rowT d s st c).map (rep d) ∧ num < m) ∨ (rep d t ∉ (rowT d s st c).map (rep d) ∧ num = m)) := Lib.hid (by
            rw [← hnm, ← hadd, ← hpt, ← HM.out]
            by_cases e : rep d t ∈ (rowT d s st c).map (rep d)
            · exact .inl ⟨e, ptL_idx_in HPA.out hstn htd e⟩
            · exact .inr ⟨e, ptL_idx_new HPA.out hstn htd e⟩)
          have HST := Lib.hid hst
          have HTN := Lib.hid k4
          clear ht htd hstn hst hadd hpt hnm hnum
          have HS : Hid (wr.drew.cell? ⟨M, 0, none⟩ = some (.slice (some ⟨P, 0, none⟩) n n) ∧ wr.drew.cell? ⟨P, t, none⟩ = some (.int .i64 pt) ∧ wr.drew.cell? ⟨M + 1 + 1, 0, none⟩ = some (.slice S m sc)) := Lib.hid ⟨q1, x1, q2⟩
          go_wp2
          refine wp_region_T 7 (fun W => W.cell? ⟨M, 0, none⟩ = some (.slice (some ⟨P, 0, none⟩) n n) ∧ W.cell? ⟨P, t, none⟩ = some (.int .i64 pt) ∧ W.cell? ⟨M + 1 + 1, 0, none⟩ = some (.slice S m sc)) (by kernel_rfl) ?_
          clear q1 x1 q2 k3 hsb
          have HOW := Lib.hid (HOX.out.below (Below.refl _ _).drew HOX.out.lt)
          generalize wr.drew = W at *
          refine wpAnyT_takeC (i := 0) [7, 4, 3, 2] (v := ?_) rfl (by kernel_rfl) (by kernel_rfl) (by kernel_rfl) (by kernel_rfl) (by kernel_rfl) (by kernel_rfl) (fun _ _ _ h => h) (.inl ⟨rfl, ?_⟩) HS.out ?_
          rotate_left
          · intro W__ hW__
            obtain ⟨h1, h2, h3⟩ := hW__
            go_simp
            (try with_reducible rfl)
          try simp only [Act.put]
          refine wpAnyT_takeC (i := 1) [7, 4, 3, 2] (v := ?_) rfl (by kernel_rfl) (by kernel_rfl) (by kernel_rfl) (by kernel_rfl) (by kernel_rfl) (by kernel_rfl) (fun _ _ _ h => h) (.inl ⟨rfl, ?_⟩) HS.out ?_
          rotate_left
          · intro W__ hW__
            obtain ⟨h1, h2, h3⟩ := hW__
            go_simp
            (try with_reducible rfl)
          try simp only [Act.put]
          refine wpAnyT_takeC (i := 2) [7, 4, 3] (v := ?_) rfl (by kernel_rfl) (by kernel_rfl) (by kernel_rfl) (by kernel_rfl) (by kernel_rfl) (by kernel_rfl) (fun _ _ _ h => h) (.inl ⟨rfl, ?_⟩) HS.out ?_
          rotate_left
          · intro W__ hW__
            obtain ⟨h1, h2, h3⟩ := hW__
            go_simp
            (try with_reducible rfl)
          try simp only [Act.put]
          refine wpAnyT_takeC (i := 3) [7, 4] (v := ?_) rfl (by kernel_rfl) (by kernel_rfl) (by kernel_rfl) (by kernel_rfl) (by kernel_rfl) (by kernel_rfl) (fun _ _ _ h => h) (.inl ⟨rfl, ?_⟩) HS.out ?_
          rotate_left
          · intro W__ hW__
            obtain ⟨h1, h2, h3⟩ := hW__
            go_simp
            (try with_reducible rfl)
          try simp only [Act.put]
          refine wpAnyT_takeC (i := 5) [7, 6] (v := ?_) rfl (by kernel_rfl) (by kernel_rfl) (by kernel_rfl) (by kernel_rfl) (by kernel_rfl) (by kernel_rfl) (fun _ _ _ h => h) (.inl ⟨rfl, ?_⟩) HS.out ?_
          rotate_left
          · intro W__ hW__
            obtain ⟨h1, h2, h3⟩ := hW__
            go_simp
            (try with_reducible rfl)
          try simp only [Act.put]
          refine wpAnyT_takeC (i := 6) [7] (v := ?_) rfl (by kernel_rfl) (by kernel_rfl) (by kernel_rfl) (by kernel_rfl) (by kernel_rfl) (by kernel_rfl) (fun _ _ _ h => h) (.inl ⟨rfl, ?_⟩) HS.out ?_
          rotate_left
          · intro W__ hW__
            obtain ⟨h1, h2, h3⟩ := hW__
            go_simp
            (try with_reducible rfl)
          try simp only [Act.put]
          refine wpAnyT_one (i := 4) rfl (by kernel_rfl) rfl fun K__ hK__ => ?_
          unfold Oper.wp
          go_simp
          refine HNU.out.mono ?_
          rintro e w5 ⟨rfl, hu, ho, hb5⟩
          have HB5 := Lib.hid hb5
          obtain ⟨g1, g2, g3, g4, g5, g6⟩ := HIW.out.come ho hb5
          have HO5 := Lib.hid (ho.blk _ _ _ (by decide) HOW.out)
          refine hK__ _ _ ⟨Blk.cell1 g2, (g3.cell t).trans (((HIW.out.q.cell t).symm).trans HS.out.2.1), Blk.cell1 g4⟩ ?_
          clear hK__
          have HU5 := Lib.hid hu; have G1 := Lib.hid g1; have G2 := Lib.hid g2; have G3 := Lib.hid g3; have G4 := Lib.hid g4; have G5 := Lib.hid g5; have G6 := Lib.hid g6
          have q3 := Blk.cell1 g4
          have hsb := g4.lt
          clear hu ho hb5 g1 g2 g3 g4 g5 g6
          refine wpAnyT_end (i := 7) rfl (by kernel_rfl) rfl (by kernel_rfl) fun K__ hK__ => ?_
          unfold Oper.wp
          go_simp
          refine hK__ _ _ ?_
          clear hK__
          refine wpAnyT_done (by kernel_rfl) ?_ _
          rcases HNM.out with ⟨e1, e2⟩ | ⟨e1, e2⟩
          · have g1 : ((num : Int) == (m : Int)) = false := by simp; omega
            have HE : Hid (rowT d s st (c + 1) = rowT d s st c) := Lib.hid (by rw [HSC.out, addT_in e1])
            have HIN : Hid (LIn w w5 M (M + 1 + 1 + 1) M (M + 1 + 1) P n m sc S part (rowT d s st (c + 1)) #[.slice A1 n1 c1, .slice (some ⟨b2, o2, none⟩) n c2, .slice (some ⟨b3, o3, none⟩) n c3]) := Lib.hid (by
              rw [HE.out]
              have hu := HU5.out
              rw [addT_in e1] at hu
              exact ⟨G1.out, G2.out, G3.out, G4.out, G5.out, hu, G6.out, HPM.out, hM, Nat.le_refl _, by omega⟩)
            clear e1 e2
            go_wp2
            go_roundw
            case rel => exact ⟨c + 1, m, sc, S, by go_num, by omega, him, hmn, Lib.hid (by rw [HE.out]; exact HM.out), HIN, HO5⟩
            case measure => simp [intOf]; omega
          · have g1 : ((num : Int) == (m : Int)) = true := by simp; omega
            have HE : Hid (rowT d s st (c + 1) = rowT d s st c ++ [t]) := Lib.hid (by rw [HSC.out, addT_new e1])
            have hu := HU5.out
            rw [addT_new e1] at hu
            have HU6 := Lib.hid hu
            have hmn2 : m + 1 ≤ n := by
              have h1 := (rowT_ok HOK.out HSO.out hsd (c + 1) (by omega)).len
              rw [HE.out, List.length_append, HM.out, HNN.out] at h1
              simpa using h1
            have OWA := Lib.hid (G5.out.alloc (.cells #[.int .i64 (t : Int)] TLI))
            have SRA := Lib.hid (Pv.Src.one (w := w5) (x := .int .i64 (t : Int)) (t := TLI) rfl)
            have Q1 : Hid (m + 1 ≤ maxLen) := Lib.hid (by simp only [maxLen]; omega)
            have Q2 : Hid ((m + 1) * 8 ≤ 140737488355328) := Lib.hid (by omega)
            have Z1 : Hid (M ≤ (w5.alloc (.cells #[.int .i64 (t : Int)] TLI)).heap.size) := Lib.hid (by simp; omega)
            have G4A := Lib.hid (G4.out.alloc (.cells #[.int .i64 (t : Int)] TLI))
            have HOA := Lib.hid (HO5.out.alloc (.cells #[.int .i64 (t : Int)] TLI))
            clear hu e1 e2
            go_wp2_with (first
            | (at_builtin
               go_must (refine wpList_append_src _ rfl (.tmp 50) (.tmp 52) 22 rfl M TLI i0 (.int .i64 0) 1 8 Tryz.underlying22 hi0 hz0 hs0 hb0 rfl (by decide) S sc m _ rfl OWA.out _ 1 1 _ rfl SRA.out Q1.out Q2.out Z1.out ?_)
               intro A9 c9 w9 own9 gr9 _
               have HI9 := Lib.hid (LIn.push (t := t) G1.out G2.out G3.out G4.out G5.out G6.out HU6.out HPM.out hM (Nat.le_refl _) (by omega) (by omega) own9 gr9)
               have hO9 := HOA.out.grown gr9 (own_blk_ne OWA.out HOA.out (by decide))
               have HO9 := Lib.hid (hO9.far (p := ⟨M + 1 + 1, 0, none⟩) (by simp; omega) (.slice A9 (m + 1) c9))
               have s4 := G4A.out.grown gr9 (own_blk_ne OWA.out G4A.out (by decide))
               have s5 := Blk.cell1 s4; have s6 := Blk.frz1 s4
               clear own9 gr9 hO9 s4))
            go_roundw
            case rel => exact ⟨c + 1, m + 1, c9, A9, by go_num, by omega, by omega, hmn2, Lib.hid (by rw [HE.out, List.length_append, HM.out]; rfl), Lib.hid (by rw [HE.out]; exact HI9.out), HO9⟩
            case measure => simp [intOf]; omega
        · obtain rfl : n1 = c := by omega
          have hsd : s < d.next.length := by rw [HNN.out]; exact hsn
          have HST := Lib.hid (rowT_ok HOK.out HSO.out hsd n1 (by rw [HNC.out]; exact Nat.le_refl _))
          have HRE3 : Hid (stF d (n + 1 - (i + 1)) (i + 1) (rowT d s st n1) = stA d) := Lib.hid (by
            have h := HRE2.out
            rw [HNC.out] at h
            rw [show n + 1 - (i + 1) = n - i by omega]
            exact h)
          go_wp2
          go_roundw
          case rel => exact ⟨i + 1, m, sc, S, rowT d s st n1, by go_num, by omega, hmn, HM, HST, HRE3, HI, HOX⟩
          case measure => simp [intOf]; omega
    · have hmi : m = i := by omega
      have HSA : Hid (st = stA d) := Lib.hid (by rw [← HRE.out]; exact (stF_end (by rw [HM.out, hmi]; exact Nat.le_refl _)).symm)
      have g0 : ¬ (i : Int) < (m : Int) := by omega
      have g1 : (m : Int) ≤ (i : Int) := by omega
      have hm2 := fun W : World => run_make_row' (P := Tryz.prog) 23 22 (.slice none 0 0) 24 Tryz.underlying23 info_ints9 rfl .i64 .i64 m (by omega) (by omega) W
      have HSL : Hid (∀ g, (Value.slice S m sc).ownBlock = some g → g < wr.heap.size) := Lib.hid (fun g hg => (HI.out.sr.lt g hg).2)
      have hGM : M + 1 + 1 < wr.heap.size := HI.out.sb.lt
      have hWL : w.heap.size + 1 < wr.heap.size := HOX.out.lt
      obtain ⟨z0, z1, z2, zf0, zf1, zf2⟩ := Blk.three HOX.out
      obtain ⟨hat, hmc⟩ := own_states HI.out.sr (fun x hx => by have := HSO.out.lt x hx; rwa [HNN.out] at this) (by omega : n ≤ 1000000) HM.out (by omega)
      obtain ⟨W0, hW0⟩ : ∃ W0, (wr.setCell ⟨w.heap.size + 1, 1, none⟩ (.slice (some ⟨wr.heap.size, 0, none⟩) m m)).alloc (.cells (madeCells #[.slice none 0 0] m) TLL) = W0 := ⟨_, rfl⟩
      have es : (wr.setCell ⟨w.heap.size + 1, 1, none⟩ (.slice (some ⟨wr.heap.size, 0, none⟩) m m)).heap.size = wr.heap.size := by simp [World.setCell]
      have BG := Blk.new (wr.setCell ⟨w.heap.size + 1, 1, none⟩ (.slice (some ⟨wr.heap.size, 0, none⟩) m m)) TLL (madeCells #[.slice none 0 0] m)
      rw [es, hW0] at BG
      have bs : Below (wr.setCell ⟨w.heap.size + 1, 1, none⟩ (.slice (some ⟨wr.heap.size, 0, none⟩) m m)).heap.size (wr.setCell ⟨w.heap.size + 1, 1, none⟩ (.slice (some ⟨wr.heap.size, 0, none⟩) m m)) W0 := by
        rw [← hW0]; exact (Below.refl _ _).alloc (Nat.le_refl _) _
      have HI0 : Hid (LIn w W0 M (M + 1 + 1 + 1) M (M + 1 + 1) P n m sc S part st #[.slice A1 n1 c1, .slice (some ⟨b2, o2, none⟩) n c2, .slice (some ⟨b3, o3, none⟩) n c3]) := Lib.hid ((HI.out.far (i := 1) HOX.out (by omega) (by omega) (by decide) (by decide) (by decide)).next bs)
      have HD0 : Hid (Blk W0 (w.heap.size + 1) TDfa #[.slice none 0 0, .slice (some ⟨wr.heap.size, 0, none⟩) m m, .slice none 0 0]) := Lib.hid ((HOX.out.set 1 (.slice (some ⟨wr.heap.size, 0, none⟩) m m)).below bs (HOX.out.set 1 _).lt)
      have HC0 : Hid (Cols W0 wr.heap.size wr.heap.size m none (colF d (clsN d (metL d) 0))) := Lib.hid ((Cols.made BG (Nat.le_refl _)).congr fun i _ => by simp [colF, clsN])
      have w0 := HI0.out.a.cell 0
      simp only [List.getElem?_toArray, List.getElem?_cons_zero] at w0
      clear hmi HRE bs BG es hmc
      go_wp2
      clear hW0 g0 g1 z0 z1 z2 zf0 zf1 zf2 p0 p1 p2 hN q0 hltS w0 hlt him HI HOX
      obtain ⟨w8, rfl⟩ : ∃ w8, w8 = wr := ⟨_, rfl⟩
      generalize w8.heap.size = G at *
      have HML : Hid ((metL d).length = m) := Lib.hid (by rw [← stA_map, List.length_map, ← HSA.out]; exact HM.out)
      go_loopw [63] (fun cv W => ∃ (c q vc : Nat) (Av : Option Addr), cv = .int .i64 c ∧ c ≤ n1 ∧ q ≤ c ∧ Hid ((clsN d (metL d) c).length = q) ∧ Hid (Blk W (w.heap.size + 1) TDfa #[.slice Av q vc, .slice (some ⟨G, 0, none⟩) m m, .slice none 0 0]) ∧
        Hid (W.ownsRow G TLI 1 (.slice Av q vc) q (((clsN d (metL d) c).map fun c => d.cuts.getD c 0).map (Value.int .i64))) ∧ Hid (Cols W G G m (Value.slice Av q vc).ownBlock (colF d (clsN d (metL d) c))) ∧
        Hid (LIn w W M (M + 1 + 1 + 1) M (M + 1 + 1) P n m sc S part st #[.slice A1 n1 c1, .slice (some ⟨b2, o2, none⟩) n c2, .slice (some ⟨b3, o3, none⟩) n c3])) (fun cv _ => n1 - (intOf cv).toNat)
      case atStart => exact ⟨0, 0, 0, none, rfl, by omega, by omega, Lib.hid rfl, HD0, Lib.hid (World.ownsRow_nil _ _ _ _), HC0, HI0⟩
      case round =>
        clear HD0 HC0 HI0
        obtain ⟨c, q, vc, Av, rfl, hcn, hqc, HQ, HDB, HCU, HCO, HI⟩ := hrel
        have i3 : (0 : Int) ≤ (c : Int) := by omega
        obtain ⟨p0, p1, p2, _, _, _⟩ := Blk.three HI.out.a
        have hN := HI.out.a.lt
        have hGl := HCO.out.lt
        have hSN : ∀ x, x ∈ st → x < n := fun x hx => by have := HSO.out.lt x hx; rwa [HNN.out] at this
        by_cases hc1 : c < n1
        · have i4 : (c : Int) < (n1 : Int) := by omega
          have hcd : c < d.cuts.length := by rw [HNC.out]; exact hc1
          obtain ⟨b4, o4, u4, y, eA1, hb4, cc4, ⟨rfl, hy1, hy2⟩, HY⟩ := HD.out.c.gt HNC hc1
          have HYD : Hid (d.cuts.getD c 0 = y) := Lib.hid (by rw [List.getD_eq_getElem?_getD, HY.out]; rfl)
          subst eA1
          have k0 := ((Keep.of HI.out.b).cell _ _ hb4).trans cc4
          have hl1 := least_1 (M + 1 + 1) M w.heap.size S m sc P n n1 part st d b2 o2 c2 c wr (HI.out.env hSN (by omega) HM.out (by omega) HR.out) HPL.out hn hc1 hc hSN (Lib.hid (by simp; exact HM.out))
          obtain ⟨tb, htb⟩ : ∃ tb, yes (TurnsC d (metL d) c) = tb := ⟨_, rfl⟩
          have hyes : yes (c = 0 ∨ ∃ s, s ∈ st ∧ Tpart part d c s) = tb := by
            rw [← htb]
            congr 1
            refine propext (Iff.trans ?_ (turns_pt HPA.out HOK.out hcd))
            rw [HSA.out]; rfl
          rw [hyes] at hl1
          have HTB := Lib.hid htb
          have HL1 := Lib.hid hl1
          clear htb hyes hl1 cc4 hb4
          go_wp2_with fail
          refine HL1.out.mono ?_
          rintro e w5 ⟨rfl, hb5⟩
          have HI5 := Lib.hid (HI.out.next hb5)
          have HD5 := Lib.hid (HDB.out.below hb5 HDB.out.lt)
          have HU5 := Lib.hid (ownsRow_below HCU.out hb5)
          have HC5 := Lib.hid (HCO.out.below hb5)
          clear hb5 p0 p1 p2 hN k0 hGl HL1
          obtain ⟨p0, p1, p2, _, _, _⟩ := Blk.three HI5.out.a
          have hN := HI5.out.a.lt
          cases tb
          case false =>
            have HE : Hid (clsN d (metL d) (c + 1) = clsN d (metL d) c) := Lib.hid (by rw [clsN_succ, HTB.out, if_neg (by simp)])
            go_wp2
            go_roundw
            case rel => exact ⟨c + 1, q, vc, Av, by go_num, by omega, by omega, Lib.hid (by rw [HE.out]; exact HQ.out), HD5, Lib.hid (by rw [HE.out]; exact HU5.out), Lib.hid (by rw [HE.out]; exact HC5.out), HI5⟩
            case measure => simp [intOf]; omega
          case true =>
            have HE : Hid (clsN d (metL d) (c + 1) = clsN d (metL d) c ++ [c]) := Lib.hid (by rw [clsN_succ, HTB.out, if_pos rfl])
            have OWA := Lib.hid (HU5.out.alloc (.cells #[.int .i64 y] TLI))
            have SRA := Lib.hid (Pv.Src.one (w := w5) (x := .int .i64 y) (t := TLI) rfl)
            have Q1 : Hid (q + 1 ≤ maxLen) := Lib.hid (by simp only [maxLen]; omega)
            have Q2 : Hid ((q + 1) * 8 ≤ 140737488355328) := Lib.hid (by omega)
            have hG5 := HC5.out.lt
            have Z1 : Hid (G ≤ (w5.alloc (.cells #[.int .i64 y] TLI)).heap.size) := Lib.hid (by simp; omega)
            have BA := Lib.hid ((Below.refl w5.heap.size w5).alloc (Nat.le_refl _) (.cells #[.int .i64 y] TLI))
            have HIA := Lib.hid (HI5.out.next BA.out)
            have HDA := Lib.hid (HD5.out.below BA.out HD5.out.lt)
            have HCA := Lib.hid (HC5.out.below BA.out)
            obtain ⟨z0, z1, z2, _, _, _⟩ := Blk.three HD5.out
            have HBSL : Hid (M + 1 + 1 < G ∧ w.heap.size + 1 < G) := Lib.hid ⟨hGM, hWL⟩
            go_wp2_with (first
            | (at_builtin
               go_must (refine wpList_append_src _ rfl (.tmp 73) (.tmp 75) 22 rfl G TLI i0 (.int .i64 0) 1 8 Tryz.underlying22 hi0 hz0 hs0 hb0 rfl (by decide) Av vc q _ rfl OWA.out _ 1 1 _ rfl SRA.out Q1.out Q2.out Z1.out ?_)
               intro A9 c9 w9 own9 gr9 hn9
               have hi9 := HIA.out.growI OWA.out gr9 (by omega) HSL.out
               have hd9 := HDA.out.grown gr9 (own_blk_ne OWA.out HDA.out (by decide))
               have hc9 := Cols.row (rv' := .slice A9 (q + 1) c9) HCA.out OWA.out gr9 hn9
               have HI9 := Lib.hid (hi9.far (i := 0) (v := .slice A9 (q + 1) c9) hd9 (by omega) (by omega) (by decide) (by decide) (by decide))
               have HD9 := Lib.hid (hd9.set 0 (.slice A9 (q + 1) c9))
               have HC9 := Lib.hid (hc9.far (i := 0) (u := .slice A9 (q + 1) c9) hd9 (by decide) (by decide))
               have HU9 := Lib.hid (ownsRow_setFar own9 hd9 (by decide) 0 (.slice A9 (q + 1) c9))
               obtain ⟨y0, y1, y2, yf0, yf1, yf2⟩ := Blk.three hd9
               have s5 := Blk.cell1 hi9.sb
               have s6 := hi9.sb.lt
               have s7 := hd9.lt
               clear own9 gr9 hn9 hi9 hd9 hc9))
            have HU9' : Hid ((w9.setCell ⟨w.heap.size + 1, 0, none⟩ (.slice A9 (q + 1) c9)).ownsRow G TLI 1 (.slice A9 (q + 1) c9) (q + 1) (((clsN d (metL d) (c + 1)).map fun c => d.cuts.getD c 0).map (Value.int .i64))) := Lib.hid (by
              rw [HE.out, List.map_append, List.map_append]; simp only [List.map_cons, List.map_nil, HYD.out]; exact HU9.out)
            have HC9' : Hid (Cols (w9.setCell ⟨w.heap.size + 1, 0, none⟩ (.slice A9 (q + 1) c9)) G G m (Value.slice A9 (q + 1) c9).ownBlock (fun j => if j < 0 then colF d (clsN d (metL d) (c + 1)) j else colF d (clsN d (metL d) c) j)) := Lib.hid (HC9.out.congr fun j _ => by rw [if_neg (by omega)])
            clear y0 y1 y2 yf0 yf1 yf2 s5 s6 s7 HC9 HU9 HIA HDA HCA BA Z1 SRA OWA HC5 HU5 HD5 HI5 HCO HCU HDB HI z0 z1 z2 p0 p1 p2 hN hG5
            go_loopw [80] (fun iv W => ∃ i : Nat, iv = .int .i64 i ∧ i ≤ m ∧ Hid (Blk W (w.heap.size + 1) TDfa #[.slice A9 (q + 1) c9, .slice (some ⟨G, 0, none⟩) m m, .slice none 0 0]) ∧
              Hid (W.ownsRow G TLI 1 (.slice A9 (q + 1) c9) (q + 1) (((clsN d (metL d) (c + 1)).map fun c => d.cuts.getD c 0).map (Value.int .i64))) ∧ Hid (Cols W G G m (Value.slice A9 (q + 1) c9).ownBlock (fun j => if j < i then colF d (clsN d (metL d) (c + 1)) j else colF d (clsN d (metL d) c) j)) ∧
              Hid (LIn w W M (M + 1 + 1 + 1) M (M + 1 + 1) P n m sc S part st #[.slice (some ⟨b4, o4, none⟩) n1 c1, .slice (some ⟨b2, o2, none⟩) n c2, .slice (some ⟨b3, o3, none⟩) n c3])) (fun iv _ => m - (intOf iv).toNat)
            case atStart => exact ⟨0, rfl, by omega, HD9, HU9', HC9', HI9⟩
            case round =>
              clear HD9 HU9' HC9' HI9
              obtain ⟨i, rfl, him, HDB, HCU, HCO, HI⟩ := hrel
              have j1 : (0 : Int) ≤ (i : Int) := by omega
              by_cases hlt : i < m
              · have j2 : (i : Int) < (m : Int) := by omega
                obtain ⟨hat, _⟩ := own_states HI.out.sr hSN (by omega : n ≤ 1000000) HM.out (by omega)
                obtain ⟨bm, om, um, xm, eS, hbm, cm, ⟨rfl, _, _⟩, HXM⟩ := hat.gt (n := m) (Lib.hid (by simp; exact HM.out)) hlt
                subst eS
                obtain ⟨s, hs, rfl⟩ : ∃ s : Nat, st[i]? = some s ∧ (s : Int) = xm := by
                  have h1 := HXM.out
                  rw [List.getElem?_map] at h1
                  obtain ⟨y, h2, h3⟩ := Option.map_eq_some_iff.1 h1
                  exact ⟨y, h2, h3⟩
                have HSI := Lib.hid hs
                have hsn : s < n := hSN s (mem_of_get hs)
                obtain ⟨rb, ro, rc, hrb, k1, k2⟩ := HR.out s hsn
                obtain ⟨k3, k4⟩ := k2 c hc1
                obtain ⟨t, ht⟩ : ∃ t, d.go s c = t := ⟨_, rfl⟩
                rw [ht] at k3 k4
                have HK1 := Lib.hid k1; have HK3 := Lib.hid k3
                have s0 : (0 : Int) ≤ (s : Int) := by omega
                have s1 : (s : Int) < (n : Int) := by omega
                have t0 : (0 : Int) ≤ (t : Int) := by omega
                have t1 : (t : Int) < (n : Int) := by omega
                have htd : t < d.next.length := by rw [HNN.out]; exact k4
                obtain ⟨pt, hpt⟩ : ∃ pt, part.getD t 0 = pt := ⟨_, rfl⟩
                obtain ⟨pl, hpl⟩ : ∃ pl, (metL d).idxOf (rep d t) = pl := ⟨_, rfl⟩
                have e1 : rep d t ∈ st.map (rep d) := by rw [HSA.out, ← ht]; exact stA_mem HOK.out (by rw [← HSA.out]; exact mem_of_get hs) hcd
                have e2 := ptL_num HPA.out HSO.out.lt htd e1
                have e3 : (st.map (rep d)).idxOf (rep d t) = pl := by rw [HSA.out, stA_map]; exact hpl
                rw [hpt, e3] at e2
                have hokp : okI pt := by have := HPB.out t; rw [hpt] at this; unfold okI; omega
                have HPT2 := Lib.hid hpt; have HPL2 := Lib.hid hpl; have HGT := Lib.hid ht
                obtain ⟨f, hf⟩ : ∃ f, (fun j => if j < i then colF d (clsN d (metL d) (c + 1)) j else colF d (clsN d (metL d) c) j) = f := ⟨_, rfl⟩
                rw [hf] at HCO
                have HF := Lib.hid hf
                have HFI : Hid (f i = colF d (clsN d (metL d) c) i) := Lib.hid (by rw [← hf]; exact if_neg (by omega))
                have hfl : (f i).length = q := by rw [HFI.out, colF_len]; exact HQ.out
                obtain ⟨Ri, rci, xg, xf, hrow, hoff⟩ := HCO.out.get hlt hfl
                have HROW := Lib.hid hrow; have HOFF := Lib.hid hoff; have HFL := Lib.hid hfl
                have HIW := Lib.hid (HI.out.next (Below.refl _ _).drew)
                have HDW := Lib.hid (HDB.out.below (Below.refl _ _).drew HDB.out.lt)
                have HUW := Lib.hid (ownsRow_drew HCU.out)
                have HCW := Lib.hid (HCO.out.below (Below.refl _ _).drew)
                have HRW := Lib.hid (ownsRow_drew hrow)
                have HNU := Lib.hid (num_int_in M (M + 1 + 1 + 1) pl (ptL part st) pt wr.drew HIW.out.u hokp e2)
                have Q1 : Hid (q + 1 ≤ maxLen) := Lib.hid (by simp only [maxLen]; omega)
                have Q2 : Hid ((q + 1) * 8 ≤ 140737488355328) := Lib.hid (by omega)
                have kw := Keep.of HIW.out.b
                have HS : Hid (wr.drew.cell? ⟨w.heap.size + 1, 1, none⟩ = some (.slice (some ⟨G, 0, none⟩) m m) ∧ wr.drew.cell? ⟨G, i, none⟩ = some (.slice Ri q rci) ∧ wr.drew.cell? ⟨M, 0, none⟩ = some (.slice (some ⟨P, 0, none⟩) n n) ∧ wr.drew.cell? ⟨w.heap.size, 1, none⟩ = some (.slice (some ⟨b2, o2, none⟩) n c2) ∧
                    wr.drew.cell? ⟨b2, o2 + s, none⟩ = some (.slice (some ⟨rb, ro, none⟩) n1 rc) ∧ wr.drew.cell? ⟨rb, ro + c, none⟩ = some (.int .i64 t) ∧ wr.drew.cell? ⟨P, t, none⟩ = some (.int .i64 pt)) := Lib.hid
                  ⟨HDW.out.cell 1, xg, Blk.cell1 HIW.out.pb, HIW.out.a.cell 1, (kw.cell _ _ hb2).trans k1, (kw.cell _ _ (World.block_lt_of_cell? _ _ k3)).trans k3, by rw [← hpt]; exact cell_row HIW.out.q HPL.out k4⟩
                have hs5 := Blk.cell1 HI.out.sb
                have hs6 := HI.out.sb.lt
                clear k1 k2 k3 hs hat HXM ht htd hpt hpl e1 e2 e3 hokp hf hfl xf hrow hoff kw HI HDB HCU HCO
                go_wp2
                refine wp_region_T 23 (fun W => W.cell? ⟨w.heap.size + 1, 1, none⟩ = some (.slice (some ⟨G, 0, none⟩) m m) ∧ W.cell? ⟨G, i, none⟩ = some (.slice Ri q rci) ∧ W.cell? ⟨M, 0, none⟩ = some (.slice (some ⟨P, 0, none⟩) n n) ∧ W.cell? ⟨w.heap.size, 1, none⟩ = some (.slice (some ⟨b2, o2, none⟩) n c2) ∧
                    W.cell? ⟨b2, o2 + s, none⟩ = some (.slice (some ⟨rb, ro, none⟩) n1 rc) ∧ W.cell? ⟨rb, ro + c, none⟩ = some (.int .i64 t) ∧ W.cell? ⟨P, t, none⟩ = some (.int .i64 pt)) (by kernel_rfl) ?_
                clear cm hbm xg hs5 hs6 HROW
                generalize wr.drew = W at *
                refine wpAnyT_take (i := 0) (v := ?_) rfl (by kernel_rfl) (by kernel_rfl) (by kernel_rfl) (by kernel_rfl) (by kernel_rfl) (fun _ _ _ h => h) (.inl ⟨rfl, ?_⟩) HS.out ?_
                rotate_left
                · intro W__ hW__
                  obtain ⟨h1, h2, h3, h4, h5, h6, h7⟩ := hW__
                  go_simp
                  (try with_reducible rfl)
                try simp only [Act.put]
                refine wpAnyT_take (i := 1) (v := ?_) rfl (by kernel_rfl) (by kernel_rfl) (by kernel_rfl) (by kernel_rfl) (by kernel_rfl) (fun _ _ _ h => h) (.inl ⟨rfl, ?_⟩) HS.out ?_
                rotate_left
                · intro W__ hW__
                  obtain ⟨h1, h2, h3, h4, h5, h6, h7⟩ := hW__
                  go_simp
                  (try with_reducible rfl)
                try simp only [Act.put]
                refine wpAnyT_take (i := 2) (v := ?_) rfl (by kernel_rfl) (by kernel_rfl) (by kernel_rfl) (by kernel_rfl) (by kernel_rfl) (fun _ _ _ h => h) (.inl ⟨rfl, ?_⟩) HS.out ?_
                rotate_left
                · intro W__ hW__
                  obtain ⟨h1, h2, h3, h4, h5, h6, h7⟩ := hW__
                  go_simp
                  (try with_reducible rfl)
                try simp only [Act.put]
                refine wpAnyT_take (i := 3) (v := ?_) rfl (by kernel_rfl) (by kernel_rfl) (by kernel_rfl) (by kernel_rfl) (by kernel_rfl) (fun _ _ _ h => h) (.inl ⟨rfl, ?_⟩) HS.out ?_
                rotate_left
                · intro W__ hW__
                  obtain ⟨h1, h2, h3, h4, h5, h6, h7⟩ := hW__
                  go_simp
                  (try with_reducible rfl)
                try simp only [Act.put]
                refine wpAnyT_take (i := 4) (v := ?_) rfl (by kernel_rfl) (by kernel_rfl) (by kernel_rfl) (by kernel_rfl) (by kernel_rfl) (fun _ _ _ h => h) (.inl ⟨rfl, ?_⟩) HS.out ?_
                rotate_left
                · intro W__ hW__
                  obtain ⟨h1, h2, h3, h4, h5, h6, h7⟩ := hW__
                  go_simp
                  (try with_reducible rfl)
                try simp only [Act.put]
                refine wpAnyT_take (i := 5) (v := ?_) rfl (by kernel_rfl) (by kernel_rfl) (by kernel_rfl) (by kernel_rfl) (by kernel_rfl) (fun _ _ _ h => h) (.inl ⟨rfl, ?_⟩) HS.out ?_
                rotate_left
                · intro W__ hW__
                  obtain ⟨h1, h2, h3, h4, h5, h6, h7⟩ := hW__
                  go_simp
                  (try with_reducible rfl)
                try simp only [Act.put]
                refine wpAnyT_take (i := 6) (v := ?_) rfl (by kernel_rfl) (by kernel_rfl) (by kernel_rfl) (by kernel_rfl) (by kernel_rfl) (fun _ _ _ h => h) (.inl ⟨rfl, ?_⟩) HS.out ?_
                rotate_left
                · intro W__ hW__
                  obtain ⟨h1, h2, h3, h4, h5, h6, h7⟩ := hW__
                  go_simp
                  (try with_reducible rfl)
                try simp only [Act.put]
                refine wpAnyT_take (i := 7) (v := ?_) rfl (by kernel_rfl) (by kernel_rfl) (by kernel_rfl) (by kernel_rfl) (by kernel_rfl) (fun _ _ _ h => h) (.inl ⟨rfl, ?_⟩) HS.out ?_
                rotate_left
                · intro W__ hW__
                  obtain ⟨h1, h2, h3, h4, h5, h6, h7⟩ := hW__
                  go_simp
                  (try with_reducible rfl)
                try simp only [Act.put]
                refine wpAnyT_take (i := 8) (v := ?_) rfl (by kernel_rfl) (by kernel_rfl) (by kernel_rfl) (by kernel_rfl) (by kernel_rfl) (fun _ _ _ h => h) (.inl ⟨rfl, ?_⟩) HS.out ?_
                rotate_left
                · intro W__ hW__
                  obtain ⟨h1, h2, h3, h4, h5, h6, h7⟩ := hW__
                  go_simp
                  (try with_reducible rfl)
                try simp only [Act.put]
                refine wpAnyT_take (i := 9) (v := ?_) rfl (by kernel_rfl) (by kernel_rfl) (by kernel_rfl) (by kernel_rfl) (by kernel_rfl) (fun _ _ _ h => h) (.inl ⟨rfl, ?_⟩) HS.out ?_
                rotate_left
                · intro W__ hW__
                  obtain ⟨h1, h2, h3, h4, h5, h6, h7⟩ := hW__
                  go_simp
                  (try with_reducible rfl)
                try simp only [Act.put]
                refine wpAnyT_take (i := 10) (v := ?_) rfl (by kernel_rfl) (by kernel_rfl) (by kernel_rfl) (by kernel_rfl) (by kernel_rfl) (fun _ _ _ h => h) (.inl ⟨rfl, ?_⟩) HS.out ?_
                rotate_left
                · intro W__ hW__
                  obtain ⟨h1, h2, h3, h4, h5, h6, h7⟩ := hW__
                  go_simp
                  (try with_reducible rfl)
                try simp only [Act.put]
                refine wpAnyT_take (i := 11) (v := ?_) rfl (by kernel_rfl) (by kernel_rfl) (by kernel_rfl) (by kernel_rfl) (by kernel_rfl) (fun _ _ _ h => h) (.inl ⟨rfl, ?_⟩) HS.out ?_
                rotate_left
                · intro W__ hW__
                  obtain ⟨h1, h2, h3, h4, h5, h6, h7⟩ := hW__
                  go_simp
                  (try with_reducible rfl)
                try simp only [Act.put]
                refine wpAnyT_take (i := 12) (v := ?_) rfl (by kernel_rfl) (by kernel_rfl) (by kernel_rfl) (by kernel_rfl) (by kernel_rfl) (fun _ _ _ h => h) (.inl ⟨rfl, ?_⟩) HS.out ?_
                rotate_left
                · intro W__ hW__
                  obtain ⟨h1, h2, h3, h4, h5, h6, h7⟩ := hW__
                  go_simp
                  (try with_reducible rfl)
                try simp only [Act.put]
                refine wpAnyT_take (i := 13) (v := ?_) rfl (by kernel_rfl) (by kernel_rfl) (by kernel_rfl) (by kernel_rfl) (by kernel_rfl) (fun _ _ _ h => h) (.inl ⟨rfl, ?_⟩) HS.out ?_
                rotate_left
                · intro W__ hW__
                  obtain ⟨h1, h2, h3, h4, h5, h6, h7⟩ := hW__
                  go_simp
                  (try with_reducible rfl)
                try simp only [Act.put]
                refine wpAnyT_take (i := 14) (v := ?_) rfl (by kernel_rfl) (by kernel_rfl) (by kernel_rfl) (by kernel_rfl) (by kernel_rfl) (fun _ _ _ h => h) (.inl ⟨rfl, ?_⟩) HS.out ?_
                rotate_left
                · intro W__ hW__
                  obtain ⟨h1, h2, h3, h4, h5, h6, h7⟩ := hW__
                  go_simp
                  (try with_reducible rfl)
                try simp only [Act.put]
                refine wpAnyT_take (i := 15) (v := ?_) rfl (by kernel_rfl) (by kernel_rfl) (by kernel_rfl) (by kernel_rfl) (by kernel_rfl) (fun _ _ _ h => h) (.inl ⟨rfl, ?_⟩) HS.out ?_
                rotate_left
                · intro W__ hW__
                  obtain ⟨h1, h2, h3, h4, h5, h6, h7⟩ := hW__
                  go_simp
                  (try with_reducible rfl)
                try simp only [Act.put]
                refine wpAnyT_take (i := 16) (v := ?_) rfl (by kernel_rfl) (by kernel_rfl) (by kernel_rfl) (by kernel_rfl) (by kernel_rfl) (fun _ _ _ h => h) (.inl ⟨rfl, ?_⟩) HS.out ?_
                rotate_left
                · intro W__ hW__
                  obtain ⟨h1, h2, h3, h4, h5, h6, h7⟩ := hW__
                  go_simp
                  (try with_reducible rfl)
                try simp only [Act.put]
                refine wpAnyT_take (i := 17) (v := ?_) rfl (by kernel_rfl) (by kernel_rfl) (by kernel_rfl) (by kernel_rfl) (by kernel_rfl) (fun _ _ _ h => h) (.inl ⟨rfl, ?_⟩) HS.out ?_
                rotate_left
                · intro W__ hW__
                  obtain ⟨h1, h2, h3, h4, h5, h6, h7⟩ := hW__
                  go_simp
                  (try with_reducible rfl)
                try simp only [Act.put]
                refine wpAnyT_take (i := 18) (v := ?_) rfl (by kernel_rfl) (by kernel_rfl) (by kernel_rfl) (by kernel_rfl) (by kernel_rfl) (fun _ _ _ h => h) (.inl ⟨rfl, ?_⟩) HS.out ?_
                rotate_left
                · intro W__ hW__
                  obtain ⟨h1, h2, h3, h4, h5, h6, h7⟩ := hW__
                  go_simp
                  (try with_reducible rfl)
                try simp only [Act.put]
                refine wpAnyT_one (i := 19) rfl (by kernel_rfl) rfl fun K__ hK__ => ?_
                unfold Oper.wp
                go_simp
                refine HNU.out.mono ?_
                rintro e w6 ⟨rfl, rfl⟩
                refine hK__ _ _ HS.out ?_
                clear hK__
                refine wpAnyT_one (i := 20) rfl (by kernel_rfl) rfl fun K__ hK__ => ?_
                unfold Oper.wp
                go_simp
                have OWB := Lib.hid (HRW.out.alloc (.cells #[.int .i64 (pl : Int)] TLI))
                have SRB := Lib.hid (Pv.Src.one (w := w6) (x := .int .i64 (pl : Int)) (t := TLI) rfl)
                have hGW := HCW.out.lt
                have Z3 : Hid (G ≤ (w6.alloc (.cells #[.int .i64 (pl : Int)] TLI)).heap.size) := Lib.hid (by simp; omega)
                have BA := Lib.hid ((Below.refl w6.heap.size w6).alloc (Nat.le_refl _) (.cells #[.int .i64 (pl : Int)] TLI))
                have KW := Lib.hid (Keep.of BA.out)
                refine hK__ _ _ ⟨(KW.out.cell _ _ (World.block_lt_of_cell? _ _ HS.out.1)).trans HS.out.1, (KW.out.cell _ _ (World.block_lt_of_cell? _ _ HS.out.2.1)).trans HS.out.2.1, (KW.out.cell _ _ (World.block_lt_of_cell? _ _ HS.out.2.2.1)).trans HS.out.2.2.1, (KW.out.cell _ _ (World.block_lt_of_cell? _ _ HS.out.2.2.2.1)).trans HS.out.2.2.2.1, (KW.out.cell _ _ (World.block_lt_of_cell? _ _ HS.out.2.2.2.2.1)).trans HS.out.2.2.2.2.1, (KW.out.cell _ _ (World.block_lt_of_cell? _ _ HS.out.2.2.2.2.2.1)).trans HS.out.2.2.2.2.2.1, (KW.out.cell _ _ (World.block_lt_of_cell? _ _ HS.out.2.2.2.2.2.2)).trans HS.out.2.2.2.2.2.2⟩ ?_
                clear hK__
                have HIA := Lib.hid (HIW.out.next BA.out)
                have HDA := Lib.hid (HDW.out.below BA.out HDW.out.lt)
                have HUA := Lib.hid (ownsRow_below HUW.out BA.out)
                refine wpAnyT_one (i := 21) rfl (by kernel_rfl) rfl fun K__ hK__ => ?_
                refine wp_append_src _ (.tmp 92) (.tmp 105) 22 rfl G TLI i0 (.int .i64 0) 1 8 Tryz.underlying22 hi0 hz0 hs0 hb0 rfl (by decide) Ri rci q _ (by simp [Act.eval]) OWB.out _ 1 1 _ (by simp [Act.eval]) SRB.out Q1.out Q2.out Z3.out ?_
                intro A10 c10 w10 own10 gr10 hn10
                obtain ⟨gs, hgs⟩ := HCW.out.blk
                have hga := hgs.below BA.out hgs.lt
                have hg10 := hga.grown gr10 (own_blk_ne OWB.out hga (by decide))
                have hi10 := HIA.out.growI OWB.out gr10 (by omega) HSL.out
                have hd10 := HDA.out.grown gr10 (own_blk_ne OWB.out HDA.out (by decide))
                have kw := Keep.of hi10.b
                have xg : w10.cell? ⟨G, i, none⟩ = some (.slice Ri q rci) := (hg10.cell i).trans ((hgs.cell i).symm.trans HS.out.2.1)
                have xf := hg10.frozen i
                have HS10 : Hid (w10.cell? ⟨w.heap.size + 1, 1, none⟩ = some (.slice (some ⟨G, 0, none⟩) m m) ∧ w10.cell? ⟨G, i, none⟩ = some (.slice Ri q rci) ∧ w10.cell? ⟨M, 0, none⟩ = some (.slice (some ⟨P, 0, none⟩) n n) ∧ w10.cell? ⟨w.heap.size, 1, none⟩ = some (.slice (some ⟨b2, o2, none⟩) n c2) ∧
                    w10.cell? ⟨b2, o2 + s, none⟩ = some (.slice (some ⟨rb, ro, none⟩) n1 rc) ∧ w10.cell? ⟨rb, ro + c, none⟩ = some (.int .i64 t) ∧ w10.cell? ⟨P, t, none⟩ = some (.int .i64 pt)) := Lib.hid
                  ⟨hd10.cell 1, xg, Blk.cell1 hi10.pb, hi10.a.cell 1, (kw.cell _ _ hb2).trans HK1.out, (kw.cell _ _ (World.block_lt_of_cell? _ _ HK3.out)).trans HK3.out, by rw [← HPT2.out]; exact cell_row hi10.q HPL.out k4⟩
                have HI10 := Lib.hid (hi10.col (i := i) (v := .slice A10 (q + 1) c10) hg10 (by omega) (by omega) (by omega))
                have HD10 := Lib.hid (hd10.far (p := ⟨G, i, none⟩) (by simp; omega) (.slice A10 (q + 1) c10))
                have HU10 := Lib.hid (ownsRow_setFar (HUA.out.kept gr10 (off_symm HOFF.out)) hg10 (by decide) i (.slice A10 (q + 1) c10))
                have hxb : ∀ b, (Value.slice A9 (q + 1) c9).ownBlock = some b → b < w6.heap.size := fun b hb => (HUW.out.lt b hb).2
                have HC10 := Lib.hid (Cols.push HCW.out hlt HFL.out HS.out.2.1 HRW.out own10 gr10 hn10 hxb)
                have HCX : Hid (Cols (w10.setCell ⟨G, i, none⟩ (.slice A10 (q + 1) c10)) G G m (Value.slice A9 (q + 1) c9).ownBlock (fun j => if j < i + 1 then colF d (clsN d (metL d) (c + 1)) j else colF d (clsN d (metL d) c) j)) := Lib.hid (HC10.out.congr fun j hj => by
                  by_cases e : j = i
                  · subst e
                    rw [if_pos (by omega), if_pos rfl, HFI.out, HE.out, colF_snoc]
                    congr 3
                    have h1 : (stA d).getD j 0 = s := by rw [List.getD_eq_getElem?_getD, ← HSA.out, HSI.out]; rfl
                    rw [h1, HGT.out]; exact HPL2.out
                  · rw [if_neg e, ← HF.out]
                    by_cases e2 : j < i
                    · rw [if_pos (by omega)]; exact (if_pos e2).symm
                    · rw [if_neg (by omega)]; exact (if_neg e2).symm)
                clear hga hg10 hi10 hd10 kw hxb own10 gr10 hn10 hgs
                refine hK__ _ _ HS10.out ?_
                clear hK__
                simp only [Act.put]
                refine wpAnyT_take (i := 22) (v := ?_) rfl (by kernel_rfl) (by kernel_rfl) (by kernel_rfl) (by kernel_rfl) (by kernel_rfl) (fun _ _ _ h => h) (.inl ⟨rfl, ?_⟩) HS10.out ?_
                rotate_left
                · intro W__ hW__
                  obtain ⟨h1, h2, h3, h4, h5, h6, h7⟩ := hW__
                  go_simp
                  (try with_reducible rfl)
                try simp only [Act.put]
                refine wpAnyT_end (i := 23) rfl (by kernel_rfl) rfl (by kernel_rfl) fun K__ hK__ => ?_
                unfold Oper.wp
                go_simp
                refine hK__ _ _ ?_
                clear hK__
                refine wpAnyT_done (by kernel_rfl) ?_ _
                clear xg xf
                go_wp2
                go_roundw
                case rel => exact ⟨i + 1, by go_num, by omega, HD10, HU10, HCX, HI10⟩
                case measure => simp [intOf]; omega
              · obtain rfl : m = i := by omega
                have HCN : Hid (Cols wr G G m (Value.slice A9 (q + 1) c9).ownBlock (colF d (clsN d (metL d) (c + 1)))) := Lib.hid (HCO.out.congr fun j hj => by rw [if_pos hj])
                go_wp2
                go_roundw
                case rel => exact ⟨c + 1, q + 1, c9, A9, by go_num, by omega, by omega, Lib.hid (by rw [HE.out, List.length_append, HQ.out]; rfl), HDB, HCU, HCN, HI⟩
                case measure => simp [intOf]; omega
        · obtain rfl : n1 = c := by omega
          have HCLT : Hid (∀ x, x ∈ clsN d (metL d) n1 → x < d.cuts.length) := Lib.hid (fun x hx => by rw [HNC.out]; exact clsN_lt hx)
          have HCN : Hid (clsN d (metL d) n1 = clsN d (metL d) d.cuts.length) := Lib.hid (by rw [HNC.out])
          have s5 := Blk.cell1 HI.out.sb
          have s6 := HI.out.sb.lt
          have HCF := Lib.hid HCO.out.free
          have HT0 : Hid (Own wr G 4 RB (.slice none 0 0) ((st.take 0).map d.acc)) := Lib.hid Own.nil
          clear HCO
          go_wp2
          clear s5 s6 p0 p1 p2 hN hGl
          go_loopw [112] (fun iv W => ∃ (i vb : Nat) (B3 : Option Addr), iv = .int .i64 i ∧ i ≤ m ∧ Hid (Blk W (w.heap.size + 1) TDfa #[.slice Av q vc, .slice (some ⟨G, 0, none⟩) m m, .slice B3 i vb]) ∧ Hid (Own W G 4 RB (.slice B3 i vb) ((st.take i).map d.acc)) ∧
            Hid (W.ownsRow G TLI 1 (.slice Av q vc) q (((clsN d (metL d) n1).map fun c => d.cuts.getD c 0).map (Value.int .i64))) ∧ Hid (Cols W G G m none (colF d (clsN d (metL d) n1))) ∧
            Hid (LIn w W M (M + 1 + 1 + 1) M (M + 1 + 1) P n m sc S part st #[.slice A1 n1 c1, .slice (some ⟨b2, o2, none⟩) n c2, .slice (some ⟨b3, o3, none⟩) n c3])) (fun iv _ => m - (intOf iv).toNat)
          case atStart => exact ⟨0, 0, none, rfl, by omega, HDB, HT0, HCU, HCF, HI⟩
          case round =>
            clear HDB HT0 HCU HCF HI
            obtain ⟨i, vb, B3, rfl, him, HDB, HT, HCU, HCO, HI⟩ := hrel
            have j1 : (0 : Int) ≤ (i : Int) := by omega
            by_cases hlt : i < m
            · have j2 : (i : Int) < (m : Int) := by omega
              obtain ⟨hat, _⟩ := own_states HI.out.sr hSN (by omega : n ≤ 1000000) HM.out (by omega)
              obtain ⟨bm, om, um, xm, eS, hbm, cm, ⟨rfl, _, _⟩, HXM⟩ := hat.gt (n := m) (Lib.hid (by simp; exact HM.out)) hlt
              subst eS
              obtain ⟨s, hs, rfl⟩ : ∃ s : Nat, st[i]? = some s ∧ (s : Int) = xm := by
                have h1 := HXM.out
                rw [List.getElem?_map] at h1
                obtain ⟨y, h2, h3⟩ := Option.map_eq_some_iff.1 h1
                exact ⟨y, h2, h3⟩
              have HSI := Lib.hid hs
              have hsn : s < n := hSN s (mem_of_get hs)
              have s0 : (0 : Int) ≤ (s : Int) := by omega
              have s1 : (s : Int) < (n : Int) := by omega
              obtain ⟨bb, hbb⟩ : ∃ bb, d.acc s = bb := ⟨_, rfl⟩
              have HBB := Lib.hid hbb
              have ka := HA.out s hsn
              rw [hbb] at ka
              have hal : ((st.take i).map d.acc).length = i := by rw [List.length_map, List.length_take, HM.out]; omega
              have HAL := Lib.hid hal
              have HIW := Lib.hid (HI.out.next (Below.refl _ _).drew)
              have HDW := Lib.hid (HDB.out.below (Below.refl _ _).drew HDB.out.lt)
              have HUW := Lib.hid (ownsRow_drew HCU.out)
              have HCW := Lib.hid (HCO.out.below (Below.refl _ _).drew)
              obtain ⟨B3', vb', us3, ev3, ow3, rel3⟩ := HT.out
              rw [hal] at ev3 ow3
              injection ev3 with ev31 _ ev33
              subst ev31; subst ev33
              have OW3 := Lib.hid (ownsRow_drew ow3); have REL3 := Lib.hid rel3
              have Q1 : Hid (i + 1 ≤ maxLen) := Lib.hid (by simp only [maxLen]; omega)
              have Q4 : Hid ((i + 1) * 1 ≤ 140737488355328) := Lib.hid (by omega)
              have HS : Hid (wr.drew.cell? ⟨w.heap.size + 1, 2, none⟩ = some (.slice B3 i vb) ∧ wr.drew.cell? ⟨w.heap.size, 2, none⟩ = some (.slice (some ⟨b3, o3, none⟩) n c3) ∧ wr.drew.cell? ⟨b3, o3 + s, none⟩ = some (.bool bb)) := Lib.hid
                ⟨HDW.out.cell 2, HIW.out.a.cell 2, ((Keep.of HIW.out.b).cell _ _ hb3).trans ka⟩
              clear hs hat HXM hbb ka hal ow3 rel3 HI HDB HCU HCO HT
              go_wp2
              refine wp_region_T 8 (fun W => W.cell? ⟨w.heap.size + 1, 2, none⟩ = some (.slice B3 i vb) ∧ W.cell? ⟨w.heap.size, 2, none⟩ = some (.slice (some ⟨b3, o3, none⟩) n c3) ∧ W.cell? ⟨b3, o3 + s, none⟩ = some (.bool bb)) (by kernel_rfl) ?_
              clear cm hbm
              generalize wr.drew = W at *
              have OWB := Lib.hid (OW3.out.alloc (.cells #[.bool bb] 4))
              have SRB := Lib.hid (Pv.Src.one (w := W) (x := .bool bb) (t := 4) rfl)
              have hGW := HCW.out.lt
              have Z3 : Hid (G ≤ (W.alloc (.cells #[.bool bb] 4)).heap.size) := Lib.hid (by simp; omega)
              have BA := Lib.hid ((Below.refl W.heap.size W).alloc (Nat.le_refl _) (.cells #[.bool bb] 4))
              have KW := Lib.hid (Keep.of BA.out)
              have HIA := Lib.hid (HIW.out.next BA.out)
              have HDA := Lib.hid (HDW.out.below BA.out HDW.out.lt)
              have HUA := Lib.hid (ownsRow_below HUW.out BA.out)
              have HCA := Lib.hid (HCW.out.below BA.out)
              refine wpAnyT_takeC (i := 0) [8, 1] (v := ?_) rfl (by kernel_rfl) (by kernel_rfl) (by kernel_rfl) (by kernel_rfl) (by kernel_rfl) (by kernel_rfl) (fun _ _ _ h => h) (.inl ⟨rfl, ?_⟩) HS.out ?_
              rotate_left
              · intro W__ hW__
                obtain ⟨h1, h2, h3⟩ := hW__
                go_simp
                (try with_reducible rfl)
              try simp only [Act.put]
              refine wpAnyT_takeC (i := 1) [8] (v := ?_) rfl (by kernel_rfl) (by kernel_rfl) (by kernel_rfl) (by kernel_rfl) (by kernel_rfl) (by kernel_rfl) (fun _ _ _ h => h) (.inl ⟨rfl, ?_⟩) HS.out ?_
              rotate_left
              · intro W__ hW__
                obtain ⟨h1, h2, h3⟩ := hW__
                go_simp
                (try with_reducible rfl)
              try simp only [Act.put]
              refine wpAnyT_takeC (i := 2) [8, 7, 6, 5, 3] (v := ?_) rfl (by kernel_rfl) (by kernel_rfl) (by kernel_rfl) (by kernel_rfl) (by kernel_rfl) (by kernel_rfl) (fun _ _ _ h => h) (.inl ⟨rfl, ?_⟩) HS.out ?_
              rotate_left
              · intro W__ hW__
                obtain ⟨h1, h2, h3⟩ := hW__
                go_simp
                (try with_reducible rfl)
              try simp only [Act.put]
              refine wpAnyT_takeC (i := 3) [8, 7, 6, 5] (v := ?_) rfl (by kernel_rfl) (by kernel_rfl) (by kernel_rfl) (by kernel_rfl) (by kernel_rfl) (by kernel_rfl) (fun _ _ _ h => h) (.inl ⟨rfl, ?_⟩) HS.out ?_
              rotate_left
              · intro W__ hW__
                obtain ⟨h1, h2, h3⟩ := hW__
                go_simp
                (try with_reducible rfl)
              try simp only [Act.put]
              refine wpAnyT_takeC (i := 4) [8, 7, 6, 5] (v := ?_) rfl (by kernel_rfl) (by kernel_rfl) (by kernel_rfl) (by kernel_rfl) (by kernel_rfl) (by kernel_rfl) (fun _ _ _ h => h) (.inl ⟨rfl, ?_⟩) HS.out ?_
              rotate_left
              · intro W__ hW__
                obtain ⟨h1, h2, h3⟩ := hW__
                go_simp
                (try with_reducible rfl)
              try simp only [Act.put]
              refine wpAnyT_takeC (i := 5) [8, 7, 6] (v := ?_) rfl (by kernel_rfl) (by kernel_rfl) (by kernel_rfl) (by kernel_rfl) (by kernel_rfl) (by kernel_rfl) (fun _ _ _ h => h) (.inl ⟨rfl, ?_⟩) HS.out ?_
              rotate_left
              · intro W__ hW__
                obtain ⟨h1, h2, h3⟩ := hW__
                go_simp
                (try with_reducible rfl)
              try simp only [Act.put]
              refine wpAnyT_takeC (i := 6) [8, 7] (v := ?_) rfl (by kernel_rfl) (by kernel_rfl) (by kernel_rfl) (by kernel_rfl) (by kernel_rfl) (by kernel_rfl) (fun _ _ _ h => h) (.inl ⟨rfl, ?_⟩) HS.out ?_
              rotate_left
              · intro W__ hW__
                obtain ⟨h1, h2, h3⟩ := hW__
                go_simp
                (try with_reducible rfl)
              try simp only [Act.put]
              refine wpAnyT_one (i := 7) rfl (by kernel_rfl) rfl fun K__ hK__ => ?_
              unfold Oper.wp
              go_simp
              refine hK__ _ _ ⟨(KW.out.cell _ _ (World.block_lt_of_cell? _ _ HS.out.1)).trans HS.out.1, (KW.out.cell _ _ (World.block_lt_of_cell? _ _ HS.out.2.1)).trans HS.out.2.1, (KW.out.cell _ _ (World.block_lt_of_cell? _ _ HS.out.2.2)).trans HS.out.2.2⟩ ?_
              clear hK__
              refine wpAnyT_end (i := 8) rfl (by kernel_rfl) rfl (by kernel_rfl) fun K__ hK__ => ?_
              refine wp_append_src _ (.tmp 117) (.tmp 123) 24 rfl G 4 i1' (.bool false) 1 1 Tryz.underlying24 hi1 hz1 hs1 hb1' rfl (by decide) B3 vb i us3 (by simp [Act.eval]) OWB.out _ 1 1 _ (by simp [Act.eval]) SRB.out Q1.out Q4.out Z3.out ?_
              intro A10 c10 w10 own10 gr10 _
              have hd10 := HDA.out.grown gr10 (own_blk_ne OWB.out HDA.out (by decide))
              have HI10 := Lib.hid ((HIA.out.growB OWB.out gr10 (by omega)).far (i := 2) (v := .slice A10 (i + 1) c10) hd10 (by omega) (by omega) (by decide) (by decide) (by decide))
              have HC10 := Lib.hid ((HCA.out.other OWB.out (by decide) (by decide) gr10).far (i := 2) (u := .slice A10 (i + 1) c10) hd10 (by decide) (by decide))
              have HU10 := Lib.hid (ownsRow_setFar (HUA.out.kept gr10 (own_ne HUA.out OWB.out (by decide))) hd10 (by decide) 2 (.slice A10 (i + 1) c10))
              have HT10 : Hid (Own (w10.setCell ⟨w.heap.size + 1, 2, none⟩ (.slice A10 (i + 1) c10)) G 4 RB (.slice A10 (i + 1) c10) ((st.take (i + 1)).map d.acc)) := Lib.hid (by
                rw [take_snoc HSI.out, List.map_append]
                have hb := HBB.out
                refine Own.setFar ⟨A10, c10, us3 ++ [.bool bb], by rw [List.length_append, HAL.out]; rfl, by rw [List.length_append, HAL.out]; exact own10, Rel.app REL3.out (Rel.one (R := RB) (u := .bool bb) (x := d.acc s) (by rw [hb]; rfl))⟩ hd10 (by decide) 2 _)
              have HD10 := Lib.hid (hd10.set 2 (.slice A10 (i + 1) c10))
              obtain ⟨x0, x1, x2, xf0, xf1, xf2⟩ := Blk.three hd10
              refine hK__ _ _ ?_
              clear hK__ own10 gr10 hd10
              simp only [Act.put]
              refine wpAnyT_end (i := 9) rfl (by kernel_rfl) rfl (by kernel_rfl) fun K__ hK__ => ?_
              unfold Oper.wp
              go_simp
              refine hK__ _ _ ?_
              clear hK__
              refine wpAnyT_end (i := 10) rfl (by kernel_rfl) rfl (by kernel_rfl) fun K__ hK__ => ?_
              unfold Oper.wp
              go_simp
              refine hK__ _ _ ?_
              clear hK__
              refine wpAnyT_done (by kernel_rfl) ?_ _
              clear x0 x1 x2 xf0 xf1 xf2
              go_wp2
              go_roundw
              case rel => exact ⟨i + 1, c10, A10, by go_num, by omega, HD10, HT10, HU10, HC10, HI10⟩
              case measure => simp [intOf]; omega
            · obtain rfl : m = i := by omega
              have hacc : (st.take m).map d.acc = (leastD d).accept := by
                rw [List.take_of_length_le (by rw [HM.out]; exact Nat.le_refl _), HSA.out, ← accs_st]; rfl
              have hnx : (leastD d).next.length = m := by show ((metL d).map _).length = m; rw [List.length_map]; exact HML.out
              have HRS : Hid (Res wr w.heap.size (.slice Av q vc) (.slice (some ⟨G, 0, none⟩) m m) (.slice B3 m vb) (leastD d).cuts (leastD d).next (leastD d).accept) := Lib.hid (Res.lower (b := G) (by
                refine ⟨⟨Av, vc, ?_, ?_⟩, HCO.out.ls (by simp only [maxLen]; omega) hnx (fun i r hr => ?_), by rw [← hacc]; exact HT.out⟩
                · show _ = Value.slice Av ((clsN d (metL d) d.cuts.length).map _).length vc
                  rw [List.length_map, ← HCN.out, HQ.out]
                · show wr.ownsRow G TLI 1 (.slice Av ((clsN d (metL d) d.cuts.length).map _).length vc) ((clsN d (metL d) d.cuts.length).map _).length (((clsN d (metL d) d.cuts.length).map fun c => d.cuts.getD c 0).map _)
                  rw [List.length_map, ← HCN.out, HQ.out]
                  exact HCU.out
                · rw [HCN.out]
                  have h := HCLT.out
                  rw [HCN.out] at h
                  exact rows_col h hr) (by omega))
              obtain ⟨t0, t1, t2, tf0, tf1, tf2⟩ := Blk.three HDB.out
              have hN := HDB.out.lt
              have hsb := HI.out.sb.lt
              clear hacc hnx
              go_wp2
              have X9 := ((HDB.out.set 0 (.slice Av q vc)).set 1 (.slice (some ⟨G, 0, none⟩) m m)).set 2 (.slice B3 m vb)
              obtain ⟨y0, y1, y2, _, _, _⟩ := Blk.three X9
              refine bodyPost_ret (v := .agg #[.slice Av q vc, .slice (some ⟨G, 0, none⟩) m m, .slice B3 m vb]) (by simp [results, Tryz.results56, go_sem, y0, y1, y2]) rfl ⟨_, _, _, rfl, ?_, ?_⟩
              · exact Res.far3 HRS.out HDB.out
              · exact below3 HI.out.b (by simp)
end Go.Proofs.YtilhicefhhgecaaGreatDoor

namespace Go.Proofs.YtilhicefhhgecaaGreatDoor
open Go.RowKit Pv

/-- How it ends. -/
def LeastR (d : Dfa) (w : World) (e : Ending) (w' : World) : Prop :=
  ((¬ d.Ok ∧ e = .returned (.tuple #[zDfa, .int .i64 8])) ∨ (d.Ok ∧ ∃ v1 v2 v3, e = .returned (.tuple #[.agg #[v1, v2, v3], .int .i64 0]) ∧ Res w' w.heap.size v1 v2 v3 (leastD d).cuts (leastD d).next (leastD d).accept)) ∧ Below w.heap.size w w'

set_option maxHeartbeats 2000000 in
set_option maxRecDepth 100000 in
theorem least_Least (A1 A2 A3 : Option Addr) (c1 c2 c3 n1 n n3 : Nat) (d : Dfa) (w : World) (H : DfaAt w A1 A2 A3 n1 n n3 d) :
    Calls Tryz.prog 19 #[.agg #[.slice A1 n1 c1, .slice A2 n c2, .slice A3 n3 c3]] w (LeastR d w) := by
  have HD := Lib.hid H
  have HB0 := Lib.hid (((Below.refl w.heap.size w).alloc (Nat.le_refl _) (.cells #[.slice A1 n1 c1, .slice A2 n c2, .slice A3 n3 c3] TDfa)).alloc (by simp) (.cells #[.slice none 0 0, .slice none 0 0, .slice none 0 0] TDfa))
  have KK := blk2 w #[.slice A1 n1 c1, .slice A2 n c2, .slice A3 n3 c3] #[.slice none 0 0, .slice none 0 0, .slice none 0 0] TDfa TDfa
  have KA := Lib.hid KK.1; have KO := Lib.hid KK.2
  have HMY := Lib.hid (subset_Check A1 A2 A3 c1 c2 c3 n1 n n3 d _ (H.keep (Keep.of HB0.out)))
  clear H KK
  by_cases hok : d.Ok
  case neg =>
    rw [Dfa.checkE_no (Dfa.okB_no hok)] at HMY
    have HNO := Lib.hid hok
    clear hok
    go_enter Tryz.func19, Tryz.ntmps19
    go_wp2_with fail
    refine HMY.out.mono ?_
    rintro e w1 ⟨rfl, hb1⟩
    have HB1 := Lib.hid (HB0.out.trans (hb1.mono HB0.out.size))
    have KO1 := Lib.hid (KO.out.below hb1 KO.out.lt)
    obtain ⟨t0, t1, t2, f0, f1, f2⟩ := Blk.three KO1.out
    have hN := KO1.out.lt
    clear hb1
    go_wp2
    obtain ⟨y0, y1, y2, _, _, _⟩ := Blk.three (Blk.set3 (u0 := .slice none 0 0) (u1 := .slice none 0 0) (u2 := .slice none 0 0) KO1.out)
    exact bodyPost_ret (v := .tuple #[zDfa, .int .i64 8]) (by simp [results, Tryz.results19, go_sem, y0, y1, y2]) rfl ⟨.inl ⟨HNO.out, rfl⟩, below3 HB1.out (by simp)⟩
  rw [Dfa.checkE_yes (Dfa.okB_yes hok)] at HMY
  have HOK := Lib.hid hok
  clear hok
  go_enter Tryz.func19, Tryz.ntmps19
  go_wp2_with fail
  refine HMY.out.mono ?_
  rintro e w1 ⟨rfl, hb1⟩
  have HB1 := Lib.hid (HB0.out.trans (hb1.mono HB0.out.size))
  have KA1 := Lib.hid (KA.out.below hb1 KA.out.lt); have KO1 := Lib.hid (KO.out.below hb1 KO.out.lt)
  obtain ⟨p0, p1, p2, _, _, _⟩ := Blk.three KA1.out
  have hN0 := KA1.out.lt
  have HMK := Lib.hid (least_least A1 A2 A3 c1 c2 c3 n1 n n3 d w1 (HD.out.keep (Keep.of HB1.out)) HOK.out)
  clear hb1 HMY HB0 KA KO
  go_wp2_with fail
  refine HMK.out.mono ?_
  rintro e w2 ⟨v1, v2, v3, rfl, hres, hb2⟩
  have HB2 := Lib.hid (HB1.out.trans (hb2.mono HB1.out.size))
  have KO2 := Lib.hid (KO1.out.below hb2 KO1.out.lt)
  have HRS := Lib.hid (Res.lower hres HB1.out.size)
  obtain ⟨B1, d1, e1, _⟩ := hres.c
  obtain ⟨B2, d2, _, e2, _, _⟩ := hres.r
  obtain ⟨B3, d3, _, e3, _, _⟩ := hres.t
  obtain ⟨m1, hm1⟩ : ∃ m, (leastD d).cuts.length = m := ⟨_, rfl⟩
  obtain ⟨m2, hm2⟩ : ∃ m, (leastD d).next.length = m := ⟨_, rfl⟩
  obtain ⟨m3, hm3⟩ : ∃ m, (leastD d).accept.length = m := ⟨_, rfl⟩
  rw [hm1] at e1; rw [hm2] at e2; rw [hm3] at e3
  subst e1; subst e2; subst e3
  obtain ⟨t0, t1, t2, f0, f1, f2⟩ := Blk.three KO2.out
  have hN := KO2.out.lt
  clear hb2 hres hm1 hm2 hm3 p0 p1 p2
  go_wp2
  obtain ⟨y0, y1, y2, _, _, _⟩ := Blk.three (Blk.set3 (u0 := .slice B1 m1 d1) (u1 := .slice B2 m2 d2) (u2 := .slice B3 m3 d3) KO2.out)
  exact bodyPost_ret (v := .tuple #[.agg #[.slice B1 m1 d1, .slice B2 m2 d2, .slice B3 m3 d3], .int .i64 0]) (by simp [results, Tryz.results19, go_sem, y0, y1, y2]) rfl ⟨.inr ⟨HOK.out, _, _, _, rfl, Res.far3 HRS.out KO2.out⟩, below3 HB2.out (by simp)⟩
end Go.Proofs.YtilhicefhhgecaaGreatDoor
