/- Walks: what states tell, numbered as it comes (the program's). PUT1 -/
import Derived.Test.YtjnjbcigbnjmkaaGreatGxy
import Derived.Test.YtjnjbcigbnjmkaaGreatQvy
import Derived.Deep.WholeRow
namespace Go.Proofs.YtjnjbcigbnjmkaaGreat
open Go.RowKit Go.Maps Go.ChangeMaps Pv
abbrev TNT : TypeId := 109
abbrev TMT : TypeId := 107
theorem nil_mapT (w : World) : (binOp .eql TMT (.map none) (.map none)).run Tryz.prog w = .ok (.bool true) w := by kernel_rfl
theorem some_mapT (mb : Nat) (w : World) : (binOp .eql TMT (.map (some mb)) (.map none)).run Tryz.prog w = .ok (.bool false) w := by kernel_rfl
theorem info_told : (Tryz.prog.info? TTold).map (·.size) = some 257 := by kernel_rfl
theorem exec_load_row {o : Oper} {a : Act} {w : World} (ty : TypeId) (x : Operand) (ho : o.op = .load ty x) (g : Nat) (hx : a.eval x = .pointer (some ⟨g, 0, none⟩)) (t : TypeId) (cs : Array Value) (fs : Array Field) (hg : Blk w g t cs)
    (hu : Tryz.prog.underlying ty = some (.struct fs)) (hi : (Tryz.prog.info? ty).map (·.size) = some cs.size) : (execOp a.eval o).run Tryz.prog w = .ok (.value (.agg cs)) w := by
  unfold execOp
  simp only [ho, hx, Instr.loadAt, Instr.sureAddr, Sem.run_bind, Sem.run_pure, Result.andThen_ok, run_loadVar_row w g t ty cs (0, 0) (.struct fs) hg hu rfl hi]
set_option maxHeartbeats 2000000 in
set_option maxRecDepth 100000 in
theorem num_told (q base N : Nat) (keys : List (List Int)) (x : List Int) (w : World) (h : NumAt encT (okT q) TNT w base N keys) (hx : okT q x) (hl : keys.length ≤ 1000000) (hbase : base ≤ w.heap.size) :
    Calls Tryz.prog 56 #[.pointer (some ⟨N, 0, none⟩), encT x] w (OfPost encT (okT q) TNT base N keys x w) := by
  have hmm := @run_makeMap Tryz.prog
  have HX := Lib.hid hx
  have hn1 := nil_mapT; have hn2 := some_mapT
  obtain ⟨hN, h⟩ := h
  obtain ⟨cs, hcs⟩ : ∃ cs, rowCs x 257 = cs := ⟨_, rfl⟩
  have HCS := Lib.hid hcs
  have hsz : cs.size = 257 := by rw [← hcs]; exact rowCs_size (by have := hx.1; have := hx.2.1; omega)
  have HI : Hid ((Tryz.prog.info? TTold).map (·.size) = some cs.size) := Lib.hid (by rw [hsz]; exact info_told)
  have HSZ := Lib.hid hsz
  show Calls Tryz.prog _ #[_, .agg (rowCs x 257)] w _
  rw [hcs]
  have HE : Hid (encT x = .agg cs) := Lib.hid (by show Value.agg (rowCs x 257) = _; rw [hcs])
  have hbw : Below w.heap.size w (w.alloc (.cells cs TTold)) := (Below.refl _ _).alloc (Nat.le_refl _) _
  have BX := Lib.hid (Blk.new w TTold cs)
  clear hsz
  rcases h with ⟨h1, h2⟩ | ⟨mb, hmb, h2, h3⟩
  · subst h1
    have HB := Lib.hid h2
    have p0 := Blk.cell1 h2; have f0 := Blk.frz1 h2
    have hlt := h2.lt
    have es : (w.setCell ⟨N, 0, none⟩ (.map (some (w.heap.size + 1)))).heap.size = w.heap.size := by simp [World.setCell]
    have BN := Blk.new (w.setCell ⟨N, 0, none⟩ (.map (some (w.heap.size + 1)))) TTold cs
    rw [es] at BN
    obtain ⟨W1, hW1⟩ : ∃ W, ((w.setCell ⟨N, 0, none⟩ (.map (some (w.heap.size + 1)))).alloc (.cells cs TTold)).alloc (.map #[] 0) = W := ⟨_, rfl⟩
    have e0 : ((w.setCell ⟨N, 0, none⟩ (.map (some (w.heap.size + 1)))).alloc (.cells cs TTold)).heap.size = w.heap.size + 1 := by simp [World.setCell]
    have HM0 := MapQ.nil (enc := encT) (ok := okT q) (val := fun k => (k : Int)) ((w.setCell ⟨N, 0, none⟩ (.map (some (w.heap.size + 1)))).alloc (.cells cs TTold))
    rw [hW1, e0] at HM0
    have HM := Lib.hid HM0
    have HB1 := Lib.hid (show Blk W1 N TNT #[.map (some (w.heap.size + 1))] by rw [← hW1]; exact ((h2.set 0 _).alloc _).alloc _)
    have BX1 := Lib.hid (show Blk W1 w.heap.size TTold cs by rw [← hW1]; exact BN.alloc _)
    have HOUT : Hid (x ∉ ([] : List (List Int))) := Lib.hid (by simp)
    have HGE : Hid (base ≤ w.heap.size + 1) := Lib.hid (by omega)
    have HO0 : Hid (Oth TNT w W1) := Lib.hid (by
      rw [← hW1]
      exact ⟨rfl, rfl, rfl, by simp [World.setCell]; omega, fun g t cs ht hb => ((hb.far (p := ⟨N, 0, none⟩) (hb.ne h2 ht) _).alloc _).alloc _⟩)
    have HL0 : Hid (Below base w W1) := Lib.hid (by
      rw [← hW1]
      exact (((Below.refl base w).setCell (p := ⟨N, 0, none⟩) hN _).alloc (by rw [es]; exact hbase) _).alloc (by rw [e0]; omega) _)
    clear h2 HM0 hcs hbw BN es e0
    go_enter Tryz.func56, Tryz.ntmps56
    have HMD := Lib.hid (MapQ.below HM.out (Below.refl _ _).drew)
    have HBD := Lib.hid (HB1.out.below (Below.refl _ _).drew HB1.out.lt)
    have BXD := Lib.hid (BX1.out.below (Below.refl _ _).drew BX1.out.lt)
    have hlk := (HMD.out.out (keyT q) Tryz.underlying107 zero_int9 HX.out HOUT.out).1
    have hlk2 : (Instr.lookup TMT (.map (some (w.heap.size + 1))) (.agg cs) true).run Tryz.prog ((W1).drew) = .ok (.tuple #[.int .i64 0, .bool false]) (W1).drew := by rw [HE.out] at hlk; exact hlk
    have HS := Lib.hid (And.intro (Blk.cell1 HBD.out) (And.intro BXD.out hlk2))
    go_wp2
    refine wp_region_T 10 (fun W => W.cell? ⟨N, 0, none⟩ = some (.map (some (w.heap.size + 1))) ∧ Blk W w.heap.size TTold cs ∧ (Instr.lookup TMT (.map (some (w.heap.size + 1))) (.agg cs) true).run Tryz.prog W = .ok (.tuple #[.int .i64 0, .bool false]) W) (by kernel_rfl) ?_
    refine wpAnyT_take (i := 0) (v := ?_) rfl (by kernel_rfl) (by kernel_rfl) (by kernel_rfl) (by kernel_rfl) (by kernel_rfl) (fun _ _ _ h => h) (.inl ⟨rfl, ?_⟩) HS.out ?_
    rotate_left
    · intro W__ hW__
      obtain ⟨h1, h2, h3⟩ := hW__
      go_simp
      (try with_reducible rfl)
    try simp only [Act.put]
    refine wpAnyT_take (i := 1) (v := ?_) rfl (by kernel_rfl) (by kernel_rfl) (by kernel_rfl) (by kernel_rfl) (by kernel_rfl) (fun _ _ _ h => h) (.inl ⟨rfl, ?_⟩) HS.out ?_
    rotate_left
    · intro W__ hW__
      obtain ⟨h1, h2, h3⟩ := hW__
      go_simp
      (try with_reducible rfl)
    try simp only [Act.put]
    refine wpAnyT_take (i := 2) (v := ?_) rfl (by kernel_rfl) (by kernel_rfl) (by kernel_rfl) (by kernel_rfl) (by kernel_rfl) (fun _ _ _ h => h) (.inl ⟨rfl, ?_⟩) HS.out ?_
    rotate_left
    · intro W__ hW__
      obtain ⟨h1, h2, h3⟩ := hW__
      go_simp
      (try with_reducible rfl)
    try simp only [Act.put]
    refine wpAnyT_take (i := 3) (v := ?_) rfl (by kernel_rfl) (by kernel_rfl) (by kernel_rfl) (by kernel_rfl) (by kernel_rfl) (fun _ _ _ h => h) (.inl ⟨rfl, ?_⟩) HS.out ?_
    rotate_left
    · intro W__ hW__
      obtain ⟨h1, h2, h3⟩ := hW__
      go_simp
      (try with_reducible rfl)
    try simp only [Act.put]
    refine wpAnyT_take (i := 4) (v := .agg cs) rfl (by kernel_rfl) (by kernel_rfl) (by kernel_rfl) (by kernel_rfl) (by kernel_rfl) (fun _ _ _ h => h) (.inl ⟨rfl, ?_⟩) HS.out ?_
    · intro W__ hW__
      obtain ⟨h1, h2, h3⟩ := hW__
      exact exec_load_row TTold _ rfl w.heap.size (by simp [Act.eval]) TTold cs _ h2 Tryz.underlying112 HI.out
    try simp only [Act.put]
    refine wpAnyT_take (i := 5) (v := ?_) rfl (by kernel_rfl) (by kernel_rfl) (by kernel_rfl) (by kernel_rfl) (by kernel_rfl) (fun _ _ _ h => h) (.inl ⟨rfl, ?_⟩) HS.out ?_
    rotate_left
    · intro W__ hW__
      obtain ⟨h1, h2, h3⟩ := hW__
      go_simp
      (try with_reducible rfl)
    try simp only [Act.put]
    refine wpAnyT_take (i := 6) (v := ?_) rfl (by kernel_rfl) (by kernel_rfl) (by kernel_rfl) (by kernel_rfl) (by kernel_rfl) (fun _ _ _ h => h) (.inl ⟨rfl, ?_⟩) HS.out ?_
    rotate_left
    · intro W__ hW__
      obtain ⟨h1, h2, h3⟩ := hW__
      go_simp
      (try with_reducible rfl)
    try simp only [Act.put]
    refine wpAnyT_take (i := 7) (v := ?_) rfl (by kernel_rfl) (by kernel_rfl) (by kernel_rfl) (by kernel_rfl) (by kernel_rfl) (fun _ _ _ h => h) (.inl ⟨rfl, ?_⟩) HS.out ?_
    rotate_left
    · intro W__ hW__
      obtain ⟨h1, h2, h3⟩ := hW__
      go_simp
      (try with_reducible rfl)
    try simp only [Act.put]
    refine wpAnyT_take (i := 8) (v := ?_) rfl (by kernel_rfl) (by kernel_rfl) (by kernel_rfl) (by kernel_rfl) (by kernel_rfl) (fun _ _ _ h => h) (.inl ⟨rfl, ?_⟩) HS.out ?_
    rotate_left
    · intro W__ hW__
      obtain ⟨h1, h2, h3⟩ := hW__
      go_simp
      (try with_reducible rfl)
    try simp only [Act.put]
    refine wpAnyT_take (i := 9) (v := ?_) rfl (by kernel_rfl) (by kernel_rfl) (by kernel_rfl) (by kernel_rfl) (by kernel_rfl) (fun _ _ _ h => h) (.inl ⟨rfl, ?_⟩) HS.out ?_
    rotate_left
    · intro W__ hW__
      obtain ⟨h1, h2, h3⟩ := hW__
      go_simp
      (try with_reducible rfl)
    try simp only [Act.put]
    refine wpAnyT_end (i := 10) rfl (by kernel_rfl) rfl (by kernel_rfl) fun K__ hK__ => ?_
    unfold Oper.wp
    go_simp
    refine hK__ _ _ ?_
    clear hK__
    refine wpAnyT_done (by kernel_rfl) ?_ _
    clear HS hlk hlk2
    go_wp2
    have HMD2 := Lib.hid (MapQ.below HMD.out (Below.refl _ _).drew)
    have HBD2 := Lib.hid (HBD.out.below (Below.refl _ _).drew HBD.out.lt)
    have BXD2 := Lib.hid (BXD.out.below (Below.refl _ _).drew BXD.out.lt)
    have hlen : ∀ ty, (Builtin.len_ #[TMT] ty #[.map (some (w.heap.size + 1))]).run Tryz.prog ((W1).drew.drew) = .ok (.int .i64 (0)) (W1).drew.drew := MapQ.len Tryz.underlying107 HMD2.out
    have HS := Lib.hid (And.intro (Blk.cell1 HBD2.out) (And.intro BXD2.out hlen))
    obtain ⟨W', hput', hM', e1, e2, e3, e4, hblk⟩ := MapQ.put (keyT q) Tryz.underlying107 HMD2.out HX.out HOUT.out (v := 0) rfl
    have hput : (Instr.mapUpdate TMT (.map (some (w.heap.size + 1))) (.agg cs) (.int .i64 (0))).run Tryz.prog ((W1).drew.drew) = .ok () W' := by rw [HE.out] at hput'; exact hput'
    have HM' := Lib.hid hM'
    have hNm : N ≠ (w.heap.size + 1) := HM.out.ne HB1.out
    have hXm : w.heap.size ≠ (w.heap.size + 1) := HM.out.ne BX1.out
    have HB' : Hid (Blk W' N TNT #[.map (some (w.heap.size + 1))]) := Lib.hid ((hblk N hNm).trans HBD2.out)
    have BX' : Hid (Blk W' w.heap.size TTold cs) := Lib.hid ((hblk w.heap.size hXm).trans BXD2.out)
    have HOT : Hid (Oth TNT (W1) W') := Lib.hid ⟨e1, e2, e3, by rw [e4]; exact Nat.le_refl _, fun g t cs ht hb => (hblk g (HM.out.ne hb)).trans hb⟩
    have HBL : Hid (Below base (W1) W') := Lib.hid ⟨e1, e2, e3, by rw [e4]; exact Nat.le_refl _, fun g hg => hblk g (by have := HGE.out; omega)⟩
    clear e1 e2 e3 e4 hblk hNm hXm hM' hput'
    refine wp_region_T 10 (fun W => W.cell? ⟨N, 0, none⟩ = some (.map (some (w.heap.size + 1))) ∧ Blk W w.heap.size TTold cs ∧ ∀ ty, (Builtin.len_ #[TMT] ty #[.map (some (w.heap.size + 1))]).run Tryz.prog W = .ok (.int .i64 (0)) W) (by kernel_rfl) ?_
    refine wpAnyT_take (i := 0) (v := ?_) rfl (by kernel_rfl) (by kernel_rfl) (by kernel_rfl) (by kernel_rfl) (by kernel_rfl) (fun _ _ _ h => h) (.inl ⟨rfl, ?_⟩) HS.out ?_
    rotate_left
    · intro W__ hW__
      obtain ⟨h1, h2, h3⟩ := hW__
      go_simp
      (try with_reducible rfl)
    try simp only [Act.put]
    refine wpAnyT_take (i := 1) (v := ?_) rfl (by kernel_rfl) (by kernel_rfl) (by kernel_rfl) (by kernel_rfl) (by kernel_rfl) (fun _ _ _ h => h) (.inl ⟨rfl, ?_⟩) HS.out ?_
    rotate_left
    · intro W__ hW__
      obtain ⟨h1, h2, h3⟩ := hW__
      go_simp
      (try with_reducible rfl)
    try simp only [Act.put]
    refine wpAnyT_take (i := 2) (v := ?_) rfl (by kernel_rfl) (by kernel_rfl) (by kernel_rfl) (by kernel_rfl) (by kernel_rfl) (fun _ _ _ h => h) (.inl ⟨rfl, ?_⟩) HS.out ?_
    rotate_left
    · intro W__ hW__
      obtain ⟨h1, h2, h3⟩ := hW__
      go_simp
      (try with_reducible rfl)
    try simp only [Act.put]
    refine wpAnyT_take (i := 3) (v := ?_) rfl (by kernel_rfl) (by kernel_rfl) (by kernel_rfl) (by kernel_rfl) (by kernel_rfl) (fun _ _ _ h => h) (.inl ⟨rfl, ?_⟩) HS.out ?_
    rotate_left
    · intro W__ hW__
      obtain ⟨h1, h2, h3⟩ := hW__
      go_simp
      (try with_reducible rfl)
    try simp only [Act.put]
    refine wpAnyT_take (i := 4) (v := .agg cs) rfl (by kernel_rfl) (by kernel_rfl) (by kernel_rfl) (by kernel_rfl) (by kernel_rfl) (fun _ _ _ h => h) (.inl ⟨rfl, ?_⟩) HS.out ?_
    · intro W__ hW__
      obtain ⟨h1, h2, h3⟩ := hW__
      exact exec_load_row TTold _ rfl w.heap.size (by simp [Act.eval]) TTold cs _ h2 Tryz.underlying112 HI.out
    try simp only [Act.put]
    refine wpAnyT_take (i := 5) (v := ?_) rfl (by kernel_rfl) (by kernel_rfl) (by kernel_rfl) (by kernel_rfl) (by kernel_rfl) (fun _ _ _ h => h) (.inl ⟨rfl, ?_⟩) HS.out ?_
    rotate_left
    · intro W__ hW__
      obtain ⟨h1, h2, h3⟩ := hW__
      go_simp
      (try with_reducible rfl)
    try simp only [Act.put]
    refine wpAnyT_take (i := 6) (v := ?_) rfl (by kernel_rfl) (by kernel_rfl) (by kernel_rfl) (by kernel_rfl) (by kernel_rfl) (fun _ _ _ h => h) (.inl ⟨rfl, ?_⟩) HS.out ?_
    rotate_left
    · intro W__ hW__
      obtain ⟨h1, h2, h3⟩ := hW__
      go_simp
      (try with_reducible rfl)
    try simp only [Act.put]
    refine wpAnyT_take (i := 7) (v := ?_) rfl (by kernel_rfl) (by kernel_rfl) (by kernel_rfl) (by kernel_rfl) (by kernel_rfl) (fun _ _ _ h => h) (.inl ⟨rfl, ?_⟩) HS.out ?_
    rotate_left
    · intro W__ hW__
      obtain ⟨h1, h2, h3⟩ := hW__
      go_simp
      (try with_reducible rfl)
    try simp only [Act.put]
    refine wpAnyT_take (i := 8) (v := ?_) rfl (by kernel_rfl) (by kernel_rfl) (by kernel_rfl) (by kernel_rfl) (by kernel_rfl) (fun _ _ _ h => h) (.inl ⟨rfl, ?_⟩) HS.out ?_
    rotate_left
    · intro W__ hW__
      obtain ⟨h1, h2, h3⟩ := hW__
      go_simp
      (try with_reducible rfl)
    try simp only [Act.put]
    refine wpAnyT_take (i := 9) (v := ?_) rfl (by kernel_rfl) (by kernel_rfl) (by kernel_rfl) (by kernel_rfl) (by kernel_rfl) (fun _ _ _ h => h) (.inl ⟨rfl, ?_⟩) HS.out ?_
    rotate_left
    · intro W__ hW__
      obtain ⟨h1, h2, h3⟩ := hW__
      go_simp
      (try with_reducible rfl)
    try simp only [Act.put]
    refine wpAnyT_end (i := 10) rfl (by kernel_rfl) rfl (by kernel_rfl) fun K__ hK__ => ?_
    unfold Oper.wp
    go_simp
    refine hK__ _ _ ?_
    clear hK__
    refine wpAnyT_done (by kernel_rfl) ?_ _
    clear HS hput hlen
    go_wp2
    have HMD3 := Lib.hid (MapQ.below HM'.out (Below.refl _ _).drew)
    have HBD3 := Lib.hid (HB'.out.below (Below.refl _ _).drew HB'.out.lt)
    have BXD3 := Lib.hid (BX'.out.below (Below.refl _ _).drew BX'.out.lt)
    have s2' := (HMD3.out.in (keyT q) Tryz.underlying107 zero_int9 HX.out (k := 0) (by simp)).2
    have s2 : (Instr.lookup TMT (.map (some (w.heap.size + 1))) (.agg cs) false).run Tryz.prog W'.drew = .ok (.int .i64 (0)) W'.drew := by rw [HE.out] at s2'; exact s2'
    have HS := Lib.hid (And.intro (Blk.cell1 HBD3.out) (And.intro BXD3.out s2))
    refine wp_region_T 6 (fun W => W.cell? ⟨N, 0, none⟩ = some (.map (some (w.heap.size + 1))) ∧ Blk W w.heap.size TTold cs ∧ (Instr.lookup TMT (.map (some (w.heap.size + 1))) (.agg cs) false).run Tryz.prog W = .ok (.int .i64 (0)) W) (by kernel_rfl) ?_
    refine wpAnyT_take (i := 0) (v := ?_) rfl (by kernel_rfl) (by kernel_rfl) (by kernel_rfl) (by kernel_rfl) (by kernel_rfl) (fun _ _ _ h => h) (.inl ⟨rfl, ?_⟩) HS.out ?_
    rotate_left
    · intro W__ hW__
      obtain ⟨h1, h2, h3⟩ := hW__
      go_simp
      (try with_reducible rfl)
    try simp only [Act.put]
    refine wpAnyT_take (i := 1) (v := ?_) rfl (by kernel_rfl) (by kernel_rfl) (by kernel_rfl) (by kernel_rfl) (by kernel_rfl) (fun _ _ _ h => h) (.inl ⟨rfl, ?_⟩) HS.out ?_
    rotate_left
    · intro W__ hW__
      obtain ⟨h1, h2, h3⟩ := hW__
      go_simp
      (try with_reducible rfl)
    try simp only [Act.put]
    refine wpAnyT_take (i := 2) (v := ?_) rfl (by kernel_rfl) (by kernel_rfl) (by kernel_rfl) (by kernel_rfl) (by kernel_rfl) (fun _ _ _ h => h) (.inl ⟨rfl, ?_⟩) HS.out ?_
    rotate_left
    · intro W__ hW__
      obtain ⟨h1, h2, h3⟩ := hW__
      go_simp
      (try with_reducible rfl)
    try simp only [Act.put]
    refine wpAnyT_take (i := 3) (v := ?_) rfl (by kernel_rfl) (by kernel_rfl) (by kernel_rfl) (by kernel_rfl) (by kernel_rfl) (fun _ _ _ h => h) (.inl ⟨rfl, ?_⟩) HS.out ?_
    rotate_left
    · intro W__ hW__
      obtain ⟨h1, h2, h3⟩ := hW__
      go_simp
      (try with_reducible rfl)
    try simp only [Act.put]
    refine wpAnyT_take (i := 4) (v := .agg cs) rfl (by kernel_rfl) (by kernel_rfl) (by kernel_rfl) (by kernel_rfl) (by kernel_rfl) (fun _ _ _ h => h) (.inl ⟨rfl, ?_⟩) HS.out ?_
    · intro W__ hW__
      obtain ⟨h1, h2, h3⟩ := hW__
      exact exec_load_row TTold _ rfl w.heap.size (by simp [Act.eval]) TTold cs _ h2 Tryz.underlying112 HI.out
    try simp only [Act.put]
    refine wpAnyT_take (i := 5) (v := ?_) rfl (by kernel_rfl) (by kernel_rfl) (by kernel_rfl) (by kernel_rfl) (by kernel_rfl) (fun _ _ _ h => h) (.inl ⟨rfl, ?_⟩) HS.out ?_
    rotate_left
    · intro W__ hW__
      obtain ⟨h1, h2, h3⟩ := hW__
      go_simp
      (try with_reducible rfl)
    try simp only [Act.put]
    refine wpAnyT_end (i := 6) rfl (by kernel_rfl) rfl (by kernel_rfl) fun K__ hK__ => ?_
    unfold Oper.wp
    go_simp
    refine hK__ _ _ ?_
    clear hK__
    refine wpAnyT_done (by kernel_rfl) ?_ _
    clear HS s2 s2'
    go_wp2
    go_ret
    refine ⟨?_, ?_, HO0.out.trans (HOT.out.trans (Oth.of (Below.refl _ _).drew)), HL0.out.trans HBL.out.drew⟩
    · rw [addK_new HOUT.out, idxOf_snoc HOUT.out]; rfl
    · rw [addK_new HOUT.out]; exact ⟨hN, .inr ⟨w.heap.size + 1, by omega, HB'.out, HM'.out⟩⟩
  · have HB := Lib.hid h2
    have p0 := Blk.cell1 h2; have f0 := Blk.frz1 h2
    have hlt := h2.lt
    by_cases hin : x ∈ keys
    · obtain ⟨k, hk⟩ := List.getElem?_of_mem hin
      have HIN := Lib.hid hin
      have HM := Lib.hid h3
      have HK : Hid (keys.idxOf x = k) := Lib.hid (nodup_getQ h3.nodup (by rw [List.getElem?_eq_getElem (List.idxOf_lt_length_of_mem hin), List.getElem_idxOf]) hk)
      have HLK := Lib.hid (fun W (hb : Below w.heap.size w W) => (h3.below hb).in (keyT q) Tryz.underlying107 zero_int9 hx hk)
      have HBW := Lib.hid hbw
      have lk1 : (Instr.lookup TMT (.map (some mb)) (.agg cs) true).run Tryz.prog (w.alloc (.cells cs TTold)).drew = .ok (.tuple #[.int .i64 k, .bool true]) (w.alloc (.cells cs TTold)).drew := by have h := (HLK.out _ hbw.drew).1; rw [HE.out] at h; exact h
      have lk2 : (Instr.lookup TMT (.map (some mb)) (.agg cs) false).run Tryz.prog (w.alloc (.cells cs TTold)).drew.drew = .ok (.int .i64 k) (w.alloc (.cells cs TTold)).drew.drew := by have h := (HLK.out _ hbw.drew.drew).2; rw [HE.out] at h; exact h
      have HS := Lib.hid (show (w.alloc (.cells cs TTold)).drew.cell? ⟨N, 0, none⟩ = some (.map (some mb)) ∧ Blk (w.alloc (.cells cs TTold)).drew w.heap.size TTold cs ∧ _ from And.intro (Blk.cell1 (h2.below hbw.drew h2.lt)) (And.intro (BX.out.below (Below.refl _ _).drew BX.out.lt) lk1))
      have HS2 := Lib.hid (show (w.alloc (.cells cs TTold)).drew.drew.cell? ⟨N, 0, none⟩ = some (.map (some mb)) ∧ Blk (w.alloc (.cells cs TTold)).drew.drew w.heap.size TTold cs ∧ _ from And.intro (Blk.cell1 (h2.below hbw.drew.drew h2.lt)) (And.intro (BX.out.below (Below.refl _ _).drew.drew BX.out.lt) lk2))
      clear h2 h3 hk hin lk1 lk2 hcs hbw
      go_enter Tryz.func56, Tryz.ntmps56
      go_wp2
      refine wp_region_T 10 (fun W => W.cell? ⟨N, 0, none⟩ = some (.map (some mb)) ∧ Blk W w.heap.size TTold cs ∧ (Instr.lookup TMT (.map (some mb)) (.agg cs) true).run Tryz.prog W = .ok (.tuple #[.int .i64 k, .bool true]) W) (by kernel_rfl) ?_
      refine wpAnyT_take (i := 0) (v := ?_) rfl (by kernel_rfl) (by kernel_rfl) (by kernel_rfl) (by kernel_rfl) (by kernel_rfl) (fun _ _ _ h => h) (.inl ⟨rfl, ?_⟩) HS.out ?_
      rotate_left
      · intro W__ hW__
        obtain ⟨h1, h2, h3⟩ := hW__
        go_simp
        (try with_reducible rfl)
      try simp only [Act.put]
      refine wpAnyT_take (i := 1) (v := ?_) rfl (by kernel_rfl) (by kernel_rfl) (by kernel_rfl) (by kernel_rfl) (by kernel_rfl) (fun _ _ _ h => h) (.inl ⟨rfl, ?_⟩) HS.out ?_
      rotate_left
      · intro W__ hW__
        obtain ⟨h1, h2, h3⟩ := hW__
        go_simp
        (try with_reducible rfl)
      try simp only [Act.put]
      refine wpAnyT_take (i := 2) (v := ?_) rfl (by kernel_rfl) (by kernel_rfl) (by kernel_rfl) (by kernel_rfl) (by kernel_rfl) (fun _ _ _ h => h) (.inl ⟨rfl, ?_⟩) HS.out ?_
      rotate_left
      · intro W__ hW__
        obtain ⟨h1, h2, h3⟩ := hW__
        go_simp
        (try with_reducible rfl)
      try simp only [Act.put]
      refine wpAnyT_take (i := 3) (v := ?_) rfl (by kernel_rfl) (by kernel_rfl) (by kernel_rfl) (by kernel_rfl) (by kernel_rfl) (fun _ _ _ h => h) (.inl ⟨rfl, ?_⟩) HS.out ?_
      rotate_left
      · intro W__ hW__
        obtain ⟨h1, h2, h3⟩ := hW__
        go_simp
        (try with_reducible rfl)
      try simp only [Act.put]
      refine wpAnyT_take (i := 4) (v := .agg cs) rfl (by kernel_rfl) (by kernel_rfl) (by kernel_rfl) (by kernel_rfl) (by kernel_rfl) (fun _ _ _ h => h) (.inl ⟨rfl, ?_⟩) HS.out ?_
      · intro W__ hW__
        obtain ⟨h1, h2, h3⟩ := hW__
        exact exec_load_row TTold _ rfl w.heap.size (by simp [Act.eval]) TTold cs _ h2 Tryz.underlying112 HI.out
      try simp only [Act.put]
      refine wpAnyT_take (i := 5) (v := ?_) rfl (by kernel_rfl) (by kernel_rfl) (by kernel_rfl) (by kernel_rfl) (by kernel_rfl) (fun _ _ _ h => h) (.inl ⟨rfl, ?_⟩) HS.out ?_
      rotate_left
      · intro W__ hW__
        obtain ⟨h1, h2, h3⟩ := hW__
        go_simp
        (try with_reducible rfl)
      try simp only [Act.put]
      refine wpAnyT_take (i := 6) (v := ?_) rfl (by kernel_rfl) (by kernel_rfl) (by kernel_rfl) (by kernel_rfl) (by kernel_rfl) (fun _ _ _ h => h) (.inl ⟨rfl, ?_⟩) HS.out ?_
      rotate_left
      · intro W__ hW__
        obtain ⟨h1, h2, h3⟩ := hW__
        go_simp
        (try with_reducible rfl)
      try simp only [Act.put]
      refine wpAnyT_take (i := 7) (v := ?_) rfl (by kernel_rfl) (by kernel_rfl) (by kernel_rfl) (by kernel_rfl) (by kernel_rfl) (fun _ _ _ h => h) (.inl ⟨rfl, ?_⟩) HS.out ?_
      rotate_left
      · intro W__ hW__
        obtain ⟨h1, h2, h3⟩ := hW__
        go_simp
        (try with_reducible rfl)
      try simp only [Act.put]
      refine wpAnyT_take (i := 8) (v := ?_) rfl (by kernel_rfl) (by kernel_rfl) (by kernel_rfl) (by kernel_rfl) (by kernel_rfl) (fun _ _ _ h => h) (.inl ⟨rfl, ?_⟩) HS.out ?_
      rotate_left
      · intro W__ hW__
        obtain ⟨h1, h2, h3⟩ := hW__
        go_simp
        (try with_reducible rfl)
      try simp only [Act.put]
      refine wpAnyT_take (i := 9) (v := ?_) rfl (by kernel_rfl) (by kernel_rfl) (by kernel_rfl) (by kernel_rfl) (by kernel_rfl) (fun _ _ _ h => h) (.inl ⟨rfl, ?_⟩) HS.out ?_
      rotate_left
      · intro W__ hW__
        obtain ⟨h1, h2, h3⟩ := hW__
        go_simp
        (try with_reducible rfl)
      try simp only [Act.put]
      refine wpAnyT_end (i := 10) rfl (by kernel_rfl) rfl (by kernel_rfl) fun K__ hK__ => ?_
      unfold Oper.wp
      go_simp
      refine hK__ _ _ ?_
      clear hK__
      refine wpAnyT_done (by kernel_rfl) ?_ _
      clear HS
      have HS := HS2
      go_wp2
      refine wp_region_T 6 (fun W => W.cell? ⟨N, 0, none⟩ = some (.map (some mb)) ∧ Blk W w.heap.size TTold cs ∧ (Instr.lookup TMT (.map (some mb)) (.agg cs) false).run Tryz.prog W = .ok (.int .i64 k) W) (by kernel_rfl) ?_
      refine wpAnyT_take (i := 0) (v := ?_) rfl (by kernel_rfl) (by kernel_rfl) (by kernel_rfl) (by kernel_rfl) (by kernel_rfl) (fun _ _ _ h => h) (.inl ⟨rfl, ?_⟩) HS.out ?_
      rotate_left
      · intro W__ hW__
        obtain ⟨h1, h2, h3⟩ := hW__
        go_simp
        (try with_reducible rfl)
      try simp only [Act.put]
      refine wpAnyT_take (i := 1) (v := ?_) rfl (by kernel_rfl) (by kernel_rfl) (by kernel_rfl) (by kernel_rfl) (by kernel_rfl) (fun _ _ _ h => h) (.inl ⟨rfl, ?_⟩) HS.out ?_
      rotate_left
      · intro W__ hW__
        obtain ⟨h1, h2, h3⟩ := hW__
        go_simp
        (try with_reducible rfl)
      try simp only [Act.put]
      refine wpAnyT_take (i := 2) (v := ?_) rfl (by kernel_rfl) (by kernel_rfl) (by kernel_rfl) (by kernel_rfl) (by kernel_rfl) (fun _ _ _ h => h) (.inl ⟨rfl, ?_⟩) HS.out ?_
      rotate_left
      · intro W__ hW__
        obtain ⟨h1, h2, h3⟩ := hW__
        go_simp
        (try with_reducible rfl)
      try simp only [Act.put]
      refine wpAnyT_take (i := 3) (v := ?_) rfl (by kernel_rfl) (by kernel_rfl) (by kernel_rfl) (by kernel_rfl) (by kernel_rfl) (fun _ _ _ h => h) (.inl ⟨rfl, ?_⟩) HS.out ?_
      rotate_left
      · intro W__ hW__
        obtain ⟨h1, h2, h3⟩ := hW__
        go_simp
        (try with_reducible rfl)
      try simp only [Act.put]
      refine wpAnyT_take (i := 4) (v := .agg cs) rfl (by kernel_rfl) (by kernel_rfl) (by kernel_rfl) (by kernel_rfl) (by kernel_rfl) (fun _ _ _ h => h) (.inl ⟨rfl, ?_⟩) HS.out ?_
      · intro W__ hW__
        obtain ⟨h1, h2, h3⟩ := hW__
        exact exec_load_row TTold _ rfl w.heap.size (by simp [Act.eval]) TTold cs _ h2 Tryz.underlying112 HI.out
      try simp only [Act.put]
      refine wpAnyT_take (i := 5) (v := ?_) rfl (by kernel_rfl) (by kernel_rfl) (by kernel_rfl) (by kernel_rfl) (by kernel_rfl) (fun _ _ _ h => h) (.inl ⟨rfl, ?_⟩) HS.out ?_
      rotate_left
      · intro W__ hW__
        obtain ⟨h1, h2, h3⟩ := hW__
        go_simp
        (try with_reducible rfl)
      try simp only [Act.put]
      refine wpAnyT_end (i := 6) rfl (by kernel_rfl) rfl (by kernel_rfl) fun K__ hK__ => ?_
      unfold Oper.wp
      go_simp
      refine hK__ _ _ ?_
      clear hK__
      refine wpAnyT_done (by kernel_rfl) ?_ _
      go_wp2
      go_ret
      have HBE := HBW.out.drew.drew
      refine ⟨?_, ?_, Oth.of HBE, HBE.mono hbase⟩
      · rw [addK_in HIN.out, HK.out]; rfl
      · rw [addK_in HIN.out]; exact ⟨hN, .inr ⟨mb, hmb, HB.out.below HBE HB.out.lt, HM.out.below HBE⟩⟩
    · have HM := Lib.hid (h3.below hbw)
      have HB1 := Lib.hid (h2.below hbw h2.lt)
      have BX1 := BX
      have HOUT := Lib.hid hin
      have HGE : Hid (base ≤ mb) := Lib.hid hmb
      have HBW := Lib.hid hbw
      clear h2 h3 hin hcs hbw
      go_enter Tryz.func56, Tryz.ntmps56
      have HMD := Lib.hid (MapQ.below HM.out (Below.refl _ _).drew)
      have HBD := Lib.hid (HB1.out.below (Below.refl _ _).drew HB1.out.lt)
      have BXD := Lib.hid (BX1.out.below (Below.refl _ _).drew BX1.out.lt)
      have hlk := (HMD.out.out (keyT q) Tryz.underlying107 zero_int9 HX.out HOUT.out).1
      have hlk2 : (Instr.lookup TMT (.map (some mb)) (.agg cs) true).run Tryz.prog (((w.alloc (.cells cs TTold))).drew) = .ok (.tuple #[.int .i64 0, .bool false]) ((w.alloc (.cells cs TTold))).drew := by rw [HE.out] at hlk; exact hlk
      have HS := Lib.hid (And.intro (Blk.cell1 HBD.out) (And.intro BXD.out hlk2))
      go_wp2
      refine wp_region_T 10 (fun W => W.cell? ⟨N, 0, none⟩ = some (.map (some mb)) ∧ Blk W w.heap.size TTold cs ∧ (Instr.lookup TMT (.map (some mb)) (.agg cs) true).run Tryz.prog W = .ok (.tuple #[.int .i64 0, .bool false]) W) (by kernel_rfl) ?_
      refine wpAnyT_take (i := 0) (v := ?_) rfl (by kernel_rfl) (by kernel_rfl) (by kernel_rfl) (by kernel_rfl) (by kernel_rfl) (fun _ _ _ h => h) (.inl ⟨rfl, ?_⟩) HS.out ?_
      rotate_left
      · intro W__ hW__
        obtain ⟨h1, h2, h3⟩ := hW__
        go_simp
        (try with_reducible rfl)
      try simp only [Act.put]
      refine wpAnyT_take (i := 1) (v := ?_) rfl (by kernel_rfl) (by kernel_rfl) (by kernel_rfl) (by kernel_rfl) (by kernel_rfl) (fun _ _ _ h => h) (.inl ⟨rfl, ?_⟩) HS.out ?_
      rotate_left
      · intro W__ hW__
        obtain ⟨h1, h2, h3⟩ := hW__
        go_simp
        (try with_reducible rfl)
      try simp only [Act.put]
      refine wpAnyT_take (i := 2) (v := ?_) rfl (by kernel_rfl) (by kernel_rfl) (by kernel_rfl) (by kernel_rfl) (by kernel_rfl) (fun _ _ _ h => h) (.inl ⟨rfl, ?_⟩) HS.out ?_
      rotate_left
      · intro W__ hW__
        obtain ⟨h1, h2, h3⟩ := hW__
        go_simp
        (try with_reducible rfl)
      try simp only [Act.put]
      refine wpAnyT_take (i := 3) (v := ?_) rfl (by kernel_rfl) (by kernel_rfl) (by kernel_rfl) (by kernel_rfl) (by kernel_rfl) (fun _ _ _ h => h) (.inl ⟨rfl, ?_⟩) HS.out ?_
      rotate_left
      · intro W__ hW__
        obtain ⟨h1, h2, h3⟩ := hW__
        go_simp
        (try with_reducible rfl)
      try simp only [Act.put]
      refine wpAnyT_take (i := 4) (v := .agg cs) rfl (by kernel_rfl) (by kernel_rfl) (by kernel_rfl) (by kernel_rfl) (by kernel_rfl) (fun _ _ _ h => h) (.inl ⟨rfl, ?_⟩) HS.out ?_
      · intro W__ hW__
        obtain ⟨h1, h2, h3⟩ := hW__
        exact exec_load_row TTold _ rfl w.heap.size (by simp [Act.eval]) TTold cs _ h2 Tryz.underlying112 HI.out
      try simp only [Act.put]
      refine wpAnyT_take (i := 5) (v := ?_) rfl (by kernel_rfl) (by kernel_rfl) (by kernel_rfl) (by kernel_rfl) (by kernel_rfl) (fun _ _ _ h => h) (.inl ⟨rfl, ?_⟩) HS.out ?_
      rotate_left
      · intro W__ hW__
        obtain ⟨h1, h2, h3⟩ := hW__
        go_simp
        (try with_reducible rfl)
      try simp only [Act.put]
      refine wpAnyT_take (i := 6) (v := ?_) rfl (by kernel_rfl) (by kernel_rfl) (by kernel_rfl) (by kernel_rfl) (by kernel_rfl) (fun _ _ _ h => h) (.inl ⟨rfl, ?_⟩) HS.out ?_
      rotate_left
      · intro W__ hW__
        obtain ⟨h1, h2, h3⟩ := hW__
        go_simp
        (try with_reducible rfl)
      try simp only [Act.put]
      refine wpAnyT_take (i := 7) (v := ?_) rfl (by kernel_rfl) (by kernel_rfl) (by kernel_rfl) (by kernel_rfl) (by kernel_rfl) (fun _ _ _ h => h) (.inl ⟨rfl, ?_⟩) HS.out ?_
      rotate_left
      · intro W__ hW__
        obtain ⟨h1, h2, h3⟩ := hW__
        go_simp
        (try with_reducible rfl)
      try simp only [Act.put]
      refine wpAnyT_take (i := 8) (v := ?_) rfl (by kernel_rfl) (by kernel_rfl) (by kernel_rfl) (by kernel_rfl) (by kernel_rfl) (fun _ _ _ h => h) (.inl ⟨rfl, ?_⟩) HS.out ?_
      rotate_left
      · intro W__ hW__
        obtain ⟨h1, h2, h3⟩ := hW__
        go_simp
        (try with_reducible rfl)
      try simp only [Act.put]
      refine wpAnyT_take (i := 9) (v := ?_) rfl (by kernel_rfl) (by kernel_rfl) (by kernel_rfl) (by kernel_rfl) (by kernel_rfl) (fun _ _ _ h => h) (.inl ⟨rfl, ?_⟩) HS.out ?_
      rotate_left
      · intro W__ hW__
        obtain ⟨h1, h2, h3⟩ := hW__
        go_simp
        (try with_reducible rfl)
      try simp only [Act.put]
      refine wpAnyT_end (i := 10) rfl (by kernel_rfl) rfl (by kernel_rfl) fun K__ hK__ => ?_
      unfold Oper.wp
      go_simp
      refine hK__ _ _ ?_
      clear hK__
      refine wpAnyT_done (by kernel_rfl) ?_ _
      clear HS hlk hlk2
      go_wp2
      have HMD2 := Lib.hid (MapQ.below HMD.out (Below.refl _ _).drew)
      have HBD2 := Lib.hid (HBD.out.below (Below.refl _ _).drew HBD.out.lt)
      have BXD2 := Lib.hid (BXD.out.below (Below.refl _ _).drew BXD.out.lt)
      have hlen : ∀ ty, (Builtin.len_ #[TMT] ty #[.map (some mb)]).run Tryz.prog (((w.alloc (.cells cs TTold))).drew.drew) = .ok (.int .i64 ((keys.length : Int))) ((w.alloc (.cells cs TTold))).drew.drew := MapQ.len Tryz.underlying107 HMD2.out
      have HS := Lib.hid (And.intro (Blk.cell1 HBD2.out) (And.intro BXD2.out hlen))
      obtain ⟨W', hput', hM', e1, e2, e3, e4, hblk⟩ := MapQ.put (keyT q) Tryz.underlying107 HMD2.out HX.out HOUT.out (v := (keys.length : Int)) rfl
      have hput : (Instr.mapUpdate TMT (.map (some mb)) (.agg cs) (.int .i64 ((keys.length : Int)))).run Tryz.prog (((w.alloc (.cells cs TTold))).drew.drew) = .ok () W' := by rw [HE.out] at hput'; exact hput'
      have HM' := Lib.hid hM'
      have hNm : N ≠ mb := HM.out.ne HB1.out
      have hXm : w.heap.size ≠ mb := HM.out.ne BX1.out
      have HB' : Hid (Blk W' N TNT #[.map (some mb)]) := Lib.hid ((hblk N hNm).trans HBD2.out)
      have BX' : Hid (Blk W' w.heap.size TTold cs) := Lib.hid ((hblk w.heap.size hXm).trans BXD2.out)
      have HOT : Hid (Oth TNT ((w.alloc (.cells cs TTold))) W') := Lib.hid ⟨e1, e2, e3, by rw [e4]; exact Nat.le_refl _, fun g t cs ht hb => (hblk g (HM.out.ne hb)).trans hb⟩
      have HBL : Hid (Below base ((w.alloc (.cells cs TTold))) W') := Lib.hid ⟨e1, e2, e3, by rw [e4]; exact Nat.le_refl _, fun g hg => hblk g (by have := HGE.out; omega)⟩
      clear e1 e2 e3 e4 hblk hNm hXm hM' hput'
      refine wp_region_T 10 (fun W => W.cell? ⟨N, 0, none⟩ = some (.map (some mb)) ∧ Blk W w.heap.size TTold cs ∧ ∀ ty, (Builtin.len_ #[TMT] ty #[.map (some mb)]).run Tryz.prog W = .ok (.int .i64 ((keys.length : Int))) W) (by kernel_rfl) ?_
      refine wpAnyT_take (i := 0) (v := ?_) rfl (by kernel_rfl) (by kernel_rfl) (by kernel_rfl) (by kernel_rfl) (by kernel_rfl) (fun _ _ _ h => h) (.inl ⟨rfl, ?_⟩) HS.out ?_
      rotate_left
      · intro W__ hW__
        obtain ⟨h1, h2, h3⟩ := hW__
        go_simp
        (try with_reducible rfl)
      try simp only [Act.put]
      refine wpAnyT_take (i := 1) (v := ?_) rfl (by kernel_rfl) (by kernel_rfl) (by kernel_rfl) (by kernel_rfl) (by kernel_rfl) (fun _ _ _ h => h) (.inl ⟨rfl, ?_⟩) HS.out ?_
      rotate_left
      · intro W__ hW__
        obtain ⟨h1, h2, h3⟩ := hW__
        go_simp
        (try with_reducible rfl)
      try simp only [Act.put]
      refine wpAnyT_take (i := 2) (v := ?_) rfl (by kernel_rfl) (by kernel_rfl) (by kernel_rfl) (by kernel_rfl) (by kernel_rfl) (fun _ _ _ h => h) (.inl ⟨rfl, ?_⟩) HS.out ?_
      rotate_left
      · intro W__ hW__
        obtain ⟨h1, h2, h3⟩ := hW__
        go_simp
        (try with_reducible rfl)
      try simp only [Act.put]
      refine wpAnyT_take (i := 3) (v := ?_) rfl (by kernel_rfl) (by kernel_rfl) (by kernel_rfl) (by kernel_rfl) (by kernel_rfl) (fun _ _ _ h => h) (.inl ⟨rfl, ?_⟩) HS.out ?_
      rotate_left
      · intro W__ hW__
        obtain ⟨h1, h2, h3⟩ := hW__
        go_simp
        (try with_reducible rfl)
      try simp only [Act.put]
      refine wpAnyT_take (i := 4) (v := .agg cs) rfl (by kernel_rfl) (by kernel_rfl) (by kernel_rfl) (by kernel_rfl) (by kernel_rfl) (fun _ _ _ h => h) (.inl ⟨rfl, ?_⟩) HS.out ?_
      · intro W__ hW__
        obtain ⟨h1, h2, h3⟩ := hW__
        exact exec_load_row TTold _ rfl w.heap.size (by simp [Act.eval]) TTold cs _ h2 Tryz.underlying112 HI.out
      try simp only [Act.put]
      refine wpAnyT_take (i := 5) (v := ?_) rfl (by kernel_rfl) (by kernel_rfl) (by kernel_rfl) (by kernel_rfl) (by kernel_rfl) (fun _ _ _ h => h) (.inl ⟨rfl, ?_⟩) HS.out ?_
      rotate_left
      · intro W__ hW__
        obtain ⟨h1, h2, h3⟩ := hW__
        go_simp
        (try with_reducible rfl)
      try simp only [Act.put]
      refine wpAnyT_take (i := 6) (v := ?_) rfl (by kernel_rfl) (by kernel_rfl) (by kernel_rfl) (by kernel_rfl) (by kernel_rfl) (fun _ _ _ h => h) (.inl ⟨rfl, ?_⟩) HS.out ?_
      rotate_left
      · intro W__ hW__
        obtain ⟨h1, h2, h3⟩ := hW__
        go_simp
        (try with_reducible rfl)
      try simp only [Act.put]
      refine wpAnyT_take (i := 7) (v := ?_) rfl (by kernel_rfl) (by kernel_rfl) (by kernel_rfl) (by kernel_rfl) (by kernel_rfl) (fun _ _ _ h => h) (.inl ⟨rfl, ?_⟩) HS.out ?_
      rotate_left
      · intro W__ hW__
        obtain ⟨h1, h2, h3⟩ := hW__
        go_simp
        (try with_reducible rfl)
      try simp only [Act.put]
      refine wpAnyT_take (i := 8) (v := ?_) rfl (by kernel_rfl) (by kernel_rfl) (by kernel_rfl) (by kernel_rfl) (by kernel_rfl) (fun _ _ _ h => h) (.inl ⟨rfl, ?_⟩) HS.out ?_
      rotate_left
      · intro W__ hW__
        obtain ⟨h1, h2, h3⟩ := hW__
        go_simp
        (try with_reducible rfl)
      try simp only [Act.put]
      refine wpAnyT_take (i := 9) (v := ?_) rfl (by kernel_rfl) (by kernel_rfl) (by kernel_rfl) (by kernel_rfl) (by kernel_rfl) (fun _ _ _ h => h) (.inl ⟨rfl, ?_⟩) HS.out ?_
      rotate_left
      · intro W__ hW__
        obtain ⟨h1, h2, h3⟩ := hW__
        go_simp
        (try with_reducible rfl)
      try simp only [Act.put]
      refine wpAnyT_end (i := 10) rfl (by kernel_rfl) rfl (by kernel_rfl) fun K__ hK__ => ?_
      unfold Oper.wp
      go_simp
      refine hK__ _ _ ?_
      clear hK__
      refine wpAnyT_done (by kernel_rfl) ?_ _
      clear HS hput hlen
      go_wp2
      have HMD3 := Lib.hid (MapQ.below HM'.out (Below.refl _ _).drew)
      have HBD3 := Lib.hid (HB'.out.below (Below.refl _ _).drew HB'.out.lt)
      have BXD3 := Lib.hid (BX'.out.below (Below.refl _ _).drew BX'.out.lt)
      have s2' := (HMD3.out.in (keyT q) Tryz.underlying107 zero_int9 HX.out (k := keys.length) (by simp)).2
      have s2 : (Instr.lookup TMT (.map (some mb)) (.agg cs) false).run Tryz.prog W'.drew = .ok (.int .i64 ((keys.length : Int))) W'.drew := by rw [HE.out] at s2'; exact s2'
      have HS := Lib.hid (And.intro (Blk.cell1 HBD3.out) (And.intro BXD3.out s2))
      refine wp_region_T 6 (fun W => W.cell? ⟨N, 0, none⟩ = some (.map (some mb)) ∧ Blk W w.heap.size TTold cs ∧ (Instr.lookup TMT (.map (some mb)) (.agg cs) false).run Tryz.prog W = .ok (.int .i64 ((keys.length : Int))) W) (by kernel_rfl) ?_
      refine wpAnyT_take (i := 0) (v := ?_) rfl (by kernel_rfl) (by kernel_rfl) (by kernel_rfl) (by kernel_rfl) (by kernel_rfl) (fun _ _ _ h => h) (.inl ⟨rfl, ?_⟩) HS.out ?_
      rotate_left
      · intro W__ hW__
        obtain ⟨h1, h2, h3⟩ := hW__
        go_simp
        (try with_reducible rfl)
      try simp only [Act.put]
      refine wpAnyT_take (i := 1) (v := ?_) rfl (by kernel_rfl) (by kernel_rfl) (by kernel_rfl) (by kernel_rfl) (by kernel_rfl) (fun _ _ _ h => h) (.inl ⟨rfl, ?_⟩) HS.out ?_
      rotate_left
      · intro W__ hW__
        obtain ⟨h1, h2, h3⟩ := hW__
        go_simp
        (try with_reducible rfl)
      try simp only [Act.put]
      refine wpAnyT_take (i := 2) (v := ?_) rfl (by kernel_rfl) (by kernel_rfl) (by kernel_rfl) (by kernel_rfl) (by kernel_rfl) (fun _ _ _ h => h) (.inl ⟨rfl, ?_⟩) HS.out ?_
      rotate_left
      · intro W__ hW__
        obtain ⟨h1, h2, h3⟩ := hW__
        go_simp
        (try with_reducible rfl)
      try simp only [Act.put]
      refine wpAnyT_take (i := 3) (v := ?_) rfl (by kernel_rfl) (by kernel_rfl) (by kernel_rfl) (by kernel_rfl) (by kernel_rfl) (fun _ _ _ h => h) (.inl ⟨rfl, ?_⟩) HS.out ?_
      rotate_left
      · intro W__ hW__
        obtain ⟨h1, h2, h3⟩ := hW__
        go_simp
        (try with_reducible rfl)
      try simp only [Act.put]
      refine wpAnyT_take (i := 4) (v := .agg cs) rfl (by kernel_rfl) (by kernel_rfl) (by kernel_rfl) (by kernel_rfl) (by kernel_rfl) (fun _ _ _ h => h) (.inl ⟨rfl, ?_⟩) HS.out ?_
      · intro W__ hW__
        obtain ⟨h1, h2, h3⟩ := hW__
        exact exec_load_row TTold _ rfl w.heap.size (by simp [Act.eval]) TTold cs _ h2 Tryz.underlying112 HI.out
      try simp only [Act.put]
      refine wpAnyT_take (i := 5) (v := ?_) rfl (by kernel_rfl) (by kernel_rfl) (by kernel_rfl) (by kernel_rfl) (by kernel_rfl) (fun _ _ _ h => h) (.inl ⟨rfl, ?_⟩) HS.out ?_
      rotate_left
      · intro W__ hW__
        obtain ⟨h1, h2, h3⟩ := hW__
        go_simp
        (try with_reducible rfl)
      try simp only [Act.put]
      refine wpAnyT_end (i := 6) rfl (by kernel_rfl) rfl (by kernel_rfl) fun K__ hK__ => ?_
      unfold Oper.wp
      go_simp
      refine hK__ _ _ ?_
      clear hK__
      refine wpAnyT_done (by kernel_rfl) ?_ _
      clear HS s2 s2'
      go_wp2
      go_ret
      refine ⟨?_, ?_, (Oth.of HBW.out).trans (HOT.out.trans (Oth.of (Below.refl _ _).drew)), (HBW.out.mono hbase).trans HBL.out.drew⟩
      · rw [addK_new HOUT.out, idxOf_snoc HOUT.out]; rfl
      · rw [addK_new HOUT.out]; exact ⟨hN, .inr ⟨mb, hmb, HB'.out, HM'.out⟩⟩
end Go.Proofs.YtjnjbcigbnjmkaaGreat
