/- THE STATEMENT ServeWritesCardSaid: whatever the cells and the faults: the law returns true, and its arguments read as before. No condition but the card's: the tables of Go's library are those that the program's text lays. -/
import Derived.Test.YtjbfkceficokbaaDoorNi
import Derived.Test.YtjbfkceficokbaaDoorRe
import Derived.Test.YtjbfkceficokbaaDoorTie
import Derived.Test.YtjbfkceficokbaaDoorCards
import Derived.Lib.LaidIn
import Derived.Lib.LaidU8T
import Derived.Lib.SmallJoins
import Derived.ProofKit
import Derived.SizedLaws
import Derived.LaidLaws
import Derived.Handed
import Derived.OpenShut
import Derived.ChangeOld
import Derived.SevenTiedAt
namespace Go.Proofs.YtjbfkceficokbaaDoor.lawServeWrites
open Go.ChangeShapes Go.WideShapes Go.ChangeAt Go.RowKit Pv

theorem own : ownKnob Tryd.prog.godebug = none := by kernel_rfl
theorem laidOut : laidOutB Tryd.prog = true := by kernel_rfl
theorem gP : Tryd.prog.globalNamed "internal/strconv.uint64pow10" = some 0 := by kernel_rfl
theorem cI : Tryd.prog.cellsOf 3 = 1 := by kernel_rfl
theorem c6 : Tryd.prog.cellsOf 2 = 1 := by kernel_rfl
theorem cU : Tryd.prog.cellsOf 5 = 1 := by kernel_rfl
theorem cS : Tryd.prog.cellsOf 9 = 1 := by kernel_rfl
theorem cC : Tryd.prog.cellsOf 34 = 5 := by kernel_rfl
theorem cF : Tryd.prog.cellsOf 27 = 6 := by kernel_rfl
theorem cP : Tryd.prog.cellsOf 25 = 1 := by kernel_rfl
theorem cT : Tryd.prog.cellsOf 30 = 2 := by kernel_rfl
theorem bC : Tryd.prog.bytesOf 34 = 56 := by kernel_rfl
theorem bF : Tryd.prog.bytesOf 27 = 80 := by kernel_rfl
theorem bT : Tryd.prog.bytesOf 30 = 24 := by kernel_rfl
theorem gPy : (Tryd.prog.globals[0]?).map (·.type) = some 90 := by kernel_rfl
theorem uP : Tryd.prog.underlying 90 = some (.array 20 77) := by kernel_rfl
theorem uW : Tryd.prog.underlying 77 = some (.int .u64) := by kernel_rfl
theorem cW : Tryd.prog.cellsOf 77 = 1 := by kernel_rfl
theorem cA : Tryd.prog.cellsOf 90 = 20 := by kernel_rfl

/-- The settled world, the five tables laid. -/
noncomputable def laidWorld (os : Os) : World :=
  let w0 := World.holding Tryd.prog os ⟨#[], #[], []⟩
  let put (h : Array Obj) (g : Nat) (cs : Array Value) : Array Obj := h.modify g fun
    | .cells _ t frozen => .cells cs t frozen
    | o => o
  let h1 := put w0.heap 1 (Lib.firstTab.map fun z => Value.int .u8 z).toArray
  let h2 := put h1 2 ((List.range 16).flatMap fun i => [Value.int .u8 (Lib.accLo i), Value.int .u8 (Lib.accHi i)]).toArray
  let h3 := put h2 0 (Lib.pow10Tab.map fun z => Value.int .u64 z).toArray
  let h4 := put h3 4 (([0, 1, 28, 2, 29, 14, 24, 3, 30, 22, 20, 15, 25, 17, 4, 8, 31, 27, 13, 23, 21, 19, 16, 7, 26, 12, 18, 6, 11, 5, 10, 9] : List Int).map fun z => Value.int .u8 z).toArray
  let h5 := put h4 5 (([0, 1, 56, 2, 57, 49, 28, 3, 61, 58, 42, 50, 38, 29, 17, 4, 62, 47, 59, 36, 45, 43, 51, 22, 53, 39, 33, 30, 24, 18, 12, 5, 63, 55, 48, 27, 60, 41, 37, 16, 46, 35, 44, 21, 52, 32, 23, 11, 54, 26, 40, 15, 34, 20, 31, 10, 25, 14, 19, 9, 13, 8, 7, 6] : List Int).map fun z => Value.int .u8 z).toArray
  { w0 with heap := h5 }
theorem laid_met (os : Os) (args : Array Value) : laidMet Tryd.prog Rows.serveWritesRow.laid ((laidWorld os).forCall (fun _ _ => 0) ⟨#[], args, []⟩).memory :=
  (LaidIn.of_run [4, 5, 0, 2, 1] 8 (by kernel_rfl) (by kernel_rfl) (by kernel_rfl) (by kernel_rfl)).met

theorem first_is : (Rows.laid_unicode_utf8_first : DataW Unit) = Lib.firstData := by kernel_rfl
theorem accept_is : (Rows.laid_unicode_utf8_acceptRanges : DataW Unit) = Lib.acceptData := by kernel_rfl
theorem pow_is : (Rows.laid_internal_strconv_uint64pow10 : DataW Unit) = Lib.tabData .u64 Lib.pow10Tab := by kernel_rfl

/-- From the row's condition to what the walks ask. -/
theorem tabs_of_laid {W : World} (h : laidMet Tryd.prog Rows.serveWritesRow.laid W) : TabsB W.heap.size W := by
  have r1 := Lib.laidMet.reads h (.tail _ (.tail _ (.head _)))
  have r2 := Lib.laidMet.reads h (.tail _ (.tail _ (.tail _ (.head _))))
  have r3 := Lib.laidMet.reads h (.tail _ (.tail _ (.tail _ (.tail _ (.head _)))))
  rw [pow_is] at r1
  rw [accept_is] at r2
  rw [first_is] at r3
  have hU : Lib.Utf8Tabs (Tryd.lays196_ren.g 3) (Tryd.lays196_ren.g 4) W :=
    utf8Tabs_of_readsT (ρ := Tryd.lays196_ren) (U8Types.of196 Tryd.lays196) ⟨by kernel_rfl, by kernel_rfl, by kernel_rfl, by kernel_rfl, by kernel_rfl, by kernel_rfl, by kernel_rfl⟩ r3 r2
  have hP : Lib.TabIs Tryd.prog W "internal/strconv.uint64pow10" .u64 Lib.pow10Tab := by
    obtain ⟨g', t', cs, fuel, p, hg', ht', hvar, hd⟩ := r1
    obtain rfl := Option.some.inj (gP.symm.trans hg')
    obtain rfl := Option.some.inj (gPy.symm.trans ht')
    unfold Lib.TabIs
    rw [hvar, ← Lib.cells_of_tab uP uW cW cA hd]
  intro w' hb
  refine ⟨⟨fun c hc => ?_, fun i hi => ⟨?_, ?_⟩⟩, Go.Joins.tab_stays gP hP hb (Nat.le_refl _)⟩
  · exact (hb.cell (World.block_lt_of_cell? _ _ (hU.1 c hc))).trans (hU.1 c hc)
  · exact (hb.cell (World.block_lt_of_cell? _ _ (hU.2 i hi).1)).trans (hU.2 i hi).1
  · exact (hb.cell (World.block_lt_of_cell? _ _ (hU.2 i hi).2)).trans (hU.2 i hi).2

set_option maxHeartbeats 800000 in
set_option maxRecDepth 100000 in
theorem lifted (os : Os) (started : os.Started) (H : Type) (enc : TypeId × Value → H) :
    ReturnsInHanded {} Tryd.checked os 3 .any (fun w args => (Rows.serveWritesSpec.pre enc Tryd.prog Tryd.f3 Rows.serveWritesRow.domain false w args ∧ laidMet Tryd.prog Rows.serveWritesRow.laid w) ∧ sizedMet enc Tryd.prog Tryd.f3 (OpenSpec.ofChange Rows.serveWritesSpec) false w args)
      (Rows.serveWritesSpec.post enc Tryd.prog Tryd.f3 false true false false) := by
  refine returnsInHanded_of_change_and (C := Tryd.checked) (X := fun w _ => laidMet Tryd.prog Rows.serveWritesRow.laid w) (fun _ _ _ hh h => h.of_heap hh) own started (by kernel_rfl) Tryd.func3
    (ChangeSpec.witness_at (enc := enc) (C := Tryd.checked) (os := os) (X := fun w _ => laidMet Tryd.prog Rows.serveWritesRow.laid w) false (laidWorld os) #[.slice none 0 0, .slice none 0 0] 8 rfl (by kernel_rfl) (by kernel_rfl) (by kernel_rfl) (by kernel_rfl) (by kernel_rfl) (laid_met os _)) ?_
  intro W base args ds gs before hval0 hW _ hsz0 hL _
  have hsz : (DataW.weightsEach Tryd.prog (Tryd.f3.params.toList ++ Rows.serveWritesSpec.plain.varTypes Tryd.prog) (ds ++ gs)).all (· ≤ reachBytes) = true := hsz0
  clear hsz0
  have hval : ∀ (j : Nat) t v, Tryd.f3.params[j]? = some t → args[j]? = some v → Value.okWide Tryd.prog W .any base t v := hval0
  have hW' := hW
  obtain ⟨p, q, hA0, hV, rfl, hfz, hnd⟩ := hW
  have hA : DataW.TrodAll enc Tryd.prog W 0 (fun _ => true) true Tryd.f3.params.toList args.toList ds p := hA0
  rw [Tryd.params3] at hA hval hsz
  obtain ⟨v0, vs0, d0, ds0, p0, q0, hargs, rfl, rfl, h0, r0⟩ := trodAll_cons hA
  obtain ⟨v1, vs1, d1, ds1, p1, q1, rfl, rfl, rfl, h1, r1⟩ := trodAll_cons r0
  obtain ⟨rfl, rfl, rfl⟩ := trodAll_nil r1
  obtain rfl : args = #[v0, v1] := by cases args; simp_all
  obtain ⟨rfl, rfl⟩ := trodVars_none hV
  have l0 := lite_arg (j := 0) hsz rfl rfl
  have l1 := lite_arg (j := 1) hsz rfl rfl
  have k0 := h0; have k1 := h1
  have lt0 : ∀ x ∈ p0, x.block < W.heap.size := by obtain ⟨m, hm⟩ := k0; exact DataW.trod_lt m _ _ _ hm
  have lt1 : ∀ x ∈ p1, x.block < W.heap.size := by obtain ⟨m, hm⟩ := k1; exact DataW.trod_lt m _ _ _ hm
  obtain ⟨a0, len, cap, rfl⟩ := okWide_slice Tryd.underlying22 (hval 0 22 v0 rfl rfl)
  obtain ⟨b0, len1, cap1, rfl⟩ := okWide_slice Tryd.underlying23 (hval 1 23 v1 rfl rfl)
  obtain ⟨fuel, hf⟩ := h0
  obtain ⟨fuel1, hf1⟩ := h1
  obtain ⟨v, A, c, hv, hat, _⟩ := read_cells Tryd.underlying22 Tryd.underlying34 rfl rfl rfl rfl rfl rfl rfl rfl rfl rfl Tryd.underlying5 Tryd.underlying9 Tryd.underlying2 Tryd.underlying3 cC cU cS c6 cI (by rw [bC]; omega) hf l0
  injection hv with g1 g2 g3
  subst g1; subst g3
  obtain ⟨fs, B, c4, hv4, hat4, _⟩ := read_faults Tryd.underlying23 Tryd.underlying27 Tryd.underlying30 rfl rfl rfl rfl rfl rfl rfl rfl rfl rfl rfl rfl rfl rfl rfl rfl Tryd.underlying25 Tryd.underlying9 Tryd.underlying3 cF cT cP cS cI (by rw [bF]; omega) (by rw [bT]; omega) hf1 l1
  injection hv4 with g4 g5 g6
  subst g4; subst g6
  clear hA0 hval0
  refine (law_ServeWrites W a0 b0 len cap len1 cap1 v fs hat (hat4.weak fun _ _ h => h.1) (Lib.hid g2.symm) (Lib.hid g5.symm) (tabs_of_laid hL) (fun i x hx => by obtain ⟨_, _, h1, h2⟩ := hat4.all i x hx; exact ⟨h1, h2⟩)).mono fun e W' ⟨he, bel⟩ => ?_
  subst he
  exact ⟨_, rfl, _, _, _, [], _, [], hW', trodAll_mk1 (shut_bool Tryd.underlying4 _),
    (trodAll_cons_mk (Below.trod laidOut (by kernel_rfl) (of_decide_eq_true (by kernel_rfl)) k0 bel lt0) (trodAll_cons_mk (Below.trod laidOut (by kernel_rfl) (of_decide_eq_true (by kernel_rfl)) k1 bel lt1) trodAll_mk0)), rfl, bel.frame _, fun h => by cases h⟩

theorem over : Rows.serveWritesRow.holds Tryd.pinned (OpenSpec.ofChange Rows.serveWritesSpec) :=
  OpenClaim.holds_of_wide 3 Tryd.f3 rfl rfl rfl rfl rfl rfl rfl ⟨rfl, rfl, rfl, rfl, rfl⟩ rfl rfl rfl rfl rfl (by kernel_rfl) Tryd.func3 (by kernel_rfl)
    (of_decide_eq_true (by kernel_rfl)) (by unfold Func.isWrapper; first | (rw [if_pos (by decide +kernel)]; kernel_rfl) | (rw [if_neg (by decide +kernel)]; exact ⟨rfl, rfl⟩))
    (fun os started H enc _ => lifted os started H enc)

/-- THE STATEMENT -/
theorem proved : Rows.ServeWritesCardSaid :=
  Claim7.holds_tied_plain_at .later [] [.data, .data, .data, .data, .pinned] true (true, "f54c265e1890bbe309d824d14ee670bab41ab2c35445c31eb4ff2088acf5afc0") false
    over (fun _ h => by cases h) (by kernel_rfl) (fun _ h => by cases h) serveWrites_row_tie rfl ⟨rfl, rfl⟩ (by kernel_rfl) rfl
    (fun f fn hf hfn => by
      obtain rfl : f = 3 := Option.some.inj ((show Tryd.prog.funcNamed "provost/provostlaw31.ServeWrites" = some 3 by kernel_rfl).symm.trans hf) |>.symm
      obtain rfl : fn = Tryd.f3 := (Option.some.inj (Tryd.func3.symm.trans hfn)).symm
      exact ⟨by kernel_rfl, fun j t ht => by
        rw [Tryd.params3] at ht
        have h3 : t = 22 ∨ t = 23 := by
          rcases j with _ | _ | j
          · left; simpa using ht.symm
          · right; simpa using ht.symm
          · simp at ht
        rcases h3 with h3 | h3
        · subst h3; exact (show Tryd.prog.wantsStandIn 22 = false by kernel_rfl)
        · subst h3; exact (show Tryd.prog.wantsStandIn 23 = false by kernel_rfl)⟩)
    (by kernel_rfl)
#print axioms proved
end Go.Proofs.YtjbfkceficokbaaDoor.lawServeWrites
