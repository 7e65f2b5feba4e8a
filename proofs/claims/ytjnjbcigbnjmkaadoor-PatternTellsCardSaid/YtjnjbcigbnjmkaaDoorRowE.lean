/- THE STATEMENT PatternTellsCardSaid: whatever the nodes and the place: the law returns true, and its arguments read as before. No condition but the card's: the tables of Go's library are those that the program's text lays. -/
import Derived.Test.YtjnjbcigbnjmkaaDoorYq
import Derived.Test.YtjnjbcigbnjmkaaDoorBt
import Derived.Test.YtjnjbcigbnjmkaaDoorTie
import Derived.Test.YtjnjbcigbnjmkaaDoorCards
import Derived.Lib.LaidIn
import Derived.Lib.LaidU8
import Derived.Lib.SmallJoins
import Derived.FnData
import Derived.ProofKit
import Derived.SizedLaws
import Derived.LaidLaws
import Derived.Handed
import Derived.OpenShut
import Derived.ChangeOld
import Derived.SevenTiedAt
namespace Go.Proofs.YtjnjbcigbnjmkaaDoor.lawPatternTells
open Go.ChangeShapes Go.WideShapes Go.ChangeAt Go.RowKit Pv

theorem own : ownKnob Tryd.prog.godebug = none := by kernel_rfl
theorem laidOut : laidOutB Tryd.prog = true := by kernel_rfl
theorem gP : Tryd.prog.globalNamed "internal/strconv.uint64pow10" = some 1 := by kernel_rfl
theorem gB : Tryd.prog.globalNamed "math/bits.deBruijn64tab" = some 3 := by kernel_rfl
theorem cI : Tryd.prog.cellsOf 3 = 1 := by kernel_rfl
theorem cU : Tryd.prog.cellsOf 5 = 1 := by kernel_rfl
theorem cS : Tryd.prog.cellsOf 38 = 1 := by kernel_rfl
theorem cR : Tryd.prog.cellsOf 56 = 2 := by kernel_rfl
theorem cX : Tryd.prog.cellsOf 40 = 5 := by kernel_rfl
theorem bR' : Tryd.prog.bytesOf 56 = 16 := by kernel_rfl
theorem bX : Tryd.prog.bytesOf 40 = 56 := by kernel_rfl
theorem gPy : (Tryd.prog.globals[1]?).map (·.type) = some 96 := by kernel_rfl
theorem uP : Tryd.prog.underlying 96 = some (.array 20 88) := by kernel_rfl
theorem uW : Tryd.prog.underlying 88 = some (.int .u64) := by kernel_rfl
theorem cW : Tryd.prog.cellsOf 88 = 1 := by kernel_rfl
theorem cA : Tryd.prog.cellsOf 96 = 20 := by kernel_rfl
theorem gBy : (Tryd.prog.globals[3]?).map (·.type) = some 101 := by kernel_rfl
theorem uB : Tryd.prog.underlying 101 = some (.array 64 5) := by kernel_rfl
theorem uV : Tryd.prog.underlying 5 = some (.int .u8) := by kernel_rfl
theorem cB : Tryd.prog.cellsOf 101 = 64 := by kernel_rfl
def tab32 : List Int := [0, 1, 28, 2, 29, 14, 24, 3, 30, 22, 20, 15, 25, 17, 4, 8, 31, 27, 13, 23, 21, 19, 16, 7, 26, 12, 18, 6, 11, 5, 10, 9]
def tab64 : List Int := [0, 1, 56, 2, 57, 49, 28, 3, 61, 58, 42, 50, 38, 29, 17, 4, 62, 47, 59, 36, 45, 43, 51, 22, 53, 39, 33, 30, 24, 18, 12, 5, 63, 55, 48, 27, 60, 41, 37, 16, 46, 35, 44, 21, 52, 32, 23, 11, 54, 26, 40, 15, 34, 20, 31, 10, 25, 14, 19, 9, 13, 8, 7, 6]

/-- The settled world, the three tables laid. -/
noncomputable def laidWorld (os : Os) : World :=
  let w0 := World.holding Tryd.prog os ⟨#[], #[], []⟩
  let put (h : Array Obj) (g : Nat) (cs : Array Value) : Array Obj := h.modify g fun
    | .cells _ t frozen => .cells cs t frozen
    | o => o
  let h1 := put w0.heap 2 (tab32.map fun z => Value.int .u8 z).toArray
  let h2 := put h1 3 (tab64.map fun z => Value.int .u8 z).toArray
  let h3 := put h2 1 (Lib.pow10Tab.map fun z => Value.int .u64 z).toArray
  { w0 with heap := h3 }
theorem laid_met (os : Os) (args : Array Value) : laidMet Tryd.prog Rows.patternTellsRow.laid ((laidWorld os).forCall (fun _ _ => 0) ⟨#[], args, []⟩).memory :=
  (LaidIn.of_run [2, 3, 1] 8 (by kernel_rfl) (by kernel_rfl) (by kernel_rfl) (by kernel_rfl)).met

theorem bits_is : (Rows.laid_math_bits_deBruijn64tab : DataW Unit) = Lib.tabData .u8 tab64 := by kernel_rfl
theorem pow_is : (Rows.laid_internal_strconv_uint64pow10 : DataW Unit) = Lib.tabData .u64 Lib.pow10Tab := by kernel_rfl

/-- From the row's condition to what the walks ask. -/
theorem tabs_of_laid {W : World} (h : laidMet Tryd.prog Rows.patternTellsRow.laid W) : TabsP W.heap.size W := by
  have r1 := Lib.laidMet.reads h (.tail _ (.head _))
  have r2 := Lib.laidMet.reads h (.tail _ (.tail _ (.head _)))
  rw [bits_is] at r1
  rw [pow_is] at r2
  have hP : Lib.TabIs Tryd.prog W "internal/strconv.uint64pow10" .u64 Lib.pow10Tab := by
    obtain ⟨g', t', cs, fuel, p, hg', ht', hvar, hd⟩ := r2
    obtain rfl := Option.some.inj (gP.symm.trans hg')
    obtain rfl := Option.some.inj (gPy.symm.trans ht')
    unfold Lib.TabIs
    rw [hvar, ← Lib.cells_of_tab uP uW cW cA hd]
  have hB : W.cell? ⟨3, 15, none⟩ = some (.int .u8 4) := by
    obtain ⟨g', t', cs, fuel, p, hg', ht', hvar, hd⟩ := r1
    obtain rfl := Option.some.inj (gB.symm.trans hg')
    obtain rfl := Option.some.inj (gBy.symm.trans ht')
    have h1 := World.var?_cell gB hvar 15
    rw [h1, ← Array.getElem?_toList, Lib.cells_of_tab uB uV cU cB hd]
    rfl
  intro w' hb
  exact ⟨(hb.cell (World.block_lt_of_cell? _ _ hB)).trans hB, Go.Joins.tab_stays gP hP hb (Nat.le_refl _)⟩

set_option maxHeartbeats 800000 in
set_option maxRecDepth 100000 in
theorem lifted (os : Os) (started : os.Started) (H : Type) (enc : TypeId × Value → H) :
    ReturnsInHanded {} Tryd.checked os 3 .any (fun w args => (Rows.patternTellsSpec.pre enc Tryd.prog Tryd.f3 Rows.patternTellsRow.domain false w args ∧ laidMet Tryd.prog Rows.patternTellsRow.laid w) ∧ sizedMet enc Tryd.prog Tryd.f3 (OpenSpec.ofChange Rows.patternTellsSpec) false w args)
      (Rows.patternTellsSpec.post enc Tryd.prog Tryd.f3 false true false false) := by
  refine returnsInHanded_of_change_and (C := Tryd.checked) (X := fun w _ => laidMet Tryd.prog Rows.patternTellsRow.laid w) (fun _ _ _ hh h => h.of_heap hh) own started (by kernel_rfl) Tryd.func3
    (ChangeSpec.witness_at (enc := enc) (C := Tryd.checked) (os := os) (X := fun w _ => laidMet Tryd.prog Rows.patternTellsRow.laid w) false (laidWorld os) #[.slice none 0 0, .slice none 0 0, .int .i64 0] 8 rfl (by kernel_rfl) (by kernel_rfl) (by kernel_rfl) (by kernel_rfl) (by kernel_rfl) (laid_met os _)) ?_
  intro W base args ds gs before hval0 hW _ hsz0 hL _
  have hsz : (DataW.weightsEach Tryd.prog (Tryd.f3.params.toList ++ Rows.patternTellsSpec.plain.varTypes Tryd.prog) (ds ++ gs)).all (· ≤ reachBytes) = true := hsz0
  clear hsz0
  have hval : ∀ (j : Nat) t v, Tryd.f3.params[j]? = some t → args[j]? = some v → Value.okWide Tryd.prog W .any base t v := hval0
  have hW' := hW
  obtain ⟨p, q, hA0, hV, rfl, hfz, hnd⟩ := hW
  have hA : DataW.TrodAll enc Tryd.prog W 0 (fun _ => true) true Tryd.f3.params.toList args.toList ds p := hA0
  rw [Tryd.params3] at hA hval hsz
  obtain ⟨v0, vs0, d0, ds0, p0, q0, hargs, rfl, rfl, h0, r0⟩ := trodAll_cons hA
  obtain ⟨v1, vs1, d1, ds1, p1, q1, rfl, rfl, rfl, h1, r1⟩ := trodAll_cons r0
  obtain ⟨v2, vs2, d2, ds2, p2, q2, rfl, rfl, rfl, h2, r2⟩ := trodAll_cons r1
  obtain ⟨rfl, rfl, rfl⟩ := trodAll_nil r2
  obtain rfl : args = #[v0, v1, v2] := by cases args; simp_all
  obtain ⟨rfl, rfl⟩ := trodVars_none hV
  have l0 := lite_arg (j := 0) hsz rfl rfl
  have l1 := lite_arg (j := 1) hsz rfl rfl
  have k0 := h0; have k1 := h1; have k2 := h2
  have lt0 : ∀ x ∈ p0, x.block < W.heap.size := by obtain ⟨m, hm⟩ := k0; exact DataW.trod_lt m _ _ _ hm
  have lt1 : ∀ x ∈ p1, x.block < W.heap.size := by obtain ⟨m, hm⟩ := k1; exact DataW.trod_lt m _ _ _ hm
  have lt2 : ∀ x ∈ p2, x.block < W.heap.size := by obtain ⟨m, hm⟩ := k2; exact DataW.trod_lt m _ _ _ hm
  obtain ⟨a0, len, cap, rfl⟩ := okWide_slice Tryd.underlying22 (hval 0 22 v0 rfl rfl)
  obtain ⟨b0, len1, cap1, rfl⟩ := okWide_slice Tryd.underlying22 (hval 1 22 v1 rfl rfl)
  obtain ⟨fuel, hf⟩ := h0
  obtain ⟨fuel1, hf1⟩ := h1
  obtain ⟨x, rfl, _, _, _⟩ := open_int Tryd.underlying3 (hval 2 3 v2 rfl rfl) h2
  obtain ⟨t, A, c, hv, hat, _⟩ := read_rx Tryd.underlying22 Tryd.underlying40 Tryd.underlying56 rfl rfl rfl rfl rfl rfl rfl rfl rfl rfl rfl rfl rfl rfl Tryd.underlying5 Tryd.underlying38 Tryd.underlying3 cX cR cU cS cI (by rw [bX]; omega) (by rw [bR']; omega) hf l0
  injection hv with g1 g2 g3
  subst g1; subst g3
  obtain ⟨u, B, c4, hv4, hat4, _⟩ := read_rx Tryd.underlying22 Tryd.underlying40 Tryd.underlying56 rfl rfl rfl rfl rfl rfl rfl rfl rfl rfl rfl rfl rfl rfl Tryd.underlying5 Tryd.underlying38 Tryd.underlying3 cX cR cU cS cI (by rw [bX]; omega) (by rw [bR']; omega) hf1 l1
  injection hv4 with g4 g5 g6
  subst g4; subst g6
  clear hA0 hval0
  refine (law_PatternTells a0 b0 len cap len1 cap1 t u x W hat (Lib.hid g2.symm) hat4 (Lib.hid g5.symm) (tabs_of_laid hL)).mono fun e W' ⟨he, bel⟩ => ?_
  subst he
  exact ⟨_, rfl, _, _, _, [], _, [], hW', trodAll_mk1 (shut_bool Tryd.underlying4 _),
    (trodAll_cons_mk (Below.trod laidOut (by kernel_rfl) (of_decide_eq_true (by kernel_rfl)) k0 bel lt0) (trodAll_cons_mk (Below.trod laidOut (by kernel_rfl) (of_decide_eq_true (by kernel_rfl)) k1 bel lt1) (trodAll_cons_mk (Below.trod laidOut (by kernel_rfl) (of_decide_eq_true (by kernel_rfl)) k2 bel lt2) trodAll_mk0))), rfl, bel.frame _, fun h => by cases h⟩

theorem over : Rows.patternTellsRow.holds Tryd.pinned (OpenSpec.ofChange Rows.patternTellsSpec) :=
  OpenClaim.holds_of_wide 3 Tryd.f3 rfl rfl rfl rfl rfl rfl rfl ⟨rfl, rfl, rfl, rfl, rfl⟩ rfl rfl rfl rfl rfl (by kernel_rfl) Tryd.func3 (by kernel_rfl)
    (of_decide_eq_true (by kernel_rfl)) (by unfold Func.isWrapper; first | (rw [if_pos (by decide +kernel)]; kernel_rfl) | (rw [if_neg (by decide +kernel)]; exact ⟨rfl, rfl⟩))
    (fun os started H enc _ => lifted os started H enc)

/-- THE STATEMENT -/
theorem proved : Rows.PatternTellsCardSaid :=
  Claim7.holds_tied_plain_at .later [] [.data, .data, .data] true (true, "417805eb4efb5edcc4ca01ac53b1c57ec0374242e637121ebddf7d7c036e8d45") false
    over (fun _ h => by cases h) (by kernel_rfl) (fun _ h => by cases h) patternTells_row_tie rfl ⟨rfl, rfl⟩ (by kernel_rfl) rfl
    (fun f fn hf hfn => by
      obtain rfl : f = 3 := Option.some.inj ((show Tryd.prog.funcNamed "provost/provostlaw07.PatternTells" = some 3 by kernel_rfl).symm.trans hf) |>.symm
      obtain rfl : fn = Tryd.f3 := (Option.some.inj (Tryd.func3.symm.trans hfn)).symm
      exact ⟨by kernel_rfl, fun j t ht => by
        rw [Tryd.params3] at ht
        have h3 : t = 22 ∨ t = 3 := by
          rcases j with _ | _ | _ | j
          · left; simpa using ht.symm
          · left; simpa using ht.symm
          · right; simpa using ht.symm
          · simp at ht
        rcases h3 with h3 | h3
        · subst h3; exact (show Tryd.prog.wantsStandIn 22 = false by kernel_rfl)
        · subst h3; exact (show Tryd.prog.wantsStandIn 3 = false by kernel_rfl)⟩)
    (by kernel_rfl)
#print axioms proved
end Go.Proofs.YtjnjbcigbnjmkaaDoor.lawPatternTells
