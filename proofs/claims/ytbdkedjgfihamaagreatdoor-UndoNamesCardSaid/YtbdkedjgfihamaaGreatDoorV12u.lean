/- Walks: cell.behind, Check. PUT1 -/
import Derived.Test.YtbdkedjgfihamaaGreatDoorV9u
import Derived.Lib.SliceRun
import Derived.Test.YtbdkedjgfihamaaGreatDoorV11u
import Derived.Test.YtbdkedjgfihamaaGreatDoorOnu
namespace Pv
open Go Go.RowKit
/-- The places behind all cells. -/
def endsC (v : List Cel) : List Int := (List.range v.length).map fun j => bC (behC v 16 j)
theorem endsC_len (v : List Cel) : (endsC v).length = v.length := by simp [endsC]
theorem endsC_at {v : List Cel} (h : MayV v) {i : Nat} (hi : i < v.length) : (endsC v)[i]? = some (endV v i : Int) := by
  have := (h.end_ hi).1
  simp [endsC, hi, this, bC]
theorem At.of_fillC {v : List Cel} {w : World} {t : TypeId} {eb n : Nat} {cs0 cs : Array Value} (hb : Blk w eb t cs) (hf : FillC v cs0 cs 0 n) (hn : v.length = n) (h64 : n ≤ 2048) : At w (some ⟨eb, 0, none⟩) RI (endsC v) := by
  refine ⟨by simp [endsC]; omega, fun _ => ⟨eb, 0, rfl, hb.lt, fun i x hx => ?_⟩⟩
  have hi : i < n := by have := lt_of_get hx; simpa [endsC, hn] using this
  have hx' : bC (behC v 16 i) = x := by simpa [endsC, hn, hi] using hx
  subst hx'
  refine ⟨_, (hb.cell _).trans (by rw [Nat.zero_add]; exact (hf.2 i).1 (by omega) hi), rfl, ?_⟩
  cases hbh : behC v 16 i with
  | none => simp [bC]
  | some e => have := (behC_lt _ hbh).2; simp only [bC]; omega
/-- Cells within bounds. -/
def CelsB (v : List Cel) : Prop := ∀ x, x ∈ v → x.name.size ≤ 100000 ∧ x.text.size ≤ 100000
end Pv
namespace Go.Proofs.YtbdkedjgfihamaaGreatDoor
open Go.RowKit Pv Go.Maps
theorem info_intV : (Tryz.prog.info? 3).map (fun i => (i.zero, i.size, i.bytes)) = some (some (.int .i64 0), 1, 8) := by kernel_rfl
/-- The world in which the walk begins. -/
abbrev WB4 (w : World) (p0 : Nat) (n : Nat) (cs : Array Value) : World :=
  (((w.alloc (.cells kcs TK8)).alloc (.cells cs 3)).alloc (.cells #[.slice (some ⟨w.heap.size + 1, 0, none⟩) n n] 44)).alloc (.cells #[.func (.func 130) #[] #[.pointer (some ⟨p0, 0, none⟩), .pointer (some ⟨w.heap.size, 0, none⟩), .pointer (some ⟨w.heap.size + 1 + 1 + 1, 0, none⟩), .pointer (some ⟨w.heap.size + 1 + 1, 0, none⟩)]] 153)
theorem WB4_below (w : World) (p0 n : Nat) (cs : Array Value) : Below w.heap.size w (WB4 w p0 n cs) :=
  ((((Below.refl _ _).alloc (Nat.le_refl _) _).alloc (by simp) _).alloc (by simp; omega) _).alloc (by simp; omega) _
theorem CEnv.start {B : Nat} {w0 w : World} {p0 : Nat} {A : Option Addr} {n c : Nat} (cs : Array Value) (kp : Keep w0 w) (tb : TabS B w) (lB : B ≤ w0.heap.size) (h0 : Blk w p0 30 #[.slice A n c]) :
    CEnv B w0 (WB4 w p0 n cs).drew p0 w.heap.size (w.heap.size + 1 + 1 + 1) (w.heap.size + 1 + 1) (w.heap.size + 1) A n c cs := by
  have hl := h0.lt
  have e1 : (w.alloc (.cells kcs TK8)).heap.size = w.heap.size + 1 := by simp
  have e2 : ((w.alloc (.cells kcs TK8)).alloc (.cells cs 3)).heap.size = w.heap.size + 1 + 1 := by simp
  have e3 : (((w.alloc (.cells kcs TK8)).alloc (.cells cs 3)).alloc (.cells #[.slice (some ⟨w.heap.size + 1, 0, none⟩) n n] 44)).heap.size = w.heap.size + 1 + 1 + 1 := by simp
  have hb := WB4_below w p0 n cs
  have b0 := h0.below hb hl
  have bk := (((Blk.new w TK8 kcs).alloc (.cells cs 3)).alloc (.cells #[.slice (some ⟨w.heap.size + 1, 0, none⟩) n n] 44)).alloc (.cells #[.func (.func 130) #[] #[.pointer (some ⟨p0, 0, none⟩), .pointer (some ⟨w.heap.size, 0, none⟩), .pointer (some ⟨w.heap.size + 1 + 1 + 1, 0, none⟩), .pointer (some ⟨w.heap.size + 1 + 1, 0, none⟩)]] 153)
  have b1 := ((Blk.new (w.alloc (.cells kcs TK8)) 3 cs).alloc (.cells #[.slice (some ⟨w.heap.size + 1, 0, none⟩) n n] 44)).alloc (.cells #[.func (.func 130) #[] #[.pointer (some ⟨p0, 0, none⟩), .pointer (some ⟨w.heap.size, 0, none⟩), .pointer (some ⟨w.heap.size + 1 + 1 + 1, 0, none⟩), .pointer (some ⟨w.heap.size + 1 + 1, 0, none⟩)]] 153)
  have b2 := (Blk.new ((w.alloc (.cells kcs TK8)).alloc (.cells cs 3)) 44 #[.slice (some ⟨w.heap.size + 1, 0, none⟩) n n]).alloc (.cells #[.func (.func 130) #[] #[.pointer (some ⟨p0, 0, none⟩), .pointer (some ⟨w.heap.size, 0, none⟩), .pointer (some ⟨w.heap.size + 1 + 1 + 1, 0, none⟩), .pointer (some ⟨w.heap.size + 1 + 1, 0, none⟩)]] 153)
  have b3 := Blk.new (((w.alloc (.cells kcs TK8)).alloc (.cells cs 3)).alloc (.cells #[.slice (some ⟨w.heap.size + 1, 0, none⟩) n n] 44)) 153 #[.func (.func 130) #[] #[.pointer (some ⟨p0, 0, none⟩), .pointer (some ⟨w.heap.size, 0, none⟩), .pointer (some ⟨w.heap.size + 1 + 1 + 1, 0, none⟩), .pointer (some ⟨w.heap.size + 1 + 1, 0, none⟩)]]
  rw [e1] at b1
  rw [e2] at b2
  rw [e3] at b3
  have hk := kp.size
  exact ⟨(kp.trans (Keep.of hb)).trans (Keep.drew _), tb.next ((hb.mono (by omega)).drew), b0.cell 0, bk, b3.cell 0, b2.cell 0, b1, by omega, lB, b0.lt, b3.lt, b2.lt, by omega, by omega, by omega, by omega⟩
/-- What is not made by the call stays. -/
theorem behind_frame {w w1 w5 : World} {p0 n : Nat} {cs : Array Value} (h1 : Below w.heap.size w w1) (hg : Only (w1.heap.size + 1) (WB4 w1 p0 n cs).drew w5) : Below w.heap.size w w5 :=
  h1.trans (((WB4_below w1 p0 n cs).drew.mono h1.size).trans (hg.below (by have := h1.size; omega) (by have := h1.size; simp; omega)))
set_option maxHeartbeats 4000000 in
set_option maxRecDepth 100000 in
theorem cell_behind_yes (B : Nat) (A : Option Addr) (c n : Nat) (v : List Cel) (w : World) (h : AtCel w A v) (HL : Hid (v.length = n)) (hs : CelsB v) (HP : Hid (MayV v)) (hT : TabS B w) (hB : B ≤ w.heap.size) :
    Calls Tryz.prog 114 #[.slice A n c] w fun e w' => ∃ eb, e = .returned (.slice (some ⟨eb, 0, none⟩) n n) ∧ At w' (some ⟨eb, 0, none⟩) RI (endsC v) ∧ Below w.heap.size w w' := by
  have hn0 : 0 < n := by have := HP.out.pos; rwa [HL.out] at this
  have hn : n ≤ 2048 := by have := HP.out.few; rwa [HL.out] at this
  have hd0 : ((n : Int) == 0) = false := by simp; omega
  have hd1 : decide ((2048 : Int) < (n : Int)) = false := decide_eq_false (by omega)
  obtain ⟨b, off, c0, rfl, H5, _, HX⟩ := h.g5 HL hn0
  have y1 := H5.c1
  have yl := H5.lt
  simp only [Nat.zero_mul, Nat.add_zero] at y1
  have E1 : c0.name.toList.isEmpty = true := by
    rw [Lib.toList_data, List.eq_nil_of_length_eq_zero (show c0.name.data.toList.length = 0 from (bsl_len c0.name).trans (HP.out.name c0 HX.out))]
    rfl
  obtain ⟨nm0, hnm⟩ : ∃ nm0, c0.name = nm0 := ⟨_, rfl⟩
  rw [hnm] at y1 E1
  obtain ⟨i0, hi0, hz0, hs0, hb0⟩ := info_parts info_intV
  obtain ⟨cs, hcs, _, hmk⟩ := run_mk (P := Tryz.prog) Tryz.underlying44 hi0 hz0 hs0 hb0 rfl n (by omega) (by omega)
  have HCS := Lib.hid hcs
  have hall : behC v 16 0 = some n := by have := HP.out.all; rwa [HL.out] at this
  have HALL := Lib.hid hall
  have hnn : ((n : Int) != (n : Int)) = false := by simp
  have HA := Lib.hid h; have HSB := Lib.hid hs; have HT := Lib.hid hT
  have HBX := Lib.hid ((Below.refl w.heap.size w).alloc (Nat.le_refl _) (.cells #[.slice (some ⟨b, off, none⟩) n c] 30))
  have HB0 := Lib.hid (Blk.new w 30 #[.slice (some ⟨b, off, none⟩) n c])
  have HKI := Lib.hid (fun W => cell_kinds W)
  have HFIN := Lib.hid (fun (w1 : World) (eb : Nat) (cs1 : Array Value) (hb : Blk w1 eb 3 cs1) (hf : FillC v cs cs1 0 n) => At.of_fillC hb hf HL.out hn)
  clear hcs hall h hs hT H5 hnm
  go_enter Tryz.func114, Tryz.ntmps114
  go_wp2_with (first
  | (go_at_call 129
     refine (HKI.out _).mono ?_
     rintro e w1 ⟨rfl, k1⟩
     have HK1 := Lib.hid (HBX.out.trans (k1.mono HBX.out.size))
     have HBB := Lib.hid (HB0.out.below k1 HB0.out.lt)
     have g0 := HBB.out.cell 0
     have gl := HBB.out.lt
     clear k1)
  | (refine wpList_store_row rfl TK8 (.tmp 3) (.tmp 21) rfl w1.heap.size kcs rfl rfl TK8 _ (heap_alloc_new w1 _) (by kernel_rfl) rfl (by kernel_rfl) ?_
     rw [World.setRow_alloc_new]))
  have HC := cell_behind1 B (some ⟨b, off, none⟩) c n v w HA.out HL (by omega) HSB.out w.heap.size w1.heap.size (w1.heap.size + 1 + 1 + 1) (w1.heap.size + 1 + 1) (w1.heap.size + 1) 16 (by omega) 0 _ cs (by omega) (CEnv.start cs (Keep.of HK1.out) (HT.out.next (HK1.out.mono hB)) hB HBB.out) HCS.out
  rw [HALL.out] at HC
  have HC := Lib.hid HC
  have q1 : (WB4 w1 w.heap.size n cs).cell? ⟨w.heap.size, 0, none⟩ = some (.slice (some ⟨b, off, none⟩) n c) := (HBB.out.below (WB4_below w1 w.heap.size n cs) HBB.out.lt).cell 0
  go_region_with (go_at_call 130; refine HC.out.mono ?_; rintro e w5 ⟨cs1, rfl, env1, hsz1, hfl1, hg1⟩; rw [bC_some]; have f1 := env1.ct; have f2 := env1.cw; have f3 := env1.ce; have f4 := env1.lt; have f5 := env1.lw; have f6 := env1.le; have HE1 := Lib.hid env1; have HF1 := Lib.hid (hfl1 _ rfl); have HG1 := Lib.hid hg1; clear env1 hsz1 hfl1 hg1)
  all_goals
    go_wp2
    go_ret
    exact ⟨w1.heap.size + 1, rfl, HFIN.out _ _ _ HE1.out.be HF1.out, behind_frame HK1.out HG1.out⟩
set_option maxHeartbeats 4000000 in
set_option maxRecDepth 100000 in
theorem cell_behind_no (B : Nat) (A : Option Addr) (c n : Nat) (v : List Cel) (w : World) (h : AtCel w A v) (HL : Hid (v.length = n)) (hs : CelsB v) (HP : Hid (¬ MayV v)) (hT : TabS B w) (hB : B ≤ w.heap.size) :
    Calls Tryz.prog 114 #[.slice A n c] w fun e w' => e = .returned (.slice none 0 0) ∧ Below w.heap.size w w' := by
  have hl : n ≤ 140737488355328 := by have := h.1; rwa [HL.out] at this
  by_cases h0 : n = 0
  · subst h0
    clear h hT
    go_enter Tryz.func114, Tryz.ntmps114
    go_wp2
    go_ret
    exact ⟨rfl, (by repeat (first | exact Below.refl _ _ | exact (Below.refl _ _).alloc (Nat.le_refl _) _ | apply below_drewN))⟩
  have hd0 : ((n : Int) == 0) = false := by simp; omega
  by_cases h1 : 2048 < n
  · have hd1 : decide ((2048 : Int) < (n : Int)) = true := decide_eq_true (by omega)
    clear h0 h hT
    go_enter Tryz.func114, Tryz.ntmps114
    go_wp2
    go_ret
    exact ⟨rfl, (by repeat (first | exact Below.refl _ _ | exact (Below.refl _ _).alloc (Nat.le_refl _) _ | apply below_drewN))⟩
  have hd1 : decide ((2048 : Int) < (n : Int)) = false := decide_eq_false (by omega)
  have hn0 : 0 < n := by omega
  obtain ⟨b, off, c0, rfl, H5, _, HX⟩ := h.g5 HL hn0
  have y1 := H5.c1
  have yl := H5.lt
  simp only [Nat.zero_mul, Nat.add_zero] at y1
  obtain ⟨nm0, hnm⟩ : ∃ nm0, c0.name = nm0 := ⟨_, rfl⟩
  rw [hnm] at y1
  by_cases hz : nm0.size = 0
  case neg =>
    have E1 : nm0.toList.isEmpty = false := by
      cases hx : nm0.data.toList with
      | nil => have := bsl_len nm0; rw [show bsl nm0 = nm0.data.toList from rfl, hx] at this; simp at this; omega
      | cons b l => rw [Lib.toList_data, hx]; rfl
    clear h0 h hT H5 hnm
    go_enter Tryz.func114, Tryz.ntmps114
    go_wp2
    go_ret
    exact ⟨rfl, (by repeat (first | exact Below.refl _ _ | exact (Below.refl _ _).alloc (Nat.le_refl _) _ | apply below_drewN))⟩
  have E1 : nm0.toList.isEmpty = true := by
    rw [Lib.toList_data, List.eq_nil_of_length_eq_zero (show nm0.data.toList.length = 0 from (bsl_len nm0).trans hz)]
    rfl
  obtain ⟨i0, hi0, hz0, hs0, hb0⟩ := info_parts info_intV
  obtain ⟨cs, hcs, _, hmk⟩ := run_mk (P := Tryz.prog) Tryz.underlying44 hi0 hz0 hs0 hb0 rfl n (by omega) (by omega)
  have HCS := Lib.hid hcs
  have hall : behC v 16 0 ≠ some n := fun hh => HP.out ⟨by rw [HL.out]; exact hn0, by rw [HL.out]; omega, fun c hc => by rw [HX.out] at hc; obtain rfl := Option.some.inj hc; rw [hnm]; exact hz, by rw [HL.out]; exact hh⟩
  obtain ⟨o, ho⟩ : ∃ o, behC v 16 0 = o := ⟨_, rfl⟩
  have HOO := Lib.hid ho
  rw [ho] at hall
  have hnn : (bC o != (n : Int)) = true := by
    rw [bne_iff_ne]
    cases o with
    | none => rw [bC_none]; omega
    | some e => rw [bC_some]; intro h; exact hall (by congr 1; omega)
  have HA := Lib.hid h; have HSB := Lib.hid hs; have HT := Lib.hid hT
  have HBX := Lib.hid ((Below.refl w.heap.size w).alloc (Nat.le_refl _) (.cells #[.slice (some ⟨b, off, none⟩) n c] 30))
  have HB0 := Lib.hid (Blk.new w 30 #[.slice (some ⟨b, off, none⟩) n c])
  have HKI := Lib.hid (fun W => cell_kinds W)
  clear hcs hall h hs hT H5 hnm ho hz
  go_enter Tryz.func114, Tryz.ntmps114
  go_wp2_with (first
  | (go_at_call 129
     refine (HKI.out _).mono ?_
     rintro e w1 ⟨rfl, k1⟩
     have HK1 := Lib.hid (HBX.out.trans (k1.mono HBX.out.size))
     have HBB := Lib.hid (HB0.out.below k1 HB0.out.lt)
     have g0 := HBB.out.cell 0
     have gl := HBB.out.lt
     clear k1)
  | (refine wpList_store_row rfl TK8 (.tmp 3) (.tmp 21) rfl w1.heap.size kcs rfl rfl TK8 _ (heap_alloc_new w1 _) (by kernel_rfl) rfl (by kernel_rfl) ?_
     rw [World.setRow_alloc_new]))
  have HC := cell_behind1 B (some ⟨b, off, none⟩) c n v w HA.out HL (by omega) HSB.out w.heap.size w1.heap.size (w1.heap.size + 1 + 1 + 1) (w1.heap.size + 1 + 1) (w1.heap.size + 1) 16 (by omega) 0 _ cs (by omega) (CEnv.start cs (Keep.of HK1.out) (HT.out.next (HK1.out.mono hB)) hB HBB.out) HCS.out
  rw [HOO.out] at HC
  have HC := Lib.hid HC
  have q1 : (WB4 w1 w.heap.size n cs).cell? ⟨w.heap.size, 0, none⟩ = some (.slice (some ⟨b, off, none⟩) n c) := (HBB.out.below (WB4_below w1 w.heap.size n cs) HBB.out.lt).cell 0
  go_region_with (go_at_call 130; refine HC.out.mono ?_; rintro e w5 ⟨cs1, rfl, env1, hsz1, hfl1, hg1⟩; have f1 := env1.ct; have f2 := env1.cw; have f3 := env1.ce; have f4 := env1.lt; have f5 := env1.lw; have f6 := env1.le; have HG1 := Lib.hid hg1; clear env1 hsz1 hfl1 hg1)
  all_goals
    go_wp2
    go_ret
    exact ⟨rfl, behind_frame HK1.out HG1.out⟩
set_option maxHeartbeats 1000000 in
set_option maxRecDepth 100000 in
theorem cell_Check (B : Nat) (A : Option Addr) (c n : Nat) (v : List Cel) (w : World) (h : AtCel w A v) (HL : Hid (v.length = n)) (hs : CelsB v) (hT : TabS B w) (hB : B ≤ w.heap.size) :
    Calls Tryz.prog 90 #[.slice A n c] w fun e w' => e = .returned (.int .i64 (if mayV v then 0 else 8)) ∧ Below w.heap.size w w' := by
  have hnil := fun (W : World) (a : Option Addr) (n c : Nat) => Lib.run_eql_slice_nil (P := Tryz.prog) W 44 3 a n c 0 0 Tryz.underlying44
  by_cases hp : MayV v
  · have HC := Lib.hid (cell_behind_yes B A c n v w h HL hs (Lib.hid hp) hT hB)
    rw [(mayV_iff v).2 hp]
    clear h hp hs hT
    go_enter Tryz.func90, Tryz.ntmps90
    go_wp2_with (go_at_call 114; refine HC.out.mono ?_; rintro e w1 ⟨eb, rfl, _, hb1⟩)
    go_ret
    exact ⟨rfl, hb1⟩
  · have HC := Lib.hid (cell_behind_no B A c n v w h HL hs (Lib.hid hp) hT hB)
    have hm : mayV v = false := by cases hx : mayV v with | false => rfl | true => exact absurd ((mayV_iff v).1 hx) hp
    rw [hm]
    clear h hp hs hT hm
    go_enter Tryz.func90, Tryz.ntmps90
    go_wp2_with (go_at_call 114; refine HC.out.mono ?_; rintro e w1 ⟨rfl, hb1⟩)
    go_ret
    exact ⟨rfl, hb1⟩
end Go.Proofs.YtbdkedjgfihamaaGreatDoor

namespace Go.Proofs.YtbdkedjgfihamaaGreatDoor
open Go.RowKit Pv Go.Maps
/-- Whole numbers of the call's own. -/
abbrev OwnZ (w : World) (base : Nat) (v : Value) (l : List Int) : Prop := ∃ A c, v = .slice A l.length c ∧ w.ownsRow base 3 1 (.slice A l.length c) l.length (l.map (Value.int .i64))
theorem OwnZ.at' {w : World} {b : Nat} {v : Value} {l : List Int} (h : OwnZ w b v l) (hr : ∀ x, x ∈ l → -9223372036854775808 ≤ x ∧ x ≤ 9223372036854775807) (hl : l.length ≤ 140737488355328) : ∃ A c, v = .slice A l.length c ∧ At w A RI l ∧ l.length ≤ c := by
  obtain ⟨A, c, hv, ho⟩ := h
  obtain ⟨_, h1, h2⟩ := At.of_own ho (show Rel RI (l.map (Value.int .i64)) l from ⟨by simp, fun i u x hu hx => by
    rw [List.getElem?_map, hx] at hu
    obtain rfl := Option.some.inj hu
    exact ⟨rfl, hr x (mem_of_get hx)⟩⟩) hl
  exact ⟨A, c, hv, h2, h1⟩
set_option maxHeartbeats 1000000 in
set_option maxRecDepth 100000 in
theorem cell_asked_yes (B : Nat) (A : Option Addr) (c n i : Nat) (v : List Cel) (w : World) (h : AtCel w A v) (HL : Hid (v.length = n)) (hs : CelsB v) (HP : Hid (MayV v)) (hi : i < n) (hT : TabS B w) (hB : B ≤ w.heap.size) :
    Calls Tryz.prog 132 #[.slice A n c, .int .i64 i] w fun e w' => ∃ eb, e = .returned (.tuple #[.slice (some ⟨eb, 0, none⟩) n n, .int .i64 0]) ∧ At w' (some ⟨eb, 0, none⟩) RI (endsC v) ∧ Below w.heap.size w w' := by
  have HC := Lib.hid (cell_behind_yes B A c n v w h HL hs HP hT hB)
  have hnil := fun (W : World) (a : Option Addr) (n c : Nat) => Lib.run_eql_slice_nil (P := Tryz.prog) W 44 3 a n c 0 0 Tryz.underlying44
  have i1 : ¬ (n : Int) ≤ (i : Int) := by omega
  have i2 : (i : Int) < (n : Int) := by omega
  clear h hs hT
  go_enter Tryz.func132, Tryz.ntmps132
  go_wp2_with fail
  refine HC.out.mono ?_
  rintro e w1 ⟨eb, rfl, k1, k2⟩
  have K1 := Lib.hid k1; have K2 := Lib.hid k2
  clear k1 k2
  go_wp2
  go_ret2
  exact ⟨eb, rfl, K1.out, K2.out⟩
set_option maxHeartbeats 1000000 in
set_option maxRecDepth 100000 in
theorem cell_asked_no (B : Nat) (A : Option Addr) (c n : Nat) (i : Int) (v : List Cel) (w : World) (h : AtCel w A v) (HL : Hid (v.length = n)) (hs : CelsB v) (HP : Hid (¬ MayV v)) (hT : TabS B w) (hB : B ≤ w.heap.size) :
    Calls Tryz.prog 132 #[.slice A n c, .int .i64 i] w fun e w' => e = .returned (.tuple #[.slice none 0 0, .int .i64 8]) ∧ Below w.heap.size w w' := by
  have HC := Lib.hid (cell_behind_no B A c n v w h HL hs HP hT hB)
  have hnil := fun (W : World) (a : Option Addr) (n c : Nat) => Lib.run_eql_slice_nil (P := Tryz.prog) W 44 3 a n c 0 0 Tryz.underlying44
  clear h hs hT
  go_enter Tryz.func132, Tryz.ntmps132
  go_wp2_with fail
  refine HC.out.mono ?_
  rintro e w1 ⟨rfl, k2⟩
  have K2 := Lib.hid k2
  clear k2
  go_wp2
  go_ret2
  exact ⟨rfl, K2.out⟩
set_option maxHeartbeats 1000000 in
set_option maxRecDepth 100000 in
theorem cell_Kids_no (B : Nat) (A : Option Addr) (c n : Nat) (i : Int) (v : List Cel) (w : World) (h : AtCel w A v) (HL : Hid (v.length = n)) (hs : CelsB v) (HP : Hid (¬ MayV v)) (hT : TabS B w) (hB : B ≤ w.heap.size) :
    Calls Tryz.prog 116 #[.slice A n c, .int .i64 i] w fun e w' => e = .returned (.tuple #[.slice none 0 0, .int .i64 8]) ∧ Below w.heap.size w w' := by
  have HC := Lib.hid (cell_asked_no B A c n i v w h HL hs HP hT hB)
  clear h hs hT
  go_enter Tryz.func116, Tryz.ntmps116
  go_wp2_with fail
  refine HC.out.mono ?_
  rintro e w1 ⟨rfl, k2⟩
  have K2 := Lib.hid k2
  clear k2
  go_wp2
  go_ret2
  exact ⟨rfl, K2.out⟩
/-- The kids of the value at a place. -/
def kidsZ (v : List Cel) (i : Nat) : List Int := (underV v i).map fun k : Nat => (k : Int)
theorem kidsZ_eq {v : List Cel} {i : Nat} {c : Cel} (h : v[i]? = some c) : kidsZ v i = (kidsL v c.many.toNat (i + 1)).map fun k : Nat => (k : Int) := by unfold kidsZ underV; rw [h]
set_option maxHeartbeats 4000000 in
set_option maxRecDepth 100000 in
theorem cell_Kids_yes (B : Nat) (A : Option Addr) (c n i : Nat) (v : List Cel) (w : World) (h : AtCel w A v) (HL : Hid (v.length = n)) (hs : CelsB v) (HP : Hid (MayV v)) (hi : i < n) (hT : TabS B w) (hB : B ≤ w.heap.size) :
    Calls Tryz.prog 116 #[.slice A n c, .int .i64 i] w fun e w' => ∃ u, e = .returned (.tuple #[u, .int .i64 0]) ∧ OwnZ w' w.heap.size u (kidsZ v i) ∧ Below w.heap.size w w' := by
  obtain ⟨i0, hi0, hz0, hs0, hb0⟩ := info_parts info_intV
  have HC := Lib.hid (cell_asked_yes B A c n i v w h HL hs HP hi hT hB)
  obtain ⟨x, hx⟩ : ∃ x, v[i]? = some x := ⟨_, List.getElem?_eq_getElem (by rw [HL.out]; exact hi)⟩
  obtain ⟨m, hm⟩ : ∃ m, x.many.toNat = m := ⟨_, rfl⟩
  have hkk := HP.out.kids hx
  rw [hm] at hkk
  have HKK := Lib.hid hkk
  have HKZ := Lib.hid (kidsZ_eq hx)
  rw [hm] at HKZ
  have HEL : Hid ((endsC v).length = n) := Lib.hid (by rw [endsC_len, HL.out])
  have hmn : m ≤ n := by
    by_cases h0 : m = 0
    · omega
    · have key : ∀ q, q ≤ m → i + 1 + q ≤ posV v q (i + 1) := by
        intro q
        induction q with
        | zero => intro _; show i + 1 + 0 ≤ i + 1; omega
        | succ q ih =>
          intro hq
          have h1 := ih (by omega)
          have h2 := (hkk.2 q (by omega)).2
          have h3 := (HP.out.end_ h2).2.1
          show i + 1 + (q + 1) ≤ endV v (posV v q (i + 1))
          omega
      have h1 := key m (Nat.le_refl _)
      have h2 := (HP.out.end_ (show i < v.length by rw [HL.out]; exact hi)).2.2
      rw [hkk.1] at h1
      rw [HL.out] at h2
      omega
  have hn2 : n ≤ 2048 := by have := HP.out.few; rwa [HL.out] at this
  obtain ⟨e0, he0⟩ : ∃ e0, endV v i = e0 := ⟨_, rfl⟩
  rw [he0] at HKK
  have HE0 : Hid ((endsC v)[i]? = some (e0 : Int)) := Lib.hid (by rw [endsC_at HP.out (by rw [HL.out]; exact hi), he0])
  have HEA := Lib.hid (fun p (hp : p < n) => endsC_at HP.out (i := p) (by rw [HL.out]; exact hp))
  clear h hs hT hx hm hkk he0
  go_enter Tryz.func116, Tryz.ntmps116
  go_wp2_with fail
  refine HC.out.mono ?_
  rintro e w1 ⟨eb, rfl, k1, k2⟩
  have HEN := Lib.hid k1; have HB1 := Lib.hid k2
  clear k1 k2
  go_wp2
  go_loopw [4, 7] (fun lv xv W => ∃ (q p oc : Nat) (O : Option Addr), lv = .slice O q oc ∧ xv = .int .i64 p ∧ q ≤ m ∧ Hid (p = posV v q (i + 1)) ∧ Hid (W.ownsRow w1.heap.size 3 1 (.slice O q oc) q ((kidsL v q (i + 1)).map fun k : Nat => Value.int .i64 (k : Int))) ∧ Hid (Below w1.heap.size w1 W)) (fun lv _ _ => m - (match lv with | .slice _ q _ => q | _ => 0))
  case atStart => exact ⟨0, i + 1, 0, none, rfl, rfl, by omega, Lib.hid rfl, Lib.hid (World.ownsRow_nil _ _ _ _), Lib.hid (Below.refl _ _)⟩
  case round =>
    obtain ⟨q, p, oc, O, rfl, rfl, hq, HPP, HO, HW⟩ := hrel
    have HEN0 := HEN
    have HEN := Lib.hid (At.keep HEN.out (Keep.of HW.out))
    obtain ⟨u1, x1, hb1, c1, hx1, HX1⟩ := At.gt2 HEN.out HEL hi
    obtain ⟨rfl, hx2⟩ := hx1
    simp only [Nat.zero_add] at c1
    obtain rfl : x1 = (e0 : Int) := by
      have := HX1.out
      rw [HE0.out] at this
      exact (Option.some.inj this).symm
    by_cases hlt : q < m
    · have hk := HKK.out.2 q hlt
      rw [← HPP.out, HL.out] at hk
      have i1 : (p : Int) < (e0 : Int) := by omega
      obtain ⟨u2, x2, hb2, c2, hy2, HX2⟩ := At.gt2 HEN.out HEL hk.2
      obtain ⟨rfl, hy3⟩ := hy2
      obtain rfl : x2 = (endV v p : Int) := by
        have := HX2.out
        rw [HEA.out p hk.2] at this
        exact (Option.some.inj this).symm
      have HOW := Lib.hid (HO.out.alloc (.cells #[.int .i64 (p : Int)] 3))
      have SR := Lib.hid (Pv.Src.one (w := wr) (x := .int .i64 (p : Int)) (t := 3) rfl)
      have Q1 : Hid (q + 1 ≤ maxLen) := Lib.hid (by simp only [maxLen]; omega)
      have Q2 : Hid ((q + 1) * 8 ≤ 140737488355328) := Lib.hid (by omega)
      have Q3 : w1.heap.size ≤ (wr.alloc (.cells #[.int .i64 (p : Int)] 3)).heap.size := by have := HW.out.size; simp; omega
      have HWA := Lib.hid (HW.out.alloc HW.out.size (.cells #[.int .i64 (p : Int)] 3))
      have HKK2 := Lib.hid (fun (w9 : World) (k : Below w1.heap.size w1 w9) => (At.gt2 (At.keep HEN0.out (Keep.of k)) HEL hk.2))
      simp only [Nat.zero_add] at c2
      go_wp2_with (first
      | (at_builtin
         go_must (refine wpList_append_src _ rfl (.tmp 29) (.tmp 31) 44 rfl w1.heap.size 3 i0 (.int .i64 0) 1 8 Tryz.underlying44 hi0 hz0 hs0 hb0 rfl (by decide) O oc q _ rfl HOW.out (some ⟨wr.heap.size, 0, none⟩) 1 1 _ rfl SR.out Q1.out Q2.out Q3 ?_)
         intro A9 c9 w9 own9 gr9 _
         have HO9 := Lib.hid own9
         have HW9 := Lib.hid (HWA.out.grown gr9 Q3 (fun g hg => (HOW.out.lt g hg).1))
         obtain ⟨u3, x3, hb3, c3, hy4, HX3⟩ := HKK2.out w9 HW9.out
         obtain ⟨rfl, _⟩ := hy4
         simp only [Nat.zero_add] at c3
         obtain rfl : x3 = (endV v p : Int) := by
           have := HX3.out
           rw [HEA.out p hk.2] at this
           exact (Option.some.inj this).symm
         clear own9 gr9))
      go_roundw
      case rel =>
        refine ⟨q + 1, endV v p, c9, A9, rfl, rfl, by omega, Lib.hid (by rw [HPP.out]; rfl), Lib.hid ?_, HW9⟩
        rw [kidsL_snoc, List.map_append, ← HPP.out]
        exact HO9.out
      case measure => simp; omega
    · obtain rfl : q = m := by omega
      have i1 : ¬ (p : Int) < (e0 : Int) := by rw [HPP.out, HKK.out.1]; omega
      go_wp2
      go_ret2
      have hl : (kidsZ v i).length = q := by rw [HKZ.out, List.length_map, kidsL_len]
      have hlow : wr.ownsRow w.heap.size 3 1 (.slice O q oc) q ((kidsL v q (i + 1)).map fun k : Nat => Value.int .i64 (k : Int)) := by
        obtain ⟨h0, h1⟩ := HO.out
        refine ⟨h0, ?_⟩
        rcases h1 with h1 | ⟨g, cap, cur, hv, hg, r⟩
        · exact .inl h1
        · exact .inr ⟨g, cap, cur, hv, Nat.le_trans HB1.out.size hg, r⟩
      exact ⟨.slice O q oc, rfl, ⟨O, oc, by rw [hl], by rw [hl, HKZ.out, List.map_map]; exact hlow⟩, HB1.out.trans (HW.out.mono HB1.out.size)⟩
end Go.Proofs.YtbdkedjgfihamaaGreatDoor
