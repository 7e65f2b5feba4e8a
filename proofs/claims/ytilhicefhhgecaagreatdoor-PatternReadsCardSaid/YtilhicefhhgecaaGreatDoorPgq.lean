/- Walks: pattern.behind, Check, End. -/
import Derived.Test.YtilhicefhhgecaaGreatDoorPfq
import Derived.Test.YtilhicefhhgecaaGreatDoorMkq
import Derived.Laws.EntriesVeiled
import Derived.Lib.SliceRun
namespace Go.Proofs.YtilhicefhhgecaaGreatDoor
open Go.RowKit Pv

theorem info_int : (Tryz.prog.info? 3).map (fun i => (i.zero, i.size, i.bytes)) = some (some (.int .i64 0), 1, 8) := by kernel_rfl
/-- The places behind all nodes. -/
noncomputable def endsL (t : List Rx) : List Int := (List.range t.length).map fun j => bR (behind t 16 j)

/-- The world in which the walk begins. -/
abbrev W4 (w : World) (A : Option Addr) (n c : Nat) (cs : Array Value) : World :=
  (((w.alloc (.cells #[.slice A n c] 29)).alloc (.cells cs 3)).alloc (.cells #[.slice (some ⟨w.heap.size + 1, 0, none⟩) n n] 22)).alloc (.cells #[.func (.func 99) #[] #[.pointer (some ⟨w.heap.size, 0, none⟩), .pointer (some ⟨w.heap.size + 1 + 1 + 1, 0, none⟩), .pointer (some ⟨w.heap.size + 1 + 1, 0, none⟩)]] 82)
theorem WEnv.start (w : World) (A : Option Addr) (n c : Nat) (cs : Array Value) :
    WEnv w (W4 w A n c cs).drew w.heap.size (w.heap.size + 1 + 1 + 1) (w.heap.size + 1 + 1) (w.heap.size + 1) A n c cs := by
  have e1 : (w.alloc (.cells #[.slice A n c] 29)).heap.size = w.heap.size + 1 := by simp
  have e2 : ((w.alloc (.cells #[.slice A n c] 29)).alloc (.cells cs 3)).heap.size = w.heap.size + 1 + 1 := by simp
  have e3 : (((w.alloc (.cells #[.slice A n c] 29)).alloc (.cells cs 3)).alloc (.cells #[.slice (some ⟨w.heap.size + 1, 0, none⟩) n n] 22)).heap.size = w.heap.size + 1 + 1 + 1 := by simp
  have b0 := (((Blk.new w 29 #[.slice A n c]).alloc (.cells cs 3)).alloc (.cells #[.slice (some ⟨w.heap.size + 1, 0, none⟩) n n] 22)).alloc (.cells #[.func (.func 99) #[] #[.pointer (some ⟨w.heap.size, 0, none⟩), .pointer (some ⟨w.heap.size + 1 + 1 + 1, 0, none⟩), .pointer (some ⟨w.heap.size + 1 + 1, 0, none⟩)]] 82)
  have b1 := ((Blk.new (w.alloc (.cells #[.slice A n c] 29)) 3 cs).alloc (.cells #[.slice (some ⟨w.heap.size + 1, 0, none⟩) n n] 22)).alloc (.cells #[.func (.func 99) #[] #[.pointer (some ⟨w.heap.size, 0, none⟩), .pointer (some ⟨w.heap.size + 1 + 1 + 1, 0, none⟩), .pointer (some ⟨w.heap.size + 1 + 1, 0, none⟩)]] 82)
  have b2 := (Blk.new ((w.alloc (.cells #[.slice A n c] 29)).alloc (.cells cs 3)) 22 #[.slice (some ⟨w.heap.size + 1, 0, none⟩) n n]).alloc (.cells #[.func (.func 99) #[] #[.pointer (some ⟨w.heap.size, 0, none⟩), .pointer (some ⟨w.heap.size + 1 + 1 + 1, 0, none⟩), .pointer (some ⟨w.heap.size + 1 + 1, 0, none⟩)]] 82)
  have b3 := Blk.new (((w.alloc (.cells #[.slice A n c] 29)).alloc (.cells cs 3)).alloc (.cells #[.slice (some ⟨w.heap.size + 1, 0, none⟩) n n] 22)) 82 #[.func (.func 99) #[] #[.pointer (some ⟨w.heap.size, 0, none⟩), .pointer (some ⟨w.heap.size + 1 + 1 + 1, 0, none⟩), .pointer (some ⟨w.heap.size + 1 + 1, 0, none⟩)]]
  rw [e1] at b1
  rw [e2] at b2
  rw [e3] at b3
  exact ⟨(Keep.alloc _ _).trans ((Keep.alloc _ _).trans ((Keep.alloc _ _).trans ((Keep.alloc _ _).trans (Keep.drew _)))), b0.cell 0, b3.cell 0, b2.cell 0, b1, by omega, b0.lt, b3.lt, b2.lt, by omega, by omega, by omega⟩
theorem W4_below (w : World) (A : Option Addr) (n c : Nat) (cs : Array Value) : Below w.heap.size w (W4 w A n c cs) :=
  ((((Below.refl _ _).alloc (Nat.le_refl _) _).alloc (by simp) _).alloc (by simp; omega) _).alloc (by simp; omega) _
theorem At.of_fill {t : List Rx} {w : World} {eb n : Nat} {cs0 cs : Array Value} (hb : Blk w eb 3 cs) (hf : Fill t cs0 cs 0 n) (hn : t.length = n) (h64 : n ≤ 64) : At w (some ⟨eb, 0, none⟩) RI (endsL t) := by
  refine ⟨by simp [endsL]; omega, fun _ => ⟨eb, 0, rfl, hb.lt, fun i x hx => ?_⟩⟩
  have hi : i < n := by have := lt_of_get hx; simpa [endsL, hn] using this
  have hx' : bR (behind t 16 i) = x := by simpa [endsL, hn, hi] using hx
  subst hx'
  refine ⟨_, (hb.cell _).trans (by rw [Nat.zero_add]; exact (hf.2 i).1 (by omega) hi), rfl, ?_⟩
  cases hbh : behind t 16 i with
  | none => simp [bR]
  | some e => have := (behind_lt hbh).2; simp only [bR]; omega

set_option maxHeartbeats 2000000 in
set_option maxRecDepth 100000 in
theorem pattern_behind_yes (A : Option Addr) (c n : Nat) (t : List Rx) (w : World) (h : AtRx w A t) (HL : Hid (t.length = n)) (HP : Hid (Pat t)) :
    Calls Tryz.prog 62 #[.slice A n c] w fun e w' => ∃ eb, e = .returned (.slice (some ⟨eb, 0, none⟩) n n) ∧ At w' (some ⟨eb, 0, none⟩) RI (endsL t) ∧ Below w.heap.size w w' := by
  have hn0 : 0 < n := by have := HP.out.1; rw [← HL.out]; exact List.length_pos_iff.2 this
  have hn : n ≤ 64 := by have := HP.out.2.1; rwa [HL.out] at this
  have hd0 : ((n : Int) == 0) = false := by simp; omega
  have hd1 : decide ((64 : Int) < (n : Int)) = false := decide_eq_false (by omega)
  obtain ⟨i0, hi0, hz0, hs0, hb0⟩ := info_parts info_int
  obtain ⟨cs, hcs, _, hmk⟩ := run_mk (P := Tryz.prog) Tryz.underlying22 hi0 hz0 hs0 hb0 rfl n (by omega) (by omega)
  have HCS := Lib.hid hcs
  have HC := Lib.hid (pattern_behind1 A c n t w h HL hn w.heap.size (w.heap.size + 1 + 1 + 1) (w.heap.size + 1 + 1) (w.heap.size + 1) 16 (by omega) 0 _ cs (by omega) (WEnv.start w A n c cs) hcs)
  have hall : behind t 16 0 = some n := by have := HP.out.2.2; rwa [HL.out] at this
  rw [hall] at HC
  have hnn : ((n : Int) != (n : Int)) = false := by simp
  have HB4 := Lib.hid (W4_below w A n c cs)
  have HFIN := Lib.hid (fun (w1 : World) (cs1 : Array Value) (env : WEnv w w1 w.heap.size (w.heap.size + 1 + 1 + 1) (w.heap.size + 1 + 1) (w.heap.size + 1) A n c cs1) (hf : Fill t cs cs1 0 n) => At.of_fill env.be hf HL.out hn)
  clear hcs hall h
  go_enter Tryz.func62, Tryz.ntmps62
  go_wp2
  go_region_with (go_at_call 99; refine HC.out.mono ?_; rintro e w1 ⟨cs1, rfl, env1, hsz1, hfl1, hg1⟩; rw [bR_some]; have ⟨_, f1, f2, f3, _, _, _, _, _, _, _, _⟩ := env1; have HE1 := Lib.hid env1; have HF1 := Lib.hid (hfl1 _ rfl); have HG1 := Lib.hid hg1; clear env1 hsz1 hfl1 hg1)
  all_goals
    go_wp2
    go_ret
    exact ⟨w.heap.size + 1, rfl, HFIN.out _ _ HE1.out HF1.out, ⟨HG1.out.os.trans HB4.out.os, HG1.out.tape.trans HB4.out.tape, HG1.out.output.trans HB4.out.output, Nat.le_trans HB4.out.size HG1.out.size, fun k hk => (HG1.out.block k (Nat.lt_of_lt_of_le hk HB4.out.size) (by simp; omega)).trans (HB4.out.block k hk)⟩⟩

set_option maxHeartbeats 2000000 in
set_option maxRecDepth 100000 in
theorem pattern_behind_no (A : Option Addr) (c n : Nat) (t : List Rx) (w : World) (h : AtRx w A t) (HL : Hid (t.length = n)) (HP : Hid (¬ Pat t)) :
    Calls Tryz.prog 62 #[.slice A n c] w fun e w' => e = .returned (.slice none 0 0) ∧ Below w.heap.size w w' := by
  have hl : n ≤ 140737488355328 := by have := h.1; rwa [HL.out] at this
  by_cases h0 : n = 0
  · subst h0
    go_enter Tryz.func62, Tryz.ntmps62
    go_wp2
    go_ret
    exact ⟨rfl, (by repeat (first | exact Below.refl _ _ | exact (Below.refl _ _).alloc (Nat.le_refl _) _ | apply below_drewN))⟩
  have hd0 : ((n : Int) == 0) = false := by simp; omega
  by_cases h1 : 64 < n
  · have hd1 : decide ((64 : Int) < (n : Int)) = true := decide_eq_true (by omega)
    clear h0
    go_enter Tryz.func62, Tryz.ntmps62
    go_wp2
    go_ret
    exact ⟨rfl, (by repeat (first | exact Below.refl _ _ | exact (Below.refl _ _).alloc (Nat.le_refl _) _ | apply below_drewN))⟩
  have hd1 : decide ((64 : Int) < (n : Int)) = false := decide_eq_false (by omega)
  obtain ⟨i0, hi0, hz0, hs0, hb0⟩ := info_parts info_int
  obtain ⟨cs, hcs, _, hmk⟩ := run_mk (P := Tryz.prog) Tryz.underlying22 hi0 hz0 hs0 hb0 rfl n (by omega) (by omega)
  have HC := Lib.hid (pattern_behind1 A c n t w h HL (by omega) w.heap.size (w.heap.size + 1 + 1 + 1) (w.heap.size + 1 + 1) (w.heap.size + 1) 16 (by omega) 0 _ cs (by omega) (WEnv.start w A n c cs) hcs)
  have hall : behind t 16 0 ≠ some n := fun hh => HP.out ⟨by rintro rfl; have := HL.out; simp at this; omega, by rw [HL.out]; omega, by rw [HL.out]; exact hh⟩
  obtain ⟨o, ho⟩ : ∃ o, behind t 16 0 = o := ⟨_, rfl⟩
  rw [ho] at HC hall
  have hnn : (bR o != (n : Int)) = true := by
    rw [bne_iff_ne]
    cases o with
    | none => rw [bR_none]; omega
    | some e => rw [bR_some]; intro h; exact hall (by congr 1; omega)
  have HB4 := Lib.hid (W4_below w A n c cs)
  clear hcs hall h ho h0
  go_enter Tryz.func62, Tryz.ntmps62
  go_wp2
  go_region_with (go_at_call 99; refine HC.out.mono ?_; rintro e w1 ⟨cs1, rfl, env1, hsz1, hfl1, hg1⟩; have ⟨_, f1, f2, f3, _, _, _, _, _, _, _, _⟩ := env1; have HG1 := Lib.hid hg1; clear env1 hsz1 hfl1 hg1)
  all_goals
    go_wp2
    go_ret
    exact ⟨rfl, ⟨HG1.out.os.trans HB4.out.os, HG1.out.tape.trans HB4.out.tape, HG1.out.output.trans HB4.out.output, Nat.le_trans HB4.out.size HG1.out.size, fun k hk => (HG1.out.block k (Nat.lt_of_lt_of_le hk HB4.out.size) (by simp; omega)).trans (HB4.out.block k hk)⟩⟩

noncomputable def patE (t : List Rx) : Int := if patB t = true then 0 else 8
theorem patE_yes {t : List Rx} (h : Pat t) : patE t = 0 := by unfold patE; rw [if_pos (patB_yes h)]
theorem patE_no {t : List Rx} (h : ¬ Pat t) : patE t = 8 := by unfold patE; rw [if_neg (by rw [patB_no h]; simp)]

set_option maxHeartbeats 1000000 in
set_option maxRecDepth 100000 in
theorem pattern_Check (A : Option Addr) (c n : Nat) (t : List Rx) (w : World) (h : AtRx w A t) (HL : Hid (t.length = n)) :
    Calls Tryz.prog 26 #[.slice A n c] w fun e w' => e = .returned (.int .i64 (patE t)) ∧ Below w.heap.size w w' := by
  by_cases hp : Pat t
  · have HC := Lib.hid (pattern_behind_yes A c n t w h HL (Lib.hid hp))
    have HE := Lib.hid (patE_yes hp)
    clear h hp
    have hnil := fun (W : World) (a : Option Addr) (n c : Nat) => Lib.run_eql_slice_nil (P := Tryz.prog) W 22 3 a n c 0 0 Tryz.underlying22
    go_enter Tryz.func26, Tryz.ntmps26
    go_wp2_with (go_at_call 62; refine HC.out.mono ?_; rintro e w1 ⟨eb, rfl, _, hb1⟩)
    go_ret
    exact ⟨ret_int HE.out.symm, hb1⟩
  · have HC := Lib.hid (pattern_behind_no A c n t w h HL (Lib.hid hp))
    have HE := Lib.hid (patE_no hp)
    clear h hp
    have hnil := fun (W : World) (a : Option Addr) (n c : Nat) => Lib.run_eql_slice_nil (P := Tryz.prog) W 22 3 a n c 0 0 Tryz.underlying22
    go_enter Tryz.func26, Tryz.ntmps26
    go_wp2_with (go_at_call 62; refine HC.out.mono ?_; rintro e w1 ⟨rfl, hb1⟩)
    go_ret
    exact ⟨ret_int HE.out.symm, hb1⟩

end Go.Proofs.YtilhicefhhgecaaGreatDoor
