/- Walks: Parse's deferred call where something has panicked; text.Check. PUT1 -/
import Derived.Test.YtilhicefhhgecaaGreatDoorP17q
import Derived.Test.YtilhicefhhgecaaGreatDoorRoq
import Derived.Test.YtilhicefhhgecaaGreatDoorRpq
import Derived.Test.YtilhicefhhgecaaGreatDoorPgq
import Derived.Defers
namespace Go.Proofs.YtilhicefhhgecaaGreatDoor
open Go.RowKit Pv

set_option maxHeartbeats 2000000 in
set_option maxRecDepth 100000 in
theorem parse_catch (p q : Addr) (A : Option Addr) (n c : Nat) (x : Int) (older : List PanicEntry) (w : World) (hp : w.cell? p = some (.slice A n c)) (fp : w.frozen? p = false) (hq : w.cell? q = some (.int .i64 x)) (fq : w.frozen? q = false) (hpq : p.block ≠ q.block) :
    CallsD Tryz.prog 37 #[.pointer (some p), .pointer (some q)] (.panicking ({ v := .iface 72 (.agg #[.int .i64 70]), recovered := false } :: older)) w fun e u' w' =>
      e = .returned (.tuple #[]) ∧ u' = .panicking ({ v := .iface 72 (.agg #[.int .i64 70]), recovered := true } :: older) ∧ w' = ((w.setCell p (.slice none 0 0)).setCell q (.int .i64 70)).drew := by
  have hta : ∀ (T : TypeId) (W : World), (Instr.typeAssert (.iface 72 (.agg #[.int .i64 70])) T 72 false).run Tryz.prog W = .ok (.agg #[.int .i64 70]) W := fun _ _ => by kernel_rfl
  have hfd : ∀ W : World, (Instr.field 72 (.agg #[.int .i64 70]) 0).run Tryz.prog W = .ok (.int .i64 70) W := fun _ => by kernel_rfl
  have hq1 : (w.setCell p (.slice none 0 0)).cell? q = some (.int .i64 x) := (World.cell?_of_block (Below.heap_setCell w p (.slice none 0 0) q.block (fun e => hpq e.symm))).trans hq
  have hq2 : (w.setCell p (.slice none 0 0)).frozen? q = false := by rw [World.frozen?_setCell]; exact fq
  refine callsD_of_wpS Tryz.func37 rfl fun c₀ cs hu => ?_
  apply wpS_seq
  apply wpS_region
  simp [wpOpsS, go_sem, recoverD, hu, Tryz.ntmps37, Exit.thenS]
  apply wpS_seq
  apply wpS_region
  simp [wpOpsS, go_sem, Exit.thenS, Act.eval]
  refine wpS_cond (t := true) (by simp [Act.eval, Array.replicate]) ?_
  simp only [if_true]
  refine wpS_of_wp ?_
  have HT : Hid (True ∧ True) := Lib.hid ⟨trivial, trivial⟩
  refine wp_region_T 4 (fun _ => True ∧ True) (by kernel_rfl) ?_
  refine wpAnyT_takeW (i := 0) (v := ?_) rfl (by decide) (by kernel_rfl) (by kernel_rfl) (by kernel_rfl) (fun _ _ _ h => h) (.inl ⟨rfl, ?_⟩) (fun _ => HT.out) ?_
  rotate_left
  · intro W__ _
    go_simp
    (try with_reducible rfl)
  try simp only [Act.put]
  refine wpAnyT_takeW (i := 1) (v := ?_) rfl (by decide) (by kernel_rfl) (by kernel_rfl) (by kernel_rfl) (fun _ _ _ h => h) (.inl ⟨rfl, ?_⟩) (fun _ => HT.out) ?_
  rotate_left
  · intro W__ _
    go_simp
    (try with_reducible rfl)
  try simp only [Act.put]
  refine wpAnyT_takeW (i := 2) (v := ?_) rfl (by decide) (by kernel_rfl) (by kernel_rfl) (by kernel_rfl) (fun _ _ _ h => h) (.inl ⟨rfl, ?_⟩) (fun _ => HT.out) ?_
  rotate_left
  · intro W__ _
    go_simp
    (try with_reducible rfl)
  try simp only [Act.put]
  refine wpAnyT_one (i := 3) rfl (by kernel_rfl) rfl fun K__ hK__ => ?_
  unfold Oper.wp
  go_simp
  refine hK__ _ _ (HT.out) ?_
  clear hK__
  refine wpAnyT_end (i := 4) rfl (by kernel_rfl) rfl (by kernel_rfl) fun K__ hK__ => ?_
  unfold Oper.wp
  go_simp
  refine hK__ _ _ ?_
  clear hK__
  refine wpAnyT_done (by kernel_rfl) ?_ _
  simp [bodyPostS, results, Tryz.results37]

/-- What text.Check tells. -/
def chkV (l : List UInt8) : Int := if 16384 < l.length then 4 else if Lib.validD l then 0 else 10
set_option maxHeartbeats 400000 in
set_option maxRecDepth 100000 in
theorem text_CheckV (s : ByteArray) (w : World) (B : Nat) (hs : s.size ≤ 140737488355328) (hT : TabV B w) :
    Calls Tryz.prog 36 #[.string s] w fun e w' => e = .returned (.int .i64 (chkV (bsl s))) ∧ Below w.heap.size w w' := by
  have HV := Lib.hid (show Calls Tryz.prog 74 #[.string s] w fun e w' => e = .returned (.bool (Lib.validD (bsl s))) ∧ Below w.heap.size w w' from Tryz.utf8_ValidString s w (by omega) hT.utf)
  have HL : Hid ((bsl s).length = s.size) := Lib.hid (bsl_len s)
  clear hT
  by_cases h1 : 16384 < s.size
  · have HC := Lib.hid (show 4 = chkV (bsl s) by unfold chkV; rw [if_pos (by rw [HL.out]; exact h1)])
    have i1 : (16384 : Int) < (s.size : Int) := by omega
    generalize chkV (bsl s) = r at *
    clear h1 hs HL
    go_enter Tryz.func36, Tryz.ntmps36
    go_wp2
    go_ret
    exact ⟨ret_int HC.out, Below.refl _ _⟩
  · have HC := Lib.hid (show (if Lib.validD (bsl s) then 0 else 10) = chkV (bsl s) by unfold chkV; rw [if_neg (show ¬ 16384 < (bsl s).length by rw [HL.out]; exact h1)])
    have i1 : (s.size : Int) ≤ 16384 := by omega
    generalize chkV (bsl s) = r at *
    clear h1 hs HL
    cases hv : Lib.validD (bsl s)
    all_goals
      rw [hv] at HV HC
      clear hv
      go_enter Tryz.func36, Tryz.ntmps36
      go_wp2_with fail
      refine HV.out.mono ?_
      rintro e w1 ⟨rfl, hb⟩
      go_wp2
      go_ret
      exact ⟨ret_int HC.out, hb⟩
end Go.Proofs.YtilhicefhhgecaaGreatDoor

namespace Pv
open Go Go.RowKit
/-- What comes of what is read: the pattern, or the error. -/
noncomputable def endP : Option PR → List Rx × Int
  | none => ([], 70)
  | some (t, r, w) => if r.isEmpty = false then ([], 70) else if decide (64 < t.length) || w then ([], 4) else if patB t = true then (t, 0) else ([], 30)
theorem parseB_bad {l : Bs} {c : Int} (h : (if 16384 < l.length then (4 : Int) else if Lib.validD l then 0 else 10) = c) (hc : c ≠ 0) : parseB l = ([], c) := by
  unfold parseB
  by_cases h1 : 16384 < l.length
  · rw [if_pos h1] at h ⊢
    rw [h]
  · rw [if_neg h1] at h ⊢
    cases hv : Lib.validD l with
    | true => rw [hv] at h; simp at h; exact absurd h.symm hc
    | false => rw [hv] at h; simp at h; rw [← h]; simp
theorem parseB_ok {l : Bs} (h : (if 16384 < l.length then (4 : Int) else if Lib.validD l then 0 else 10) = 0) : parseB l = endP (rowsB (l.length + 1) l false) := by
  unfold parseB endP
  by_cases h1 : 16384 < l.length
  · rw [if_pos h1] at h; omega
  · rw [if_neg h1] at h ⊢
    cases hv : Lib.validD l with
    | false => rw [hv] at h; simp at h
    | true =>
      simp only [Bool.true_eq_false, if_false]
      cases rowsB (l.length + 1) l false with
      | none => rfl
      | some p => rfl
end Pv
namespace Go.Proofs.YtilhicefhhgecaaGreatDoor
open Go.RowKit Pv
/-- What Parse leaves: the nodes, in new memory, and the error. -/
def ParseG (w : World) (x : List Rx × Int) (e : Ending) (w' : World) : Prop := ∃ A n c, e = .returned (.tuple #[.slice A n c, .int .i64 x.2]) ∧ OwnRx w' w.heap.size (.slice A n c) x.1 ∧ Below w.heap.size w w'

set_option maxHeartbeats 4000000 in
set_option maxRecDepth 100000 in
/-- The text is refused. -/
theorem parse_bad (s : ByteArray) (c : Int) (w : World) (B : Nat) (hs : s.size ≤ 100000) (hc : chkV (bsl s) = c) (h0 : c ≠ 0) (hT : TabV B w) (hB : B ≤ w.heap.size) :
    Calls Tryz.prog 12 #[.string s] w (ParseG w ([], c)) := by
  have hB0 : Below w.heap.size w ((w.alloc (.cells #[.slice none 0 0] 29)).alloc (.cells #[.int .i64 0] 30)) := ((Below.refl _ _).alloc (Nat.le_refl _) _).alloc (by simp) _
  have HC := text_CheckV s _ B (by omega) (hT.next (hB0.mono hB))
  rw [hc] at HC
  have HC := Lib.hid HC
  have HB0 := Lib.hid hB0
  have t1 : (c != 0) = true := by simpa using h0
  clear hT hB hB0 hc h0
  go_enter_defers Tryz.func12, Tryz.ntmps12
  go_wp2_with fail
  refine HC.out.mono ?_
  rintro e w1 ⟨rfl, hb1⟩
  have HB1 := Lib.hid (HB0.out.trans (hb1.mono HB0.out.size))
  have KG1 := Lib.hid (((Blk.new w 29 #[.slice none 0 0]).alloc (.cells #[.int .i64 0] 30)).below hb1 (by simp; omega))
  have KG2 := Lib.hid ((blk_new2 w 29 30 #[.slice none 0 0] #[.int .i64 0]).below hb1 (by simp))
  have q0 := KG1.out.cell 0
  have q1 := KG1.out.frozen 0
  have q2 := KG2.out.cell 0
  have q3 := KG2.out.frozen 0
  simp at q0 q2
  clear hb1
  go_wp2
  have KT1 := Lib.hid ((KG1.out.set 0 (.slice none 0 0)).far (p := ⟨w.heap.size + 1, 0, none⟩) (by simp) (.int .i64 c))
  have KT2 := Lib.hid ((KG2.out.far (p := ⟨w.heap.size, 0, none⟩) (by simp) (.slice none 0 0)).set 0 (.int .i64 c))
  have f0 := KT1.out.cell 0
  have f1 := KT2.out.cell 0
  simp at f0 f1
  have HFF : Hid (ParseG w ([], c) (.returned (.tuple #[.slice none 0 0, .int .i64 c])) ((w1.setCell ⟨w.heap.size, 0, none⟩ (.slice none 0 0)).setCell ⟨w.heap.size + 1, 0, none⟩ (.int .i64 c))) := Lib.hid
    ⟨none, 0, 0, rfl, OwnK.nil, (HB1.out.setCell (p := ⟨w.heap.size, 0, none⟩) (by simp) _).setCell (p := ⟨w.heap.size + 1, 0, none⟩) (by simp) _⟩
  simp [bodyPostD, Leaves, results, Tryz.results12, go_sem, f0, f1]
  exact HFF.out

theorem parse_catch' {w' : World} {A : Option Addr} {n c N : Nat} {x : Int} (k1 : Blk w' N 29 #[.slice A n c]) (k2 : Blk w' (N + 1) 30 #[.int .i64 x]) : w'.cell? ⟨N, 0, none⟩ = some (.slice A n c) ∧ w'.frozen? ⟨N, 0, none⟩ = false ∧ w'.cell? ⟨N + 1, 0, none⟩ = some (.int .i64 x) ∧ w'.frozen? ⟨N + 1, 0, none⟩ = false := ⟨k1.cell 0, k1.frozen 0, k2.cell 0, k2.frozen 0⟩
set_option maxHeartbeats 4000000 in
set_option maxRecDepth 100000 in
/-- The reader panics. -/
theorem parse_no (s : ByteArray) (w : World) (B : Nat) (hs : s.size ≤ 20000) (hc : chkV (bsl s) = 0) (hE : ∀ R, B ≤ R → EscOk R B) (hr : rowsB ((bsl s).length + 1) (bsl s) false = none) (hT : TabV B w) (hB : B ≤ w.heap.size) :
    Calls Tryz.prog 12 #[.string s] w (ParseG w ([], 70)) := by
  have hmf : ∀ (fn : Fn) (first cap : Array Value) (w : World), (Instr.makeFunc fn first cap).run Tryz.prog w = .ok (.func fn first cap) w := fun _ _ _ _ => rfl
  have hB0 : Below w.heap.size w ((w.alloc (.cells #[.slice none 0 0] 29)).alloc (.cells #[.int .i64 0] 30)) := ((Below.refl _ _).alloc (Nat.le_refl _) _).alloc (by simp) _
  have HC := text_CheckV s _ B (by omega) (hT.next (hB0.mono hB))
  rw [hc] at HC
  have HC := Lib.hid HC
  have HB0 := Lib.hid hB0
  have HT := Lib.hid hT; have HE := Lib.hid hE; have HRN := Lib.hid hr
  clear hT hB0 hc hE hr
  go_enter_defers Tryz.func12, Tryz.ntmps12
  go_wp2_with fail
  refine HC.out.mono ?_
  rintro e w1 ⟨rfl, hb1⟩
  have HB1 := Lib.hid (HB0.out.trans (hb1.mono HB0.out.size))
  have hz1 := hb1.size
  simp at hz1
  have KG1 := Lib.hid (((Blk.new w 29 #[.slice none 0 0]).alloc (.cells #[.int .i64 0] 30)).below hb1 (by simp; omega))
  have KG2 := Lib.hid ((blk_new2 w 29 30 #[.slice none 0 0] #[.int .i64 0]).below hb1 (by simp))
  have HBA := Lib.hid (HB1.out.alloc HB1.out.size (.cells #[.string s, .bool false] 75))
  have HRW := rows_all (R := w1.heap.size) (B := B) (HE.out _ (by omega)) (by omega) ((bsl s).length + 1) (bsl s) false (w1.alloc (.cells #[.string s, .bool false] 75)) (Nat.lt_succ_self _) (by rw [bsl_len]; exact hs) ⟨s, rfl, Blk.new _ _ _⟩ (HT.out.next (HBA.out.mono hB))
  rw [HRN.out] at HRW
  have HR : Hid (Calls Tryz.prog 38 #[.pointer (some ⟨w1.heap.size, 0, none⟩)] (w1.alloc (.cells #[.string s, .bool false] 75)) fun e w' => Stopped e ∧ Only w1.heap.size (w1.alloc (.cells #[.string s, .bool false] 75)) w') := Lib.hid HRW
  clear hb1 HRW
  go_wp2_with fail
  refine HR.out.mono ?_
  rintro e w2 ⟨he, k3⟩
  subst he
  have KG1 := Lib.hid (k3.blk (KG1.out.alloc _) (by omega))
  have KG2 := Lib.hid (k3.blk (KG2.out.alloc _) (by omega))
  have HB2 := Lib.hid (HBA.out.trans (k3.below (by omega) (by simp; omega)))
  clear k3
  go_wp2
  refine leaves_cons (f := 37) (args := #[.pointer (some ⟨w.heap.size, 0, none⟩), .pointer (some ⟨w.heap.size + 1, 0, none⟩)]) (by simp) (by simp [go_sem]) ?_
  obtain ⟨c1, c2, c3, c4⟩ := parse_catch' KG1.out KG2.out
  refine (parse_catch ⟨w.heap.size, 0, none⟩ ⟨w.heap.size + 1, 0, none⟩ none 0 0 0 [] _ c1 c2 c3 c4 (by simp)).mono ?_
  rintro e u' w'' ⟨rfl, rfl, rfl⟩
  have KT1 := Lib.hid ((KG1.out.set 0 (.slice none 0 0)).far (p := ⟨w.heap.size + 1, 0, none⟩) (by simp) (.int .i64 70))
  have KT2 := Lib.hid ((KG2.out.far (p := ⟨w.heap.size, 0, none⟩) (by simp) (.slice none 0 0)).set 0 (.int .i64 70))
  have f0 := KT1.out.cell 0
  have f1 := KT2.out.cell 0
  simp at f0 f1
  have HFF : Hid (ParseG w ([], 70) (.returned (.tuple #[.slice none 0 0, .int .i64 70])) (((w2.setCell ⟨w.heap.size, 0, none⟩ (.slice none 0 0)).setCell ⟨w.heap.size + 1, 0, none⟩ (.int .i64 70)).drew)) := Lib.hid
    ⟨none, 0, 0, rfl, OwnK.nil, ((HB2.out.setCell (p := ⟨w.heap.size, 0, none⟩) (by simp) _).setCell (p := ⟨w.heap.size + 1, 0, none⟩) (by simp) _).drew⟩
  simp [Leaves, settle, results, Tryz.results12, go_sem, f0, f1]
  exact HFF.out
end Go.Proofs.YtilhicefhhgecaaGreatDoor

namespace Go.Proofs.YtilhicefhhgecaaGreatDoor
open Go.RowKit Pv
theorem rx_atG {w : World} {b n c : Nat} {A : Option Addr} {t : List Rx} (h : OwnRx w b (.slice A n c) t) (hl : t.length ≤ 100000) (hs : NarX t) : AtRx w A t := rx_at h hl fun x hx => by have := hs x hx; omega
set_option maxHeartbeats 8000000 in
set_option maxRecDepth 100000 in
/-- The reader tells something. -/
theorem parse_some (s : ByteArray) (t : List Rx) (r : Bs) (wd : Bool) (w : World) (B : Nat) (hs : s.size ≤ 20000) (hc : chkV (bsl s) = 0) (hE : ∀ R, B ≤ R → EscOk R B) (hr : rowsB ((bsl s).length + 1) (bsl s) false = some (t, r, wd)) (hT : TabV B w) (hB : B ≤ w.heap.size) :
    Calls Tryz.prog 12 #[.string s] w (ParseG w (endP (some (t, r, wd)))) := by
  have hmf : ∀ (fn : Fn) (first cap : Array Value) (w : World), (Instr.makeFunc fn first cap).run Tryz.prog w = .ok (.func fn first cap) w := fun _ _ _ _ => rfl
  have hB0 : Below w.heap.size w ((w.alloc (.cells #[.slice none 0 0] 29)).alloc (.cells #[.int .i64 0] 30)) := ((Below.refl _ _).alloc (Nat.le_refl _) _).alloc (by simp) _
  have HC := text_CheckV s _ B (by omega) (hT.next (hB0.mono hB))
  rw [hc] at HC
  have HC := Lib.hid HC
  have HB0 := Lib.hid hB0
  have HT := Lib.hid hT; have HE := Lib.hid hE; have HRN := Lib.hid hr
  have HNO := Lib.hid (fun W => rd_no W)
  have hsl : (bsl s).length ≤ 20000 := by rw [bsl_len]; exact hs
  have hfew := rowsG_few _ _ _ _ _ _ hr
  have HNAR := Lib.hid (rowsG_nar _ _ _ _ _ _ hr).2
  have htl : t.length ≤ 60001 := by omega
  obtain ⟨k, hk⟩ : ∃ k, t.length = k := ⟨_, rfl⟩
  have HK := Lib.hid hk
  rw [hk] at htl
  clear hT hB0 hc hE hr hfew hk
  go_enter_defers Tryz.func12, Tryz.ntmps12
  go_wp2_with fail
  refine HC.out.mono ?_
  rintro e w1 ⟨rfl, hb1⟩
  have HB1 := Lib.hid (HB0.out.trans (hb1.mono HB0.out.size))
  have hz1 := hb1.size
  simp at hz1
  have KG1 := Lib.hid (((Blk.new w 29 #[.slice none 0 0]).alloc (.cells #[.int .i64 0] 30)).below hb1 (by simp; omega))
  have KG2 := Lib.hid ((blk_new2 w 29 30 #[.slice none 0 0] #[.int .i64 0]).below hb1 (by simp))
  have HBA := Lib.hid (HB1.out.alloc HB1.out.size (.cells #[.string s, .bool false] 75))
  have HRW := rows_all (R := w1.heap.size) (B := B) (HE.out _ (by omega)) (by omega) ((bsl s).length + 1) (bsl s) false (w1.alloc (.cells #[.string s, .bool false] 75)) (Nat.lt_succ_self _) hsl ⟨s, rfl, Blk.new _ _ _⟩ (HT.out.next (HBA.out.mono hB))
  rw [HRN.out] at HRW
  have HR : Hid (Calls Tryz.prog 38 #[.pointer (some ⟨w1.heap.size, 0, none⟩)] (w1.alloc (.cells #[.string s, .bool false] 75)) (RdP w1.heap.size (w1.alloc (.cells #[.string s, .bool false] 75)) t r wd)) := Lib.hid HRW
  clear hb1 HRW
  go_wp2_with fail
  refine HR.out.mono ?_
  rintro e w2 ⟨A, n, c, rfl, k1, k2, k3⟩
  have HNN : Hid (n = k) := Lib.hid (by
    obtain ⟨_, _, _, hv, _⟩ := k1
    injection hv with _ e _
    rw [e, HK.out])
  obtain rfl := HNN.out
  have KG1 := Lib.hid (k3.blk (KG1.out.alloc _) (by omega))
  have KG2 := Lib.hid (k3.blk (KG2.out.alloc _) (by omega))
  have HB2 := Lib.hid (HBA.out.trans (k3.below (by omega) (by simp; omega)))
  obtain ⟨s2, hs2, k2⟩ := k2
  have HS2 := Lib.hid hs2
  have K2 := Lib.hid (k2.far (p := ⟨w.heap.size, 0, none⟩) (by simp; omega) (.slice A n c))
  have p0 := K2.out.cell 0
  have p1 := K2.out.cell 1
  simp at p0 p1
  have g0 := KG1.out.cell 0
  have g1 := KG1.out.frozen 0
  have g2 := KG1.out.lt
  simp at g0
  have HX := Lib.hid (rx_far (i := 0) (u := .slice A n c) k1 KG1.out (by decide) (by decide))
  have KS1 := Lib.hid (KG1.out.set 0 (.slice A n c))
  have KS2 := Lib.hid (KG2.out.far (p := ⟨w.heap.size, 0, none⟩) (by simp) (.slice A n c))
  have HB3 := Lib.hid (HB2.out.setCell (p := ⟨w.heap.size, 0, none⟩) (by simp) (.slice A n c))
  clear k1 k2 k3 hs2
  by_cases hre : r = []
  case neg =>
    have E1 : s2.toList.isEmpty = false := by
      rw [toList_bsl, HS2.out]
      cases r with
      | nil => exact absurd rfl hre
      | cons b r => rfl
    have HEND : Hid (endP (some (t, r, wd)) = ([], 70)) := Lib.hid (by
      unfold endP
      simp only
      rw [if_pos]
      cases r with
      | nil => exact absurd rfl hre
      | cons b r => rfl)
    clear hre
    go_wp2_with fail
    refine (HNO.out _).mono ?_
    rintro e w3 ⟨he, rfl⟩
    subst he
    go_wp2
    refine leaves_cons (f := 37) (args := #[.pointer (some ⟨w.heap.size, 0, none⟩), .pointer (some ⟨w.heap.size + 1, 0, none⟩)]) (by simp) (by simp [go_sem]) ?_
    obtain ⟨c1, c2, c3, c4⟩ := parse_catch' KS1.out KS2.out
    refine (parse_catch ⟨w.heap.size, 0, none⟩ ⟨w.heap.size + 1, 0, none⟩ A n c 0 [] _ c1 c2 c3 c4 (by simp)).mono ?_
    rintro e u' w'' ⟨rfl, rfl, rfl⟩
    have KT1 := Lib.hid ((KS1.out.set 0 (.slice none 0 0)).far (p := ⟨w.heap.size + 1, 0, none⟩) (by simp) (.int .i64 70))
    have KT2 := Lib.hid ((KS2.out.far (p := ⟨w.heap.size, 0, none⟩) (by simp) (.slice none 0 0)).set 0 (.int .i64 70))
    have f0 := KT1.out.cell 0
    have f1 := KT2.out.cell 0
    simp at f0 f1
    have HFF : Hid (ParseG w ([], 70) (.returned (.tuple #[.slice none 0 0, .int .i64 70])) ((((w2.setCell ⟨w.heap.size, 0, none⟩ (.slice A n c)).setCell ⟨w.heap.size, 0, none⟩ (.slice none 0 0)).setCell ⟨w.heap.size + 1, 0, none⟩ (.int .i64 70)).drew)) := Lib.hid
      ⟨none, 0, 0, rfl, OwnK.nil, ((HB3.out.setCell (p := ⟨w.heap.size, 0, none⟩) (by simp) _).setCell (p := ⟨w.heap.size + 1, 0, none⟩) (by simp) _).drew⟩
    simp [Leaves, settle, results, Tryz.results12, go_sem, f0, f1]
    rw [HEND.out]
    exact HFF.out
  subst hre
  have E1 : s2.toList.isEmpty = true := by rw [toList_bsl, HS2.out]; rfl
  by_cases hbig : 64 < n ∨ wd = true
  · have HEND : Hid (endP (some (t, [], wd)) = ([], 4)) := Lib.hid (by
      unfold endP
      simp only [List.isEmpty_nil, Bool.true_eq_false, if_false, HK.out]
      rw [if_pos]
      simp only [Bool.or_eq_true, decide_eq_true_eq]
      exact hbig)
    have q0 := KS1.out.cell 0
    have q1 := KS1.out.frozen 0
    have q2 := KS2.out.cell 0
    have q3 := KS2.out.frozen 0
    simp at q0 q2
    have KT1 := Lib.hid ((KS1.out.set 0 (.slice none 0 0)).far (p := ⟨w.heap.size + 1, 0, none⟩) (by simp) (.int .i64 4))
    have KT2 := Lib.hid ((KS2.out.far (p := ⟨w.heap.size, 0, none⟩) (by simp) (.slice none 0 0)).set 0 (.int .i64 4))
    have HFF : Hid (ParseG w ([], 4) (.returned (.tuple #[.slice none 0 0, .int .i64 4])) (((w2.setCell ⟨w.heap.size, 0, none⟩ (.slice A n c)).setCell ⟨w.heap.size, 0, none⟩ (.slice none 0 0)).setCell ⟨w.heap.size + 1, 0, none⟩ (.int .i64 4))) := Lib.hid
      ⟨none, 0, 0, rfl, OwnK.nil, (HB3.out.setCell (p := ⟨w.heap.size, 0, none⟩) (by simp) _).setCell (p := ⟨w.heap.size + 1, 0, none⟩) (by simp) _⟩
    by_cases h64 : 64 < n
    · have i1 : (64 : Int) < (n : Int) := by omega
      clear hbig h64
      go_wp2
      refine leaves_cons (f := 37) (args := #[.pointer (some ⟨w.heap.size, 0, none⟩), .pointer (some ⟨w.heap.size + 1, 0, none⟩)]) (by simp) (by simp [go_sem]) ?_
      refine (parse_idle ⟨w.heap.size, 0, none⟩ ⟨w.heap.size + 1, 0, none⟩ _).mono ?_
      rintro e u' w'' ⟨rfl, rfl, rfl⟩
      have f0 := KT1.out.cell 0
      have f1 := KT2.out.cell 0
      simp at f0 f1
      simp [Leaves, settle, results, Tryz.results12, go_sem, f0, f1]
      rw [HEND.out]
      exact HFF.out
    · have i1 : ¬ (64 : Int) < (n : Int) := by omega
      obtain rfl : wd = true := hbig.resolve_left h64
      clear hbig h64
      go_wp2
      refine leaves_cons (f := 37) (args := #[.pointer (some ⟨w.heap.size, 0, none⟩), .pointer (some ⟨w.heap.size + 1, 0, none⟩)]) (by simp) (by simp [go_sem]) ?_
      refine (parse_idle ⟨w.heap.size, 0, none⟩ ⟨w.heap.size + 1, 0, none⟩ _).mono ?_
      rintro e u' w'' ⟨rfl, rfl, rfl⟩
      have f0 := KT1.out.cell 0
      have f1 := KT2.out.cell 0
      simp at f0 f1
      simp [Leaves, settle, results, Tryz.results12, go_sem, f0, f1]
      rw [HEND.out]
      exact HFF.out
  · obtain rfl : wd = false := by cases wd with | false => rfl | true => exact absurd (.inr rfl) hbig
    have hn64 : ¬ 64 < n := fun h => hbig (.inl h)
    have i1 : ¬ (64 : Int) < (n : Int) := by omega
    have HCK := pattern_Check A c n t (w2.setCell ⟨w.heap.size, 0, none⟩ (.slice A n c)) (rx_atG HX.out (by rw [HK.out]; omega) (HNAR.out rfl).2) HK
    have q0' := KS1.out.cell 0
    simp at q0'
    by_cases hp : Pat t
    · have HEND : Hid (endP (some (t, [], false)) = (t, 0)) := Lib.hid (by
        unfold endP
        simp only [List.isEmpty_nil, Bool.true_eq_false, if_false, HK.out]
        rw [if_neg (by simp; omega), if_pos (patB_yes hp)])
      rw [patE_yes hp] at HCK
      have HCK := Lib.hid HCK
      clear hbig hp hn64
      go_wp2_with fail
      refine HCK.out.mono ?_
      rintro e w3 ⟨rfl, hb3⟩
      have KS1 := Lib.hid (KS1.out.below hb3 (by simpa using g2))
      have KS2 := Lib.hid (KS2.out.below hb3 (by simpa using KG2.out.lt))
      have HX3 := Lib.hid (rx_below HX.out hb3)
      have HB4 := Lib.hid (HB3.out.trans (hb3.mono HB3.out.size))
      have q0 := KS1.out.cell 0
      have q1 := KS1.out.frozen 0
      have q2 := KS2.out.cell 0
      have q3 := KS2.out.frozen 0
      simp at q0 q2
      clear hb3 p0 p1 E1 g0 g1 g2 q0'
      go_wp2
      have KT1 := Lib.hid ((KS1.out.set 0 (.slice A n c)).far (p := ⟨w.heap.size + 1, 0, none⟩) (by simp) (.int .i64 0))
      have KT2 := Lib.hid ((KS2.out.far (p := ⟨w.heap.size, 0, none⟩) (by simp) (.slice A n c)).set 0 (.int .i64 0))
      refine leaves_cons (f := 37) (args := #[.pointer (some ⟨w.heap.size, 0, none⟩), .pointer (some ⟨w.heap.size + 1, 0, none⟩)]) (by simp) (by simp [go_sem]) ?_
      refine (parse_idle ⟨w.heap.size, 0, none⟩ ⟨w.heap.size + 1, 0, none⟩ _).mono ?_
      rintro e u' w'' ⟨rfl, rfl, rfl⟩
      have f0 := KT1.out.cell 0
      have f1 := KT2.out.cell 0
      simp at f0 f1
      have HFF : Hid (ParseG w (t, 0) (.returned (.tuple #[.slice A n c, .int .i64 0])) ((w3.setCell ⟨w.heap.size, 0, none⟩ (.slice A n c)).setCell ⟨w.heap.size + 1, 0, none⟩ (.int .i64 0))) := Lib.hid (by
        have h1 := rx_far (i := 0) (u := .int .i64 0) (rx_far (i := 0) (u := .slice A n c) HX3.out KS1.out (by decide) (by decide)) (KS2.out.far (p := ⟨w.heap.size, 0, none⟩) (by simp) (.slice A n c)) (by decide) (by decide)
        exact ⟨A, n, c, rfl, rx_lower h1 (by omega), (HB4.out.setCell (p := ⟨w.heap.size, 0, none⟩) (by simp) _).setCell (p := ⟨w.heap.size + 1, 0, none⟩) (by simp) _⟩)
      simp [Leaves, settle, results, Tryz.results12, go_sem, f0, f1]
      rw [HEND.out]
      exact HFF.out
    · have HEND : Hid (endP (some (t, [], false)) = ([], 30)) := Lib.hid (by
        unfold endP
        simp only [List.isEmpty_nil, Bool.true_eq_false, if_false, HK.out]
        rw [if_neg (by simp; omega), if_neg (by rw [patB_no hp]; simp)])
      rw [patE_no hp] at HCK
      have HCK := Lib.hid HCK
      clear hbig hp hn64
      go_wp2_with fail
      refine HCK.out.mono ?_
      rintro e w3 ⟨rfl, hb3⟩
      have KS1 := Lib.hid (KS1.out.below hb3 (by simpa using g2))
      have KS2 := Lib.hid (KS2.out.below hb3 (by simpa using KG2.out.lt))
      have HB4 := Lib.hid (HB3.out.trans (hb3.mono HB3.out.size))
      have q0 := KS1.out.cell 0
      have q1 := KS1.out.frozen 0
      have q2 := KS2.out.cell 0
      have q3 := KS2.out.frozen 0
      simp at q0 q2
      clear hb3 p0 p1 E1 g0 g1 g2 q0'
      go_wp2
      have KT1 := Lib.hid ((KS1.out.set 0 (.slice none 0 0)).far (p := ⟨w.heap.size + 1, 0, none⟩) (by simp) (.int .i64 30))
      have KT2 := Lib.hid ((KS2.out.far (p := ⟨w.heap.size, 0, none⟩) (by simp) (.slice none 0 0)).set 0 (.int .i64 30))
      refine leaves_cons (f := 37) (args := #[.pointer (some ⟨w.heap.size, 0, none⟩), .pointer (some ⟨w.heap.size + 1, 0, none⟩)]) (by simp) (by simp [go_sem]) ?_
      refine (parse_idle ⟨w.heap.size, 0, none⟩ ⟨w.heap.size + 1, 0, none⟩ _).mono ?_
      rintro e u' w'' ⟨rfl, rfl, rfl⟩
      have f0 := KT1.out.cell 0
      have f1 := KT2.out.cell 0
      simp at f0 f1
      have HFF : Hid (ParseG w ([], 30) (.returned (.tuple #[.slice none 0 0, .int .i64 30])) ((w3.setCell ⟨w.heap.size, 0, none⟩ (.slice none 0 0)).setCell ⟨w.heap.size + 1, 0, none⟩ (.int .i64 30))) := Lib.hid
        ⟨none, 0, 0, rfl, OwnK.nil, (HB4.out.setCell (p := ⟨w.heap.size, 0, none⟩) (by simp) _).setCell (p := ⟨w.heap.size + 1, 0, none⟩) (by simp) _⟩
      simp [Leaves, settle, results, Tryz.results12, go_sem, f0, f1]
      rw [HEND.out]
      exact HFF.out
/-- The program's Parse, at any bytes. -/
theorem pattern_ParseG (s : ByteArray) (w : World) (B : Nat) (hs : s.size ≤ 20000) (hE : ∀ R, B ≤ R → EscOk R B) (hT : TabV B w) (hB : B ≤ w.heap.size) :
    Calls Tryz.prog 12 #[.string s] w (ParseG w (parseB (bsl s))) := by
  by_cases hc : chkV (bsl s) = 0
  · rw [parseB_ok hc]
    cases hr : rowsB ((bsl s).length + 1) (bsl s) false with
    | none => exact parse_no s w B hs hc hE hr hT hB
    | some p =>
      obtain ⟨t, r, wd⟩ := p
      exact parse_some s t r wd w B hs hc hE hr hT hB
  · rw [parseB_bad rfl hc]
    exact parse_bad s _ w B (by omega) rfl hc hT hB
end Go.Proofs.YtilhicefhhgecaaGreatDoor
