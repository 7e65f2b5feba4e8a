/- Walks: the document's reader: look, is, span. PUT1 -/
import Derived.Test.YtilhicefhhgecaaGreatDoorP7q
import Derived.Test.YtilhicefhhgecaaGreatDoorP17q
import Derived.Test.YtilhicefhhgecaaGreatDoorP21q
import Derived.Test.YtilhicefhhgecaaGreatDoorRcq
import Derived.Test.YtilhicefhhgecaaGreatDoorYeq
import Derived.Test.YtilhicefhhgecaaGreatDoorQgq
import Derived.Test.YtilhicefhhgecaaGreatDoorTaq
import Derived.Lib.Join
import Derived.Test.YtilhicefhhgecaaGreatDoorPjq
import Derived.Test.YtilhicefhhgecaaGreatDoorQ4q
import Derived.Test.YtilhicefhhgecaaGreatDoorRbq
import Derived.Test.YtilhicefhhgecaaGreatDoorQvq
namespace Pv
open Go Go.RowKit
/-- The code points of bytes. -/
def ptsZ (l : Bs) : Option (List Int) := (ptsL l).map fun q => q.map fun n : Nat => (n : Int)
theorem ptsZ_nil : ptsZ [] = some [] := rfl
theorem ptsZ_step {l : Bs} {q : List Int} (hl : l ≠ []) (h : ptsZ l = some q) : ∃ m k q', nextP l = some (m, k) ∧ q = (m : Int) :: q' ∧ ptsZ (l.drop k) = some q' := by
  unfold ptsZ at h
  rw [ptsL_step hl] at h
  cases hx : nextP l with
  | none => rw [hx] at h; cases h
  | some p =>
    obtain ⟨m, k⟩ := p
    rw [hx] at h
    simp only at h
    cases hp : ptsL (l.drop k) with
    | none => rw [hp] at h; cases h
    | some u =>
      rw [hp] at h
      simp only [Option.map_some, List.map_cons, Option.some.injEq] at h
      exact ⟨m, k, _, rfl, h.symm, by unfold ptsZ; rw [hp]; rfl⟩
/-- What stands next, as a number. -/
def lookZ (l : Bs) : Int := match nextP l with
  | some (m, _) => (m : Int)
  | none => -1
theorem lookZ_nil : lookZ [] = -1 := by unfold lookZ; rw [nextP_nil]
/-- The list of code points, in memory. -/
structure PEnv where
  A : Option Addr
  n : Nat
  c : Nat
  P : List Int
end Pv
namespace Go.Proofs.YtilhicefhhgecaaGreatDoor
open Go.RowKit Pv
abbrev TRw : TypeId := 115
/-- The code points stand in memory of the call's own. -/
structure POk (w : World) (E : PEnv) : Prop where
  own : w.ownsRow 0 3 1 (.slice E.A E.n E.c) E.n (E.P.map (Value.int .i64))
  few : E.n ≤ 20000
  bd : ∀ x, x ∈ E.P → 0 ≤ x ∧ x ≤ 1114111
theorem POk.len {w : World} {E : PEnv} (h : POk w E) : E.P.length = E.n := by have := h.own.1; simpa using this
theorem POk.at' {w : World} {E : PEnv} (h : POk w E) : At w E.A RI E.P := by
  have h1 : OwnI w 0 (.slice E.A E.n E.c) E.P := ⟨E.A, E.c, by rw [h.len], by rw [h.len]; exact h.own⟩
  obtain ⟨A, c, hv, hat, _⟩ := h1.at' (fun x hx => by have := h.bd x hx; omega) (by rw [h.len]; have := h.few; omega)
  injection hv with e1
  rw [e1]
  exact hat
theorem POk.below {w w' : World} {E : PEnv} (h : POk w E) (k : Below w.heap.size w w') : POk w' E := ⟨ownsRow_below h.own k, h.few, h.bd⟩
/-- The document's reader, at what is left. -/
def RdD (w : World) (R : Nat) (E : PEnv) (l : Bs) (wd : Bool) : Prop := POk w E ∧ ∃ i : Nat, Blk w R TRw #[.slice E.A E.n E.c, .int .i64 i, .bool false, .bool wd] ∧ i ≤ E.n ∧ ptsZ l = some (E.P.drop i)
/-- The document's reader, that has met what is bad. -/
def RdX (w : World) (R : Nat) (E : PEnv) : Prop := POk w E ∧ ∃ (i : Nat) (wd : Bool), Blk w R TRw #[.slice E.A E.n E.c, .int .i64 i, .bool true, .bool wd] ∧ i ≤ E.n + 1
section
variable {w w' : World} {R b : Nat} {E : PEnv} {l : Bs} {wd : Bool} {v : Value} {t : List Rx} {s : List Rng}
theorem RdD.lt (h : RdD w R E l wd) : R < w.heap.size := by obtain ⟨_, i, hb, _⟩ := h; exact hb.lt
theorem RdX.lt (h : RdX w R E) : R < w.heap.size := by obtain ⟨_, i, _, hb, _⟩ := h; exact hb.lt
theorem RdD.below (h : RdD w R E l wd) (k : Below w.heap.size w w') : RdD w' R E l wd := by obtain ⟨h0, i, hb, h1⟩ := h; exact ⟨h0.below k, i, hb.below k hb.lt, h1⟩
theorem RdX.below (h : RdX w R E) (k : Below w.heap.size w w') : RdX w' R E := by obtain ⟨h0, i, wd, hb, h1⟩ := h; exact ⟨h0.below k, i, wd, hb.below k hb.lt, h1⟩
/-- A box of the reader stands at R. -/
def IsRd (w : World) (R : Nat) : Prop := ∃ cs, Blk w R TRw cs
theorem RdD.is (h : RdD w R E l wd) : IsRd w R := by obtain ⟨_, i, hb, _⟩ := h; exact ⟨_, hb⟩
theorem RdX.is (h : RdX w R E) : IsRd w R := by obtain ⟨_, i, _, hb, _⟩ := h; exact ⟨_, hb⟩
theorem keepD_set (k : Only R w w') (hr : IsRd w R) (h : OwnSet w b v s) : OwnSet w' b v s := by obtain ⟨_, hb⟩ := hr; exact k.ownK hb (by decide) h
theorem keepD_rx (k : Only R w w') (hr : IsRd w R) (h : OwnRx w b v t) : OwnRx w' b v t := by
  obtain ⟨_, hb⟩ := id hr
  exact (k.ownK hb (by decide) h).monoR fun f x _ hx => hx.up fun v l hs => keepD_set k hr hs
theorem RdD.set (h : RdD w R E l wd) (j : Nat) (u : Value) : POk (w.setCell ⟨R, j, none⟩ u) E := by
  obtain ⟨h0, i, hb, _⟩ := h
  exact ⟨ownsRow_setFar h0.own hb (by decide) j u, h0.few, h0.bd⟩
end
set_option maxHeartbeats 1000000 in
set_option maxRecDepth 100000 in
theorem rd7_look (R : Nat) (E : PEnv) (l : Bs) (wd : Bool) (w : World) (h : RdD w R E l wd) :
    Calls Tryz.prog 148 #[.pointer (some ⟨R, 0, none⟩)] w fun e w' => e = .returned (.int .i64 (lookZ l)) ∧ Below w.heap.size w w' := by
  obtain ⟨h0, i, hb, hi, hp⟩ := h
  obtain ⟨A, n, c, P⟩ := E
  simp only at h0 hb hi hp
  have HB := Lib.hid hb
  have HL := Lib.hid h0.len
  have HP := Lib.hid h0.at'
  simp only at HL HP
  have c0 := hb.cell 0
  have c1 := hb.cell 1
  have c2 := hb.cell 2
  have hR := hb.lt
  by_cases hl : l = []
  · subst hl
    rw [ptsZ_nil] at hp
    have hni : i = n := by
      have := congrArg List.length (Option.some.inj hp)
      rw [List.length_drop, HL.out] at this
      simp at this
      omega
    subst hni
    rw [lookZ_nil]
    have i1 : (i : Int) ≤ (i : Int) := by omega
    have HS : Hid (w.drew.cell? ⟨R, 0, none⟩ = some (.slice A i c) ∧ w.drew.cell? ⟨R, 1, none⟩ = some (.int .i64 i) ∧ w.drew.cell? ⟨R, 2, none⟩ = some (.bool false)) := Lib.hid ⟨c0, c1, c2⟩
    clear h0 hb hp c0 c1 c2 hi
    go_enter Tryz.func148, Tryz.ntmps148
    go_wp2
    refine wp_region_T 15 (fun W => W.cell? ⟨R, 0, none⟩ = some (.slice A i c) ∧ W.cell? ⟨R, 1, none⟩ = some (.int .i64 i) ∧ W.cell? ⟨R, 2, none⟩ = some (.bool false)) (by kernel_rfl) ?_
    refine wpAnyT_takeC (i := 0) [15, 4, 3, 2, 1] (v := ?_) rfl (by kernel_rfl) (by kernel_rfl) (by kernel_rfl) (by kernel_rfl) (by kernel_rfl) (by kernel_rfl) (fun _ _ _ h => h) (.inl ⟨rfl, ?_⟩) HS.out ?_
    rotate_left
    · intro W__ hW__
      obtain ⟨h1, h2, h3⟩ := hW__
      go_simp
      (try with_reducible rfl)
    try simp only [Act.put]
    refine wpAnyT_takeC (i := 1) [15, 4, 3, 2] (v := ?_) rfl (by kernel_rfl) (by kernel_rfl) (by kernel_rfl) (by kernel_rfl) (by kernel_rfl) (by kernel_rfl) (fun _ _ _ h => h) (.inl ⟨rfl, ?_⟩) HS.out ?_
    rotate_left
    · intro W__ hW__
      obtain ⟨h1, h2, h3⟩ := hW__
      go_simp
      (try with_reducible rfl)
    try simp only [Act.put]
    refine wpAnyT_takeC (i := 2) [15, 4, 3] (v := ?_) rfl (by kernel_rfl) (by kernel_rfl) (by kernel_rfl) (by kernel_rfl) (by kernel_rfl) (by kernel_rfl) (fun _ _ _ h => h) (.inl ⟨rfl, ?_⟩) HS.out ?_
    rotate_left
    · intro W__ hW__
      obtain ⟨h1, h2, h3⟩ := hW__
      go_simp
      (try with_reducible rfl)
    try simp only [Act.put]
    refine wpAnyT_takeC (i := 3) [15, 4] (v := ?_) rfl (by kernel_rfl) (by kernel_rfl) (by kernel_rfl) (by kernel_rfl) (by kernel_rfl) (by kernel_rfl) (fun _ _ _ h => h) (.inl ⟨rfl, ?_⟩) HS.out ?_
    rotate_left
    · intro W__ hW__
      obtain ⟨h1, h2, h3⟩ := hW__
      go_simp
      (try with_reducible rfl)
    try simp only [Act.put]
    refine wpAnyT_takeC (i := 4) [15] (v := ?_) rfl (by kernel_rfl) (by kernel_rfl) (by kernel_rfl) (by kernel_rfl) (by kernel_rfl) (by kernel_rfl) (fun _ _ _ h => h) (.inl ⟨rfl, ?_⟩) HS.out ?_
    rotate_left
    · intro W__ hW__
      obtain ⟨h1, h2, h3⟩ := hW__
      go_simp
      (try with_reducible rfl)
    try simp only [Act.put]
    refine wpAnyT_takeC (i := 5) [15, 14, 8, 7, 6] (v := ?_) rfl (by kernel_rfl) (by kernel_rfl) (by kernel_rfl) (by kernel_rfl) (by kernel_rfl) (by kernel_rfl) (fun _ _ _ h => h) (.inl ⟨by kernel_rfl, ?_⟩) HS.out ?_
    rotate_left
    · intro W__ hW__
      obtain ⟨h1, h2, h3⟩ := hW__
      go_simp
      (try with_reducible rfl)
    try simp only [Act.put]
    refine wpAnyT_takeC (i := 9) [15, 14, 13, 12, 11, 10] (v := ?_) rfl (by kernel_rfl) (by kernel_rfl) (by kernel_rfl) (by kernel_rfl) (by kernel_rfl) (by kernel_rfl) (fun _ _ _ h => h) (.inl ⟨by kernel_rfl, ?_⟩) HS.out ?_
    rotate_left
    · intro W__ hW__
      obtain ⟨h1, h2, h3⟩ := hW__
      go_simp
      (try with_reducible rfl)
    try simp only [Act.put]
    refine wpAnyT_takeC (i := 6) [15, 14, 8, 7] (v := ?_) rfl (by kernel_rfl) (by kernel_rfl) (by kernel_rfl) (by kernel_rfl) (by kernel_rfl) (by kernel_rfl) (fun _ _ _ h => h) (.inl ⟨by kernel_rfl, ?_⟩) HS.out ?_
    rotate_left
    · intro W__ hW__
      obtain ⟨h1, h2, h3⟩ := hW__
      go_simp
      (try with_reducible rfl)
    try simp only [Act.put]
    refine wpAnyT_takeC (i := 10) [15, 14, 13, 12, 11] (v := ?_) rfl (by kernel_rfl) (by kernel_rfl) (by kernel_rfl) (by kernel_rfl) (by kernel_rfl) (by kernel_rfl) (fun _ _ _ h => h) (.inl ⟨by kernel_rfl, ?_⟩) HS.out ?_
    rotate_left
    · intro W__ hW__
      obtain ⟨h1, h2, h3⟩ := hW__
      go_simp
      (try with_reducible rfl)
    try simp only [Act.put]
    refine wpAnyT_takeC (i := 7) [15, 14, 8] (v := ?_) rfl (by kernel_rfl) (by kernel_rfl) (by kernel_rfl) (by kernel_rfl) (by kernel_rfl) (by kernel_rfl) (fun _ _ _ h => h) (.inl ⟨by kernel_rfl, ?_⟩) HS.out ?_
    rotate_left
    · intro W__ hW__
      obtain ⟨h1, h2, h3⟩ := hW__
      go_simp
      (try with_reducible rfl)
    try simp only [Act.put]
    refine wpAnyT_takeC (i := 11) [15, 14, 13, 12] (v := ?_) rfl (by kernel_rfl) (by kernel_rfl) (by kernel_rfl) (by kernel_rfl) (by kernel_rfl) (by kernel_rfl) (fun _ _ _ h => h) (.inl ⟨by kernel_rfl, ?_⟩) HS.out ?_
    rotate_left
    · intro W__ hW__
      obtain ⟨h1, h2, h3⟩ := hW__
      go_simp
      (try with_reducible rfl)
    try simp only [Act.put]
    refine wpAnyT_takeC (i := 8) [15, 14] (v := ?_) rfl (by kernel_rfl) (by kernel_rfl) (by kernel_rfl) (by kernel_rfl) (by kernel_rfl) (by kernel_rfl) (fun _ _ _ h => h) (.inl ⟨by kernel_rfl, ?_⟩) HS.out ?_
    rotate_left
    · intro W__ hW__
      obtain ⟨h1, h2, h3⟩ := hW__
      go_simp
      (try with_reducible rfl)
    try simp only [Act.put]
    refine wpAnyT_takeC (i := 12) [15, 14, 13] (v := ?_) rfl (by kernel_rfl) (by kernel_rfl) (by kernel_rfl) (by kernel_rfl) (by kernel_rfl) (by kernel_rfl) (fun _ _ _ h => h) (.inl ⟨by kernel_rfl, ?_⟩) HS.out ?_
    rotate_left
    · intro W__ hW__
      obtain ⟨h1, h2, h3⟩ := hW__
      go_simp
      (try with_reducible rfl)
    try simp only [Act.put]
    refine wpAnyT_takeC (i := 13) [15, 14] (v := ?_) rfl (by kernel_rfl) (by kernel_rfl) (by kernel_rfl) (by kernel_rfl) (by kernel_rfl) (by kernel_rfl) (fun _ _ _ h => h) (.inl ⟨by kernel_rfl, ?_⟩) HS.out ?_
    rotate_left
    · intro W__ hW__
      obtain ⟨h1, h2, h3⟩ := hW__
      go_simp
      (try with_reducible rfl)
    try simp only [Act.put]
    refine wpAnyT_takeC (i := 14) [15] (v := ?_) rfl (by kernel_rfl) (by kernel_rfl) (by kernel_rfl) (by kernel_rfl) (by kernel_rfl) (by kernel_rfl) (fun _ _ _ h => h) (.inl ⟨by kernel_rfl, ?_⟩) HS.out ?_
    rotate_left
    · intro W__ hW__
      obtain ⟨h1, h2, h3⟩ := hW__
      go_simp
      (try with_reducible rfl)
    try simp only [Act.put]
    refine wpAnyT_end (i := 15) rfl (by kernel_rfl) rfl (by kernel_rfl) fun K__ hK__ => ?_
    unfold Oper.wp
    go_simp
    refine hK__ _ _ ?_
    clear hK__
    refine wpAnyT_done (by kernel_rfl) ?_ _
    go_wp2
    go_ret
    exact ⟨rfl, (Below.refl _ _).drew⟩
  · obtain ⟨m, k, q', hx, hq, hp2⟩ := ptsZ_step hl hp
    have hlk : lookZ l = (m : Int) := by unfold lookZ; rw [hx]
    have hin : i < n := by
      have := congrArg List.length hq
      rw [List.length_drop, HL.out, List.length_cons] at this
      omega
    have hPi : P[i]? = some (m : Int) := by
      have := congrArg (fun l => l[0]?) hq
      simpa using this
    obtain ⟨b1, o1, u1, p, rfl, hb1, d1, hp1, HX⟩ := At.gt HP.out HL hin
    obtain ⟨rfl, _⟩ := hp1
    have hpm : p = (m : Int) := by
      have := HX.out
      rw [hPi] at this
      exact (Option.some.inj this).symm
    subst hpm
    rw [hlk]
    have i1 : ¬ (n : Int) ≤ (i : Int) := by omega
    have i2 : (i : Int) < (n : Int) := by omega
    have HS : Hid (w.drew.cell? ⟨R, 0, none⟩ = some (.slice (some ⟨b1, o1, none⟩) n c) ∧ w.drew.cell? ⟨R, 1, none⟩ = some (.int .i64 i) ∧ w.drew.cell? ⟨R, 2, none⟩ = some (.bool false)) := Lib.hid ⟨c0, c1, c2⟩
    have HS2 : Hid (w.drew.drew.cell? ⟨R, 0, none⟩ = some (.slice (some ⟨b1, o1, none⟩) n c) ∧ w.drew.drew.cell? ⟨R, 1, none⟩ = some (.int .i64 i) ∧ w.drew.drew.cell? ⟨b1, o1 + i, none⟩ = some (.int .i64 m)) := Lib.hid ⟨c0, c1, d1⟩
    clear h0 hb hp hp2 c0 c1 c2 hi hx hq hPi hlk hl d1
    go_enter Tryz.func148, Tryz.ntmps148
    go_wp2
    refine wp_region_T 15 (fun W => W.cell? ⟨R, 0, none⟩ = some (.slice (some ⟨b1, o1, none⟩) n c) ∧ W.cell? ⟨R, 1, none⟩ = some (.int .i64 i) ∧ W.cell? ⟨R, 2, none⟩ = some (.bool false)) (by kernel_rfl) ?_
    refine wpAnyT_takeC (i := 0) [15, 4, 3, 2, 1] (v := ?_) rfl (by kernel_rfl) (by kernel_rfl) (by kernel_rfl) (by kernel_rfl) (by kernel_rfl) (by kernel_rfl) (fun _ _ _ h => h) (.inl ⟨rfl, ?_⟩) HS.out ?_
    rotate_left
    · intro W__ hW__
      obtain ⟨h1, h2, h3⟩ := hW__
      go_simp
      (try with_reducible rfl)
    try simp only [Act.put]
    refine wpAnyT_takeC (i := 1) [15, 4, 3, 2] (v := ?_) rfl (by kernel_rfl) (by kernel_rfl) (by kernel_rfl) (by kernel_rfl) (by kernel_rfl) (by kernel_rfl) (fun _ _ _ h => h) (.inl ⟨rfl, ?_⟩) HS.out ?_
    rotate_left
    · intro W__ hW__
      obtain ⟨h1, h2, h3⟩ := hW__
      go_simp
      (try with_reducible rfl)
    try simp only [Act.put]
    refine wpAnyT_takeC (i := 2) [15, 4, 3] (v := ?_) rfl (by kernel_rfl) (by kernel_rfl) (by kernel_rfl) (by kernel_rfl) (by kernel_rfl) (by kernel_rfl) (fun _ _ _ h => h) (.inl ⟨rfl, ?_⟩) HS.out ?_
    rotate_left
    · intro W__ hW__
      obtain ⟨h1, h2, h3⟩ := hW__
      go_simp
      (try with_reducible rfl)
    try simp only [Act.put]
    refine wpAnyT_takeC (i := 3) [15, 4] (v := ?_) rfl (by kernel_rfl) (by kernel_rfl) (by kernel_rfl) (by kernel_rfl) (by kernel_rfl) (by kernel_rfl) (fun _ _ _ h => h) (.inl ⟨rfl, ?_⟩) HS.out ?_
    rotate_left
    · intro W__ hW__
      obtain ⟨h1, h2, h3⟩ := hW__
      go_simp
      (try with_reducible rfl)
    try simp only [Act.put]
    refine wpAnyT_takeC (i := 4) [15] (v := ?_) rfl (by kernel_rfl) (by kernel_rfl) (by kernel_rfl) (by kernel_rfl) (by kernel_rfl) (by kernel_rfl) (fun _ _ _ h => h) (.inl ⟨rfl, ?_⟩) HS.out ?_
    rotate_left
    · intro W__ hW__
      obtain ⟨h1, h2, h3⟩ := hW__
      go_simp
      (try with_reducible rfl)
    try simp only [Act.put]
    refine wpAnyT_takeC (i := 5) [15, 14, 8, 7, 6] (v := ?_) rfl (by kernel_rfl) (by kernel_rfl) (by kernel_rfl) (by kernel_rfl) (by kernel_rfl) (by kernel_rfl) (fun _ _ _ h => h) (.inl ⟨by kernel_rfl, ?_⟩) HS.out ?_
    rotate_left
    · intro W__ hW__
      obtain ⟨h1, h2, h3⟩ := hW__
      go_simp
      (try with_reducible rfl)
    try simp only [Act.put]
    refine wpAnyT_takeC (i := 9) [15, 14, 13, 12, 11, 10] (v := ?_) rfl (by kernel_rfl) (by kernel_rfl) (by kernel_rfl) (by kernel_rfl) (by kernel_rfl) (by kernel_rfl) (fun _ _ _ h => h) (.inl ⟨by kernel_rfl, ?_⟩) HS.out ?_
    rotate_left
    · intro W__ hW__
      obtain ⟨h1, h2, h3⟩ := hW__
      go_simp
      (try with_reducible rfl)
    try simp only [Act.put]
    refine wpAnyT_takeC (i := 6) [15, 14, 8, 7] (v := ?_) rfl (by kernel_rfl) (by kernel_rfl) (by kernel_rfl) (by kernel_rfl) (by kernel_rfl) (by kernel_rfl) (fun _ _ _ h => h) (.inl ⟨by kernel_rfl, ?_⟩) HS.out ?_
    rotate_left
    · intro W__ hW__
      obtain ⟨h1, h2, h3⟩ := hW__
      go_simp
      (try with_reducible rfl)
    try simp only [Act.put]
    refine wpAnyT_takeC (i := 10) [15, 14, 13, 12, 11] (v := ?_) rfl (by kernel_rfl) (by kernel_rfl) (by kernel_rfl) (by kernel_rfl) (by kernel_rfl) (by kernel_rfl) (fun _ _ _ h => h) (.inl ⟨by kernel_rfl, ?_⟩) HS.out ?_
    rotate_left
    · intro W__ hW__
      obtain ⟨h1, h2, h3⟩ := hW__
      go_simp
      (try with_reducible rfl)
    try simp only [Act.put]
    refine wpAnyT_takeC (i := 7) [15, 14, 8] (v := ?_) rfl (by kernel_rfl) (by kernel_rfl) (by kernel_rfl) (by kernel_rfl) (by kernel_rfl) (by kernel_rfl) (fun _ _ _ h => h) (.inl ⟨by kernel_rfl, ?_⟩) HS.out ?_
    rotate_left
    · intro W__ hW__
      obtain ⟨h1, h2, h3⟩ := hW__
      go_simp
      (try with_reducible rfl)
    try simp only [Act.put]
    refine wpAnyT_takeC (i := 11) [15, 14, 13, 12] (v := ?_) rfl (by kernel_rfl) (by kernel_rfl) (by kernel_rfl) (by kernel_rfl) (by kernel_rfl) (by kernel_rfl) (fun _ _ _ h => h) (.inl ⟨by kernel_rfl, ?_⟩) HS.out ?_
    rotate_left
    · intro W__ hW__
      obtain ⟨h1, h2, h3⟩ := hW__
      go_simp
      (try with_reducible rfl)
    try simp only [Act.put]
    refine wpAnyT_takeC (i := 8) [15, 14] (v := ?_) rfl (by kernel_rfl) (by kernel_rfl) (by kernel_rfl) (by kernel_rfl) (by kernel_rfl) (by kernel_rfl) (fun _ _ _ h => h) (.inl ⟨by kernel_rfl, ?_⟩) HS.out ?_
    rotate_left
    · intro W__ hW__
      obtain ⟨h1, h2, h3⟩ := hW__
      go_simp
      (try with_reducible rfl)
    try simp only [Act.put]
    refine wpAnyT_takeC (i := 12) [15, 14, 13] (v := ?_) rfl (by kernel_rfl) (by kernel_rfl) (by kernel_rfl) (by kernel_rfl) (by kernel_rfl) (by kernel_rfl) (fun _ _ _ h => h) (.inl ⟨by kernel_rfl, ?_⟩) HS.out ?_
    rotate_left
    · intro W__ hW__
      obtain ⟨h1, h2, h3⟩ := hW__
      go_simp
      (try with_reducible rfl)
    try simp only [Act.put]
    refine wpAnyT_takeC (i := 13) [15, 14] (v := ?_) rfl (by kernel_rfl) (by kernel_rfl) (by kernel_rfl) (by kernel_rfl) (by kernel_rfl) (by kernel_rfl) (fun _ _ _ h => h) (.inl ⟨by kernel_rfl, ?_⟩) HS.out ?_
    rotate_left
    · intro W__ hW__
      obtain ⟨h1, h2, h3⟩ := hW__
      go_simp
      (try with_reducible rfl)
    try simp only [Act.put]
    refine wpAnyT_takeC (i := 14) [15] (v := ?_) rfl (by kernel_rfl) (by kernel_rfl) (by kernel_rfl) (by kernel_rfl) (by kernel_rfl) (by kernel_rfl) (fun _ _ _ h => h) (.inl ⟨by kernel_rfl, ?_⟩) HS.out ?_
    rotate_left
    · intro W__ hW__
      obtain ⟨h1, h2, h3⟩ := hW__
      go_simp
      (try with_reducible rfl)
    try simp only [Act.put]
    refine wpAnyT_end (i := 15) rfl (by kernel_rfl) rfl (by kernel_rfl) fun K__ hK__ => ?_
    unfold Oper.wp
    go_simp
    refine hK__ _ _ ?_
    clear hK__
    refine wpAnyT_done (by kernel_rfl) ?_ _
    go_wp2
    refine wp_region_T 10 (fun W => W.cell? ⟨R, 0, none⟩ = some (.slice (some ⟨b1, o1, none⟩) n c) ∧ W.cell? ⟨R, 1, none⟩ = some (.int .i64 i) ∧ W.cell? ⟨b1, o1 + i, none⟩ = some (.int .i64 m)) (by kernel_rfl) ?_
    refine wpAnyT_takeC (i := 0) [10, 9, 8, 3, 2, 1] (v := ?_) rfl (by kernel_rfl) (by kernel_rfl) (by kernel_rfl) (by kernel_rfl) (by kernel_rfl) (by kernel_rfl) (fun _ _ _ h => h) (.inl ⟨rfl, ?_⟩) HS2.out ?_
    rotate_left
    · intro W__ hW__
      obtain ⟨h1, h2, h3⟩ := hW__
      go_simp
      (try with_reducible rfl)
    try simp only [Act.put]
    refine wpAnyT_takeC (i := 1) [10, 9, 8, 3, 2] (v := ?_) rfl (by kernel_rfl) (by kernel_rfl) (by kernel_rfl) (by kernel_rfl) (by kernel_rfl) (by kernel_rfl) (fun _ _ _ h => h) (.inl ⟨rfl, ?_⟩) HS2.out ?_
    rotate_left
    · intro W__ hW__
      obtain ⟨h1, h2, h3⟩ := hW__
      go_simp
      (try with_reducible rfl)
    try simp only [Act.put]
    refine wpAnyT_takeC (i := 2) [10, 9, 8, 3] (v := ?_) rfl (by kernel_rfl) (by kernel_rfl) (by kernel_rfl) (by kernel_rfl) (by kernel_rfl) (by kernel_rfl) (fun _ _ _ h => h) (.inl ⟨rfl, ?_⟩) HS2.out ?_
    rotate_left
    · intro W__ hW__
      obtain ⟨h1, h2, h3⟩ := hW__
      go_simp
      (try with_reducible rfl)
    try simp only [Act.put]
    refine wpAnyT_takeC (i := 3) [10, 9, 8] (v := ?_) rfl (by kernel_rfl) (by kernel_rfl) (by kernel_rfl) (by kernel_rfl) (by kernel_rfl) (by kernel_rfl) (fun _ _ _ h => h) (.inl ⟨rfl, ?_⟩) HS2.out ?_
    rotate_left
    · intro W__ hW__
      obtain ⟨h1, h2, h3⟩ := hW__
      go_simp
      (try with_reducible rfl)
    try simp only [Act.put]
    refine wpAnyT_takeC (i := 4) [10, 9, 8, 7, 6, 5] (v := ?_) rfl (by kernel_rfl) (by kernel_rfl) (by kernel_rfl) (by kernel_rfl) (by kernel_rfl) (by kernel_rfl) (fun _ _ _ h => h) (.inl ⟨rfl, ?_⟩) HS2.out ?_
    rotate_left
    · intro W__ hW__
      obtain ⟨h1, h2, h3⟩ := hW__
      go_simp
      (try with_reducible rfl)
    try simp only [Act.put]
    refine wpAnyT_takeC (i := 5) [10, 9, 8, 7, 6] (v := ?_) rfl (by kernel_rfl) (by kernel_rfl) (by kernel_rfl) (by kernel_rfl) (by kernel_rfl) (by kernel_rfl) (fun _ _ _ h => h) (.inl ⟨rfl, ?_⟩) HS2.out ?_
    rotate_left
    · intro W__ hW__
      obtain ⟨h1, h2, h3⟩ := hW__
      go_simp
      (try with_reducible rfl)
    try simp only [Act.put]
    refine wpAnyT_takeC (i := 6) [10, 9, 8, 7] (v := ?_) rfl (by kernel_rfl) (by kernel_rfl) (by kernel_rfl) (by kernel_rfl) (by kernel_rfl) (by kernel_rfl) (fun _ _ _ h => h) (.inl ⟨rfl, ?_⟩) HS2.out ?_
    rotate_left
    · intro W__ hW__
      obtain ⟨h1, h2, h3⟩ := hW__
      go_simp
      (try with_reducible rfl)
    try simp only [Act.put]
    refine wpAnyT_takeC (i := 7) [10, 9, 8] (v := ?_) rfl (by kernel_rfl) (by kernel_rfl) (by kernel_rfl) (by kernel_rfl) (by kernel_rfl) (by kernel_rfl) (fun _ _ _ h => h) (.inl ⟨rfl, ?_⟩) HS2.out ?_
    rotate_left
    · intro W__ hW__
      obtain ⟨h1, h2, h3⟩ := hW__
      go_simp
      (try with_reducible rfl)
    try simp only [Act.put]
    refine wpAnyT_takeC (i := 8) [10, 9] (v := ?_) rfl (by kernel_rfl) (by kernel_rfl) (by kernel_rfl) (by kernel_rfl) (by kernel_rfl) (by kernel_rfl) (fun _ _ _ h => h) (.inl ⟨rfl, ?_⟩) HS2.out ?_
    rotate_left
    · intro W__ hW__
      obtain ⟨h1, h2, h3⟩ := hW__
      go_simp
      (try with_reducible rfl)
    try simp only [Act.put]
    refine wpAnyT_takeC (i := 9) [10] (v := ?_) rfl (by kernel_rfl) (by kernel_rfl) (by kernel_rfl) (by kernel_rfl) (by kernel_rfl) (by kernel_rfl) (fun _ _ _ h => h) (.inl ⟨rfl, ?_⟩) HS2.out ?_
    rotate_left
    · intro W__ hW__
      obtain ⟨h1, h2, h3⟩ := hW__
      go_simp
      (try with_reducible rfl)
    try simp only [Act.put]
    refine wpAnyT_end (i := 10) rfl (by kernel_rfl) rfl (by kernel_rfl) fun K__ hK__ => ?_
    unfold Oper.wp
    go_simp
    refine hK__ _ _ ?_
    clear hK__
    refine wpAnyT_done (by kernel_rfl) ?_ _
    go_wp2
    go_ret
    exact ⟨rfl, (Below.refl _ _).drew.drew⟩
set_option maxHeartbeats 1000000 in
set_option maxRecDepth 100000 in
theorem rd7_lookX (R : Nat) (E : PEnv) (w : World) (h : RdX w R E) :
    Calls Tryz.prog 148 #[.pointer (some ⟨R, 0, none⟩)] w fun e w' => e = .returned (.int .i64 (-1)) ∧ Below w.heap.size w w' := by
  obtain ⟨h0, i, wd, hb, hi⟩ := h
  have c2 := hb.cell 2
  have HT : Hid (w.drew.cell? ⟨R, 2, none⟩ = some (.bool true) ∧ True) := Lib.hid ⟨c2, trivial⟩
  clear h0 hb hi c2
  go_enter Tryz.func148, Tryz.ntmps148
  go_wp2
  refine wp_region_T 15 (fun W => W.cell? ⟨R, 2, none⟩ = some (.bool true) ∧ True) (by kernel_rfl) ?_
  refine wpAnyT_takeC (i := 0) [15, 4, 3, 2, 1] (v := ?_) rfl (by kernel_rfl) (by kernel_rfl) (by kernel_rfl) (by kernel_rfl) (by kernel_rfl) (by kernel_rfl) (fun _ _ _ h => h) (.inl ⟨rfl, ?_⟩) HT.out ?_
  rotate_left
  · intro W__ hW__
    obtain ⟨h1, h2⟩ := hW__
    go_simp
    (try with_reducible rfl)
  try simp only [Act.put]
  refine wpAnyT_takeC (i := 1) [15, 4, 3, 2] (v := ?_) rfl (by kernel_rfl) (by kernel_rfl) (by kernel_rfl) (by kernel_rfl) (by kernel_rfl) (by kernel_rfl) (fun _ _ _ h => h) (.inl ⟨rfl, ?_⟩) HT.out ?_
  rotate_left
  · intro W__ hW__
    obtain ⟨h1, h2⟩ := hW__
    go_simp
    (try with_reducible rfl)
  try simp only [Act.put]
  refine wpAnyT_takeC (i := 2) [15, 4, 3] (v := ?_) rfl (by kernel_rfl) (by kernel_rfl) (by kernel_rfl) (by kernel_rfl) (by kernel_rfl) (by kernel_rfl) (fun _ _ _ h => h) (.inl ⟨rfl, ?_⟩) HT.out ?_
  rotate_left
  · intro W__ hW__
    obtain ⟨h1, h2⟩ := hW__
    go_simp
    (try with_reducible rfl)
  try simp only [Act.put]
  refine wpAnyT_takeC (i := 3) [15, 4] (v := ?_) rfl (by kernel_rfl) (by kernel_rfl) (by kernel_rfl) (by kernel_rfl) (by kernel_rfl) (by kernel_rfl) (fun _ _ _ h => h) (.inl ⟨rfl, ?_⟩) HT.out ?_
  rotate_left
  · intro W__ hW__
    obtain ⟨h1, h2⟩ := hW__
    go_simp
    (try with_reducible rfl)
  try simp only [Act.put]
  refine wpAnyT_takeC (i := 4) [15] (v := ?_) rfl (by kernel_rfl) (by kernel_rfl) (by kernel_rfl) (by kernel_rfl) (by kernel_rfl) (by kernel_rfl) (fun _ _ _ h => h) (.inl ⟨rfl, ?_⟩) HT.out ?_
  rotate_left
  · intro W__ hW__
    obtain ⟨h1, h2⟩ := hW__
    go_simp
    (try with_reducible rfl)
  try simp only [Act.put]
  refine wpAnyT_takeW (i := 5) (v := undef) rfl (by decide) (by kernel_rfl) (by kernel_rfl) (by kernel_rfl) (fun _ _ _ h => h) (.inr ⟨by kernel_rfl, rfl⟩) (fun _ => HT.out) ?_
  try simp only [Act.put]
  refine wpAnyT_takeW (i := 6) (v := undef) rfl (by decide) (by kernel_rfl) (by kernel_rfl) (by kernel_rfl) (fun _ _ _ h => h) (.inr ⟨by kernel_rfl, rfl⟩) (fun _ => HT.out) ?_
  try simp only [Act.put]
  refine wpAnyT_takeW (i := 7) (v := undef) rfl (by decide) (by kernel_rfl) (by kernel_rfl) (by kernel_rfl) (fun _ _ _ h => h) (.inr ⟨by kernel_rfl, rfl⟩) (fun _ => HT.out) ?_
  try simp only [Act.put]
  refine wpAnyT_takeW (i := 8) (v := undef) rfl (by decide) (by kernel_rfl) (by kernel_rfl) (by kernel_rfl) (fun _ _ _ h => h) (.inr ⟨by kernel_rfl, rfl⟩) (fun _ => HT.out) ?_
  try simp only [Act.put]
  refine wpAnyT_takeW (i := 9) (v := undef) rfl (by decide) (by kernel_rfl) (by kernel_rfl) (by kernel_rfl) (fun _ _ _ h => h) (.inr ⟨by kernel_rfl, rfl⟩) (fun _ => HT.out) ?_
  try simp only [Act.put]
  refine wpAnyT_takeW (i := 10) (v := undef) rfl (by decide) (by kernel_rfl) (by kernel_rfl) (by kernel_rfl) (fun _ _ _ h => h) (.inr ⟨by kernel_rfl, rfl⟩) (fun _ => HT.out) ?_
  try simp only [Act.put]
  refine wpAnyT_takeW (i := 11) (v := undef) rfl (by decide) (by kernel_rfl) (by kernel_rfl) (by kernel_rfl) (fun _ _ _ h => h) (.inr ⟨by kernel_rfl, rfl⟩) (fun _ => HT.out) ?_
  try simp only [Act.put]
  refine wpAnyT_takeW (i := 12) (v := undef) rfl (by decide) (by kernel_rfl) (by kernel_rfl) (by kernel_rfl) (fun _ _ _ h => h) (.inr ⟨by kernel_rfl, rfl⟩) (fun _ => HT.out) ?_
  try simp only [Act.put]
  refine wpAnyT_takeW (i := 13) (v := undef) rfl (by decide) (by kernel_rfl) (by kernel_rfl) (by kernel_rfl) (fun _ _ _ h => h) (.inr ⟨by kernel_rfl, rfl⟩) (fun _ => HT.out) ?_
  try simp only [Act.put]
  refine wpAnyT_takeW (i := 14) (v := undef) rfl (by decide) (by kernel_rfl) (by kernel_rfl) (by kernel_rfl) (fun _ _ _ h => h) (.inr ⟨by kernel_rfl, rfl⟩) (fun _ => HT.out) ?_
  try simp only [Act.put]
  refine wpAnyT_end (i := 15) rfl (by kernel_rfl) rfl (by kernel_rfl) fun K__ hK__ => ?_
  unfold Oper.wp
  go_simp
  refine hK__ _ _ ?_
  clear hK__
  refine wpAnyT_done (by kernel_rfl) ?_ _
  go_wp2
  go_ret
  exact ⟨rfl, (Below.refl _ _).drew⟩
end Go.Proofs.YtilhicefhhgecaaGreatDoor

namespace Pv
open Go Go.RowKit
theorem next_small {l : Bs} {m k : Nat} (h : nextP l = some (m, k)) (hm : m < 128) : k = 1 ∧ ∃ r, l = UInt8.ofNat m :: r := by
  unfold nextP at h
  have key : ∀ s, goodP l s = true → some (numP l s, s) = some (m, k) → k = 1 ∧ ∃ r, l = UInt8.ofNat m :: r := fun s hg h => by
    obtain ⟨rfl, rfl⟩ := Prod.mk.inj (Option.some.inj h)
    rw [good_iff] at hg
    have h3 := hg.2.2
    rw [bytesP_1 hm, firstN] at h3
    have h4 := congrArg List.length h3
    rw [List.length_map, List.length_take] at h4
    simp at h4
    have hs : s = 1 := by have := hg.1; omega
    cases l with
    | nil => simp at h4
    | cons b r =>
      rw [hs] at h3 hm ⊢
      simp only [List.take_succ_cons, List.take_zero, List.map_cons, List.map_nil, List.cons.injEq, and_true] at h3
      exact ⟨rfl, r, by rw [h3]; simp⟩
  repeat' split at h
  all_goals first | exact key _ ‹_› h | cases h
theorem look_is {l r : Bs} {c : UInt8} (hc : c.toNat < 128) (h : isB c l = some r) : lookZ l = (c.toNat : Int) ∧ nextP l = some (c.toNat, 1) ∧ r = l.drop 1 := by
  obtain rfl := isB_some h
  have h1 := nextP_asc (b := c) (r := r) hc
  exact ⟨by unfold lookZ; rw [h1], h1, rfl⟩
theorem look_isn {l : Bs} {c : UInt8} (hc : c.toNat < 128) (h : isB c l = none) : lookZ l ≠ (c.toNat : Int) := by
  unfold lookZ
  cases hx : nextP l with
  | none => simp only; omega
  | some p =>
    obtain ⟨m, k⟩ := p
    simp only
    intro e
    have hm : m = c.toNat := by omega
    obtain ⟨_, r, hr⟩ := next_small hx (by omega)
    rw [hm] at hr
    have : isB c l = some r := by
      rw [hr]
      unfold isB
      simp
    rw [this] at h
    cases h
theorem look_b {l : Bs} {c : UInt8} (hc : c.toNat < 128) : (lookZ l == (c.toNat : Int)) = (isB c l).isSome := by
  cases h : isB c l with
  | none => simpa using look_isn hc h
  | some r => simpa using (look_is hc h).1
end Pv
namespace Go.Proofs.YtilhicefhhgecaaGreatDoor
open Go.RowKit Pv
theorem RdD.cells {w : World} {R : Nat} {E : PEnv} {l : Bs} {wd : Bool} (h : RdD w R E l wd) : ∃ i : Nat, Hid (RdD w R E l wd) ∧ R < w.heap.size ∧ i ≤ 20000 ∧ w.cell? ⟨R, 1, none⟩ = some (.int .i64 i) ∧ w.frozen? ⟨R, 1, none⟩ = false ∧ w.cell? ⟨R, 2, none⟩ = some (.bool false) ∧ w.frozen? ⟨R, 2, none⟩ = false ∧
    Hid (∀ m k, nextP l = some (m, k) → RdD (w.setCell ⟨R, 1, none⟩ (.int .i64 ((i : Int) + 1))) R E (l.drop k) wd) ∧
    Hid (RdX (w.setCell ⟨R, 2, none⟩ (.bool true)) R E) ∧ Hid (RdX ((w.setCell ⟨R, 1, none⟩ (.int .i64 ((i : Int) + 1))).setCell ⟨R, 2, none⟩ (.bool true)) R E) := by
  have h' := h
  obtain ⟨h0, i, hb, hi, hp⟩ := h
  have hf := h0.few
  refine ⟨i, Lib.hid h', hb.lt, by omega, hb.cell 1, hb.frozen 1, hb.cell 2, hb.frozen 2, Lib.hid fun m k hx => ?_, Lib.hid ⟨h'.set 2 _, i, wd, hb.set 2 _, by omega⟩, Lib.hid ⟨⟨ownsRow_setFar (h'.set 1 _).own (hb.set 1 _) (by decide) 2 _, hf, h0.bd⟩, i + 1, wd, (hb.set 1 _).set 2 _, by omega⟩⟩
  have hl : l ≠ [] := fun e => by rw [e, nextP_nil] at hx; cases hx
  obtain ⟨m', k', q', hx', hq, hp2⟩ := ptsZ_step hl hp
  rw [hx] at hx'
  obtain ⟨rfl, rfl⟩ := Prod.mk.inj (Option.some.inj hx')
  have hlen := congrArg List.length hq
  rw [List.length_drop, h0.len, List.length_cons] at hlen
  refine ⟨h'.set 1 _, i + 1, hb.set 1 _, by omega, ?_⟩
  rw [hp2]
  congr 1
  have := congrArg List.tail hq
  rw [List.tail_drop, List.tail_cons] at this
  exact this.symm
theorem RdX.cells {w : World} {R : Nat} {E : PEnv} (h : RdX w R E) : ∃ (_i : Nat) (wd : Bool), Hid (RdX w R E) ∧ R < w.heap.size ∧ w.cell? ⟨R, 2, none⟩ = some (.bool true) ∧ w.frozen? ⟨R, 2, none⟩ = false ∧ w.cell? ⟨R, 3, none⟩ = some (.bool wd) ∧ w.frozen? ⟨R, 3, none⟩ = false ∧ Hid (RdX (w.setCell ⟨R, 2, none⟩ (.bool true)) R E) ∧ Hid (∀ b, RdX (w.setCell ⟨R, 3, none⟩ (.bool b)) R E) := by
  have h' := h
  obtain ⟨h0, i, wd, hb, hi⟩ := h
  exact ⟨i, wd, Lib.hid h', hb.lt, hb.cell 2, hb.frozen 2, hb.cell 3, hb.frozen 3, Lib.hid ⟨⟨ownsRow_setFar h0.own hb (by decide) 2 _, h0.few, h0.bd⟩, i, wd, hb.set 2 _, hi⟩, Lib.hid fun b => ⟨⟨ownsRow_setFar h0.own hb (by decide) 3 _, h0.few, h0.bd⟩, i, b, hb.set 3 _, hi⟩⟩
set_option maxHeartbeats 1000000 in
set_option maxRecDepth 100000 in
theorem rd7_is (R : Nat) (E : PEnv) (l : Bs) (wd : Bool) (c : UInt8) (w : World) (hc : c.toNat < 128) (h : RdD w R E l wd) :
    Calls Tryz.prog 105 #[.pointer (some ⟨R, 0, none⟩), .int .i64 (c.toNat : Int)] w fun e w' => e = .returned (.bool (isB c l).isSome) ∧ RdD w' R E ((isB c l).getD l) wd ∧ Only R w w' := by
  have HLK := Lib.hid (rd7_look R E l wd w h)
  have HD := Lib.hid h
  cases hr : isB c l with
  | none =>
    have h1 : (lookZ l == (c.toNat : Int)) = false := by simpa using look_isn hc hr
    generalize lookZ l = z at *
    generalize (c.toNat : Int) = y at *
    clear h hr hc
    go_enter Tryz.func105, Tryz.ntmps105
    go_wp2_with fail
    refine HLK.out.mono ?_
    rintro e w1 ⟨rfl, hb⟩
    have HB := Lib.hid hb
    clear hb
    go_wp2
    go_ret
    exact ⟨rfl, HD.out.below HB.out, Only.of HB.out⟩
  | some r =>
    obtain ⟨h1, h2, rfl⟩ := look_is hc hr
    have hz : (lookZ l == (c.toNat : Int)) = true := by simpa using h1
    have HX := Lib.hid h2
    rw [h1] at HLK
    generalize (c.toNat : Int) = y at *
    clear h hr hc h1 h2 hz
    go_enter Tryz.func105, Tryz.ntmps105
    go_wp2_with fail
    refine HLK.out.mono ?_
    rintro e w1 ⟨rfl, hb⟩
    have HB := Lib.hid hb
    obtain ⟨i, H1, hR, hi, c1, f1, _, _, HN, _, _⟩ := (HD.out.below hb).cells
    have e1 : (y == y) = true := by simp
    clear hb
    go_wp2
    go_ret
    exact ⟨rfl, HN.out _ _ HX.out, (Only.of HB.out).set 1 _⟩
set_option maxHeartbeats 1000000 in
set_option maxRecDepth 100000 in
theorem rd7_isX (R : Nat) (E : PEnv) (y : Int) (w : World) (hy : 0 ≤ y) (h : RdX w R E) :
    Calls Tryz.prog 105 #[.pointer (some ⟨R, 0, none⟩), .int .i64 y] w fun e w' => e = .returned (.bool false) ∧ RdX w' R E ∧ Below w.heap.size w w' := by
  have HLK := Lib.hid (rd7_lookX R E w h)
  have HD := Lib.hid h
  have e1 : ((-1 : Int) == y) = false := by simp; omega
  have e2 : ¬ ((-1 : Int) = y) := by omega
  clear h
  go_enter Tryz.func105, Tryz.ntmps105
  go_wp2_with fail
  refine HLK.out.mono ?_
  rintro e w1 ⟨rfl, hb⟩
  have HB := Lib.hid hb
  clear hb
  go_wp2
  go_ret
  exact ⟨rfl, HD.out.below HB.out, HB.out⟩
set_option maxHeartbeats 1000000 in
set_option maxRecDepth 100000 in
theorem ref07_span (a b : Int) (w : World) :
    Calls Tryz.prog 185 #[.int .i64 a, .int .i64 b] w fun e w' => e = .returned (.slice (some ⟨w.heap.size, 0, none⟩) 1 1) ∧ w' = w.alloc (.cells #[.int .i64 a, .int .i64 b] TRg) := by
  go_enter Tryz.func185, Tryz.ntmps185
  go_wp2
  go_ret
  exact ⟨rfl, rfl⟩
/-- One range in new memory. -/
theorem span_own {w : World} {a b : Int} (ha : -9223372036854775808 ≤ a ∧ a ≤ 9223372036854775807) (hb : -9223372036854775808 ≤ b ∧ b ≤ 9223372036854775807) : OwnSet (w.alloc (.cells #[.int .i64 a, .int .i64 b] TRg)) w.heap.size (.slice (some ⟨w.heap.size, 0, none⟩) 1 1) [⟨a, b⟩] :=
  ⟨some ⟨w.heap.size, 0, none⟩, 1, [.int .i64 a, .int .i64 b], rfl, ⟨rfl, .inr ⟨w.heap.size, 1, #[.int .i64 a, .int .i64 b], rfl, Nat.le_refl _, by show (w.heap.push _)[w.heap.size]? = _; simp, Nat.le_refl _, by simp only [maxLen]; omega, by simp, by simp⟩⟩, rel_rng ha hb⟩
end Go.Proofs.YtilhicefhhgecaaGreatDoor
