/- Walks: the automaton that goes one way, row by row, by the document. PUT1 -/
import Derived.Test.YtilhicefhhgecaaGreatDoorFgn
import Derived.Test.YtilhicefhhgecaaGreatDoorLsn
import Derived.Deep.RegionHeld3
import Derived.Deep.RegionLaw
import Derived.Test.YtilhicefhhgecaaGreatDoorTbn
import Derived.Test.YtilhicefhhgecaaGreatDoorDfan
import Derived.Test.YtilhicefhhgecaaGreatDoorWhn
import Derived.Test.YtilhicefhhgecaaGreatDoorQvn
import Derived.Test.YtilhicefhhgecaaGreatDoorGen
import Derived.Test.YtilhicefhhgecaaGreatDoorZcn
namespace Go.Proofs.YtilhicefhhgecaaGreatDoor
open Go.RowKit Pv

abbrev TDfa : TypeId := 26
abbrev zDfa : Value := .agg #[.slice none 0 0, .slice none 0 0, .slice none 0 0]
theorem info_ints9 : (Tryz.prog.info? 22).map (fun i => (i.zero, i.size, i.bytes)) = some (some (.slice none 0 0), 1, 24) := by kernel_rfl
/-- a list of lists, behind an append onto another such list -/
theorem Ls.beside {w w' : World} {base b n : Nat} {x : Option Nat} {v rv : Value} {ll : List (List Int)} {us' : List Value} (h : Ls w base x v ll) (hr : w.ownsRow b TLL 1 rv n us') (hne : v.ownBlock = none ∨ v.ownBlock ≠ rv.ownBlock) (hg : w.grownBy w' rv.ownBlock) : Ls w' base x v ll := by
  obtain ⟨A, c, us, rfl, h1, h2⟩ := h
  refine ⟨A, c, us, rfl, h1.kept hg hne, h2.mono fun u l h => ⟨?_, h.2⟩⟩
  obtain ⟨B, d, rfl, h3⟩ := h.1
  exact OwnI.grown ⟨B, d, rfl, h3⟩ hg (own_ne h3 hr (by decide))
theorem Own.grownB {w w' : World} {base b n : Nat} {e : TypeId} {v rv : Value} {xs : List Bool} {us' : List Value} (h : Own w base 4 RB v xs) (hr : w.ownsRow b e 1 rv n us') (hne : 4 ≠ e) (hg : w.grownBy w' rv.ownBlock) : Own w' base 4 RB v xs := by
  obtain ⟨A, c, us, rfl, o, r⟩ := h
  exact ⟨A, c, us, rfl, o.kept hg (own_ne o hr hne), r⟩
section
variable {w wr w' : World} {D n c nc cc : Nat} {A C : Option Addr} {acc : Int} {x : Option Nat} {av v2 v3 : Value} {all rows : List (List Int)} {accs : List Bool}
end
/-- What is left to do. -/
noncomputable def restM (a : Au) (acc : Int) (cuts : List Int) (f : Nat) (l : List Int) (cs row : List Int) (all rows : List (List Int)) (accs : List Bool) : Option (List (List Int) × List Bool) :=
  match rowM a l cs row all with | none => none | some (row, all') => mkM a acc cuts f all' (rows ++ [row]) (accs ++ [decide (acc ∈ l)])
theorem restM_begin {a : Au} {acc : Int} {cuts : List Int} {f : Nat} {l : List Int} {all rows : List (List Int)} {accs : List Bool} (h : all[rows.length]? = some l) : mkM a acc cuts (f + 1) all rows accs = restM a acc cuts f l cuts [] all rows accs := mkM_row h
theorem restM_end {a : Au} {acc : Int} {cuts : List Int} {f : Nat} {l row : List Int} {all rows : List (List Int)} {accs : List Bool} : restM a acc cuts f l [] row all rows accs = mkM a acc cuts f all (rows ++ [row]) (accs ++ [decide (acc ∈ l)]) := rfl
theorem restM_many {a : Au} {acc : Int} {cuts : List Int} {f : Nat} {l cs row : List Int} {p : Int} {all rows : List (List Int)} {accs : List Bool} (h : 64 < (addS all (stepS a l p)).length) : restM a acc cuts f l (p :: cs) row all rows accs = none := by
  unfold restM; rw [rowM_many h]
theorem restM_next {a : Au} {acc : Int} {cuts : List Int} {f : Nat} {l cs row : List Int} {p : Int} {all rows : List (List Int)} {accs : List Bool} (h : (addS all (stepS a l p)).length ≤ 64) : restM a acc cuts f l (p :: cs) row all rows accs = restM a acc cuts f l cs (row ++ [(numS all (stepS a l p) : Int)]) (addS all (stepS a l p)) rows accs := by
  unfold restM; rw [rowM_next h]
theorem MetS.bd {a : Au} {all : List (List Int)} (h : MetS a all) (hn : a.length ≤ 100000) : ∀ l, l ∈ all → (∀ y, y ∈ l → -9223372036854775808 ≤ y ∧ y ≤ 9223372036854775807) ∧ l.length ≤ 140737488355328 := fun l hl => by
  obtain ⟨S, rfl⟩ := h l hl
  exact ⟨stL_bd hn, by have := stL_len a.length S; omega⟩
theorem MetS.in {a : Au} {all : List (List Int)} (h : MetS a all) {l : List Int} (hl : l ∈ all) : InAu a.length l := by
  obtain ⟨S, rfl⟩ := h l hl; exact stL_in

end Go.Proofs.YtilhicefhhgecaaGreatDoor

namespace Pv
open Go Go.RowKit
/-- How building ends without an automaton: 8, 4, 90. -/
inductive EndD (a : Au) (acc : Int) : Int → Prop where
  | bad (h : ¬ AuOk a acc) : EndD a acc 8
  | many (h : AuOk a acc) (m : 256 < (allSets a).length ∨ 256 < (plcL (allSets a)).length) : EndD a acc 4
  | states (h : AuOk a acc) (m : (allSets a).length ≤ 256) (k : (plcL (allSets a)).length ≤ 256) (g : madeM a acc (plcL (allSets a)) = none) : EndD a acc 90
structure FitD (a : Au) (acc : Int) : Prop where
  ok : AuOk a acc
  s : (allSets a).length ≤ 256
  p : (plcL (allSets a)).length ≤ 256
theorem EndD.one {a : Au} {acc x y : Int} (h : EndD a acc x) (k : EndD a acc y) : x = y := by
  cases h <;> cases k <;> first | rfl | (exfalso; first | contradiction | omega)
theorem EndD.not {a : Au} {acc x : Int} {r : List (List Int) × List Bool} (h : EndD a acc x) (k : FitD a acc) (g : madeM a acc (plcL (allSets a)) = some r) : False := by
  obtain ⟨k1, k2, k3⟩ := k
  cases h with
  | bad h => exact h k1
  | many _ m => omega
  | states _ _ _ g' => rw [g'] at g; cases g
end Pv
namespace Go.Proofs.YtilhicefhhgecaaGreatDoor
open Go.RowKit Pv

/-- How it ends. -/
def BuiltD (a : Au) (acc : Int) (w : World) (e : Ending) (w' : World) : Prop :=
  ((∃ code, EndD a acc code ∧ e = .returned (.tuple #[zDfa, .int .i64 code])) ∨
    ∃ rows accs v1 v2 v3, FitD a acc ∧ madeM a acc (plcL (allSets a)) = some (rows, accs) ∧ e = .returned (.tuple #[.agg #[v1, v2, v3], .int .i64 0]) ∧ OwnI w' w.heap.size v1 (plcL (allSets a)) ∧ Ls w' w.heap.size none v2 rows ∧ Own w' w.heap.size 4 RB v3 accs) ∧ Below w.heap.size w w'
theorem Own.lower {α : Type} {w : World} {base b : Nat} {e : TypeId} {R : Value → α → Prop} {v : Value} {xs : List α} (h : Own w base e R v xs) (hb : b ≤ base) : Own w b e R v xs := by
  obtain ⟨A, c, us, rfl, ⟨h0, h⟩, k⟩ := h
  refine ⟨A, c, us, rfl, ⟨h0, ?_⟩, k⟩
  rcases h with h2 | ⟨g, cap, cur, hv, hg, r⟩
  · exact .inl h2
  · exact .inr ⟨g, cap, cur, hv, Nat.le_trans hb hg, r⟩
theorem OwnI.far {w : World} {b g i : Nat} {v u : Value} {l : List Int} {t : TypeId} {cs : Array Value} (h : OwnI w b v l) (hb : Blk w g t cs) (hne : TLI ≠ t) : OwnI (w.setCell ⟨g, i, none⟩ u) b v l := by
  obtain ⟨A, c, rfl, h1⟩ := h
  exact ⟨A, c, rfl, ownsRow_setFar h1 hb hne _ _⟩
/-- Cuts, rows and what accepts, all of the call's own. -/
structure Res (w : World) (b : Nat) (v1 v2 v3 : Value) (cuts : List Int) (rows : List (List Int)) (accs : List Bool) : Prop where
  c : OwnI w b v1 cuts
  r : Ls w b none v2 rows
  t : Own w b 4 RB v3 accs
section
variable {w w' : World} {b g : Nat} {v1 v2 v3 : Value} {cuts : List Int} {rows : List (List Int)} {accs : List Bool} {cs : Array Value}
theorem Res.far {i : Nat} {u : Value} (h : Res w b v1 v2 v3 cuts rows accs) (hb : Blk w g TDfa cs) : Res (w.setCell ⟨g, i, none⟩ u) b v1 v2 v3 cuts rows accs := ⟨OwnI.far h.c hb (by decide), h.r.far hb (by decide) (by decide), h.t.setFar hb (by decide) _ _⟩
theorem Res.far3 {u0 u1 u2 : Value} (h : Res w b v1 v2 v3 cuts rows accs) (hb : Blk w g TDfa cs) : Res (((w.setCell ⟨g, 0, none⟩ u0).setCell ⟨g, 1, none⟩ u1).setCell ⟨g, 2, none⟩ u2) b v1 v2 v3 cuts rows accs :=
  ((h.far hb).far (hb.set 0 u0)).far ((hb.set 0 u0).set 1 u1)
theorem below3 {B : Nat} {u0 u1 u2 : Value} (h : Below B w w') (hg : B ≤ g) : Below B w (((w'.setCell ⟨g, 0, none⟩ u0).setCell ⟨g, 1, none⟩ u1).setCell ⟨g, 2, none⟩ u2) :=
  ((h.setCell (p := ⟨g, 0, none⟩) hg _).setCell (p := ⟨g, 1, none⟩) hg _).setCell (p := ⟨g, 2, none⟩) hg _
theorem Blk.set3 {a0 a1 a2 u0 u1 u2 : Value} {t : TypeId} (h : Blk w g t #[a0, a1, a2]) : Blk (((w.setCell ⟨g, 0, none⟩ u0).setCell ⟨g, 1, none⟩ u1).setCell ⟨g, 2, none⟩ u2) g t #[u0, u1, u2] := ((h.set 0 u0).set 1 u1).set 2 u2
end
end Go.Proofs.YtilhicefhhgecaaGreatDoor

namespace Pv
open Go Go.RowKit
section
variable {d : Dfa} {U0 U : Nat → Nat → Prop} {gb : Bool} {D D' : Nat → Nat → Nat → Prop}
end
/-- A Dfa that may be, in memory: its rows, where it goes, what accepts. -/
theorem DfaAt.rows {w : World} {A1 A2 A3 : Option Addr} {n1 n2 n3 : Nat} {d : Dfa} (h : DfaAt w A1 A2 A3 n1 n2 n3 d) (hok : d.Ok) : ∃ b2 o2 b3 o3, A2 = some ⟨b2, o2, none⟩ ∧ A3 = some ⟨b3, o3, none⟩ ∧ b2 < w.heap.size ∧ b3 < w.heap.size ∧ n3 = n2 ∧
    (∀ s, s < n2 → ∃ rb ro rc, rb < w.heap.size ∧ w.cell? ⟨b2, o2 + s, none⟩ = some (.slice (some ⟨rb, ro, none⟩) n1 rc) ∧ ∀ c, c < n1 → w.cell? ⟨rb, ro + c, none⟩ = some (.int .i64 (d.go s c)) ∧ d.go s c < n2) ∧
    ∀ s, s < n2 → w.cell? ⟨b3, o3 + s, none⟩ = some (.bool (d.acc s)) := by
  have hn := h.hn.out; have hc := h.hc.out; have ha := h.ha.out
  have h1 := hok.n1; have hc1 := hok.c1; have hal := hok.a
  obtain ⟨b2, o2, e2, hb2, hr⟩ := h.n.2 (by omega)
  obtain ⟨b3, o3, e3, hb3, hq⟩ := h.a.2 (by omega)
  refine ⟨b2, o2, b3, o3, e2, e3, hb2, hb3, by omega, fun s hs => ?_, fun s hs => ?_⟩
  · have hs2 : s < d.next.length := by omega
    obtain ⟨r, hr1, hr2, _, _⟩ := hok.cell hs2 (show 0 < d.cuts.length by omega)
    obtain ⟨u, hu, A, c, rfl, hat, _⟩ := hr s r hr1
    obtain ⟨rb, ro, e4, hrb, hcell⟩ := hat.2 (by omega)
    subst e4
    refine ⟨rb, ro, c, hrb, by rw [hu, hr2, hc], fun c hcn => ?_⟩
    obtain ⟨r', hr1', _, h3, h4⟩ := hok.cell hs2 (show c < d.cuts.length by omega)
    obtain rfl := Option.some.inj (hr1.symm.trans hr1')
    obtain ⟨u, hu, rfl, _⟩ := hcell c _ h3
    exact ⟨hu, by omega⟩
  · obtain ⟨u, hu, hb⟩ := hq s _ (hok.accAt (show s < d.next.length by omega))
    rw [hu, hb]
end Pv
namespace Go.Proofs.YtilhicefhhgecaaGreatDoor
open Go.RowKit Pv

section
variable {w w' : World} {g n i : Nat} {R R' : Nat → Nat → Prop}
end
end Go.Proofs.YtilhicefhhgecaaGreatDoor

namespace Pv
open Go Go.RowKit
/-- States as numbers. -/
abbrev numI (l : List Nat) : List Int := l.map fun s : Nat => (s : Int)
end Pv
namespace Go.Proofs.YtilhicefhhgecaaGreatDoor
open Go.RowKit Pv

end Go.Proofs.YtilhicefhhgecaaGreatDoor
