/- From an argument's reading as data to an automaton in memory. -/
import Derived.Test.YtcmmmgblkbbdnaaGreatDoorBth
import Derived.Test.YtcmmmgblkbbdnaaGreatDoorZnh
namespace Pv
open Go Go.RowKit Go.Deep Go.ChangeShapes Go.WideShapes Go.Joins
theorem AtK.imp {α : Type} {w : World} {A : Option Addr} {k : Nat} {R : (Nat → Value) → α → Prop} {p : α → Prop} {xs : List α} (h : AtK w k A R xs) (hr : ∀ f x, R f x → p x) : ∀ x, x ∈ xs → p x := fun x hx => by
  obtain ⟨i, hi⟩ := List.getElem?_of_mem hx
  have hl := lt_of_get hi
  obtain ⟨b, off, f, _, _, _, hR⟩ := h.get hl
  rw [List.getElem?_eq_getElem hl] at hi
  injection hi with hi
  rw [← hi]
  exact hr _ _ hR
theorem At.imp {α : Type} {w : World} {A : Option Addr} {R : Value → α → Prop} {p : α → Prop} {xs : List α} (h : At w A R xs) (hr : ∀ f x, R f x → p x) : ∀ x, x ∈ xs → p x := fun x hx => by
  obtain ⟨i, hi⟩ := List.getElem?_of_mem hx
  have hl := lt_of_get hi
  obtain ⟨b, off, u, _, _, _, hR⟩ := h.get hl
  rw [List.getElem?_eq_getElem hl] at hi
  injection hi with hi
  rw [← hi]
  exact hr _ _ hR
section
variable {H : Type} {enc : TypeId × Value → H} {P : Program} {w : World} {base : Nat} {spare : Nat → Bool} {held : Bool}
/-- How long a list is that was read. -/
theorem slice_len {t e : TypeId} {fuel : Nat} {v : Value} {x : DataW H × List MemPlace} (ht : P.underlying t = some (.slice e)) (h : DataW.trod enc P w base spare held fuel t [v] = some x) (hw : Lite P t x.1) :
    ∃ A n c, v = .slice A n c ∧ n * P.bytesOf e ≤ 140737488355328 := by
  rcases open_slice ht h with ⟨hcs, _⟩ | ⟨a, len, cap, m, n, D, Pl, hcs, _, hl, hm, hmm, rfl, hi⟩
  · injection hcs with hcs
    exact ⟨none, 0, 0, hcs, by simp⟩
  · injection hcs with hcs
    refine ⟨some a, len, cap, hcs, ?_⟩
    have h1 := hw ((((List.range len).map D).length + ((List.range (m - len)).map fun j => D (len + j)).length) * P.bytesOf e) (by simp [DataW.weights, ht])
    simp only [List.length_map, List.length_range, reachBytes] at h1
    have h2 : len * P.bytesOf e ≤ (len + (m - len)) * P.bytesOf e := Nat.mul_le_mul (by omega) (Nat.le_refl _)
    omega
end
end Pv
namespace Go.Proofs.YtcmmmgblkbbdnaaGreatDoor
open Go.RowKit Go.Deep Go.ChangeShapes Go.WideShapes Go.Joins Pv

def SetLen (x : Ed) : Prop := x.set.length * 16 ≤ 140737488355328
def RowLen (es : List Ed) : Prop := es.length * 40 ≤ 140737488355328 ∧ ∀ x, x ∈ es → SetLen x
theorem cI9 : Tryz.prog.cellsOf 3 = 1 := by kernel_rfl
theorem cB9 : Tryz.prog.cellsOf 4 = 1 := by kernel_rfl
theorem cS9 : Tryz.prog.cellsOf 35 = 1 := by kernel_rfl
theorem cR9 : Tryz.prog.cellsOf 93 = 2 := by kernel_rfl
theorem cE9 : Tryz.prog.cellsOf 42 = 3 := by kernel_rfl
theorem cW9 : Tryz.prog.cellsOf 43 = 1 := by kernel_rfl
theorem cA9 : Tryz.prog.cellsOf 46 = 2 := by kernel_rfl
theorem bR9 : Tryz.prog.bytesOf 93 = 16 := by kernel_rfl
theorem bE9 : Tryz.prog.bytesOf 42 = 40 := by kernel_rfl
theorem bW9 : Tryz.prog.bytesOf 43 = 24 := by kernel_rfl
section
variable {H : Type} {enc : TypeId × Value → H} {w : World} {base : Nat} {spare : Nat → Bool} {held : Bool}
set_option maxRecDepth 100000 in
theorem read_edge {fuel : Nat} {cs : List Value} {y : DataW H × List MemPlace} (hl : cs.length = 3) (h : DataW.trod enc Tryz.prog w base spare held fuel 42 cs = some y) (hL : Lite Tryz.prog 42 y.1) : ∃ x : Ed, RE w (fun j => cs.getD j undef) x ∧ SetLen x := by
  obtain ⟨_, _, h0, _⟩ := trod_one (i := 0) Tryz.underlying42 h rfl rfl cI9 (by omega)
  obtain ⟨_, _, h1, _⟩ := trod_one (i := 1) Tryz.underlying42 h rfl rfl cB9 (by omega)
  obtain ⟨_, _, h2, L2⟩ := trod_one (i := 2) Tryz.underlying42 h rfl rfl cS9 (by omega)
  obtain ⟨a, ha⟩ := read_int Tryz.underlying3 h0
  obtain ⟨b, hb⟩ := read_bool Tryz.underlying4 h1
  obtain ⟨l, hl'⟩ := read_slice_K Tryz.underlying35 cR9 (by omega) (by rw [bR9]; omega) h2 (L2 hL) fun fuel cs y hl hy _ => read_rng Tryz.underlying93 rfl rfl rfl rfl Tryz.underlying3 cI9 hl hy
  obtain ⟨A, n, c, e1, e2⟩ := slice_len Tryz.underlying35 h2 (L2 hL)
  refine ⟨⟨a, b, l⟩, ⟨ha, hb, hl'⟩, ?_⟩
  obtain ⟨A', c', e3, _⟩ := hl'
  rw [bR9] at e2
  have e4 := e1.symm.trans e3
  injection e4 with _ e4 _
  show l.length * 16 ≤ _
  omega
set_option maxRecDepth 100000 in
theorem read_au {r : Reach} {b0 : Nat} {v : Value} {d : DataW H} {p : List MemPlace} (hv : Value.okWide Tryz.prog w r b0 46 v) (h : DataW.Trod enc Tryz.prog w base spare held 46 v d p) (hl : Lite Tryz.prog 46 d) :
    ∃ A n c acc a, v = .agg #[.slice A n c, .int .i64 acc] ∧ AtAu w A a ∧ a.length = n ∧ ∀ es, es ∈ a → RowLen es := by
  obtain ⟨v0, v1, y0, y1, n, rfl, rfl, _, h0, h1⟩ := open_agg2 Tryz.underlying46 (by kernel_rfl) cA9 hv h
  obtain ⟨acc, rfl, _⟩ := read_int Tryz.underlying3 h1
  have row : ∀ (fuel : Nat) (u : Value) (y : DataW H × List MemPlace), DataW.trod enc Tryz.prog w base spare held fuel 43 [u] = some y → Lite Tryz.prog 43 y.1 → ∃ z : List Ed, IsRow w u z ∧ RowLen z := fun fuel u y hu hw => by
    obtain ⟨es, A, c, e1, hat, hc⟩ := read_slice_K (R := fun f x => RE w f x ∧ SetLen x) Tryz.underlying43 cE9 (by omega) (by rw [bE9]; omega) hu hw fun fuel cs y hl hy hL => read_edge hl hy hL
    obtain ⟨A', n, c', e2, e3⟩ := slice_len Tryz.underlying43 hu hw
    rw [bE9] at e3
    have e4 := e2.symm.trans e1
    injection e4 with _ e4 _
    exact ⟨es, ⟨A, c, e1, hat.keepR (Keep.refl _) fun _ _ h => h.1, hc⟩, by omega, hat.imp fun _ _ h => h.2⟩
  obtain ⟨a, A, c, e1, hat, _⟩ := read_slice (R := fun u z => IsRow w u z ∧ RowLen z) Tryz.underlying44 cW9 (by rw [bW9]; omega) h0 (lite_part (j := 0) Tryz.underlying46 hl rfl rfl) row
  exact ⟨A, a.length, c, acc, a, by rw [e1], hat.keepR (Keep.refl _) fun _ _ h => h.1, rfl, hat.imp fun _ _ h => h.2⟩
end
end Go.Proofs.YtcmmmgblkbbdnaaGreatDoor
