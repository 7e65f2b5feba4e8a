/- Walks: once more through what is repeated (the program's closure). -/
import Derived.Test.YtjnjbcigbnjmkaaTr
namespace Go.Proofs.Ytjnjbcigbnjmkaa
open Go.RowKit Go.ChangeMaps Pv

/-- All blocks but some are as they were. -/
structure But (N : Nat → Prop) (w w' : World) : Prop where
  size : w.heap.size ≤ w'.heap.size
  block : ∀ k, k < w.heap.size → ¬ N k → w'.heap[k]? = w.heap[k]?
theorem But.blk {N : Nat → Prop} {w w' : World} {g : Nat} {t : TypeId} {cs : Array Value} (h : But N w w') (hb : Blk w g t cs) (hne : ¬ N g) : Blk w' g t cs := (h.block g hb.lt hne).trans hb
theorem But.row {N : Nat → Prop} {w w' : World} {b n : Nat} {t : TypeId} {S : Nat → Prop} (h : But N w w') (hb : BRow w t b n S) (hne : ¬ N b) : BRow w' t b n S := hb.of (h.block b hb.lt hne)
theorem Only.set1 (W : World) (b i : Nat) (v : Value) : Only b W (W.setCell ⟨b, i, none⟩ v) := (Only.refl b W).set i v

/-- The closure's variables. -/
structure OnB (W : World) (b3 b4 b5 b8 pm i n : Nat) (g o fc : Nat) (v : Bool) : Prop where
  c3 : Blk W b3 115 #[.pointer (some ⟨pm, 0, none⟩)]
  c4 : Blk W b4 TI #[.int .i64 i]
  c5 : Blk W b5 24 #[.slice (some ⟨g, o, none⟩) (n + 1) fc]
  c8 : Blk W b8 4 #[.bool v]
/-- What once more leaves. -/
def OnceP (w0 W : World) (e0 e1 pm mb n : Nat) (tA EA pA : Option Addr) (nt ct ec cp : Nat) (t : List Rx) (pts : List Int) (b3 b4 b5 b8 i s0 : Nat) (W0 : World) (X S S' : Nat → Prop) (e : Ending) (w' : World) : Prop :=
  (∃ v, e = .returned v) ∧ ∃ g o c v, OnB w' b3 b4 b5 b8 pm i n g o c v ∧ (v = true ↔ lst n S' = lst n S) ∧ At w' (some ⟨g, o, none⟩) RB (lst n S') ∧ ¬ X g ∧ WkE w0 w' e0 e1 pm mb n tA EA pA nt ct ec cp t pts X ∧ But (fun k => k = mb ∨ k = b5 ∨ k = b8) W w' ∧ (s0 = W0.heap.size → Fr mb W0 w')

set_option maxHeartbeats 2000000 in
set_option maxRecDepth 100000 in
theorem tongue_once (w0 : World) (e0 e1 pm mb n : Nat) (tA EA pA : Option Addr) (nt ct ec cp : Nat) (t : List Rx) (pts : List Int) (K : Tr) (i : Nat) (hn : n ≤ 1000) (hi : i + 1 ≤ 64)
    (HIH : Hid (ThrC w0 e0 e1 pm mb n tA EA pA nt ct ec cp t pts K (i + 1))) (W W0 : World) (b3 b4 b5 b8 g o fc : Nat) (v : Bool) (S X : Nat → Prop) (HO : OnB W b3 b4 b5 b8 pm i n g o fc v) (h38 : b3 ≠ b8) (h35 : b3 ≠ b5) (h48 : b4 ≠ b8) (h45 : b4 ≠ b5) (h58 : b5 ≠ b8)
    (hE : WkE w0 W e0 e1 pm mb n tA EA pA nt ct ec cp t pts X) (hS : ∀ a, S a → a ≤ n) (hA : At W (some ⟨g, o, none⟩) RB (lst n S)) (hX : ¬ X g) (x5 : X b5) (x8 : X b8) (l3 : e1 ≤ b3) (l4 : e1 ≤ b4) (hF : Fr mb W0 W) (l5 : W0.heap.size ≤ b5) (l8 : W0.heap.size ≤ b8) :
    Calls Try.prog 156 #[.pointer (some ⟨b3, 0, none⟩), .pointer (some ⟨b4, 0, none⟩), .pointer (some ⟨b5, 0, none⟩), .pointer (some ⟨b8, 0, none⟩)] W (OnceP w0 W e0 e1 pm mb n tA EA pA nt ct ec cp t pts b3 b4 b5 b8 i W0.heap.size W0 X S (im (spT pts K) S)) := by
  have HC := Lib.hid (HIH.out W g o fc S X hE hS hA hX)
  simp only [Int.natCast_add, Int.cast_ofNat_Int] at HC
  have hw : IntKind.i64.wrap ((i : Int) + 1) = (i : Int) + 1 := by rw [IntKind.wrap_i64]; omega
  have OB := Lib.hid HO; have AT := Lib.hid hA; have EE := Lib.hid hE; have FF := Lib.hid hF; have NX := Lib.hid hX
  have hlm := hE.lm
  have h5m : b5 ≠ mb := by have := hE.lo b5 x5; omega
  have h8m : b8 ≠ mb := by have := hE.lo b8 x8; omega
  have k3 := HO.c3.cell 0
  have k4 := HO.c4.cell 0
  have k5 := HO.c5.cell 0
  have X5 := Lib.hid x5; have X8 := Lib.hid x8
  clear HO hA hE hF hX x5 x8
  go_enter Try.func156, Try.ntmps156
  go_wp2_with fail
  refine HC.out.mono ?_
  rintro e w1 ⟨g1, o1, c1, rfl, at1, nx1, we1, fr1⟩
  have D3 := Lib.hid (fr1.blk OB.out.c3 (by omega))
  have D4 := Lib.hid (fr1.blk OB.out.c4 (by omega))
  have D5 := Lib.hid (fr1.blk OB.out.c5 h5m)
  have D8 := Lib.hid (fr1.blk OB.out.c8 h8m)
  have A0 := Lib.hid (AT.out.keep fr1.1)
  have A1 := Lib.hid at1; have E1 := Lib.hid we1; have F1 := Lib.hid fr1; have N1 := Lib.hid nx1
  have HQ := Lib.hid (equal_bool (some ⟨g1, o1, none⟩) (some ⟨g, o, none⟩) c1 fc (n + 1) _ _ w1 at1 A0.out (Lib.hid (lst_len _ _)) (Lib.hid (lst_len _ _)))
  have k5' := D5.out.cell 0
  clear at1 we1 fr1 nx1 k3 k4 k5
  obtain ⟨eqv, heqv⟩ : ∃ eqv, decide (lst n (im (spT pts K) S) = lst n S) = eqv := ⟨_, rfl⟩
  rw [heqv] at HQ
  have HEQ := Lib.hid (show eqv = true ↔ lst n (im (spT pts K) S) = lst n S by rw [← heqv]; exact decide_eq_true_iff)
  clear heqv
  go_wp2_with fail
  refine HQ.out.mono ?_
  rintro e w2 ⟨rfl, q, rfl⟩
  have hb2 : Below w1.heap.size w1 (w1.drewN q) := below_drewN (Below.refl _ _) q
  have G3 := Lib.hid (D3.out.drewN q); have G4 := Lib.hid (D4.out.drewN q); have G5 := Lib.hid (D5.out.drewN q); have G8 := Lib.hid (D8.out.drewN q)
  have A2 := Lib.hid (A1.out.keep (Keep.of hb2)); have E2 := Lib.hid (E1.out.next hb2); have F2 := Lib.hid (F1.out.trans (Fr.of hb2))
  clear hb2 k5'
  generalize w1.drewN q = w3 at *
  -- the two stores
  have O8 := Only.set1 w3 b8 0 (.bool eqv)
  have E3 := E2.out.write O8 X8.out
  have A3 := At.only A2.out O8 (fun h => N1.out (h ▸ X8.out))
  have O5 := Only.set1 (w3.setCell ⟨b8, 0, none⟩ (.bool eqv)) b5 0 (.slice (some ⟨g1, o1, none⟩) (n + 1) c1)
  have FIN := Lib.hid (fun rv : Value => show OnceP w0 W e0 e1 pm mb n tA EA pA nt ct ec cp t pts b3 b4 b5 b8 i W0.heap.size W0 X S (im (spT pts K) S) (.returned rv) ((w3.setCell ⟨b8, 0, none⟩ (.bool eqv)).setCell ⟨b5, 0, none⟩ (.slice (some ⟨g1, o1, none⟩) (n + 1) c1)) from
    ⟨⟨_, rfl⟩, g1, o1, c1, eqv, ⟨(G3.out.far (p := ⟨b8, 0, none⟩) h38 _).far (p := ⟨b5, 0, none⟩) h35 _, (G4.out.far (p := ⟨b8, 0, none⟩) h48 _).far (p := ⟨b5, 0, none⟩) h45 _, (G5.out.far (p := ⟨b8, 0, none⟩) h58 _).set 0 _, (G8.out.set 0 (.bool eqv)).far (p := ⟨b5, 0, none⟩) (fun h => h58 h.symm) _⟩, HEQ.out,
      At.only A3 O5 (fun h => N1.out (h ▸ X5.out)), N1.out, E3.write O5 X5.out, ⟨Nat.le_trans F2.out.2.size (Nat.le_trans O8.size O5.size), fun k hk hne => (O5.block k (Nat.lt_of_lt_of_le hk (Nat.le_trans F2.out.2.size O8.size)) (fun e => hne (.inr (.inl e)))).trans ((O8.block k (Nat.lt_of_lt_of_le hk F2.out.2.size) (fun e => hne (.inr (.inr e)))).trans (F2.out.2.block k hk (fun e => hne (.inl e))))⟩,
      fun _ => ((FF.out.trans F2.out).write O8 l8).write O5 l5⟩)
  have k8 := G8.out.cell 0; have f8 := G8.out.frozen 0
  have q5 := (G5.out.far (p := ⟨b8, 0, none⟩) h58 (.bool eqv)).cell 0; have f5 := (G5.out.far (p := ⟨b8, 0, none⟩) h58 (.bool eqv)).frozen 0
  clear O8 E3 A3 O5
  go_wp2
  go_end0
  exact FIN.out _

end Go.Proofs.Ytjnjbcigbnjmkaa
