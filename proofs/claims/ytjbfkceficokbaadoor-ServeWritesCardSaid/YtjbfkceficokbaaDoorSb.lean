/- A writer: a strings.Builder that lies inside a struct of the program's: its methods, walked. PUT1 -/
import Derived.Test.YtjbfkceficokbaaDoorSh
import Derived.Test.YtjbfkceficokbaaDoorMem4
import Derived.WalkMore
namespace Pv
open Go Go.RowKit
/-- A string's bytes. -/
abbrev bsl (r : ByteArray) : List UInt8 := r.data.toList
theorem bsl_len (r : ByteArray) : (bsl r).length = r.size := by rw [bsl, Array.length_toList]; rfl
theorem bsl_app (a b : ByteArray) : bsl (a ++ b) = bsl a ++ bsl b := by simp [bsl, ByteArray.data_append]
theorem bsl_inj {a b : ByteArray} (h : bsl a = bsl b) : a = b := by
  apply ByteArray.ext
  exact Array.toList_inj.1 h
theorem bsl_mk (l : List UInt8) : bsl ⟨l.toArray⟩ = l := by simp [bsl]
theorem Blk.pair {w : World} {g : Nat} {t : TypeId} {a b : Value} (h : Blk w g t #[a, b]) : w.cell? ⟨g, 0, none⟩ = some a ∧ w.cell? ⟨g, 1, none⟩ = some b ∧ w.frozen? ⟨g, 0, none⟩ = false ∧ w.frozen? ⟨g, 1, none⟩ = false := ⟨h.cell 0, h.cell 1, h.frozen 0, h.frozen 1⟩
/-- In block b lies a strings.Builder (first part of a struct of type T) that holds bytes; all is the call's own from base B on. -/
def Wr (T e : TypeId) (B b : Nat) (l : List UInt8) (w : World) : Prop :=
  B ≤ b ∧ ∃ p v, (p = none ∨ p = some ⟨b, 0, none⟩) ∧ Blk w b T #[.pointer p, v] ∧ w.ownsRow B e 1 v l.length (Lib.byteCells l)
/-- All blocks stay but one, and rows of bytes from B on. -/
structure WrK (T e : TypeId) (B b : Nat) (w w' : World) : Prop where
  os : w'.os = w.os
  tape : w'.tape = w.tape
  output : w'.output = w.output
  size : w.heap.size ≤ w'.heap.size
  block : ∀ k, k < w.heap.size → k ≠ b → (k < B ∨ ∀ cs, w.heap[k]? ≠ some (.cells cs e (0, 0))) → w'.heap[k]? = w.heap[k]?
section
variable {T e : TypeId} {B b : Nat} {l : List UInt8} {w w' w'' : World}
theorem WrK.refl (T e : TypeId) (B b : Nat) (w : World) : WrK T e B b w w := ⟨rfl, rfl, rfl, Nat.le_refl _, fun _ _ _ _ => rfl⟩
theorem WrK.trans (h : WrK T e B b w w') (k : WrK T e B b w' w'') : WrK T e B b w w'' :=
  ⟨k.os.trans h.os, k.tape.trans h.tape, k.output.trans h.output, Nat.le_trans h.size k.size, fun x hx hb hc => by
    have e1 := h.block x hx hb hc
    refine (k.block x (Nat.lt_of_lt_of_le hx h.size) hb ?_).trans e1
    rcases hc with hc | hc
    · exact .inl hc
    · exact .inr fun cs hcs => hc cs (e1 ▸ hcs)⟩
theorem WrK.of (h : Below w.heap.size w w') : WrK T e B b w w' := ⟨h.os, h.tape, h.output, h.size, fun k hk _ _ => h.block k hk⟩
theorem WrK.below (h : WrK T e B b w w') (hb : B ≤ b) (hs : B ≤ w.heap.size) : Below B w w' := ⟨h.os, h.tape, h.output, h.size, fun k hk => h.block k (by omega) (by omega) (.inl hk)⟩
theorem WrK.blk {g : Nat} {t : TypeId} {cs : Array Value} (h : WrK T e B b w w') (hb : Blk w g t cs) (ht : t ≠ e) (hg : g ≠ b) : Blk w' g t cs :=
  (h.block g hb.lt hg (.inr fun cs' h' => by unfold Blk at hb; rw [hb] at h'; injection h' with h'; injection h' with _ h1; exact ht h1)).trans hb
theorem WrK.cell (h : WrK T e B b w w') (hb : B ≤ b) {g o : Nat} (hg : g < B) (hl : g < w.heap.size) : w'.cell? ⟨g, o, none⟩ = w.cell? ⟨g, o, none⟩ :=
  World.cell?_of_block (a := ⟨g, o, none⟩) (h.block g hl (by omega) (.inl hg))
theorem WrK.keep {w0 : World} (h : WrK T e B b w w') (hb : B ≤ b) (k : Keep w0 w) (h0 : w0.heap.size ≤ B) (hs : B ≤ w.heap.size) : Keep w0 w' := k.trans' h.size fun x o hx => h.cell hb (by omega) (by omega)
theorem Wr.lt (h : Wr T e B b l w) : b < w.heap.size := by obtain ⟨_, p, v, _, hb, _⟩ := h; exact hb.lt
theorem Wr.ge (h : Wr T e B b l w) : B ≤ b := h.1
theorem Wr.next (h : Wr T e B b l w) (k : Below w.heap.size w w') : Wr T e B b l w' := by
  obtain ⟨h0, p, v, hp, hb, ho⟩ := h
  exact ⟨h0, p, v, hp, hb.below k hb.lt, ownsRow_below ho k⟩
theorem Wr.made (w : World) (T e : TypeId) (B : Nat) (hB : B ≤ w.heap.size) : Wr T e B w.heap.size [] (w.alloc (.cells #[.pointer none, .slice none 0 0] T)) :=
  ⟨hB, none, .slice none 0 0, .inl rfl, Blk.new w T _, World.ownsRow_nil _ _ _ _⟩
end
end Pv
namespace Go.Proofs.YtjbfkceficokbaaDoor
open Go.RowKit Pv

abbrev TW : TypeId := 41
abbrev T8 : TypeId := 5
theorem info_byte : (Tryd.prog.info? T8).map (fun i => (i.zero, i.size, i.bytes)) = some (some (.int .u8 0), 1, 1) := by kernel_rfl
theorem lies_w : liesAt Tryd.prog Tryd.prog.depth TW (2 / Tryd.prog.cellsOf TW) 0 39 1 = true := by kernel_rfl
theorem info_b : (Tryd.prog.info? 39).map (·.size) = some 2 := by kernel_rfl
theorem blk_shape {w : World} {b : Nat} {T : TypeId} {cs : Array Value} (h : Blk w b T cs) : w.shape? b = some (T, cs.size) := by
  unfold Blk at h; simp [World.shape?, h]

set_option maxHeartbeats 1000000 in
set_option maxRecDepth 100000 in
theorem copyCheck_used (b : Nat) (v : Value) (w : World) (h : Blk w b TW #[.pointer (some ⟨b, 0, none⟩), v]) :
    Calls Tryd.prog 17 #[.pointer (some ⟨b, 0, none⟩)] w fun e w' => e = .returned (.tuple #[]) ∧ w' = w := by
  have h0 := h.cell 0
  simp at h0
  obtain ⟨j, hj, _⟩ := Option.map_eq_some_iff.1 info_b
  clear h
  go_enter Tryd.func17, Tryd.ntmps17
  go_wp2
  rw [Lib.run_neq_ptr_same w _ Tryd.underlying36 hj]
  go_wp2
  go_end0
  exact ⟨rfl, rfl⟩

set_option maxHeartbeats 1000000 in
set_option maxRecDepth 100000 in
theorem copyCheck_fresh (b : Nat) (v : Value) (w : World) (h : Blk w b TW #[.pointer none, v]) :
    Calls Tryd.prog 17 #[.pointer (some ⟨b, 0, none⟩)] w fun e w' => e = .returned (.tuple #[]) ∧ w' = w.setCell ⟨b, 0, none⟩ (.pointer (some ⟨b, 0, none⟩)) := by
  have h0 := h.cell 0
  have hfz := h.frozen 0
  have hsh := blk_shape h
  simp at h0
  obtain ⟨j, hj, hjs⟩ := Option.map_eq_some_iff.1 info_b
  clear h
  go_enter Tryd.func17, Tryd.ntmps17
  go_wp2
  rw [Lib.run_to_unsafe w ⟨b, 0, none⟩ Tryd.underlying36 Tryd.underlying63 hj (by rw [hjs]; decide) hsh (Nat.zero_lt_succ 1)]
  simp only [Result.andThen]
  rw [Oper.upon_value]
  go_wp2
  rw [run_callFunc_extern Tryd.func26 (by kernel_rfl) (by kernel_rfl) (by kernel_rfl) (e := Extern.AbiNoEscape.same) (by kernel_rfl)]
  rw [Lib.run_noEscape]
  simp only [Result.andThen]
  rw [Oper.upon_value]
  go_wp2
  rw [Lib.run_from_unsafe w ⟨b, 0, none⟩ Tryd.underlying63 Tryd.underlying36 hj hsh lies_w]
  simp only [Result.andThen]
  rw [Oper.upon_value]
  go_wp2
  go_end0
  exact ⟨rfl, rfl⟩
end Go.Proofs.YtjbfkceficokbaaDoor
