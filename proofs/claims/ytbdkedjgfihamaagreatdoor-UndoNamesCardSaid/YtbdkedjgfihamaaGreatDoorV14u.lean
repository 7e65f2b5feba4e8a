/- Walks: a value of cells cloned; the value at a place. PUT1 -/
import Derived.Test.YtbdkedjgfihamaaGreatDoorV13u
import Derived.Laws.OwnMore
import Derived.Lib.SliceRun
namespace Pv
open Go Go.RowKit
theorem RCel.one {f : Nat → Value} {x : Cel} (h : RCel f x) : ∀ j, j < 5 → (f j).oneCell' = true := by
  intro j hj
  obtain ⟨⟨h0, _⟩, ⟨h1, _⟩, ⟨h2, _⟩, ⟨h3, _⟩, ⟨h4, _⟩⟩ := h
  match j, hj with
  | 0, _ => rw [h0]; rfl
  | 1, _ => rw [h1]; rfl
  | 2, _ => rw [h2]; rfl
  | 3, _ => rw [h3]; rfl
  | 4, _ => rw [h4]; rfl
theorem AtK.cut {α : Type} {w : World} {k b off : Nat} {R : (Nat → Value) → α → Prop} {xs : List α} (h : AtK w k (some ⟨b, off, none⟩) R xs) (i m : Nat) : AtK w k (some ⟨b, off + i * k, none⟩) R ((xs.drop i).take m) := by
  refine ⟨by have := h.1; rw [List.length_take, List.length_drop]; omega, fun hp => ?_⟩
  rw [List.length_take, List.length_drop] at hp
  obtain ⟨b', off', e, hb, hc⟩ := h.2 (by omega)
  injection e with e
  injection e with e1 e2
  subst e1; subst e2
  refine ⟨b, off + i * k, rfl, hb, fun q x hx => ?_⟩
  have hq := lt_of_get hx
  rw [List.length_take, List.length_drop] at hq
  rw [List.getElem?_take_of_lt (by omega), List.getElem?_drop] at hx
  obtain ⟨f, hf, hR⟩ := hc (i + q) x hx
  refine ⟨f, fun j hj => ?_, hR⟩
  rw [← hf j hj]
  congr 2
  rw [Nat.add_mul]
  omega
theorem own_empty5 (w : World) (base : Nat) (e : TypeId) (k n : Nat) (hn : n = w.heap.size) (hb : base ≤ n) : (w.alloc (.cells #[] e)).ownsRow base e k (.slice (some ⟨n, 0, none⟩) 0 0) 0 [] := by
  subst hn
  exact ⟨by simp, .inr ⟨w.heap.size, 0, #[], rfl, hb, by show (w.heap.push _)[w.heap.size]? = _; simp, Nat.le_refl _, by simp only [maxLen]; omega, by simp, by simp⟩⟩
/-- The name of the first cell put out. -/
def bareV (v : List Cel) : List Cel := match v with
  | [] => []
  | c :: r => { c with name := ByteArray.empty } :: r
theorem cutV_eq (v : List Cel) (a : Nat) : cutV v a = bareV ((v.drop a).take (endV v a - a)) := by unfold cutV bareV; rfl
theorem OwnK.slice {α : Type} {w : World} {base k n c : Nat} {e : TypeId} {R : (Nat → Value) → α → Prop} {A : Option Addr} {xs : List α} (h : OwnK w base e k R (.slice A n c) xs) : xs.length = n ∧ ∃ us, w.ownsRow base e k (.slice A n c) n us ∧ RelK k R us xs := by
  obtain ⟨A', c', us, hv, ho, hr⟩ := h
  injection hv with e1 e2 e3
  subst e1; subst e2; subst e3
  exact ⟨rfl, us, ho, hr⟩
/-- A head's name put out in memory. -/
theorem own_bare {w : World} {base g n c : Nat} {e : TypeId} {v : List Cel} (h : OwnK w base e 5 RCel (.slice (some ⟨g, 0, none⟩) n c) v) : OwnK (w.setCell ⟨g, 1, none⟩ (.string ByteArray.empty)) base e 5 RCel (.slice (some ⟨g, 0, none⟩) n c) (bareV v) ∧ w.grownBy (w.setCell ⟨g, 1, none⟩ (.string ByteArray.empty)) (some g) := by
  obtain ⟨hn, us, ho, hr⟩ := h.slice
  obtain ⟨h1, h2⟩ := ho.stored 1 (.string ByteArray.empty)
  have hl : (bareV v).length = v.length := by cases v <;> rfl
  refine ⟨⟨_, c, us.set 1 (.string ByteArray.empty), by rw [hl, hn], by rw [hl, hn]; exact h1, by rw [List.length_set, hl]; exact hr.1, fun i x hx => ?_⟩, h2⟩
  cases v with
  | nil => simp [bareV] at hx
  | cons a r =>
    have hus := hr.1
    rw [List.length_cons] at hus
    match i with
    | 0 =>
      obtain ⟨f, hf, hR⟩ := hr.2 0 a rfl
      obtain rfl : x = { a with name := ByteArray.empty } := (Option.some.inj hx).symm
      refine ⟨fun j => if j = 1 then .string ByteArray.empty else f j, fun j hj => ?_, ?_⟩
      · show (us.set 1 (.string ByteArray.empty))[0 * 5 + j]? = some (if j = 1 then .string ByteArray.empty else f j)
        by_cases hj1 : j = 1
        · subst hj1
          rw [if_pos rfl, Nat.zero_mul, Nat.zero_add, List.getElem?_set_self (by omega)]
        · rw [if_neg hj1, List.getElem?_set_ne (by omega)]
          exact hf j hj
      · exact ⟨hR.1, ⟨rfl, by show (0 : Nat) ≤ _; omega⟩, hR.3, hR.4, hR.5⟩
    | i + 1 =>
      obtain ⟨f, hf, hR⟩ := hr.2 (i + 1) x hx
      refine ⟨f, fun j hj => ?_, hR⟩
      rw [List.getElem?_set_ne (by omega)]
      exact hf j hj
end Pv
namespace Go.Proofs.YtbdkedjgfihamaaGreatDoor
open Go.RowKit Pv Go.Maps
theorem info_cell : (Tryz.prog.info? TCe).map (fun i => (i.zero, i.size, i.bytes)) = some (some (.agg #[.int .u8 0, .string ByteArray.empty, .string ByteArray.empty, .int .i64 0, .int .i64 0]), 5, 56) := by kernel_rfl
/-- A value of the call's own. -/
abbrev OwnC (w : World) (base : Nat) (v : Value) (l : List Cel) : Prop := OwnK w base TCe 5 RCel v l
set_option maxHeartbeats 1000000 in
set_option maxRecDepth 100000 in
theorem clone_cel (A : Option Addr) (c n : Nat) (l : List Cel) (w : World) (h : AtCel w A l) (HL : Hid (l.length = n)) (hn : n ≤ 1000000) :
    Calls Tryz.prog 89 #[.slice A n c] w fun e w' => ∃ B c', e = .returned (.slice B n c') ∧ OwnC w' w.heap.size (.slice B n c') l ∧ Below w.heap.size w w' := by
  have hnil := fun (W : World) (a : Option Addr) (n c : Nat) => Lib.run_eql_slice_nil (P := Tryz.prog) W 30 TCe a n c 0 0 Tryz.underlying30
  obtain ⟨i0, hi0, hz0, hs0, hb0⟩ := info_parts info_cell
  cases A with
  | none =>
    have hn0 : n = 0 := by
      rcases Nat.eq_zero_or_pos n with h0 | h0
      · exact h0
      · obtain ⟨b, o, e, _⟩ := h.2 (by rw [HL.out]; exact h0)
        cases e
    subst hn0
    have hl : l = [] := List.eq_nil_of_length_eq_zero HL.out
    subst hl
    clear h
    go_enter Tryz.func89, Tryz.ntmps89
    go_wp2
    go_ret
    exact ⟨none, 0, rfl, OwnK.nil, Below.refl _ _⟩
  | some ad =>
    obtain ⟨us, hr, src⟩ := AtK.src h (fun _ _ => RCel.one)
    rw [HL.out] at src
    have hba : Below w.heap.size w (w.alloc (.cells #[] TCe)) := (Below.refl _ _).alloc (Nat.le_refl _) _
    have S1 := Lib.hid (src.keep (Keep.of hba)); have R1 := Lib.hid hr
    have OW := Lib.hid (own_empty5 w w.heap.size TCe 5 w.heap.size rfl (Nat.le_refl _))
    have HB := Lib.hid hba
    have Q1 : Hid (0 + n ≤ maxLen) := Lib.hid (by simp only [maxLen]; omega)
    have Q2 : Hid ((0 + n) * 56 ≤ 140737488355328) := Lib.hid (by omega)
    clear src hr h hba
    go_enter Tryz.func89, Tryz.ntmps89
    go_wp2_with (at_builtin
                 go_must (refine wpList_append_src _ rfl (.tmp 5) (.tmp 6) 30 rfl w.heap.size TCe i0 (.agg #[.int .u8 0, .string ByteArray.empty, .string ByteArray.empty, .int .i64 0, .int .i64 0]) 5 56 Tryz.underlying30 hi0 hz0 hs0 hb0 rfl (by decide) (some ⟨w.heap.size, 0, none⟩) 0 0 [] rfl OW.out (some ad) n c us rfl S1.out Q1.out Q2.out HB.out.size ?_)
                 intro A1 c1 w1 own1 gr1 _
                 simp only [List.nil_append, Nat.zero_add] at own1
                 have G1 := Lib.hid (HB.out.grown gr1 HB.out.size (fun g hg => (OW.out.lt g hg).1)); have O1 := Lib.hid own1
                 clear gr1 own1)
    go_ret
    exact ⟨A1, c1, by simp, ⟨A1, c1, us, by rw [HL.out], by rw [HL.out]; exact O1.out, R1.out⟩, G1.out⟩
set_option maxHeartbeats 1000000 in
set_option maxRecDepth 100000 in
theorem cell_Twin (A : Option Addr) (c n : Nat) (l : List Cel) (w : World) (h : AtCel w A l) (HL : Hid (l.length = n)) (hn : n ≤ 1000000) :
    Calls Tryz.prog 64 #[.slice A n c] w fun e w' => ∃ B c', e = .returned (.slice B n c') ∧ OwnC w' w.heap.size (.slice B n c') l ∧ Below w.heap.size w w' := by
  have HC := Lib.hid (clone_cel A c n l w h HL hn)
  clear h
  go_enter Tryz.func64, Tryz.ntmps64
  go_wp2_with fail
  refine HC.out.mono ?_
  rintro e w1 ⟨B, c', rfl, k1, k2⟩
  have K1 := Lib.hid k1; have K2 := Lib.hid k2
  clear k1 k2
  go_wp2
  go_ret
  exact ⟨B, c', rfl, K1.out, K2.out⟩
end Go.Proofs.YtbdkedjgfihamaaGreatDoor
