/- Walks: the reader's small methods: is, must, span, point, told, Next, take. PUT1 -/
import Derived.Test.YtilhicefhhgecaaGreatDoorRd0q
import Derived.Test.YtilhicefhhgecaaGreatDoorSlq
import Derived.Lib.Hide
import Derived.Test.YtilhicefhhgecaaGreatDoorRcq
import Derived.WalkLawsBesides
import Derived.Test.YtilhicefhhgecaaGreatDoorTaq
namespace Pv
open Go Go.RowKit
theorem pre1 (c : UInt8) (l : Bs) : Lib.hasPrefix l [c] = (isB c l).isSome := by
  unfold Lib.hasPrefix isB
  cases l with
  | nil => rfl
  | cons b r =>
    by_cases h : b = c
    · subst h; simp [List.isPrefixOf]
    · have : (c == b) = false := by simpa using fun e => h e.symm
      simp [List.isPrefixOf, h, this]
theorem cut1 (c : UInt8) (l : Bs) : Lib.trimPrefix l [c] = (isB c l).getD l := by
  unfold Lib.trimPrefix
  rw [pre1]
  unfold isB
  cases l with
  | nil => rfl
  | cons b r => by_cases h : b = c <;> simp [h]
end Pv
namespace Go.Proofs.YtilhicefhhgecaaGreatDoor
open Go.RowKit Pv
theorem RdS.cells {w : World} {R : Nat} {l : Bs} {wd : Bool} (h : RdS w R l wd) : ∃ s : ByteArray, Hid (bsl s = l) ∧ Hid (Blk w R TRd #[.string s, .bool wd]) ∧ R < w.heap.size ∧ w.cell? ⟨R, 0, none⟩ = some (.string s) ∧ w.cell? ⟨R, 1, none⟩ = some (.bool wd) ∧ w.frozen? ⟨R, 0, none⟩ = false ∧ w.frozen? ⟨R, 1, none⟩ = false := by
  obtain ⟨s, h1, hb⟩ := h
  exact ⟨s, Lib.hid h1, Lib.hid hb, hb.lt, hb.cell 0, hb.cell 1, hb.frozen 0, hb.frozen 1⟩

set_option maxHeartbeats 1000000 in
set_option maxRecDepth 100000 in
theorem rd_is (R : Nat) (l : Bs) (wd : Bool) (c : UInt8) (w : World) (h : RdS w R l wd) :
    Calls Tryz.prog 77 #[.pointer (some ⟨R, 0, none⟩), .string ⟨#[c]⟩] w fun e w' => e = .returned (.bool (isB c l).isSome) ∧ RdS w' R ((isB c l).getD l) wd ∧ Only R w w' := by
  obtain ⟨s, hs, HB, hlt, p0, p1, f0, f1⟩ := h.cells
  clear h
  go_enter Tryz.func77, Tryz.ntmps77
  go_wp2_with fail
  refine (Tryz.strings_CutPrefix _ _ _).mono ?_
  rintro e w' ⟨rfl, hw⟩
  have hw2 := hw.symm
  subst hw2
  clear hw
  go_wp2
  go_ret
  refine ⟨ret_bool (by rw [← hs.out]; exact pre1 c _), ⟨_, ?_, HB.out.set 0 _⟩, (Only.refl R w).set 0 _⟩
  rw [bsl_mk, ← hs.out]
  exact cut1 c _

set_option maxHeartbeats 1000000 in
set_option maxRecDepth 100000 in
theorem rd_must (R : Nat) (l r : Bs) (wd : Bool) (c : UInt8) (w : World) (h : RdS w R l wd) (hr : isB c l = some r) :
    Calls Tryz.prog 117 #[.pointer (some ⟨R, 0, none⟩), .string ⟨#[c]⟩] w fun e w' => e = .returned (.tuple #[]) ∧ RdS w' R r wd ∧ Only R w w' := by
  have HI := Lib.hid (rd_is R l wd c w h)
  have HR := Lib.hid hr
  clear h hr
  rw [show (isB c l).isSome = true by rw [HR.out]; rfl, show (isB c l).getD l = r by rw [HR.out]; rfl] at HI
  go_enter Tryz.func117, Tryz.ntmps117
  go_wp2_with fail
  refine HI.out.mono ?_
  rintro e w' ⟨rfl, h1, h2⟩
  have H1 := Lib.hid h1; have H2 := Lib.hid h2
  clear h1 h2
  go_wp2
  first | go_end0 | refine bodyPost_ret (results_none rfl _ _ _) rfl ?_
  exact ⟨rfl, H1.out, H2.out⟩
end Go.Proofs.YtilhicefhhgecaaGreatDoor

namespace Go.Proofs.YtilhicefhhgecaaGreatDoor
open Go.RowKit Pv
theorem own_two (w : World) (base : Nat) (e : TypeId) (x y : Value) (hb : base ≤ w.heap.size) : (w.alloc (.cells #[x, y] e)).ownsRow base e 2 (.slice (some ⟨w.heap.size, 0, none⟩) 1 1) 1 [x, y] :=
  ⟨by simp, .inr ⟨w.heap.size, 1, #[x, y], rfl, hb, by show (w.heap.push _)[w.heap.size]? = _; simp, Nat.le_refl _, by simp only [maxLen]; omega, by simp, by simp⟩⟩

set_option maxHeartbeats 1000000 in
set_option maxRecDepth 100000 in
theorem rd_span (a b : Int) (w : World) (ha : -9223372036854775808 ≤ a ∧ a ≤ 9223372036854775807) (hb : -9223372036854775808 ≤ b ∧ b ≤ 9223372036854775807) :
    Calls Tryz.prog 164 #[.int .i64 a, .int .i64 b] w fun e w' => e = .returned (.slice (some ⟨w.heap.size, 0, none⟩) 1 1) ∧ OwnSet w' w.heap.size (.slice (some ⟨w.heap.size, 0, none⟩) 1 1) [⟨a, b⟩] ∧ Below w.heap.size w w' := by
  have HA := Lib.hid ha; have HB := Lib.hid hb
  clear ha hb
  go_enter Tryz.func164, Tryz.ntmps164
  go_wp2
  go_ret
  exact ⟨rfl, ⟨some ⟨w.heap.size, 0, none⟩, 1, [.int .i64 a, .int .i64 b], rfl, own_two w _ _ _ _ (Nat.le_refl _), RelK.one (f := fun j => [Value.int .i64 a, .int .i64 b].getD j undef) rfl (fun j hj => by
    rcases (show j = 0 ∨ j = 1 by omega) with rfl | rfl <;> rfl) ⟨⟨rfl, HA.out⟩, ⟨rfl, HB.out⟩⟩⟩, (Below.refl _ _).alloc (Nat.le_refl _) _⟩

end Go.Proofs.YtilhicefhhgecaaGreatDoor

namespace Pv
open Go Go.RowKit
/-- At a byte below 128. -/
theorem nextP_asc {b : UInt8} {r : Bs} (h : b.toNat < 128) : nextP (b :: r) = some (b.toNat, 1) := by
  have h1 : goodP (b :: r) 1 = true := (good_1 _).2 ⟨by simp, by simpa [bN] using h⟩
  have h2 : numP (b :: r) 1 = b.toNat := by
    unfold numP numK leadN bN
    simp
  unfold nextP
  rw [if_pos h1, h2]
end Pv
namespace Go.Proofs.YtilhicefhhgecaaGreatDoor
open Go.RowKit Pv

theorem own_five (w : World) (base : Nat) (e : TypeId) (a b c d f : Value) (hb : base ≤ w.heap.size) : (w.alloc (.cells #[a, b, c, d, f] e)).ownsRow base e 5 (.slice (some ⟨w.heap.size, 0, none⟩) 1 1) 1 [a, b, c, d, f] :=
  ⟨by simp, .inr ⟨w.heap.size, 1, #[a, b, c, d, f], rfl, hb, by show (w.heap.push _)[w.heap.size]? = _; simp, Nat.le_refl _, by simp only [maxLen]; omega, by simp, by simp⟩⟩
/-- One node of a set, in new memory. -/
theorem rx_one {w : World} {base : Nat} {v : Value} {l : List Rng} (hb : base ≤ w.heap.size) (h : OwnSet w base v l) : OwnRx (w.alloc (.cells #[.int .u8 1, v, .int .i64 0, .int .i64 0, .int .i64 0] 52)) base (.slice (some ⟨w.heap.size, 0, none⟩) 1 1) [setX l] :=
  ⟨some ⟨w.heap.size, 0, none⟩, 1, [.int .u8 1, v, .int .i64 0, .int .i64 0, .int .i64 0], rfl, own_five w _ _ _ _ _ _ _ hb, RelK.one (f := fun j => [Value.int .u8 1, v, .int .i64 0, .int .i64 0, .int .i64 0].getD j undef) rfl (fun j hj => by
    rcases (show j = 0 ∨ j = 1 ∨ j = 2 ∨ j = 3 ∨ j = 4 by omega) with rfl | rfl | rfl | rfl | rfl <;> rfl) ⟨⟨rfl, by simp [setX], by simp [setX]⟩, h.alloc _, ⟨rfl, by simp [setX], by simp [setX]⟩, ⟨rfl, by simp [setX], by simp [setX]⟩, ⟨rfl, by simp [setX], by simp [setX]⟩⟩⟩

set_option maxHeartbeats 1000000 in
set_option maxRecDepth 100000 in
theorem rd_point (R : Nat) (w : World) :
    Calls Tryz.prog 159 #[.pointer (some ⟨R, 0, none⟩)] w fun e w' => ∃ A n c, e = .returned (.slice A n c) ∧ OwnRx w' w.heap.size (.slice A n c) [setX [⟨0, 1114111⟩]] ∧ Below w.heap.size w w' := by
  have HS := Lib.hid (rd_span 0 1114111 w (by omega) (by omega))
  go_enter Tryz.func159, Tryz.ntmps159
  go_wp2_with fail
  refine HS.out.mono ?_
  rintro e w1 ⟨rfl, hset, hb⟩
  have HX := Lib.hid hset; have HB := Lib.hid hb
  clear hset hb
  go_wp2
  go_ret
  exact ⟨_, _, _, rfl, rx_one HB.out.size HX.out, HB.out.alloc HB.out.size _⟩
end Go.Proofs.YtilhicefhhgecaaGreatDoor

namespace Go.Proofs.YtilhicefhhgecaaGreatDoor
open Go.RowKit Pv
/-- What a method that reads nodes leaves: the nodes, the rest, the mark. -/
def RdP (R : Nat) (w : World) (t : List Rx) (l : Bs) (wd : Bool) (e : Ending) (w' : World) : Prop :=
  ∃ A n c, e = .returned (.slice A n c) ∧ OwnRx w' (R + 1) (.slice A n c) t ∧ RdS w' R l wd ∧ Only R w w'

set_option maxHeartbeats 1000000 in
set_option maxRecDepth 100000 in
theorem rd_group (R : Nat) (w : World) (t : List Rx) (l l2 : Bs) (wd : Bool) (hr : Calls Tryz.prog 38 #[.pointer (some ⟨R, 0, none⟩)] w (RdP R w t l wd)) (hc : isB 41 l = some l2) :
    Calls Tryz.prog 160 #[.pointer (some ⟨R, 0, none⟩)] w (RdP R w t l2 wd) := by
  have HR := Lib.hid hr; have HC := Lib.hid hc
  clear hr hc
  go_enter Tryz.func160, Tryz.ntmps160
  go_wp2_with fail
  refine HR.out.mono ?_
  rintro e w1 ⟨A, n, c, rfl, h1, h2, h3⟩
  have H1 := Lib.hid h1; have H2 := Lib.hid h2; have H3 := Lib.hid h3
  have HM := Lib.hid (rd_must R l l2 wd 41 w1 h2 HC.out)
  clear h1 h2 h3
  go_wp2_with fail
  refine HM.out.mono ?_
  rintro e w2 ⟨rfl, h4, h5⟩
  have H4 := Lib.hid h4; have H5 := Lib.hid h5
  clear h4 h5
  go_wp2
  go_ret
  exact ⟨A, n, c, rfl, only_rx H5.out H2.out H1.out, H4.out, H3.out.step H5.out⟩
end Go.Proofs.YtilhicefhhgecaaGreatDoor

namespace Pv
open Go Go.RowKit
theorem indexB_some : ∀ (l : Bs) (b : UInt8), l.contains b = true → 0 ≤ Lib.indexByte l b
  | [], _, h => by simp at h
  | c :: l, b, h => by
    unfold Lib.indexByte
    by_cases hc : (c == b) = true
    · rw [if_pos hc]
      omega
    · have h1 : l.contains b = true := by
        simp only [List.contains_cons, Bool.or_eq_true] at h
        rcases h with h | h
        · exfalso
          simp only [beq_iff_eq] at h hc
          exact hc h.symm
        · exact h
      have h2 := indexB_some l b h1
      rw [if_neg hc, if_neg (by rw [beq_iff_eq]; omega)]
      omega
theorem indexB_no : ∀ (l : Bs) (b : UInt8), l.contains b = false → Lib.indexByte l b = -1
  | [], _, _ => rfl
  | c :: l, b, h => by
    simp only [List.contains_cons, Bool.or_eq_false_iff] at h
    have h1 : (c == b) = false := by
      have := h.1
      simp only [beq_eq_false_iff_ne, ne_eq] at this ⊢
      exact fun e => this e.symm
    unfold Lib.indexByte
    rw [h1, indexB_no l b h.2]
    rfl
theorem nextP_nil : nextP ([] : Bs) = none := by decide
theorem nextP_len {l : Bs} {n k : Nat} (h : nextP l = some (n, k)) : (bytesP n).length = k := by
  unfold nextP at h
  have key : ∀ s, goodP l s = true → (bytesP (numP l s)).length = s := fun s hs => by
    rw [good_iff] at hs
    rw [hs.2.2, firstN, List.length_map, List.length_take]
    omega
  repeat' split at h
  all_goals first | (injection h with h; injection h with h1 h2; subst h1; subst h2; exact key _ ‹_›) | cases h
theorem next_65533 {l : Bs} {k : Nat} (h : nextP l = some (65533, k)) : k = 3 := by
  rw [← nextP_len h]
  decide
/-- What the decoder tells, by the document's word. -/
theorem decode_next {l : Bs} {x k : Nat} (h : l ≠ []) (hd : Lib.decodeL l = (x, k)) : nextP l = if x = 65533 ∧ k = 1 then none else some (x, k) := by
  rw [next_decode l h, hd]
end Pv
namespace Go.Proofs.YtilhicefhhgecaaGreatDoor
open Go.RowKit Pv
/-- What of Go's library stands as it is laid, whatever is made from B on: the tables of package utf8; an error of package strconv. -/
def TabV (B : Nat) (w : World) : Prop := ∀ w', Below B w w' → Lib.Utf8Tabs (Tryz.lays197_ren.g 3) (Tryz.lays197_ren.g 4) w' ∧ ∃ te pe, w'.cell? ⟨Tryz.laysc172_ren.g 15, 0, none⟩ = some (.iface te pe)
theorem TabV.utf {B : Nat} {w : World} (h : TabV B w) : Lib.Utf8Tabs (Tryz.lays197_ren.g 3) (Tryz.lays197_ren.g 4) w := (h w (Below.refl _ _)).1
theorem TabV.syn {B : Nat} {w : World} (h : TabV B w) : ∃ te pe, w.cell? ⟨Tryz.laysc172_ren.g 15, 0, none⟩ = some (.iface te pe) := (h w (Below.refl _ _)).2
theorem TabV.next {B : Nat} {w w' : World} (h : TabV B w) (hb : Below B w w') : TabV B w' := fun w2 h2 => h w2 (hb.trans h2)
/-- A panic that tells 70. -/
def Stopped (e : Ending) : Prop := e = .panicked [{ v := .iface 72 (.agg #[.int .i64 70]), recovered := false }]

set_option maxHeartbeats 1000000 in
set_option maxRecDepth 100000 in
theorem rd_no (w : World) : Calls Tryz.prog 39 #[] w fun e w' => Stopped e ∧ w = w' := by
  go_enter Tryz.func39, Tryz.ntmps39
  go_wp2
  exact ⟨rfl, rfl, rfl⟩

/-- What Next tells of the code point that begins. -/
def NextR (x : Option (Nat × Nat)) (e : Ending) : Prop := match x with
  | some (n, k) => e = .returned (.tuple #[.int .i64 n, .int .i64 k, .int .i64 0])
  | none => ∃ c : Int, e = .returned (.tuple #[.int .i64 0, .int .i64 0, .int .i64 c]) ∧ (c != 0) = true

set_option maxHeartbeats 1000000 in
set_option maxRecDepth 100000 in
theorem text_told (x k : Nat) (w : World) (hx : x ≤ 1114111) (hk : k ≤ 4) (h : ¬ (x = 65533 ∧ k < 3)) :
    Calls Tryz.prog 224 #[.int .i32 x, .int .i64 k] w fun e w' => e = .returned (.tuple #[.int .i64 x, .int .i64 k, .int .i64 0]) ∧ w = w' := by
  have i1 : (x : Int) ≤ 1114111 := by omega
  have i2 : (0 : Int) ≤ (x : Int) := by omega
  have i3 : (k : Int) ≤ 4 := by omega
  have i4 : (0 : Int) ≤ (k : Int) := by omega
  by_cases h0 : x = 65533
  · have h1 : ((x : Int) == 65533) = true := by simp; omega
    have h2 : ¬ ((k : Int) < 3) := by omega
    clear h hx hk h0
    go_enter Tryz.func224, Tryz.ntmps224
    go_wp2
    go_ret3
    exact ⟨rfl, rfl⟩
  · have h1 : ((x : Int) == 65533) = false := by simp; omega
    clear h hx hk h0
    go_enter Tryz.func224, Tryz.ntmps224
    go_wp2
    go_ret3
    exact ⟨rfl, rfl⟩
set_option maxHeartbeats 1000000 in
set_option maxRecDepth 100000 in
theorem text_toldN (k : Nat) (w : World) (hk : k < 3) :
    Calls Tryz.prog 224 #[.int .i32 65533, .int .i64 k] w fun e w' => e = .returned (.tuple #[.int .i64 0, .int .i64 0, .int .i64 10]) ∧ w = w' := by
  have h2 : (k : Int) < 3 := by omega
  go_enter Tryz.func224, Tryz.ntmps224
  go_wp2
  go_ret3
  exact ⟨rfl, rfl⟩

set_option maxHeartbeats 1000000 in
set_option maxRecDepth 100000 in
theorem text_NextG (s : ByteArray) (w : World) (B : Nat) (hs : s.size ≤ 140737488355328) (hT : TabV B w) :
    Calls Tryz.prog 200 #[.string s, .int .i64 0] w fun e w' => NextR (nextP (bsl s)) e ∧ Below w.heap.size w w' := by
  by_cases h0 : s.size = 0
  · have e1 : bsl s = [] := List.eq_nil_of_length_eq_zero (by rw [bsl_len]; exact h0)
    rw [e1, nextP_nil]
    have hd3 : (s.size : Int) = 0 := by omega
    have hd4 : ((s.size : Int) ≤ 0) := by omega
    clear h0 hs e1
    go_enter Tryz.func200, Tryz.ntmps200
    go_wp2
    go_ret3
    exact ⟨⟨2, rfl, rfl⟩, Below.refl _ _⟩
  have hlt : 0 < s.size := by omega
  have hlt2 : (0 : Int) < (s.size : Int) := by omega
  have hd1 : decide ((s.size : Int) ≤ 0) = false := decide_eq_false (by omega)
  have hd2 : decide (s.size ≤ 0) = false := decide_eq_false (by omega)
  have hd3 : decide (s.size = 0) = false := decide_eq_false (by omega)
  have hd4 : ¬ s.size = 0 := by omega
  have hd5 : (s.size == 0) = false := by simpa using hd4
  have hne : bsl s ≠ [] := fun e => by have := bsl_len s; rw [e] at this; simp at this; omega
  have HD := Tryz.utf8_DecodeRuneInString s w (hT.utf)
  have hdec : Lib.decodeGo s = Lib.decodeL (bsl s) := by
    unfold Lib.decodeGo Lib.decodeL bsl
    rw [if_neg hd4, Array.toArray_toList]
  rw [hdec] at HD
  obtain ⟨x, k, hxk⟩ : ∃ x k, Lib.decodeL (bsl s) = (x, k) := ⟨_, _, rfl⟩
  have HNX := Lib.hid (decode_next hne hxk)
  have hw := Lib.decodeL_width (bsl s)
  rw [hxk] at HD hw
  simp only at HD hw
  have HD := Lib.hid HD
  by_cases hbad : x = 65533 ∧ k = 1
  · obtain ⟨rfl, rfl⟩ := hbad
    rw [show nextP (bsl s) = none by rw [HNX.out]; rfl]
    have HT := Lib.hid (fun W => text_toldN 1 W (by omega))
    clear hxk hw hne hdec hT HNX
    go_enter Tryz.func200, Tryz.ntmps200
    go_wp2_with fail
    refine HD.out.mono ?_
    rintro e w1 ⟨rfl, hb⟩
    have HB := Lib.hid hb
    clear hb
    go_wp2_with fail
    refine (HT.out _).mono ?_
    rintro e w' ⟨rfl, rfl⟩
    go_wp2
    go_ret3
    exact ⟨⟨10, rfl, rfl⟩, HB.out⟩
  · have e1 : nextP (bsl s) = some (x, k) := by rw [HNX.out, if_neg hbad]
    have hsz := nextP_size e1
    have hk3 : ¬ (x = 65533 ∧ k < 3) := by
      rintro ⟨rfl, h3⟩
      have := next_65533 e1
      omega
    rw [e1]
    have HT := Lib.hid (fun W => text_told x k W hsz.2.2.2 hsz.2.1 hk3)
    clear hxk hw hne hdec hT HNX hbad e1 hk3
    go_enter Tryz.func200, Tryz.ntmps200
    go_wp2_with fail
    refine HD.out.mono ?_
    rintro e w1 ⟨rfl, hb⟩
    have HB := Lib.hid hb
    clear hb
    go_wp2_with fail
    refine (HT.out _).mono ?_
    rintro e w' ⟨rfl, rfl⟩
    go_wp2
    go_ret3
    exact ⟨rfl, HB.out⟩
end Go.Proofs.YtilhicefhhgecaaGreatDoor

namespace Pv
open Go Go.RowKit
theorem Only.grown {w w' w'' : World} {R : Nat} {row : Option Nat} (h : Only R w w') (hg : w'.grownBy w'' row) (hrow : ∀ k, row = some k → w.heap.size ≤ k) : Only R w w'' :=
  ⟨hg.os.trans h.os, hg.tape.trans h.tape, hg.output.trans h.output, Nat.le_trans h.size hg.size, fun b hb hne => (hg.block b (Nat.lt_of_lt_of_le hb h.size) (fun e => by have := hrow b e.symm; omega)).trans (h.block b hb hne)⟩
theorem Only.alloc {w w' : World} {R : Nat} (h : Only R w w') (o : Obj) : Only R w (w'.alloc o) := h.then ((Below.refl _ _).alloc (Nat.le_refl _) o)
end Pv
namespace Go.Proofs.YtilhicefhhgecaaGreatDoor
open Go.RowKit Pv
abbrev TNx : TypeId := 52
abbrev TRL : TypeId := 29
abbrev TRg : TypeId := 124
section
variable {w w' : World} {R B b : Nat} {l : Bs} {wd : Bool} {v : Value} {t : List Rx} {ll : List (List Rx)}
theorem rx_below (h : OwnRx w b v t) (k : Below w.heap.size w w') : OwnRx w' b v t := (OwnK.below h k).monoR fun _ _ _ hx => hx.up fun _ _ hs => OwnK.below hs k
theorem rx_alloc (h : OwnRx w b v t) (o : Obj) : OwnRx (w.alloc o) b v t := rx_below h ((Below.refl _ _).alloc (Nat.le_refl _) o)
theorem rx_drew (h : OwnRx w b v t) : OwnRx w.drew b v t := rx_below h (Below.refl _ _).drew
theorem rx_grown {b' s n : Nat} {e : TypeId} {rv : Value} {us : List Value} (h : OwnRx w b v t) (hr : w.ownsRow b' e s rv n us) (h1 : TNx ≠ e) (h2 : TRg ≠ e) (hg : w.grownBy w' rv.ownBlock) : OwnRx w' b v t :=
  (OwnK.grown h hr h1 hg).monoR fun _ _ _ hx => hx.up fun _ _ hs => OwnK.grown hs hr h2 hg
theorem rx_far {g i : Nat} {e : TypeId} {cs : Array Value} {u : Value} (h : OwnRx w b v t) (hb : Blk w g e cs) (h1 : TNx ≠ e) (h2 : TRg ≠ e) : OwnRx (w.setCell ⟨g, i, none⟩ u) b v t :=
  (OwnK.setFar h hb h1 i u).monoR fun _ _ _ hx => hx.up fun _ _ hs => OwnK.setFar hs hb h2 i u
theorem rx_lower {b' : Nat} (h : OwnRx w b v t) (hb : b' ≤ b) : OwnRx w b' v t := (OwnK.lower h hb).monoR fun _ _ _ hx => ⟨hx.kind, OwnK.lower hx.set hb, hx.many, hx.least, hx.most⟩
/-- A list of lists of nodes: its row lies from B on, the nodes and their sets from b on. -/
def OwnRows (w : World) (B b : Nat) (v : Value) (ll : List (List Rx)) : Prop := Own w B TRL (fun u t => OwnRx w b u t) v ll
theorem OwnRows.nil (w : World) (B b : Nat) : OwnRows w B b (.slice none 0 0) [] := Own.nil
theorem only_rows (k : Only R w w') (hr : RdS w R l wd) (h : OwnRows w B b v ll) : OwnRows w' B b v ll := by
  obtain ⟨A, c, us, rfl, h1, h2⟩ := h
  have h3 := hr
  obtain ⟨_, _, hb⟩ := h3
  exact ⟨A, c, us, rfl, k.own hb (by decide) h1, h2.mono fun _ _ h => only_rx k hr h⟩
theorem rows_below (h : OwnRows w B b v ll) (k : Below w.heap.size w w') : OwnRows w' B b v ll := by
  obtain ⟨A, c, us, rfl, h1, h2⟩ := h
  exact ⟨A, c, us, rfl, ownsRow_below h1 k, h2.mono fun _ _ h => rx_below h k⟩
/-- One list more. -/
theorem rows_push {A A' : Option Addr} {c c' k : Nat} {us : List Value} {u : Value} (h1 : w.ownsRow B TRL 1 (.slice A k c) k us) (h2 : Rel (fun u t => OwnRx w b u t) us ll) (hk : ll.length = k)
    (hu : OwnRx w b u t) (own : w'.ownsRow B TRL 1 (.slice A' (k + 1) c') (k + 1) (us ++ [u])) (gr : (w.alloc (.cells #[u] TRL)).grownBy w' (Value.slice A k c).ownBlock) :
    OwnRows w' B b (.slice A' (k + 1) c') (ll ++ [t]) := by
  have hb : Below w.heap.size w (w.alloc (.cells #[u] TRL)) := (Below.refl _ _).alloc (Nat.le_refl _) _
  have one : ∀ u t, OwnRx w b u t → OwnRx w' b u t := fun u t h => rx_grown (rx_below h hb) (ownsRow_below h1 hb) (by decide) (by decide) gr
  exact ⟨A', c', us ++ [u], by simp [hk], by rw [List.length_append, hk]; exact own, Rel.app (h2.mono fun u t h => one u t h) (Rel.one (one u t hu))⟩
/-- A list of these. -/
theorem rows_get {k : Nat} (h : OwnRows w B b v ll) (hk : ll[k]? = some t) : ∃ g n c u, v = .slice (some ⟨g, 0, none⟩) n c ∧ n = ll.length ∧ g < w.heap.size ∧ w.cell? ⟨g, k, none⟩ = some u ∧ OwnRx w b u t := by
  obtain ⟨A, c, us, rfl, h1, h2⟩ := h
  have hl : k < us.length := by rw [h2.1]; exact lt_of_get hk
  obtain ⟨g, rfl, hg, hc⟩ := own_get1 h1 (List.getElem?_eq_getElem hl)
  exact ⟨g, _, c, _, rfl, rfl, hg, hc, h2.2 k _ _ (List.getElem?_eq_getElem hl) hk⟩
theorem rows_shape (h : OwnRows w B b v ll) : ∃ A c us, v = .slice A ll.length c ∧ w.ownsRow B TRL 1 (.slice A ll.length c) ll.length us ∧ Rel (fun u t => OwnRx w b u t) us ll := h
end
end Go.Proofs.YtilhicefhhgecaaGreatDoor
