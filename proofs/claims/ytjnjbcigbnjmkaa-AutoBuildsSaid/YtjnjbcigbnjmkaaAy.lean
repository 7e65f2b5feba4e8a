/- Walks: the document's automaton of a pattern: Made, Build. -/
import Derived.Test.YtjnjbcigbnjmkaaAx
namespace Go.Proofs.Ytjnjbcigbnjmkaa
open Go.RowKit Pv

/-- Not too many states? -/
def Few (T : Tr) : Prop := 1 + statesT T ≤ 256
theorem made_r {T : Tr} {d : Nat} (hT : T.Ok d) (hd : d ≤ 16) (hz : T.size ≤ 64) :
    (Few T → leadR T [[]] 0 = ((leadT T [[]] 0).1, ((leadT T [[]] 0).2 : Int)) ∧ (leadT T [[]] 0).1.length = 1 + statesT T) ∧ (¬ Few T → (leadR T [[]] 0).2 < 0 ∨ 256 < (leadR T [[]] 0).1.length) ∧ (leadR T [[]] 0).1.length ≤ 300 ∧ (leadR T [[]] 0).2 < (leadR T [[]] 0).1.length ∧ -1 ≤ (leadR T [[]] 0).2 := by
  have h := leadR_ok T d hT hz [[]] 0 (by omega) (by simp)
  have hl := (leadT_leads T [[]] 0 (by simp)).1
  simp only [List.length_cons, List.length_nil, Nat.zero_add] at hl
  refine ⟨fun hf => ?_, fun hf => ?_, by have := h.len; simp at this; omega, h.lt, h.ge⟩
  · unfold Few at hf
    rcases Int.lt_or_le (leadR T [[]] 0).2 0 with g | g
    · rcases (h.no g).2 with g' | g'
      · omega
      · simp at g'; omega
    · obtain ⟨_, y1, y2⟩ := h.yes g
      exact ⟨Prod.ext y1 y2, hl⟩
  · unfold Few at hf
    rcases Int.lt_or_le (leadR T [[]] 0).2 0 with g | g
    · exact .inl g
    · obtain ⟨_, y1, _⟩ := h.yes g
      refine .inr ?_
      rw [y1]
      simp only [Int.toNat_zero]
      rw [hl]; omega

theorem AuAt.start (w : World) (base : Nat) (h : base ≤ w.heap.size) : AuAt (w.alloc (.cells #[.slice none 0 0] TRow)) base (some ⟨w.heap.size, 0, none⟩) 1 1 [[]] := by
  refine ⟨[.slice none 0 0], ⟨rfl, .inr ⟨w.heap.size, 1, #[.slice none 0 0], rfl, h, Blk.new w TRow #[.slice none 0 0], by omega, by simp only [maxLen]; omega, rfl, rfl⟩⟩, rfl, rfl, fun i es he => ?_, fun i j r r' hij hr hr' => ?_⟩
  · match i with
    | 0 => simp at he; subst he; exact ⟨_, rfl, OwnK.nil⟩
    | i + 1 => simp at he
  · match i, hr with
    | 0, hr => simp at hr; subst hr; exact .inl rfl

/-- What comes of a pattern's automaton. -/
def MadeYes (T : Tr) (base : Nat) (w : World) (e : Ending) (w' : World) : Prop :=
  ∃ A' n' c', e = .returned (.tuple #[.agg #[.slice A' n' c', .int .i64 (leadT T [[]] 0).2], .bool true]) ∧ AuAt w' base A' n' c' (leadT T [[]] 0).1 ∧ Chg TA base w w'

def MadePost (T : Tr) (base : Nat) (w : World) (e : Ending) (w' : World) : Prop :=
  (Few T ∧ MadeYes T base w e w') ∨ (¬ Few T ∧ e = .returned (.tuple #[.agg #[.slice none 0 0, .int .i64 0], .bool false]) ∧ Chg TA base w w')
set_option maxHeartbeats 2000000 in
set_option maxRecDepth 100000 in
theorem ref09_Made (tA : Option Addr) (nt ct : Nat) (t : List Rx) (T : Tr) (w0 w : World) (base : Nat) (hkp : Keep w0 w) (hbs : w0.heap.size ≤ base) (hb : base ≤ w.heap.size) (ht : AtRx w0 tA t) (HT : Hid (t.length = nt)) (hnt : nt ≤ 64) (hT : T.Ok 16) (hfl : t = T.flat) :
    Calls Try.prog 66 #[.slice tA nt ct] w (MadePost T base w) := by
  have hz : T.size ≤ 64 := by show T.flat.length ≤ 64; rw [← hfl, HT.out]; exact hnt
  have MR := Lib.hid (made_r hT (Nat.le_refl _) hz)
  have HLD := Lib.hid (lead_all w0 base 0 tA nt ct t hbs ht HT hnt 16 (Nat.le_refl _) T 0 [] hT hz (by simp [hfl]))
  have hmk : ∀ W : World, (Instr.makeSlice 48 (.int .i64 1) (.int .i64 1)).run Try.prog W = .ok (.slice (some ⟨W.heap.size, 0, none⟩) 1 1) (W.alloc (.cells #[.slice none 0 0] TRow)) := fun _ => by kernel_rfl
  have hWB : Below w.heap.size w (w.alloc (.cells #[.slice none 0 0, .int .i64 0] TAuto)) := (Below.refl _ _).alloc (Nat.le_refl _) _
  have hWB2 : Below w.heap.size w ((w.alloc (.cells #[.slice none 0 0, .int .i64 0] TAuto)).alloc (.cells #[.slice none 0 0] TRow)) := hWB.alloc hWB.size _
  have HC := Lib.hid (HLD.out ((w.alloc (.cells #[.slice none 0 0, .int .i64 0] TAuto)).alloc (.cells #[.slice none 0 0] TRow)) (some ⟨w.heap.size + 1, 0, none⟩) 1 1 [[]] 0 (hkp.trans (Keep.of hWB2)) (Nat.le_trans hb hWB2.size) (by
    have := AuAt.start (w.alloc (.cells #[.slice none 0 0, .int .i64 0] TAuto)) base (Nat.le_trans hb hWB.size)
    rwa [show (w.alloc (.cells #[.slice none 0 0, .int .i64 0] TAuto)).heap.size = w.heap.size + 1 by simp] at this) (by omega) (by omega) (by omega) (by simp [edgesN]))
  have HB2 := Lib.hid hWB2
  have HR0 := Lib.hid ((Blk.new w TAuto #[.slice none 0 0, .int .i64 0]).alloc (.cells #[.slice none 0 0] TRow))
  obtain ⟨r, hr⟩ : ∃ r, leadR T [[]] 0 = r := ⟨_, rfl⟩
  rw [hr] at MR HC
  clear hWB hWB2 ht hr HLD hT hfl hz
  go_enter Try.func66, Try.ntmps66
  go_wp2_with fail
  refine HC.out.mono ?_
  rintro e w5 ⟨A5, c5, rfl, au5, ch5⟩
  have AU := Lib.hid au5
  have CH := Lib.hid ((Chg.of_below (T := TA) (base := base) HB2.out).trans ch5)
  have R5 := Lib.hid (ch5.blk HR0.out TA_auto)
  obtain ⟨v0, v1, v2, v3⟩ := Blk.two R5.out
  have h3 := MR.out.2.2.1
  have hN := R5.out.lt
  clear au5 ch5
  have S20 := fun (u0 u1 : Value) => store2 u0 u1 R5.out AU.out CH.out TA_auto (by decide) hb (Nat.le_refl _)
  have hbz : ∀ (W : World) (o : Obj), Below W.heap.size W (W.alloc o) := fun W o => (Below.refl _ _).alloc (Nat.le_refl _) _
  have no : ∀ (u0 u1 : Value), Chg TA base w (((w5.setCell ⟨w.heap.size, 0, none⟩ (.slice none 0 0)).setCell ⟨w.heap.size, 1, none⟩ (.int .i64 0)).alloc (.cells #[u0, u1] TAuto)) := fun u0 u1 => ((S20 (.slice none 0 0) (.int .i64 0)).2.2.then (hbz _ _))
  have NO := Lib.hid no
  have CR := Lib.hid (fun (u0 u1 : Value) => (S20 (.slice none 0 0) (.int .i64 0)).1.alloc (.cells #[u0, u1] TAuto))
  by_cases hneg : r.2 < 0
  · have HF : Hid (¬ Few T) := Lib.hid fun hf => by
      have h1 := (MR.out.1 hf).1
      rw [h1] at hneg; simp only at hneg; omega
    obtain ⟨z0, z1, _, _⟩ := Blk.two (CR.out (.slice A5 r.1.length c5) (.int .i64 0))
    clear S20 hbz no
    go_wp2
    refine bodyPost_ret (v := .tuple #[.agg #[.slice none 0 0, .int .i64 0], .bool false]) (by simp [results, Try.results66, go_sem, z0, z1]) rfl (.inr ⟨HF.out, rfl, NO.out _ _⟩)
  by_cases hbig : 256 < r.1.length
  · have HF : Hid (¬ Few T) := Lib.hid fun hf => by
      have h1 := MR.out.1 hf
      rw [h1.1] at hbig; simp only at hbig; have := h1.2; unfold Few at hf; omega
    obtain ⟨z0, z1, _, _⟩ := Blk.two (CR.out (.slice A5 r.1.length c5) (.int .i64 0))
    clear S20 hbz no
    go_wp2
    refine bodyPost_ret (v := .tuple #[.agg #[.slice none 0 0, .int .i64 0], .bool false]) (by simp [results, Try.results66, go_sem, z0, z1]) rfl (.inr ⟨HF.out, rfl, NO.out _ _⟩)
  have hf : Few T := by
    by_cases h : Few T
    · exact h
    · rcases MR.out.2.1 h with g | g <;> omega
  have HF := Lib.hid hf
  have HE := Lib.hid (MR.out.1 hf).1
  have S2 := Lib.hid (S20 (.slice A5 r.1.length c5) (.int .i64 r.2))
  have HB := Lib.hid (hbz ((w5.setCell ⟨w.heap.size, 0, none⟩ (.slice A5 r.1.length c5)).setCell ⟨w.heap.size, 1, none⟩ (.int .i64 r.2)) (.cells #[.slice A5 r.1.length c5, .int .i64 r.2] TAuto))
  obtain ⟨z0, z1, _, _⟩ := Blk.two (S2.out.1.alloc (.cells #[.slice A5 r.1.length c5, .int .i64 r.2] TAuto))
  clear S20 hbz no hf
  go_wp2
  refine bodyPost_ret (v := .tuple #[.agg #[.slice A5 r.1.length c5, .int .i64 r.2], .bool true]) (by simp [results, Try.results66, go_sem, z0, z1]) rfl (.inl ⟨HF.out, A5, r.1.length, c5, by rw [HE.out], ?_, S2.out.2.2.then HB.out⟩)
  have h6 := S2.out.2.1.next HB.out
  have h7 : r.1 = (leadT T [[]] 0).1 := by rw [HE.out]
  rw [← h7]
  exact h6

/-- Whether there is an automaton, and which, or the error. -/
def BuildPost (t : List Rx) (w : World) (e : Ending) (w' : World) : Prop :=
  Below w.heap.size w w' ∧ ((¬ Pat t ∧ e = .returned (.tuple #[.agg #[.slice none 0 0, .int .i64 0], .int .i64 8])) ∨
    (Pat t ∧ ∃ T : Tr, T.Ok 16 ∧ t = T.flat ∧ ((¬ Few T ∧ e = .returned (.tuple #[.agg #[.slice none 0 0, .int .i64 0], .int .i64 90])) ∨
      (Few T ∧ ∃ A' n' c', e = .returned (.tuple #[.agg #[.slice A' n' c', .int .i64 (leadT T [[]] 0).2], .int .i64 0]) ∧ AuAt w' w.heap.size A' n' c' (leadT T [[]] 0).1))))

end Go.Proofs.Ytjnjbcigbnjmkaa
