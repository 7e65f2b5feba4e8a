/- Walks: the program's Build of an automaton. -/
import Derived.Test.YtjnjbcigbnjmkaaBn
namespace Go.Proofs.Ytjnjbcigbnjmkaa
open Go.RowKit Pv

/-- What the program's Build leaves. -/
def PBuild (t : List Rx) (w : World) (e : Ending) (w' : World) : Prop :=
  Below w.heap.size w w' ∧ ((¬ Pat t ∧ e = .returned (.tuple #[.agg #[.slice none 0 0, .int .i64 0], .int .i64 8])) ∨ (Pat t ∧ ∃ T : Tr, T.Ok 16 ∧ t = T.flat ∧
    ((¬ Few T ∧ e = .returned (.tuple #[.agg #[.slice none 0 0, .int .i64 0], .int .i64 90])) ∨ (Few T ∧ ∃ A' n' c', e = .returned (.tuple #[.agg #[.slice A' n' c', .int .i64 (leadT T [[]] 0).2], .int .i64 0]) ∧ AuQ w' w.heap.size A' n' c' (leadT T [[]] 0).1))))
theorem AuQ.nil (w : World) (base : Nat) : AuQ w base none 0 0 [] := ⟨[], World.ownsRow_nil _ _ _ _, rfl, rfl, fun i es h => by simp at h, fun i j r r' _ h => by simp at h⟩
theorem TB_auto : ∀ e, e ∈ TB → e ≠ TAuto := by decide
theorem ends_rel {t : List Rx} (h : t.length ≤ 64) : Rel RI ((endsL t).map (Value.int .i64)) (endsL t) := ⟨by simp, fun i u x hu hx => by
  rw [List.getElem?_map, hx] at hu
  obtain rfl := Option.some.inj hu
  have hi : i < t.length := by have := lt_of_get hx; simpa [endsL] using this
  simp only [endsL, List.getElem?_map, List.getElem?_range hi, Option.map_some, Option.some.injEq] at hx
  subst hx
  refine ⟨rfl, ?_⟩
  cases hb : behind t 16 i with
  | none => rw [bR_none]; omega
  | some e => rw [bR_some]; have := behind_lt hb; omega⟩
/-- The maker, its ends under way. -/
structure PE (w wr : World) (pm : Nat) (tA : Option Addr) (nt ct : Nat) (EA : Option Addr) (k ec : Nat) (l : List Int) : Prop where
  be : Below w.heap.size w wr
  r : Blk wr w.heap.size TAuto #[.slice none 0 0, .int .i64 0]
  b : Blk wr pm TMk #[.slice none 0 0, .int .i64 0, .slice tA nt ct, .slice EA k ec]
  oe : wr.ownsRow (pm + 1) TInt 1 (.slice EA k ec) k (l.map (Value.int .i64))
section
variable {w wr w' : World} {pm nt ct k ec : Nat} {tA EA : Option Addr} {l : List Int}
theorem PE.next (h : PE w wr pm tA nt ct EA k ec l) (hb : Below wr.heap.size wr w') : PE w w' pm tA nt ct EA k ec l := ⟨h.be.trans (hb.mono h.be.size), h.r.below hb h.r.lt, h.b.below hb h.b.lt, ownsRow_below h.oe hb⟩
theorem PE.push {EA' : Option Addr} {ec' : Nat} {z : Int} (h : PE w wr pm tA nt ct EA k ec l) (hp : w.heap.size ≤ pm) (g : wr.grownBy w' (Value.slice EA k ec).ownBlock) (own : w'.ownsRow (pm + 1) TInt 1 (.slice EA' (k + 1) ec') (k + 1) (l.map (Value.int .i64) ++ [.int .i64 z])) :
    PE w (w'.setCell ⟨pm, 3, none⟩ (.slice EA' (k + 1) ec')) pm tA nt ct EA' (k + 1) ec' (l ++ [z]) := by
  have hb := h.b.grown g (own_blk_ne h.oe h.b (by decide))
  refine ⟨(h.be.grown g h.be.size (fun q hq => by have := (h.oe.lt q hq).1; omega)).setCell hp _, ?_, hb.set 3 _, ownsRow_setFar (by simpa using own) hb (by decide) 3 _⟩
  have hr := h.r.grown g (own_blk_ne h.oe h.r (by decide))
  exact hr.far (fun e => hr.ne hb (by decide) e) _
end

set_option maxHeartbeats 4000000 in
set_option maxRecDepth 100000 in
theorem auto_Build (tA : Option Addr) (nt ct : Nat) (t : List Rx) (w : World) (ht : AtRx w tA t) (HT : Hid (t.length = nt)) :
    Calls Try.prog 24 #[.slice tA nt ct] w (PBuild t w) := by
  obtain ⟨i0, hi0, hz0, hs0, hb0⟩ := info_parts info_int
  have hWB : Below w.heap.size w (w.alloc (.cells #[.slice none 0 0, .int .i64 0] TAuto)) := (Below.refl _ _).alloc (Nat.le_refl _) _
  have HC := Lib.hid (pattern_Check tA ct nt t _ (AtRx.keep ht (Keep.of hWB)) HT)
  have HW := Lib.hid hWB
  have HR0 := Lib.hid (Blk.new w TAuto #[.slice none 0 0, .int .i64 0])
  by_cases hp : Pat t
  case neg =>
    have HN := Lib.hid hp
    rw [patE_no hp] at HC
    clear hp ht hWB
    go_enter Try.func24, Try.ntmps24
    go_wp2_with fail
    refine HC.out.mono ?_
    rintro e w1 ⟨rfl, hb1⟩
    have R1 := Lib.hid (HR0.out.below hb1 (by simp))
    have hN := R1.out.lt
    have B1 := Lib.hid (HW.out.trans (hb1.mono HW.out.size))
    obtain ⟨v0, v1, v2, v3⟩ := Blk.two R1.out
    obtain ⟨z0, z1, _, _⟩ := Blk.two ((R1.out.set 0 (.slice none 0 0)).set 1 (.int .i64 0))
    clear hb1
    go_wp2
    refine bodyPost_ret (v := .tuple #[.agg #[.slice none 0 0, .int .i64 0], .int .i64 8]) (by simp [results, Try.results24, go_sem, z0, z1]) rfl ⟨(B1.out.setCell (Nat.le_refl _) _).setCell (Nat.le_refl _) _, .inl ⟨HN.out, rfl⟩⟩
  have hnt : nt ≤ 64 := by have := hp.2.1; rwa [HT.out] at this
  obtain ⟨T, hT, hfl⟩ := hp.tree
  rw [patE_yes hp] at HC
  have HTT := Lib.hid hT; have HFL := Lib.hid hfl; have HPT := Lib.hid hp
  have HPE := Lib.hid (fun (W : World) (kp : Keep w W) (i : Nat) (hi : i < nt) => pattern_End_yes tA ct nt i t W (AtRx.keep ht kp) HT (Lib.hid hp) hi)
  have HAT := Lib.hid ht
  have HGET := Lib.hid (fun i (hi : i < nt) => (show (endsL t)[i]? = some (bR (behind t 16 i)) by simp [endsL, HT.out, hi]))
  have HLE : Hid ((endsL t).length = nt) := Lib.hid (by simp [endsL, HT.out])
  clear hp ht hWB hT hfl
  go_enter Try.func24, Try.ntmps24
  go_wp2_with fail
  refine HC.out.mono ?_
  rintro e w1 ⟨rfl, hb1⟩
  have R1 := Lib.hid (HR0.out.below hb1 (by simp))
  have B1 := Lib.hid (HW.out.trans (hb1.mono HW.out.size))
  have hM : Below w1.heap.size w1 (w1.alloc (.cells #[.slice none 0 0, .int .i64 0, .slice tA nt ct, .slice none 0 0] TMk)) := (Below.refl _ _).alloc (Nat.le_refl _) _
  have P0 : Hid (PE w (w1.alloc (.cells #[.slice none 0 0, .int .i64 0, .slice tA nt ct, .slice none 0 0] TMk)) w1.heap.size tA nt ct none 0 0 []) := Lib.hid ⟨B1.out.trans (hM.mono B1.out.size), R1.out.below hM R1.out.lt, Blk.new _ _ _, World.ownsRow_nil _ _ _ _⟩
  have hp1 : w.heap.size ≤ w1.heap.size := B1.out.size
  clear hb1 hM
  go_wp2
  go_loopw [20] (fun iv wr => ∃ (k : Nat) (EA : Option Addr) (ec : Nat), iv = .int .i64 k ∧ k ≤ nt ∧ PE w wr w1.heap.size tA nt ct EA k ec ((endsL t).take k)) (fun iv _ => nt - (intOf iv).toNat)
  case atStart => exact ⟨0, none, 0, rfl, by omega, by simpa using P0.out⟩
  case round =>
    obtain ⟨k, EA, ec, rfl, hk, hpe⟩ := hrel
    have PP := Lib.hid hpe
    clear hpe
    by_cases hlt : k < nt
    · have HE1 := Lib.hid (HPE.out wr (Keep.of PP.out.be) k hlt)
      have HTK := Lib.hid (take_snoc (HGET.out k hlt))
      go_wp2_with fail
      refine HE1.out.mono ?_
      rintro e w2 ⟨rfl, hb2⟩
      have P2 := PP.out.next hb2
      have hal : Below w2.heap.size w2 (w2.alloc (.cells #[.int .i64 (bR (behind t 16 k))] TInt)) := (Below.refl _ _).alloc (Nat.le_refl _) _
      have PB := Lib.hid (P2.next hal)
      generalize bR (behind t 16 k) = z at *
      have SRC := Lib.hid (Src.one (w := w2) (x := .int .i64 z) (t := TInt) rfl)
      have Q1 : Hid (k + 1 ≤ maxLen) := Lib.hid (by simp only [maxLen]; omega)
      have Q2 : Hid ((k + 1) * 8 ≤ 140737488355328) := Lib.hid (by omega)
      have Q3 : Hid (w1.heap.size + 1 ≤ (w2.alloc (.cells #[.int .i64 z] TInt)).heap.size) := Lib.hid (by have := P2.b.lt; simp; omega)
      have m3 := PB.out.b.cell 3
      have m30 := P2.b.cell 3
      clear hb2 hal P2 PP
      go_wp2_with (at_builtin
                   go_must (refine wpList_append_src _ rfl (.tmp 33) (.tmp 35) 22 rfl (w1.heap.size + 1) TInt i0 (.int .i64 0) 1 8 Try.underlying22 hi0 hz0 hs0 hb0 rfl (by decide) EA ec k _ rfl PB.out.oe _ 1 1 _ rfl SRC.out Q1.out Q2.out Q3.out ?_)
                   intro A8 c8 w8 own8 gr8 _
                   have P8 := Lib.hid (PB.out.push hp1 gr8 own8)
                   have b8 := PB.out.b.grown gr8 (own_blk_ne PB.out.oe PB.out.b (by decide))
                   have f8 := b8.frozen 3
                   have c8' := b8.cell 3
                   clear gr8 own8 b8 m3 m30)
      go_roundw
      case rel => exact ⟨k + 1, A8, c8, by go_num, by omega, by rw [HTK.out]; exact P8.out⟩
      case measure => simp [intOf]; omega
    have hkn : k = nt := by omega
    subst hkn
    rw [List.take_of_length_le (by rw [HLE.out]; exact Nat.le_refl _)] at PP
    have HMN := Lib.hid (maker_many wr w1.heap.size tA EA k ct ec t T HTT.out HFL.out HT hnt PP.out.b.lt (PP.out.b.cell 2) (PP.out.b.cell 3) (AtRx.keep HAT.out (Keep.of PP.out.be)) (At.of_own PP.out.oe (ends_rel (by rw [HT.out]; exact hnt)) (by rw [HLE.out]; omega)).2.2)
    have hct := countT_eq T 16 HTT.out
    have hc256 : countT T ≤ 256 := by omega
    have HCT := Lib.hid hct
    clear hct
    by_cases hf : Few T
    · have hle : ¬ (256 : Int) < ((1 + countT T : Nat) : Int) := by have := HCT.out; unfold Few at hf; omega
      have HF := Lib.hid hf
      clear hf
      go_wp2_with fail
      refine HMN.out.mono ?_
      rintro e w3 ⟨rfl, hb3⟩
      have P3 := Lib.hid (PP.out.next hb3)
      have MK3 : Hid (MkAt w3 w.heap.size w1.heap.size none 0 0 0 (.slice tA k ct) (.slice EA k ec) []) := Lib.hid ⟨P3.out.b, AuQ.nil _ _, hp1⟩
      have HST := Lib.hid (maker_state none 0 0 w.heap.size w1.heap.size 0 _ _ [] w3 MK3.out P3.out.be.size (by omega))
      clear hb3
      go_wp2_with fail
      refine HST.out.mono ?_
      rintro e w4 ⟨A4, c4, rfl, mk4, ch4⟩
      have R4 := Lib.hid (ch4.blk P3.out.r TB_auto)
      have E4 : Hid (MkE w w4 w.heap.size w1.heap.size (w1.heap.size + 1) 0 tA EA k ct ec t A4 1 c4 [[]]) := Lib.hid ⟨mk4, ch4.keep (Keep.of P3.out.be) (Nat.le_refl _) P3.out.be.size, ownsRow_chg P3.out.oe ch4 TB_int, Nat.le_trans P3.out.be.size ch4.size⟩
      have HL := Lib.hid (maker_lead_all w w.heap.size w1.heap.size (w1.heap.size + 1) 0 tA EA k ct ec t (Nat.le_refl _) HAT.out HT hnt 16 (Nat.le_refl _) T 0 [] HTT.out (by show T.flat.length ≤ 64; rw [← HFL.out, HT.out]; exact hnt) (by simp [HFL.out]) w4 A4 1 c4 [[]] 0 E4.out (by omega) HF.out (by simp [edgesN]))
      have CH4 := Lib.hid ch4
      obtain ⟨r, hr⟩ : ∃ r, leadT T [[]] 0 = r := ⟨_, rfl⟩
      rw [hr] at HL
      have HR := Lib.hid hr
      clear mk4 ch4 hr
      go_wp2_with fail
      refine HL.out.mono ?_
      rintro e w5 ⟨A5, c5, rfl, mk5, ch5⟩
      have B5 := Lib.hid mk5.ma.b
      have R5 := Lib.hid (ch5.blk R4.out TB_auto)
      have AU5 := mk5.ma.au
      have B5s := B5.out.set 1 (.int .i64 r.2)
      have AU6 := AU5.setFar (i := 1) (u := .int .i64 r.2) B5.out TA_mk (by decide) hp1
      have R6 := R5.out.far (p := ⟨w1.heap.size, 1, none⟩) (fun e => R5.out.ne B5.out (by decide) e) (.int .i64 r.2)
      have BE := (P3.out.be.trans ((CH4.out.trans ch5).below P3.out.be.size)).setCell (p := ⟨w1.heap.size, 1, none⟩) hp1 (.int .i64 r.2)
      have AU7 := (AU6.setFar (i := 0) (u := .slice A5 r.1.length c5) R6 TA_auto (by decide) (Nat.le_refl _)).setFar (i := 1) (u := .int .i64 r.2) (R6.set 0 _) TA_auto (by decide) (Nat.le_refl _)
      have FIN := Lib.hid (And.intro AU7 ((BE.setCell (p := ⟨w.heap.size, 0, none⟩) (Nat.le_refl _) (.slice A5 r.1.length c5)).setCell (p := ⟨w.heap.size, 1, none⟩) (Nat.le_refl _) (.int .i64 r.2)))
      have B5S := Lib.hid B5s; have R6S := Lib.hid R6
      have p1 := B5.out.cell 1
      have p1f := B5.out.frozen 1
      have s0 := B5s.cell 0
      have s1 := B5s.cell 1
      obtain ⟨r0, r1, r2, r3⟩ := Blk.two R6
      obtain ⟨z0, z1, _, _⟩ := Blk.two ((R6.set 0 (.slice A5 r.1.length c5)).set 1 (.int .i64 r.2))
      clear mk5 ch5 AU5 B5s AU6 R6 BE AU7
      go_wp2
      refine bodyPost_ret (v := .tuple #[.agg #[.slice A5 r.1.length c5, .int .i64 r.2], .int .i64 0]) (by simp [results, Try.results24, go_sem, z0, z1]) rfl ⟨FIN.out.2, .inr ⟨HPT.out, T, HTT.out, HFL.out, .inr ⟨HF.out, A5, r.1.length, c5, by rw [HR.out], by rw [HR.out]; exact FIN.out.1⟩⟩⟩
    · have hle : (256 : Int) < ((1 + countT T : Nat) : Int) := by have := HCT.out; unfold Few at hf; omega
      have HF := Lib.hid hf
      clear hf
      go_wp2_with fail
      refine HMN.out.mono ?_
      rintro e w3 ⟨rfl, hb3⟩
      have P3 := Lib.hid (PP.out.next hb3)
      obtain ⟨v0, v1, v2, v3⟩ := Blk.two P3.out.r
      obtain ⟨z0, z1, _, _⟩ := Blk.two ((P3.out.r.set 0 (.slice none 0 0)).set 1 (.int .i64 0))
      clear hb3
      go_wp2
      refine bodyPost_ret (v := .tuple #[.agg #[.slice none 0 0, .int .i64 0], .int .i64 90]) (by simp [results, Try.results24, go_sem, z0, z1]) rfl ⟨(P3.out.be.setCell (Nat.le_refl _) _).setCell (Nat.le_refl _) _, .inr ⟨HPT.out, T, HTT.out, HFL.out, .inl ⟨HF.out, rfl⟩⟩⟩

end Go.Proofs.Ytjnjbcigbnjmkaa
