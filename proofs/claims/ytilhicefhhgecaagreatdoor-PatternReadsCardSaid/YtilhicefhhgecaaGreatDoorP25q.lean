/- Walks: the reader's escape by six digits; its contract, whole. PUT1 -/
import Derived.Test.YtilhicefhhgecaaGreatDoorP17q
import Derived.Test.YtilhicefhhgecaaGreatDoorP22q
import Derived.Test.YtilhicefhhgecaaGreatDoorP24q
import Derived.Lib.SmallJoins
namespace Go.Proofs.YtilhicefhhgecaaGreatDoor
open Go.RowKit Pv
theorem trimG (s : ByteArray) (r : Bs) (w : World) (hs : bsl s = r) (h6 : 6 ≤ r.length) :
    Calls Tryz.prog 222 #[.string (s.extract 0 6), .string hexS] w fun e w' => ∃ t : ByteArray, e = .returned (.string t) ∧ t.toList.isEmpty = allH (r.take 6) ∧ Below w.heap.size w w' := by
  have hsz : (s.extract 0 6).size = 6 := by rw [ByteArray.size_extract]; have := bsl_len s; rw [hs] at this; omega
  have hb : bsl (s.extract 0 6) = r.take 6 := by rw [← hs]; simp [bsl, ByteArray.data_extract]
  refine (trim_hex (s.extract 0 6) w (by omega) (by omega)).mono ?_
  rintro e w' ⟨t, rfl, h1, _, h2⟩
  refine ⟨t, rfl, ?_, h2⟩
  rw [← hb, ← h1, Lib.toList_data]
  have h3 : t.data.toList.length = t.size := bsl_len t
  cases h4 : t.data.toList with
  | nil => rw [h4] at h3; simp only [List.length_nil] at h3; rw [← h3]; rfl
  | cons a l => rw [h4] at h3; simp only [List.length_cons] at h3; rw [← h3]; simp
theorem pintG (s : ByteArray) (r : Bs) (w : World) (hs : bsl s = r) (h6 : 6 ≤ r.length) (hx : allH (r.take 6) = true) :
    Calls Tryz.prog 223 #[.string (s.extract 0 6), .int .i64 16, .int .i64 64] w fun e w' => e = .returned (.tuple #[.int .i64 (hexNB (r.take 6)), .nilIface]) ∧ Below w.heap.size w w' := by
  have hsz : (s.extract 0 6).size = 6 := by rw [ByteArray.size_extract]; have := bsl_len s; rw [hs] at this; omega
  have hb : bsl (s.extract 0 6) = r.take 6 := by rw [← hs]; simp [bsl, ByteArray.data_extract]
  refine (pint_hex (s.extract 0 6) hsz (by rw [hb]; exact hx) w).mono ?_
  rintro e w' ⟨rfl, rfl⟩
  exact ⟨by rw [hb], Go.Joins.below_bytesWorld _ w 5 _ (Nat.le_refl _)⟩
set_option maxHeartbeats 1000000 in
set_option maxRecDepth 100000 in
theorem esc_uW (R B : Nat) (l r : Bs) (wd : Bool) (w : World) (h : RdS w R l wd) (ht : takeB [] l = some (117, r)) (hl : l.length ≤ 100000) (hT : TabV B w) (h6 : 6 ≤ r.length) (hx : allH (r.take 6) = true) (hm : hexNB (r.take 6) ≤ 1114111) :
    Calls Tryz.prog 199 #[.pointer (some ⟨R, 0, none⟩)] w (EscP R w (one1 (hexNB (r.take 6))) true (r.drop 6) wd) := by
  have hrl : r.length ≤ 100000 := by have := (takeB_len ht).1; omega
  have HTK := Lib.hid (rd_takeG R B l r 117 wd ⟨#[]⟩ w h ht hl hT)
  have HIX := Lib.hid (fun W => marks_index 117 (by omega) false (by decide) W)
  have HTR := Lib.hid (fun s W hs => trimG s r W hs h6)
  have HPI := Lib.hid (fun s W hs => pintG s r W hs h6 hx)
  have HX := Lib.hid hx
  have HSP := Lib.hid (fun W => rd_span (hexNB (r.take 6)) (hexNB (r.take 6)) W (by omega) (by omega))
  have HR : ∀ s : ByteArray, bsl s = r → bsl (s.extract 6 s.size) = r.drop 6 := fun s hs => by rw [bsl_drop, hs]
  have HR := Lib.hid HR
  have m1 : ((hexNB (r.take 6) : Nat) : Int) ≤ 1114111 := by omega
  generalize hexNB (r.take 6) = m at *
  simp only [Int.cast_ofNat_Int] at HTK HIX
  clear h ht hl hT hx hm
  go_enter Tryz.func199, Tryz.ntmps199
  go_wp2_with fail
  refine HTK.out.mono ?_
  rintro e w1 ⟨rfl, h1, h2⟩
  obtain ⟨s, hs, HB, hlt, p0, p1, f0, f1⟩ := h1.cells
  have H2 := Lib.hid h2
  have hsz : s.size = r.length := by rw [← bsl_len, hs.out]
  have z6 : ¬ (s.size : Int) < 6 := by omega
  have z7 : (6 : Int) ≤ (s.size : Int) := by omega
  clear h1 h2 hsz
  go_wp2_with fail
  refine (HIX.out _).mono ?_
  rintro e w' ⟨z, rfl, hz, rfl⟩
  have hz' := of_decide_eq_false hz
  clear hz
  go_wp2_with fail
  refine (HTR.out s _ hs.out).mono ?_
  rintro e w2 ⟨t, rfl, ht, h2⟩
  rw [HX.out] at ht
  have HB2 := Lib.hid h2
  have HBK := Lib.hid (HB.out.below h2 hlt)
  have q0 : w2.cell? ⟨R, 0, none⟩ = some (.string s) := HBK.out.cell 0
  have hlt2 := HBK.out.lt
  clear h2 p0 p1 f0 f1
  go_wp2_with fail
  refine (HPI.out s _ hs.out).mono ?_
  rintro e w3 ⟨rfl, h3⟩
  have HB3 := Lib.hid (HB2.out.trans (h3.mono HB2.out.size))
  have HBK3 := Lib.hid (HBK.out.below h3 hlt2)
  have r0 : w3.cell? ⟨R, 0, none⟩ = some (.string s) := HBK3.out.cell 0
  have r1 : w3.frozen? ⟨R, 0, none⟩ = false := HBK3.out.frozen 0
  have hlt3 := HBK3.out.lt
  clear h3 q0
  go_wp2_with fail
  refine (HSP.out _).mono ?_
  rintro e w4 ⟨rfl, h4, h5⟩
  have H4 := Lib.hid h4; have H5 := Lib.hid h5
  clear h4 h5
  go_wp2
  go_ret2
  have hB2 := HBK3.out.set 0 (.string (s.extract 6 s.size))
  have h7 := H2.out.size
  have h8 := HB3.out.size
  have h9 := H4.out
  have hz : ∀ v, (w3.setCell ⟨R, 0, none⟩ v).heap.size = w3.heap.size := fun v => by simp [World.setCell]
  rw [hz] at h9
  exact ⟨_, _, _, rfl, OwnK.lower h9 (by omega), ⟨_, HR.out s hs.out, hB2.below H5.out hB2.lt⟩, ((H2.out.then HB3.out).set 0 _).then H5.out⟩
set_option maxHeartbeats 1000000 in
set_option maxRecDepth 100000 in
theorem esc_uN (R B : Nat) (l r : Bs) (wd : Bool) (w : World) (h : RdS w R l wd) (ht : takeB [] l = some (117, r)) (hl : l.length ≤ 100000) (hT : TabV B w) (hm : r.length < 6 ∨ allH (r.take 6) = false ∨ 1114111 < hexNB (r.take 6)) :
    Calls Tryz.prog 199 #[.pointer (some ⟨R, 0, none⟩)] w fun e w' => Stopped e ∧ Only R w w' := by
  have hrl : r.length ≤ 100000 := by have := (takeB_len ht).1; omega
  have HTK := Lib.hid (rd_takeG R B l r 117 wd ⟨#[]⟩ w h ht hl hT)
  have HIX := Lib.hid (fun W => marks_index 117 (by omega) false (by decide) W)
  have HNO := Lib.hid (fun W => rd_no W)
  simp only [Int.cast_ofNat_Int] at HTK HIX
  by_cases h6 : r.length < 6
  · clear h ht hl hT hm
    go_enter Tryz.func199, Tryz.ntmps199
    go_wp2_with fail
    refine HTK.out.mono ?_
    rintro e w1 ⟨rfl, h1, h2⟩
    obtain ⟨s, hs, HB, hlt, p0, p1, f0, f1⟩ := h1.cells
    have H2 := Lib.hid h2
    have hsz : s.size = r.length := by rw [← bsl_len, hs.out]
    have z6 : (s.size : Int) < 6 := by omega
    clear h1 h2 hsz
    go_wp2_with fail
    refine (HIX.out _).mono ?_
    rintro e w' ⟨z, rfl, hz, rfl⟩
    have hz' := of_decide_eq_false hz
    clear hz
    go_wp2_with fail
    refine (HNO.out _).mono ?_
    rintro e w'' ⟨he, rfl⟩
    subst he
    go_wp2
    exact ⟨rfl, rfl, H2.out⟩
  have h6 : 6 ≤ r.length := by omega
  have HTR := Lib.hid (fun s W hs => trimG s r W hs h6)
  by_cases hx : allH (r.take 6) = false
  · have HX := Lib.hid hx
    clear h ht hl hT hm hx
    go_enter Tryz.func199, Tryz.ntmps199
    go_wp2_with fail
    refine HTK.out.mono ?_
    rintro e w1 ⟨rfl, h1, h2⟩
    obtain ⟨s, hs, HB, hlt, p0, p1, f0, f1⟩ := h1.cells
    have H2 := Lib.hid h2
    have hsz : s.size = r.length := by rw [← bsl_len, hs.out]
    have z6 : ¬ (s.size : Int) < 6 := by omega
    have z7 : (6 : Int) ≤ (s.size : Int) := by omega
    clear h1 h2 hsz
    go_wp2_with fail
    refine (HIX.out _).mono ?_
    rintro e w' ⟨z, rfl, hz, rfl⟩
    have hz' := of_decide_eq_false hz
    clear hz
    go_wp2_with fail
    refine (HTR.out s _ hs.out).mono ?_
    rintro e w2 ⟨t, rfl, ht, h2⟩
    rw [HX.out] at ht
    have HB2 := Lib.hid h2
    clear h2
    go_wp2_with fail
    refine (HNO.out _).mono ?_
    rintro e w'' ⟨he, rfl⟩
    subst he
    go_wp2
    exact ⟨rfl, rfl, H2.out.then HB2.out⟩
  have hx : allH (r.take 6) = true := by simpa using hx
  have hm : 1114111 < hexNB (r.take 6) := by rcases hm with h | h | h <;> first | omega | (rw [hx] at h; cases h) | exact h
  have HPI := Lib.hid (fun s W hs => pintG s r W hs h6 hx)
  have HX := Lib.hid hx
  have m1 : 1114111 < ((hexNB (r.take 6) : Nat) : Int) := by omega
  generalize hexNB (r.take 6) = m at *
  clear h ht hl hT hx hm
  go_enter Tryz.func199, Tryz.ntmps199
  go_wp2_with fail
  refine HTK.out.mono ?_
  rintro e w1 ⟨rfl, h1, h2⟩
  obtain ⟨s, hs, HB, hlt, p0, p1, f0, f1⟩ := h1.cells
  have H2 := Lib.hid h2
  have hsz : s.size = r.length := by rw [← bsl_len, hs.out]
  have z6 : ¬ (s.size : Int) < 6 := by omega
  have z7 : (6 : Int) ≤ (s.size : Int) := by omega
  clear h1 h2 hsz
  go_wp2_with fail
  refine (HIX.out _).mono ?_
  rintro e w' ⟨z, rfl, hz, rfl⟩
  have hz' := of_decide_eq_false hz
  clear hz
  go_wp2_with fail
  refine (HTR.out s _ hs.out).mono ?_
  rintro e w2 ⟨t, rfl, ht, h2⟩
  rw [HX.out] at ht
  have HB2 := Lib.hid h2
  have HBK := Lib.hid (HB.out.below h2 hlt)
  have q0 : w2.cell? ⟨R, 0, none⟩ = some (.string s) := HBK.out.cell 0
  have hlt2 := HBK.out.lt
  clear h2 p0 p1 f0 f1
  go_wp2_with fail
  refine (HPI.out s _ hs.out).mono ?_
  rintro e w3 ⟨rfl, h3⟩
  have HB3 := Lib.hid (HB2.out.trans (h3.mono HB2.out.size))
  clear h3 q0
  go_wp2_with fail
  refine (HNO.out _).mono ?_
  rintro e w'' ⟨he, rfl⟩
  subst he
  go_wp2
  exact ⟨rfl, rfl, H2.out.then HB3.out⟩
/-- The contract of escape, whole. -/
theorem esc_ok (R B : Nat) : EscOk R B := by
  constructor
  · intro l r s q wd w hl he hr hT
    unfold escB at he
    cases ht : takeB [] l with
    | none => rw [ht] at he; cases he
    | some p =>
      obtain ⟨c, r1⟩ := p
      rw [ht] at he
      simp only at he
      by_cases hc : c = 117
      · subst hc
        simp only [decide_true, if_true] at he
        split at he
        · cases he
        · rename_i hcond
          simp only [Bool.or_eq_true, decide_eq_true_eq, not_or, Bool.not_eq_true', Bool.not_eq_false] at hcond
          simp only [Option.some.injEq, Prod.mk.injEq] at he
          obtain ⟨rfl, rfl, rfl⟩ := he
          exact esc_uW R B l r1 wd w hr ht hl hT (by omega) hcond.1.2 (by omega)
      · rw [if_neg (by simpa using hc)] at he
        obtain ⟨⟨s1, q1⟩, hs, he⟩ := Option.map_eq_some_iff.1 he
        simp only [Prod.mk.injEq] at he
        obtain ⟨rfl, rfl, rfl⟩ := he
        unfold escS at hs
        split at hs
        · rename_i hm
          simp only [Bool.and_eq_true, decide_eq_true_eq] at hm
          obtain ⟨rfl, rfl⟩ := Prod.mk.inj (Option.some.inj hs)
          exact esc_markW R B l r1 c wd w hr ht hl hT hm.1 hm.2
        · repeat' split at hs
          all_goals first
            | (obtain ⟨rfl, rfl⟩ := Prod.mk.inj (Option.some.inj hs)
               subst c
               first
               | exact esc_nW R B l r1 wd w hr ht hl hT
               | exact esc_rW R B l r1 wd w hr ht hl hT
               | exact esc_tW R B l r1 wd w hr ht hl hT
               | exact esc_dW R B l r1 wd w hr ht hl hT
               | exact esc_wW R B l r1 wd w hr ht hl hT
               | exact esc_sW R B l r1 wd w hr ht hl hT)
            | cases hs
  · intro l wd w hl he hr hT
    unfold escB at he
    cases ht : takeB [] l with
    | none => exact esc_takeN R B l wd w hr ht hl hT
    | some p =>
      obtain ⟨c, r1⟩ := p
      rw [ht] at he
      simp only at he
      by_cases hc : c = 117
      · subst hc
        simp only [decide_true, if_true] at he
        split at he
        · rename_i hcond
          simp only [Bool.or_eq_true, decide_eq_true_eq, Bool.not_eq_true'] at hcond
          refine esc_uN R B l r1 wd w hr ht hl hT ?_
          rcases hcond with (h | h) | h
          · exact .inl h
          · exact .inr (.inl h)
          · exact .inr (.inr h)
        · cases he
      · rw [if_neg (by simpa using hc)] at he
        have hs : escS c = none := by simpa using he
        unfold escS at hs
        split at hs
        · cases hs
        · rename_i hm
          simp only [Bool.and_eq_true, decide_eq_true_eq, not_and, Bool.not_eq_true] at hm
          refine esc_noneW R B l r1 c wd w hr ht hl hT hm ?_
          repeat' split at hs
          all_goals (cases hs <;> exact ⟨by assumption, by assumption, by assumption, by assumption, by assumption, by assumption, hc⟩)
end Go.Proofs.YtilhicefhhgecaaGreatDoor
