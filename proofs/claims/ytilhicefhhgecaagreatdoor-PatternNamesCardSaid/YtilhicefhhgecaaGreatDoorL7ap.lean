/- Walks: the reader's escape by six digits; its contract, whole. PUT1 -/
import Derived.Test.YtilhicefhhgecaaGreatDoorP20p
import Derived.Test.YtilhicefhhgecaaGreatDoorP22p
import Derived.Test.YtilhicefhhgecaaGreatDoorP24p
import Derived.Lib.SmallJoins
import Derived.Test.YtilhicefhhgecaaGreatDoorP21p
namespace Go.Proofs.YtilhicefhhgecaaGreatDoor
open Go.RowKit Pv
theorem trimG (s : ByteArray) (r : Bs) (w : World) (hs : bsl s = r) (h6 : 6 ≤ r.length) :
    Calls Tryz.prog 222 #[.string (s.extract 0 6), .string hexS] w fun e w' => ∃ t : ByteArray, e = .returned (.string t) ∧ t.toList.isEmpty = allH (r.take 6) ∧ Below w.heap.size w w' := by
  have hsz : (s.extract 0 6).size = 6 := by rw [ByteArray.size_extract]; have := bsl_len s; rw [hs] at this; omega
  have hb : bsl (s.extract 0 6) = r.take 6 := by rw [← hs]; simp [bsl, ByteArray.data_extract]
  refine (trim_hex (s.extract 0 6) w (by omega) (by omega)).mono ?_
  rintro e w' ⟨t, rfl, h1, _, h2⟩
  refine ⟨t, rfl, ?_, h2⟩
  rw [← hb, ← h1, Lib.toList_data]
  have h3 : t.data.toList.length = t.size := bsl_len t
  cases h4 : t.data.toList with
  | nil => rw [h4] at h3; simp only [List.length_nil] at h3; rw [← h3]; rfl
  | cons a l => rw [h4] at h3; simp only [List.length_cons] at h3; rw [← h3]; simp
theorem pintG (s : ByteArray) (r : Bs) (w : World) (hs : bsl s = r) (h6 : 6 ≤ r.length) (hx : allH (r.take 6) = true) :
    Calls Tryz.prog 223 #[.string (s.extract 0 6), .int .i64 16, .int .i64 64] w fun e w' => e = .returned (.tuple #[.int .i64 (hexNB (r.take 6)), .nilIface]) ∧ Below w.heap.size w w' := by
  have hsz : (s.extract 0 6).size = 6 := by rw [ByteArray.size_extract]; have := bsl_len s; rw [hs] at this; omega
  have hb : bsl (s.extract 0 6) = r.take 6 := by rw [← hs]; simp [bsl, ByteArray.data_extract]
  refine (pint_hex (s.extract 0 6) hsz (by rw [hb]; exact hx) w).mono ?_
  rintro e w' ⟨rfl, rfl⟩
  exact ⟨by rw [hb], Go.Joins.below_bytesWorld _ w 5 _ (Nat.le_refl _)⟩
set_option maxHeartbeats 1000000 in
set_option maxRecDepth 100000 in
theorem esc_uW (R B : Nat) (l r : Bs) (wd : Bool) (w : World) (h : RdS w R l wd) (ht : takeB [] l = some (117, r)) (hl : l.length ≤ 100000) (hT : TabV B w) (h6 : 6 ≤ r.length) (hx : allH (r.take 6) = true) (hm : hexNB (r.take 6) ≤ 1114111) :
    Calls Tryz.prog 199 #[.pointer (some ⟨R, 0, none⟩)] w (EscP R w (one1 (hexNB (r.take 6))) true (r.drop 6) wd) := by
  have hrl : r.length ≤ 100000 := by have := (takeB_len ht).1; omega
  have HTK := Lib.hid (rd_takeG R B l r 117 wd ⟨#[]⟩ w h ht hl hT)
  have HIX := Lib.hid (fun W => marks_index 117 (by omega) false (by decide) W)
  have HTR := Lib.hid (fun s W hs => trimG s r W hs h6)
  have HPI := Lib.hid (fun s W hs => pintG s r W hs h6 hx)
  have HX := Lib.hid hx
  have HSP := Lib.hid (fun W => rd_span (hexNB (r.take 6)) (hexNB (r.take 6)) W (by omega) (by omega))
  have HR : ∀ s : ByteArray, bsl s = r → bsl (s.extract 6 s.size) = r.drop 6 := fun s hs => by rw [bsl_drop, hs]
  have HR := Lib.hid HR
  have m1 : ((hexNB (r.take 6) : Nat) : Int) ≤ 1114111 := by omega
  generalize hexNB (r.take 6) = m at *
  simp only [Int.cast_ofNat_Int] at HTK HIX
  clear h ht hl hT hx hm
  go_enter Tryz.func199, Tryz.ntmps199
  go_wp2_with fail
  refine HTK.out.mono ?_
  rintro e w1 ⟨rfl, h1, h2⟩
  obtain ⟨s, hs, HB, hlt, p0, p1, f0, f1⟩ := h1.cells
  have H2 := Lib.hid h2
  have hsz : s.size = r.length := by rw [← bsl_len, hs.out]
  have z6 : ¬ (s.size : Int) < 6 := by omega
  have z7 : (6 : Int) ≤ (s.size : Int) := by omega
  clear h1 h2 hsz
  go_wp2_with fail
  refine (HIX.out _).mono ?_
  rintro e w' ⟨z, rfl, hz, rfl⟩
  have hz' := of_decide_eq_false hz
  clear hz
  go_wp2_with fail
  refine (HTR.out s _ hs.out).mono ?_
  rintro e w2 ⟨t, rfl, ht, h2⟩
  rw [HX.out] at ht
  have HB2 := Lib.hid h2
  have HBK := Lib.hid (HB.out.below h2 hlt)
  have q0 : w2.cell? ⟨R, 0, none⟩ = some (.string s) := HBK.out.cell 0
  have hlt2 := HBK.out.lt
  clear h2 p0 p1 f0 f1
  go_wp2_with fail
  refine (HPI.out s _ hs.out).mono ?_
  rintro e w3 ⟨rfl, h3⟩
  have HB3 := Lib.hid (HB2.out.trans (h3.mono HB2.out.size))
  have HBK3 := Lib.hid (HBK.out.below h3 hlt2)
  have r0 : w3.cell? ⟨R, 0, none⟩ = some (.string s) := HBK3.out.cell 0
  have r1 : w3.frozen? ⟨R, 0, none⟩ = false := HBK3.out.frozen 0
  have hlt3 := HBK3.out.lt
  clear h3 q0
  go_wp2_with fail
  refine (HSP.out _).mono ?_
  rintro e w4 ⟨rfl, h4, h5⟩
  have H4 := Lib.hid h4; have H5 := Lib.hid h5
  clear h4 h5
  go_wp2
  go_ret2
  have hB2 := HBK3.out.set 0 (.string (s.extract 6 s.size))
  have h7 := H2.out.size
  have h8 := HB3.out.size
  have h9 := H4.out
  have hz : ∀ v, (w3.setCell ⟨R, 0, none⟩ v).heap.size = w3.heap.size := fun v => by simp [World.setCell]
  rw [hz] at h9
  exact ⟨_, _, _, rfl, OwnK.lower h9 (by omega), ⟨_, HR.out s hs.out, hB2.below H5.out hB2.lt⟩, ((H2.out.then HB3.out).set 0 _).then H5.out⟩
set_option maxHeartbeats 1000000 in
set_option maxRecDepth 100000 in
theorem esc_uN (R B : Nat) (l r : Bs) (wd : Bool) (w : World) (h : RdS w R l wd) (ht : takeB [] l = some (117, r)) (hl : l.length ≤ 100000) (hT : TabV B w) (hm : r.length < 6 ∨ allH (r.take 6) = false ∨ 1114111 < hexNB (r.take 6)) :
    Calls Tryz.prog 199 #[.pointer (some ⟨R, 0, none⟩)] w fun e w' => Stopped e ∧ Only R w w' := by
  have hrl : r.length ≤ 100000 := by have := (takeB_len ht).1; omega
  have HTK := Lib.hid (rd_takeG R B l r 117 wd ⟨#[]⟩ w h ht hl hT)
  have HIX := Lib.hid (fun W => marks_index 117 (by omega) false (by decide) W)
  have HNO := Lib.hid (fun W => rd_no W)
  simp only [Int.cast_ofNat_Int] at HTK HIX
  by_cases h6 : r.length < 6
  · clear h ht hl hT hm
    go_enter Tryz.func199, Tryz.ntmps199
    go_wp2_with fail
    refine HTK.out.mono ?_
    rintro e w1 ⟨rfl, h1, h2⟩
    obtain ⟨s, hs, HB, hlt, p0, p1, f0, f1⟩ := h1.cells
    have H2 := Lib.hid h2
    have hsz : s.size = r.length := by rw [← bsl_len, hs.out]
    have z6 : (s.size : Int) < 6 := by omega
    clear h1 h2 hsz
    go_wp2_with fail
    refine (HIX.out _).mono ?_
    rintro e w' ⟨z, rfl, hz, rfl⟩
    have hz' := of_decide_eq_false hz
    clear hz
    go_wp2_with fail
    refine (HNO.out _).mono ?_
    rintro e w'' ⟨he, rfl⟩
    subst he
    go_wp2
    exact ⟨rfl, rfl, H2.out⟩
  have h6 : 6 ≤ r.length := by omega
  have HTR := Lib.hid (fun s W hs => trimG s r W hs h6)
  by_cases hx : allH (r.take 6) = false
  · have HX := Lib.hid hx
    clear h ht hl hT hm hx
    go_enter Tryz.func199, Tryz.ntmps199
    go_wp2_with fail
    refine HTK.out.mono ?_
    rintro e w1 ⟨rfl, h1, h2⟩
    obtain ⟨s, hs, HB, hlt, p0, p1, f0, f1⟩ := h1.cells
    have H2 := Lib.hid h2
    have hsz : s.size = r.length := by rw [← bsl_len, hs.out]
    have z6 : ¬ (s.size : Int) < 6 := by omega
    have z7 : (6 : Int) ≤ (s.size : Int) := by omega
    clear h1 h2 hsz
    go_wp2_with fail
    refine (HIX.out _).mono ?_
    rintro e w' ⟨z, rfl, hz, rfl⟩
    have hz' := of_decide_eq_false hz
    clear hz
    go_wp2_with fail
    refine (HTR.out s _ hs.out).mono ?_
    rintro e w2 ⟨t, rfl, ht, h2⟩
    rw [HX.out] at ht
    have HB2 := Lib.hid h2
    clear h2
    go_wp2_with fail
    refine (HNO.out _).mono ?_
    rintro e w'' ⟨he, rfl⟩
    subst he
    go_wp2
    exact ⟨rfl, rfl, H2.out.then HB2.out⟩
  have hx : allH (r.take 6) = true := by simpa using hx
  have hm : 1114111 < hexNB (r.take 6) := by rcases hm with h | h | h <;> first | omega | (rw [hx] at h; cases h) | exact h
  have HPI := Lib.hid (fun s W hs => pintG s r W hs h6 hx)
  have HX := Lib.hid hx
  have m1 : 1114111 < ((hexNB (r.take 6) : Nat) : Int) := by omega
  generalize hexNB (r.take 6) = m at *
  clear h ht hl hT hx hm
  go_enter Tryz.func199, Tryz.ntmps199
  go_wp2_with fail
  refine HTK.out.mono ?_
  rintro e w1 ⟨rfl, h1, h2⟩
  obtain ⟨s, hs, HB, hlt, p0, p1, f0, f1⟩ := h1.cells
  have H2 := Lib.hid h2
  have hsz : s.size = r.length := by rw [← bsl_len, hs.out]
  have z6 : ¬ (s.size : Int) < 6 := by omega
  have z7 : (6 : Int) ≤ (s.size : Int) := by omega
  clear h1 h2 hsz
  go_wp2_with fail
  refine (HIX.out _).mono ?_
  rintro e w' ⟨z, rfl, hz, rfl⟩
  have hz' := of_decide_eq_false hz
  clear hz
  go_wp2_with fail
  refine (HTR.out s _ hs.out).mono ?_
  rintro e w2 ⟨t, rfl, ht, h2⟩
  rw [HX.out] at ht
  have HB2 := Lib.hid h2
  have HBK := Lib.hid (HB.out.below h2 hlt)
  have q0 : w2.cell? ⟨R, 0, none⟩ = some (.string s) := HBK.out.cell 0
  have hlt2 := HBK.out.lt
  clear h2 p0 p1 f0 f1
  go_wp2_with fail
  refine (HPI.out s _ hs.out).mono ?_
  rintro e w3 ⟨rfl, h3⟩
  have HB3 := Lib.hid (HB2.out.trans (h3.mono HB2.out.size))
  clear h3 q0
  go_wp2_with fail
  refine (HNO.out _).mono ?_
  rintro e w'' ⟨he, rfl⟩
  subst he
  go_wp2
  exact ⟨rfl, rfl, H2.out.then HB3.out⟩
/-- The contract of escape, whole. -/
theorem esc_ok (R B : Nat) : EscOk R B := by
  constructor
  · intro l r s q wd w hl he hr hT
    unfold escB at he
    cases ht : takeB [] l with
    | none => rw [ht] at he; cases he
    | some p =>
      obtain ⟨c, r1⟩ := p
      rw [ht] at he
      simp only at he
      by_cases hc : c = 117
      · subst hc
        simp only [decide_true, if_true] at he
        split at he
        · cases he
        · rename_i hcond
          simp only [Bool.or_eq_true, decide_eq_true_eq, not_or, Bool.not_eq_true', Bool.not_eq_false] at hcond
          simp only [Option.some.injEq, Prod.mk.injEq] at he
          obtain ⟨rfl, rfl, rfl⟩ := he
          exact esc_uW R B l r1 wd w hr ht hl hT (by omega) hcond.1.2 (by omega)
      · rw [if_neg (by simpa using hc)] at he
        obtain ⟨⟨s1, q1⟩, hs, he⟩ := Option.map_eq_some_iff.1 he
        simp only [Prod.mk.injEq] at he
        obtain ⟨rfl, rfl, rfl⟩ := he
        unfold escS at hs
        split at hs
        · rename_i hm
          simp only [Bool.and_eq_true, decide_eq_true_eq] at hm
          obtain ⟨rfl, rfl⟩ := Prod.mk.inj (Option.some.inj hs)
          exact esc_markW R B l r1 c wd w hr ht hl hT hm.1 hm.2
        · repeat' split at hs
          all_goals first
            | (obtain ⟨rfl, rfl⟩ := Prod.mk.inj (Option.some.inj hs)
               subst c
               first
               | exact esc_nW R B l r1 wd w hr ht hl hT
               | exact esc_rW R B l r1 wd w hr ht hl hT
               | exact esc_tW R B l r1 wd w hr ht hl hT
               | exact esc_dW R B l r1 wd w hr ht hl hT
               | exact esc_wW R B l r1 wd w hr ht hl hT
               | exact esc_sW R B l r1 wd w hr ht hl hT)
            | cases hs
  · intro l wd w hl he hr hT
    unfold escB at he
    cases ht : takeB [] l with
    | none => exact esc_takeN R B l wd w hr ht hl hT
    | some p =>
      obtain ⟨c, r1⟩ := p
      rw [ht] at he
      simp only at he
      by_cases hc : c = 117
      · subst hc
        simp only [decide_true, if_true] at he
        split at he
        · rename_i hcond
          simp only [Bool.or_eq_true, decide_eq_true_eq, Bool.not_eq_true'] at hcond
          refine esc_uN R B l r1 wd w hr ht hl hT ?_
          rcases hcond with (h | h) | h
          · exact .inl h
          · exact .inr (.inl h)
          · exact .inr (.inr h)
        · cases he
      · rw [if_neg (by simpa using hc)] at he
        have hs : escS c = none := by simpa using he
        unfold escS at hs
        split at hs
        · cases hs
        · rename_i hm
          simp only [Bool.and_eq_true, decide_eq_true_eq, not_and, Bool.not_eq_true] at hm
          refine esc_noneW R B l r1 c wd w hr ht hl hT hm ?_
          repeat' split at hs
          all_goals (cases hs <;> exact ⟨by assumption, by assumption, by assumption, by assumption, by assumption, by assumption, hc⟩)
end Go.Proofs.YtilhicefhhgecaaGreatDoor

namespace Go.Proofs.YtilhicefhhgecaaGreatDoor
open Go.RowKit Pv
/-- What a set by numbers leaves. -/
def SetP (w : World) (l : List Rng) (e : Ending) (w' : World) : Prop := ∃ A c n, e = .returned (.agg #[.int .u8 1, .slice A n c, .int .i64 0, .int .i64 0, .int .i64 0]) ∧ OwnSet w' w.heap.size (.slice A n c) l ∧ Below w.heap.size w w'
set_option maxHeartbeats 4000000 in
set_option maxRecDepth 100000 in
theorem law7_set (A : Option Addr) (c m : Nat) (l : List Rng) (w : World) (h : AtSet w A l) (HL : Hid (l.length = m)) (hm : m ≤ 1000) :
    Calls Tryz.prog 32 #[.slice A (m * 2 : Nat) c] w (SetP w l) := by
  obtain ⟨i0, hi0, hz0, hs0, hb0⟩ := info_parts info_range
  have HA := Lib.hid h
  clear h
  go_enter Tryz.func32, Tryz.ntmps32
  go_wp2
  go_loopw [4] (fun iv W => ∃ (k rc : Nat) (R : Option Addr), iv = .int .i64 ((k * 2 : Nat) : Int) ∧ k ≤ m ∧ Hid (Blk W (w.heap.size + 1) TRx #[.int .u8 1, .slice R k rc, .int .i64 0, .int .i64 0, .int .i64 0]) ∧ Hid (Blk W w.heap.size TRx #[.int .u8 0, .slice none 0 0, .int .i64 0, .int .i64 0, .int .i64 0]) ∧ Hid (OwnSet W w.heap.size (.slice R k rc) (l.take k)) ∧ Hid (Below w.heap.size w W)) (fun iv _ => m - (intOf iv).toNat / 2)
  case atStart =>
    exact ⟨0, 0, none, rfl, by omega, Lib.hid (blk_new2 w TRx TRx _ _), Lib.hid ((Blk.new w TRx _).alloc _), Lib.hid OwnK.nil, Lib.hid (((Below.refl _ _).alloc (Nat.le_refl _) _).alloc (by simp) _)⟩
  case round =>
    obtain ⟨k, rc, R, rfl, hk, HX, HZ, HO, HW⟩ := hrel
    have hW := HW.out.size
    have hlt0 := HX.out.lt
    by_cases hlt : k < m
    · obtain ⟨g, off, lo, hi', rfl, hg0, d0, d1, hb1, hb2, HXI⟩ := AtSet.gt HA.out HL hlt
      have hg : g < wr.heap.size := Nat.lt_of_lt_of_le hg0 hW
      have c0 := ((Keep.of HW.out).cell g _ hg0).trans d0
      have c1 := ((Keep.of HW.out).cell g _ hg0).trans d1
      obtain ⟨us, HOA, HRL, HQL⟩ := set_split HO.out
      have HOA := Lib.hid ((ownsRow_below HOA.out ((Below.refl _ wr).drew)).alloc (.cells #[.int .i64 lo, .int .i64 hi'] TRg))
      have Q1 : Hid (k + 1 ≤ maxLen) := Lib.hid (by simp only [maxLen]; omega)
      have Q2 : Hid ((k + 1) * 16 ≤ 140737488355328) := Lib.hid (by omega)
      obtain ⟨p, hp⟩ : ∃ p, k * 2 = p := ⟨_, rfl⟩
      obtain ⟨q, hq⟩ : ∃ q, m * 2 = q := ⟨_, rfl⟩
      have hp2 : p + 2 = (k + 1) * 2 := by omega
      rw [hp] at c0 c1 d0 d1
      have HD := Lib.hid (And.intro d0 d1)
      clear d0 d1
      have t1 : (p : Int) + 1 < (q : Int) := by omega
      have t2 : (p : Int) < (q : Int) := by omega
      have t3 : (0 : Int) ≤ (p : Int) + 1 := by omega
      have e1 : IntKind.i64.wrap ((p : Int) + 1) = (p : Int) + 1 := by rw [IntKind.wrap_i64]; omega
      have e2 : ((p : Int) + 1).toNat = p + 1 := by omega
      have HQ := Lib.hid hq; have HP := Lib.hid hp; have HP2 := Lib.hid hp2
      rw [hq, hp]
      clear hq hp hp2
      obtain ⟨x0, x1, x2, x3, x4⟩ := Blk.five HX.out
      go_wp2
      refine wp_region_T 15 (fun W => W.cell? ⟨w.heap.size + 1, 1, none⟩ = some (.slice R k rc) ∧ W.cell? ⟨g, off + p, none⟩ = some (.int .i64 lo) ∧ W.cell? ⟨g, off + (p + 1), none⟩ = some (.int .i64 hi')) (by kernel_rfl) ?_
      have HS : Hid (wr.drew.cell? ⟨w.heap.size + 1, 1, none⟩ = some (.slice R k rc) ∧ wr.drew.cell? ⟨g, off + p, none⟩ = some (.int .i64 lo) ∧ wr.drew.cell? ⟨g, off + (p + 1), none⟩ = some (.int .i64 hi')) := Lib.hid ⟨x1, c0, c1⟩
      have HX9 := Lib.hid (Blk.alloc (Blk.below HX.out (Below.refl _ wr).drew hlt0) (.cells #[.int .i64 lo, .int .i64 hi'] TRg))
      have HZ9 := Lib.hid (Blk.alloc (Blk.below HZ.out (Below.refl _ wr).drew HZ.out.lt) (.cells #[.int .i64 lo, .int .i64 hi'] TRg))
      have HW9 := Lib.hid ((HW.out.drew).alloc (by simpa using hW) (.cells #[.int .i64 lo, .int .i64 hi'] TRg))
      have hg9 : (wr.drew.alloc (.cells #[.int .i64 lo, .int .i64 hi'] TRg)).cell? ⟨g, off + p, none⟩ = some (.int .i64 lo) := ((Keep.alloc wr.drew _).cell g (off + p) (by simpa using hg)).trans HS.out.2.1
      have HS9 : Hid ((wr.drew.alloc (.cells #[.int .i64 lo, .int .i64 hi'] TRg)).cell? ⟨w.heap.size + 1, 1, none⟩ = some (.slice R k rc) ∧ (wr.drew.alloc (.cells #[.int .i64 lo, .int .i64 hi'] TRg)).cell? ⟨g, off + p, none⟩ = some (.int .i64 lo) ∧ (wr.drew.alloc (.cells #[.int .i64 lo, .int .i64 hi'] TRg)).cell? ⟨g, off + (p + 1), none⟩ = some (.int .i64 hi')) := Lib.hid ⟨HX9.out.cell 1, hg9, ((Keep.alloc wr.drew _).cell g (off + (p + 1)) (by simpa using hg)).trans HS.out.2.2⟩
      have HSR := Lib.hid (src_rng (w := wr.drew) (x := .int .i64 lo) (y := .int .i64 hi') (t := TRg) rfl rfl)
      have Q3 : Hid (w.heap.size ≤ (wr.drew.alloc (.cells #[.int .i64 lo, .int .i64 hi'] TRg)).heap.size) := Lib.hid (by simp; omega)
      clear x0 x1 x2 x3 x4 c0 c1 hg9
      refine wpAnyT_take (i := 0) (v := ?_) rfl (by kernel_rfl) (by kernel_rfl) (by kernel_rfl) (by kernel_rfl) (by kernel_rfl) (fun _ _ _ h => h) (.inl ⟨rfl, ?_⟩) HS.out ?_
      rotate_left
      · intro W__ hW__
        obtain ⟨h1, h2, h3⟩ := hW__
        go_simp
        (try with_reducible rfl)
      try simp only [Act.put]
      refine wpAnyT_take (i := 1) (v := ?_) rfl (by kernel_rfl) (by kernel_rfl) (by kernel_rfl) (by kernel_rfl) (by kernel_rfl) (fun _ _ _ h => h) (.inl ⟨rfl, ?_⟩) HS.out ?_
      rotate_left
      · intro W__ hW__
        obtain ⟨h1, h2, h3⟩ := hW__
        go_simp
        (try with_reducible rfl)
      try simp only [Act.put]
      refine wpAnyT_take (i := 2) (v := ?_) rfl (by kernel_rfl) (by kernel_rfl) (by kernel_rfl) (by kernel_rfl) (by kernel_rfl) (fun _ _ _ h => h) (.inl ⟨rfl, ?_⟩) HS.out ?_
      rotate_left
      · intro W__ hW__
        obtain ⟨h1, h2, h3⟩ := hW__
        go_simp
        (try with_reducible rfl)
      try simp only [Act.put]
      refine wpAnyT_take (i := 3) (v := ?_) rfl (by kernel_rfl) (by kernel_rfl) (by kernel_rfl) (by kernel_rfl) (by kernel_rfl) (fun _ _ _ h => h) (.inl ⟨rfl, ?_⟩) HS.out ?_
      rotate_left
      · intro W__ hW__
        obtain ⟨h1, h2, h3⟩ := hW__
        go_simp
        (try with_reducible rfl)
      try simp only [Act.put]
      refine wpAnyT_take (i := 4) (v := ?_) rfl (by kernel_rfl) (by kernel_rfl) (by kernel_rfl) (by kernel_rfl) (by kernel_rfl) (fun _ _ _ h => h) (.inl ⟨rfl, ?_⟩) HS.out ?_
      rotate_left
      · intro W__ hW__
        obtain ⟨h1, h2, h3⟩ := hW__
        go_simp
        (try with_reducible rfl)
      try simp only [Act.put]
      refine wpAnyT_take (i := 5) (v := ?_) rfl (by kernel_rfl) (by kernel_rfl) (by kernel_rfl) (by kernel_rfl) (by kernel_rfl) (fun _ _ _ h => h) (.inl ⟨rfl, ?_⟩) HS.out ?_
      rotate_left
      · intro W__ hW__
        obtain ⟨h1, h2, h3⟩ := hW__
        go_simp
        (try with_reducible rfl)
      try simp only [Act.put]
      refine wpAnyT_take (i := 6) (v := ?_) rfl (by kernel_rfl) (by kernel_rfl) (by kernel_rfl) (by kernel_rfl) (by kernel_rfl) (fun _ _ _ h => h) (.inl ⟨rfl, ?_⟩) HS.out ?_
      rotate_left
      · intro W__ hW__
        obtain ⟨h1, h2, h3⟩ := hW__
        go_simp
        (try with_reducible rfl)
      try simp only [Act.put]
      refine wpAnyT_take (i := 7) (v := ?_) rfl (by kernel_rfl) (by kernel_rfl) (by kernel_rfl) (by kernel_rfl) (by kernel_rfl) (fun _ _ _ h => h) (.inl ⟨rfl, ?_⟩) HS.out ?_
      rotate_left
      · intro W__ hW__
        obtain ⟨h1, h2, h3⟩ := hW__
        go_simp
        (try with_reducible rfl)
      try simp only [Act.put]
      refine wpAnyT_take (i := 8) (v := ?_) rfl (by kernel_rfl) (by kernel_rfl) (by kernel_rfl) (by kernel_rfl) (by kernel_rfl) (fun _ _ _ h => h) (.inl ⟨rfl, ?_⟩) HS.out ?_
      rotate_left
      · intro W__ hW__
        obtain ⟨h1, h2, h3⟩ := hW__
        go_simp
        (try with_reducible rfl)
      try simp only [Act.put]
      refine wpAnyT_take (i := 9) (v := ?_) rfl (by kernel_rfl) (by kernel_rfl) (by kernel_rfl) (by kernel_rfl) (by kernel_rfl) (fun _ _ _ h => h) (.inl ⟨rfl, ?_⟩) HS.out ?_
      rotate_left
      · intro W__ hW__
        obtain ⟨h1, h2, h3⟩ := hW__
        go_simp
        (try with_reducible rfl)
      try simp only [Act.put]
      refine wpAnyT_take (i := 10) (v := ?_) rfl (by kernel_rfl) (by kernel_rfl) (by kernel_rfl) (by kernel_rfl) (by kernel_rfl) (fun _ _ _ h => h) (.inl ⟨rfl, ?_⟩) HS.out ?_
      rotate_left
      · intro W__ hW__
        obtain ⟨h1, h2, h3⟩ := hW__
        go_simp
        (try with_reducible rfl)
      try simp only [Act.put]
      refine wpAnyT_take (i := 11) (v := ?_) rfl (by kernel_rfl) (by kernel_rfl) (by kernel_rfl) (by kernel_rfl) (by kernel_rfl) (fun _ _ _ h => h) (.inl ⟨rfl, ?_⟩) HS.out ?_
      rotate_left
      · intro W__ hW__
        obtain ⟨h1, h2, h3⟩ := hW__
        go_simp
        (try with_reducible rfl)
      try simp only [Act.put]
      refine wpAnyT_one (i := 12) rfl (by kernel_rfl) rfl fun K__ hK__ => ?_
      unfold Oper.wp
      go_simp
      refine hK__ _ _ (HS9.out) ?_
      clear hK__
      refine wpAnyT_one (i := 13) rfl (by kernel_rfl) rfl fun K hK => ?_
      refine wp_append_src _ (.tmp 14) (.tmp 25) 50 rfl w.heap.size TRg i0 (.agg #[.int .i64 0, .int .i64 0]) 2 16 Tryz.underlying50 hi0 hz0 hs0 hb0 rfl (by decide) R rc k us (by simp [Act.eval]) HOA.out _ 1 1 _ (by simp [Act.eval]) HSR.out Q1.out Q2.out Q3.out ?_
      intro A9 c9 w9 own9 gr9 _
      have KX := Lib.hid (HX9.out.grown (w' := w9) gr9 (own_blk_ne HOA.out HX9.out (by decide)))
      have KZ := Lib.hid (HZ9.out.grown (w' := w9) gr9 (own_blk_ne HOA.out HZ9.out (by decide)))
      have KO := Lib.hid (set_push ⟨HRL.out, hb1, hb2⟩ HQL.out own9)
      have KW := Lib.hid (HW9.out.grown gr9 Q3.out (fun k hk => (HOA.out.lt k hk).1))
      have x1 := KX.out.cell 1
      have f1 := KX.out.frozen 1
      have HSS : Hid (w9.cell? ⟨w.heap.size + 1, 1, none⟩ = some (.slice R k rc) ∧ w9.cell? ⟨g, off + p, none⟩ = some (.int .i64 lo) ∧ w9.cell? ⟨g, off + (p + 1), none⟩ = some (.int .i64 hi')) := Lib.hid ⟨x1, ((Keep.of KW.out).cell g _ hg0).trans HD.out.1, ((Keep.of KW.out).cell g _ hg0).trans HD.out.2⟩
      refine hK _ _ HSS.out ?_
      clear gr9 own9 hK
      simp only [Act.put, List.setIfInBounds_toArray]
      refine wpAnyT_take (i := 14) (v := ?_) rfl (by kernel_rfl) (by kernel_rfl) (by kernel_rfl) (by kernel_rfl) (by kernel_rfl) (fun _ _ _ h => h) (.inl ⟨rfl, ?_⟩) HSS.out ?_
      rotate_left
      · intro W__ hW__
        obtain ⟨h1, h2, h3⟩ := hW__
        go_simp
        (try with_reducible rfl)
      try simp only [Act.put]
      refine wpAnyT_end (i := 15) rfl (by kernel_rfl) rfl (by kernel_rfl) fun K__ hK__ => ?_
      unfold Oper.wp
      go_simp
      refine hK__ _ _ ?_
      clear hK__
      refine wpAnyT_done (by kernel_rfl) ?_ _
      have KX2 := Lib.hid (KX.out.set 1 (.slice A9 (k + 1) c9))
      have KZ2 := Lib.hid (KZ.out.far (p := ⟨w.heap.size + 1, 1, none⟩) (by simp) (.slice A9 (k + 1) c9))
      have KO2 := Lib.hid (KO.out.setFar KX.out (by decide) 1 (.slice A9 (k + 1) c9))
      have KW2 := Lib.hid (KW.out.setCell (p := ⟨w.heap.size + 1, 1, none⟩) (by simp) (.slice A9 (k + 1) c9))
      have hp3 : (p : Int) + 2 = ((k + 1) * 2 : Nat) := by have := HP2.out; omega
      have HT : Hid (l.take (k + 1) = l.take k ++ [⟨lo, hi'⟩]) := Lib.hid (take_snoc HXI.out)
      clear x1 f1 KX KZ KO KW
      generalize w9.setCell ⟨w.heap.size + 1, 1, none⟩ (.slice A9 (k + 1) c9) = W5 at *
      go_wp2
      refine ⟨⟨k + 1, c9, A9, by first | rfl | (congr 1; omega), by omega, KX2, KZ2, Lib.hid (by rw [HT.out]; exact KO2.out), KW2⟩, ?_⟩
      have := HP.out
      simp only [intOf]
      omega
    · obtain rfl : k = m := by omega
      have t1 : ¬ ((k * 2 : Nat) : Int) + 1 < ((k * 2 : Nat) : Int) := by omega
      obtain ⟨x0, x1, x2, x3, x4⟩ := Blk.five HX.out
      obtain ⟨z0, z1, z2, z3, z4⟩ := Blk.five HZ.out
      have f0 := HZ.out.frozen 0
      have f1 := HZ.out.frozen 1
      have f2 := HZ.out.frozen 2
      have f3 := HZ.out.frozen 3
      have f4 := HZ.out.frozen 4
      go_wp2
      have KZ2 := Lib.hid (((((HZ.out.set 0 (.int .u8 1)).set 1 (.slice R k rc)).set 2 (.int .i64 0)).set 3 (.int .i64 0)).set 4 (.int .i64 0))
      have KO2 := Lib.hid (((((HO.out.setFar HZ.out (by decide) 0 (.int .u8 1)).setFar (HZ.out.set 0 (.int .u8 1)) (by decide) 1 (.slice R k rc)).setFar ((HZ.out.set 0 (.int .u8 1)).set 1 (.slice R k rc)) (by decide) 2 (.int .i64 0)).setFar (((HZ.out.set 0 (.int .u8 1)).set 1 (.slice R k rc)).set 2 (.int .i64 0)) (by decide) 3 (.int .i64 0)).setFar ((((HZ.out.set 0 (.int .u8 1)).set 1 (.slice R k rc)).set 2 (.int .i64 0)).set 3 (.int .i64 0)) (by decide) 4 (.int .i64 0))
      have KW2 := Lib.hid (((((HW.out.setCell (p := ⟨w.heap.size, 0, none⟩) (Nat.le_refl _) (.int .u8 1)).setCell (p := ⟨w.heap.size, 1, none⟩) (Nat.le_refl _) (.slice R k rc)).setCell (p := ⟨w.heap.size, 2, none⟩) (Nat.le_refl _) (.int .i64 0)).setCell (p := ⟨w.heap.size, 3, none⟩) (Nat.le_refl _) (.int .i64 0)).setCell (p := ⟨w.heap.size, 4, none⟩) (Nat.le_refl _) (.int .i64 0))
      have HT : Hid (l.take k = l) := Lib.hid (List.take_of_length_le (by rw [HL.out]; exact Nat.le_refl _))
      generalize ((((wr.setCell ⟨w.heap.size, 0, none⟩ (.int .u8 1)).setCell ⟨w.heap.size, 1, none⟩ (.slice R k rc)).setCell ⟨w.heap.size, 2, none⟩ (.int .i64 0)).setCell ⟨w.heap.size, 3, none⟩ (.int .i64 0)).setCell ⟨w.heap.size, 4, none⟩ (.int .i64 0) = W5 at *
      obtain ⟨y0, y1, y2, y3, y4⟩ := Blk.five KZ2.out
      have HF : Hid (SetP w l (.returned (.agg #[.int .u8 1, .slice R k rc, .int .i64 0, .int .i64 0, .int .i64 0])) W5) := Lib.hid ⟨R, rc, k, rfl, by rw [← HT.out]; exact KO2.out, KW2.out⟩
      refine bodyPost_ret (v := .agg #[.int .u8 1, .slice R k rc, .int .i64 0, .int .i64 0, .int .i64 0]) ?_ rfl HF.out
      simp [results, Tryz.results32, go_sem, y0, y1, y2, y3, y4]
end Go.Proofs.YtilhicefhhgecaaGreatDoor
