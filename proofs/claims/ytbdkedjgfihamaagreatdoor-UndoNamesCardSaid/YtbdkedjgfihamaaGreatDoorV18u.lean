/- Walks: names in order. PUT1 -/
import Derived.Test.YtbdkedjgfihamaaGreatDoorV16u
import Derived.Laws.Cover1
namespace Pv
open Go Go.RowKit
/-- Names that rise. -/
def RiseS (l : List ByteArray) : Prop := l.Pairwise fun a b => ltS a b = true
instance (l : List ByteArray) : Decidable (RiseS l) := inferInstanceAs (Decidable (l.Pairwise _))
theorem riseS_snoc {l : List ByteArray} {q : Nat} {x y : ByteArray} (h : RiseS (l.take (q + 1))) (hy : l[q]? = some y) (hx : l[q + 1]? = some x) (hlt : ltS y x = true) : RiseS (l.take (q + 2)) := by
  have e : l.take (q + 2) = l.take (q + 1) ++ [x] := take_snoc hx
  rw [e]
  refine List.pairwise_append.2 ⟨h, by simp, fun z hz u hu => ?_⟩
  obtain rfl := List.mem_singleton.1 hu
  have e2 : l.take (q + 1) = l.take q ++ [y] := take_snoc hy
  rw [e2] at h hz
  rcases List.mem_append.1 hz with hz | hz
  · exact ltS_trans ((List.pairwise_append.1 h).2.2 z hz y (by simp)) hlt
  · obtain rfl := List.mem_singleton.1 hz
    exact hlt
theorem riseS_no {l : List ByteArray} {q : Nat} {x y : ByteArray} (hy : l[q]? = some y) (hx : l[q + 1]? = some x) (hlt : ltS y x = false) : ¬ RiseS l := by
  intro h
  have h1 := List.pairwise_iff_getElem.1 h q (q + 1) (lt_of_get hy) (lt_of_get hx) (by omega)
  have e1 : l[q]'(lt_of_get hy) = y := by have := hy; rw [List.getElem?_eq_getElem (lt_of_get hy)] at this; exact Option.some.inj this
  have e2 : l[q + 1]'(lt_of_get hx) = x := by have := hx; rw [List.getElem?_eq_getElem (lt_of_get hx)] at this; exact Option.some.inj this
  rw [e1, e2, hlt] at h1
  cases h1
def riseE (l : List ByteArray) : Int := if RiseS l then 0 else 8
theorem riseE_yes {l : List ByteArray} (h : RiseS l) : riseE l = 0 := if_pos h
theorem riseE_no {l : List ByteArray} (h : ¬ RiseS l) : riseE l = 8 := if_neg h
end Pv
namespace Go.Proofs.YtbdkedjgfihamaaGreatDoor
open Go.RowKit Pv Go.Maps
set_option maxHeartbeats 2000000 in
set_option maxRecDepth 100000 in
theorem order_Check (A : Option Addr) (c n : Nat) (l : List ByteArray) (w : World) (h : At w A RStr l) (HL : Hid (l.length = n)) (hn : n ≤ 4096) :
    Calls Tryz.prog 123 #[.slice A n c] w fun e w' => e = .returned (.int .i64 (riseE l)) ∧ Below w.heap.size w w' := by
  have HA := Lib.hid h
  clear h
  go_enter Tryz.func123, Tryz.ntmps123
  go_wp2
  go_loopw [9] (fun i wr => ∃ q : Nat, i = .int .i64 q ∧ q ≤ n ∧ Hid (Below w.heap.size w wr) ∧ Hid (RiseS (l.take q))) (fun i _ => n - (intOf i).toNat)
  case atStart => exact ⟨0, rfl, by omega, Lib.hid (Below.refl _ _), Lib.hid (by unfold RiseS; simp)⟩
  case round =>
    obtain ⟨q, rfl, hq, HBE, HE⟩ := hrel
    by_cases hlt : q < n
    · obtain ⟨b1, o1, u1, x, rfl, hb1, c1, hx, HX⟩ := At.gt (At.keep HA.out (Keep.of HBE.out)) HL hlt
      obtain ⟨rfl, _⟩ := hx
      have i1 : (0 : Int) ≤ (q : Int) := by omega
      have i2 : (q : Int) < (n : Int) := by omega
      cases q with
      | zero =>
        go_wp2
        go_quiet (fail)
        go_wp2
        go_roundw
        case rel => exact ⟨0 + 1, by go_num, by omega, Lib.hid (below_drewN HBE.out _), Lib.hid (by rw [take_snoc HX.out]; unfold RiseS; simp)⟩
        case measure => simp [intOf]; omega
      | succ q =>
        obtain ⟨b2, o2, u2, y, hbb, hb2, c2, hy, HY⟩ := At.gt (At.keep HA.out (Keep.of HBE.out)) HL (show q < n by omega)
        obtain ⟨rfl, _⟩ := hy
        injection hbb with hbb
        injection hbb with e1 e2
        subst e1; subst e2
        have i3 : (0 : Int) < ((q + 1 : Nat) : Int) := by omega
        have i4 : ((q + 1 : Nat) : Int) - 1 = (q : Int) := by omega
        have i5 : (q : Int) < (n : Int) := by omega
        cases ht : ltS y x with
        | true =>
          have HT := Lib.hid ht
          have t1 : Op.bytesLess y.toList x.toList = true := ht
          clear ht
          go_wp2
          go_quiet (fail)
          go_wp2
          go_roundw
          case rel => exact ⟨q + 1 + 1, by go_num, by omega, Lib.hid (below_drewN HBE.out _), Lib.hid (riseS_snoc HE.out HY.out HX.out HT.out)⟩
          case measure => simp [intOf]; omega
        | false =>
          have HN := Lib.hid (riseS_no HY.out HX.out ht)
          have t1 : Op.bytesLess y.toList x.toList = false := ht
          clear ht
          go_wp2
          go_quiet (fail)
          go_wp2
          go_ret
          exact ⟨ret_int ((riseE_no HN.out).symm), below_drewN HBE.out _⟩
    · have : q = n := by omega
      subst this
      have HY := Lib.hid (show RiseS l by have := HE.out; rwa [List.take_of_length_le (by rw [HL.out]; omega)] at this)
      go_wp2
      go_ret
      exact ⟨ret_int ((riseE_yes HY.out).symm), HBE.out⟩
end Go.Proofs.YtbdkedjgfihamaaGreatDoor

namespace Pv
open Go Go.RowKit
theorem askV_lt {v : List Cel} {nm : ByteArray} {a : Nat} (h : askV v nm = some a) : MayV v ∧ a < v.length := by
  unfold askV at h
  by_cases hm : mayV v = true
  · rw [if_pos hm] at h
    have hp := (mayV_iff v).1 hm
    refine ⟨hp, ?_⟩
    unfold memV at h
    split at h
    · exact underV_in hp hp.pos (List.mem_of_find?_eq_some h)
    · cases h
  · rw [if_neg hm] at h; cases h
theorem oneR_may {r : Rec} (h : mayV r.data = false) : oneR r = false := by unfold oneR; rw [h]; rfl
theorem oneR_var {r : Rec} (h : hasVar r.data = true) : oneR r = false := by unfold oneR; rw [h]; simp
theorem oneR_none {r : Rec} (h : askV r.data sId = none) : oneR r = false := by unfold oneR; rw [h]; simp
theorem oneR_some {r : Rec} {a : Nat} {x : Cel} (h : mayV r.data = true) (hv : hasVar r.data = false) (ha : askV r.data sId = some a) (hx : r.data[a]? = some x) : oneR r = (decide (x.kind = 3) && decide (x.text = r.id)) := by unfold oneR; rw [h, hv, ha]; simp only [hx]; rfl
end Pv
namespace Go.Proofs.YtbdkedjgfihamaaGreatDoor
open Go.RowKit Pv Go.Maps
set_option maxHeartbeats 1000000 in
set_option maxRecDepth 100000 in
theorem var_test (x : Cel) (w : World) : Calls Tryz.prog 92 #[.agg #[.int .u8 x.kind, .string x.name, .string x.text, .int .i64 x.int, .int .i64 x.many]] w fun e w' => e = .returned (.bool (decide (x.kind = 5))) ∧ Below w.heap.size w w' := by
  obtain ⟨k, nm, tx, z, y⟩ := x
  have HB := Lib.hid ((Below.refl w.heap.size w).alloc (Nat.le_refl _) (.cells #[.int .u8 k, .string nm, .string tx, .int .i64 z, .int .i64 y] TCe))
  by_cases h5 : k = 5
  · subst h5
    go_enter Tryz.func92, Tryz.ntmps92
    go_wp2
    go_ret
    exact ⟨rfl, HB.out⟩
  · have e1 : (k == 5) = false := by simpa using h5
    have HN := Lib.hid (decide_eq_false h5)
    dsimp only
    rw [HN.out]
    clear h5
    go_enter Tryz.func92, Tryz.ntmps92
    go_wp2
    go_ret
    exact ⟨rfl, HB.out⟩
/-- What IndexFunc at cells tells. -/
def VarP (v : List Cel) (e : Ending) : Prop := (e = .returned (.int .i64 (-1)) ∧ hasVar v = false) ∨ ∃ i : Nat, e = .returned (.int .i64 i) ∧ hasVar v = true
set_option maxHeartbeats 2000000 in
set_option maxRecDepth 100000 in
theorem idx_var (A : Option Addr) (c n : Nat) (v : List Cel) (w : World) (h : AtCel w A v) (HL : Hid (v.length = n)) (hn : n ≤ 100000) :
    Calls Tryz.prog 115 #[.slice A n c, .func (.func 92) #[] #[]] w fun e w' => VarP v e ∧ Below w.heap.size w w' := by
  have HA : Hid (AtCel w A v) := Lib.hid h
  clear h
  go_enter Tryz.func115, Tryz.ntmps115
  go_wp2
  go_loopw [8] (fun iv W => ∃ i : Nat, iv = .int .i64 i ∧ i ≤ n ∧ Hid (Below w.heap.size w W) ∧ Hid (∀ x, x ∈ v.take i → ¬ x.kind = 5)) (fun iv _ => n - (intOf iv).toNat)
  case atStart => exact ⟨0, rfl, by omega, Lib.hid (Below.refl _ _), Lib.hid (by simp)⟩
  case round =>
    obtain ⟨i, rfl, hi, HB, HNO⟩ := hrel
    by_cases hlt : i < n
    · obtain ⟨b1, o1, x, rfl, ⟨lb1, c0, c1, c2, c3, c4⟩, _, HX⟩ := AtCel.g5 (AtK.keep HA.out (Keep.of HB.out)) HL hlt
      have HT := Lib.hid (var_test x wr)
      have i1 : (i : Int) < (n : Int) := by omega
      have i2 : (0 : Int) ≤ (i : Int) := by omega
      cases hk : decide (x.kind = 5) with
      | true =>
        rw [hk] at HT
        have HV := Lib.hid (show hasVar v = true by unfold hasVar; exact List.any_eq_true.2 ⟨x, mem_of_get HX.out, hk⟩)
        clear hk
        go_wp2_with fail
        refine HT.out.mono ?_
        rintro e w1 ⟨rfl, k⟩
        have HB1 := Lib.hid (HB.out.trans (k.mono HB.out.size))
        clear k
        go_wp2
        go_ret
        exact ⟨.inr ⟨i, rfl, HV.out⟩, HB1.out⟩
      | false =>
        rw [hk] at HT
        have HK := Lib.hid (of_decide_eq_false hk)
        clear hk
        go_wp2_with fail
        refine HT.out.mono ?_
        rintro e w1 ⟨rfl, k⟩
        have HB1 := Lib.hid (HB.out.trans (k.mono HB.out.size))
        clear k
        go_wp2
        go_roundw
        case rel =>
          refine ⟨i + 1, by go_num, by omega, HB1, Lib.hid fun z hz => ?_⟩
          rw [take_snoc HX.out] at hz
          rcases List.mem_append.1 hz with hz | hz
          · exact HNO.out z hz
          · obtain rfl := List.mem_singleton.1 hz
            exact HK.out
        case measure => simp [intOf]; omega
    · have HV := Lib.hid (show hasVar v = false by
        have h1 := HNO.out
        rw [List.take_of_length_le (by rw [HL.out]; omega)] at h1
        unfold hasVar
        exact List.any_eq_false.2 fun x hx => by simpa using h1 x hx)
      have i1 : ¬ (i : Int) < (n : Int) := by omega
      go_wp2
      go_ret
      exact ⟨.inl ⟨rfl, HV.out⟩, HB.out⟩
set_option maxHeartbeats 1000000 in
set_option maxRecDepth 100000 in
theorem has_var (A : Option Addr) (c n : Nat) (v : List Cel) (w : World) (h : AtCel w A v) (HL : Hid (v.length = n)) (hn : n ≤ 100000) :
    Calls Tryz.prog 91 #[.slice A n c, .func (.func 92) #[] #[]] w fun e w' => e = .returned (.bool (hasVar v)) ∧ Below w.heap.size w w' := by
  have HC := Lib.hid (idx_var A c n v w h HL hn)
  clear h
  go_enter Tryz.func91, Tryz.ntmps91
  go_wp2_with fail
  refine HC.out.mono ?_
  rintro e w1 ⟨hv, k⟩
  have K := Lib.hid k
  clear k
  rcases hv with ⟨rfl, hv⟩ | ⟨i, rfl, hv⟩
  · have HV := Lib.hid hv
    clear hv
    go_wp2
    go_ret
    exact ⟨ret_bool HV.out.symm, K.out⟩
  · have HV := Lib.hid hv
    have i1 : (0 : Int) ≤ (i : Int) := by omega
    clear hv
    go_wp2
    go_ret
    exact ⟨ret_bool HV.out.symm, K.out⟩
end Go.Proofs.YtbdkedjgfihamaaGreatDoor
