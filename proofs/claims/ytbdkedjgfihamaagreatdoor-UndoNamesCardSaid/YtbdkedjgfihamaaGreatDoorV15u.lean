/- Walks: the value at a place. PUT1 -/
import Derived.Test.YtbdkedjgfihamaaGreatDoorV14u
import Derived.Lib.SmallJoins
namespace Go.Proofs.YtbdkedjgfihamaaGreatDoor
open Go.RowKit Pv Go.Maps
set_option maxHeartbeats 2000000 in
set_option maxRecDepth 100000 in
theorem cell_Sub_yes (B : Nat) (A : Option Addr) (c n i : Nat) (v : List Cel) (w : World) (h : AtCel w A v) (HL : Hid (v.length = n)) (hs : CelsB v) (HP : Hid (MayV v)) (hi : i < n) (hc : n ≤ c) (hT : TabS B w) (hB : B ≤ w.heap.size) :
    Calls Tryz.prog 120 #[.slice A n c, .int .i64 i] w fun e w' => ∃ Z m z, e = .returned (.tuple #[.slice Z m z, .int .i64 0]) ∧ OwnC w' w.heap.size (.slice Z m z) (cutV v i) ∧ Below w.heap.size w w' := by
  have HC := Lib.hid (cell_asked_yes B A c n i v w h HL hs HP hi hT hB)
  obtain ⟨b, off, x, rfl, H5, hcb, HX⟩ := AtCel.g5 h HL hi
  have HA : Hid (AtCel w (some ⟨b, off, none⟩) v) := Lib.hid h
  obtain ⟨hb1, hb2, hb3⟩ := HP.out.end_ (show i < v.length by rw [HL.out]; exact hi)
  have HE := Lib.hid (endsC_at HP.out (show i < v.length by rw [HL.out]; exact hi))
  have hfew : v.length ≤ 2048 := HP.out.few
  have HCU := Lib.hid (cutV_eq v i)
  obtain ⟨q, hq⟩ : ∃ q, endV v i = i + q := ⟨endV v i - i, by omega⟩
  rw [hq] at hb2 hb3 HE HCU
  rw [HL.out] at hb3 hfew
  have hqq : i + q - i = q := by omega
  rw [hqq] at HCU
  have HCUT : Hid (∀ W, Keep w W → AtCel W (some ⟨b, off + i * 5, none⟩) ((v.drop i).take q)) := Lib.hid fun W k => AtK.cut (AtK.keep HA.out k) i q
  have HLC : Hid (((v.drop i).take q).length = q) := Lib.hid (by rw [List.length_take, List.length_drop, HL.out]; omega)
  have HEL : Hid ((endsC v).length = n) := Lib.hid (by rw [endsC_len, HL.out])
  have j1 : (i : Int) ≤ ((i + q : Nat) : Int) := by omega
  have j2 : ((i + q : Nat) : Int) ≤ (c : Int) := by omega
  have j3 : (0 : Int) ≤ (i : Int) := by omega
  have j4 : (i : Int) < (n : Int) := by omega
  have hq0 : 0 < q := by omega
  clear h hs hT hb1 hq hqq H5 hcb HX
  go_enter Tryz.func120, Tryz.ntmps120
  go_wp2_with fail
  refine HC.out.mono ?_
  rintro e w1 ⟨eb, rfl, k1, k2⟩
  have K2 := Lib.hid k2
  obtain ⟨b1, o1, u1, zz, hbb, hb4, c1, hz, HZ⟩ := At.gt k1 HEL hi
  obtain ⟨rfl, _⟩ := hz
  injection hbb with hbb
  injection hbb with e1 e2
  subst e1; subst e2
  obtain rfl : zz = ((i + q : Nat) : Int) := by
    have := HZ.out
    rw [HE.out] at this
    exact (Option.some.inj this).symm
  rw [Nat.zero_add] at c1
  have HCL := Lib.hid (clone_cel (some ⟨b, off + i * 5, none⟩) (c - i) q ((v.drop i).take q) w1 (HCUT.out w1 (Keep.of k2)) HLC (by omega))
  clear k1 k2
  go_wp2_with fail
  refine HCL.out.mono ?_
  rintro e w2 ⟨Z, z, rfl, k1, k2⟩
  have KB := Lib.hid (K2.out.trans (k2.mono K2.out.size))
  obtain ⟨hlq, us, ho, hr⟩ := k1.slice
  obtain ⟨g, cap, hv⟩ := Go.Joins.ownsRow_form ho hq0
  injection hv with e1 e2 e3
  subst e1; subst e3
  have hgl := ho.lt g rfl
  have y1 : w2.cell? ⟨g, 1, none⟩ = us[1]? := ho.cellAt 1 (by omega)
  obtain ⟨u1, hu1⟩ : ∃ u, us[1]? = some u := ⟨_, List.getElem?_eq_getElem (by have := hr.1; omega)⟩
  rw [hu1] at y1
  have y2 : w2.frozen? ⟨g, 1, none⟩ = false := ho.frozenAt 1
  have y3 : (0 : Int) < (q : Int) := by omega
  obtain ⟨t1, t2⟩ := own_bare k1
  have T1 := Lib.hid (OwnK.lower t1 K2.out.size)
  have hgg : w.heap.size ≤ g := Nat.le_trans K2.out.size hgl.1
  have T2 := Lib.hid (KB.out.grown t2 KB.out.size (fun k hk => by obtain rfl := Option.some.inj hk; exact hgg))
  have yl := hgl.2
  clear k1 k2 ho hr t1 t2 hu1 hgl
  go_wp2
  go_ret2
  rw [HCU.out]
  exact ⟨_, _, _, rfl, T1.out, T2.out⟩
end Go.Proofs.YtbdkedjgfihamaaGreatDoor
