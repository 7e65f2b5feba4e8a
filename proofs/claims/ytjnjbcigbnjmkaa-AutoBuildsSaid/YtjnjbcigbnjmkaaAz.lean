/- Walks: the document's Build of an automaton. -/
import Derived.Test.YtjnjbcigbnjmkaaAy
namespace Go.Proofs.Ytjnjbcigbnjmkaa
open Go.RowKit Pv

set_option maxHeartbeats 2000000 in
set_option maxRecDepth 100000 in
theorem ref09_Build (tA : Option Addr) (nt ct : Nat) (t : List Rx) (w : World) (ht : AtRx w tA t) (HT : Hid (t.length = nt)) :
    Calls Try.prog 25 #[.slice tA nt ct] w (BuildPost t w) := by
  have hWB : Below w.heap.size w (w.alloc (.cells #[.slice none 0 0, .int .i64 0] TAuto)) := (Below.refl _ _).alloc (Nat.le_refl _) _
  have HM := Lib.hid (fun (b : Bool) (e : patB t = b) => show Calls Try.prog 65 #[.slice tA nt ct] (w.alloc (.cells #[.slice none 0 0, .int .i64 0] TAuto)) fun e w' => e = .returned (.bool b) ∧ Below (w.alloc (.cells #[.slice none 0 0, .int .i64 0] TAuto)).heap.size (w.alloc (.cells #[.slice none 0 0, .int .i64 0] TAuto)) w' from e ▸ ref07_May tA ct nt t _ (AtRx.keep ht (Keep.of hWB)) HT)
  have HW := Lib.hid hWB
  have HR0 := Lib.hid (Blk.new w TAuto #[.slice none 0 0, .int .i64 0])
  by_cases hp : Pat t
  case neg =>
    have HN := Lib.hid hp
    have HB := Lib.hid (patB_no hp)
    clear hp ht hWB
    go_enter Try.func25, Try.ntmps25
    go_wp2_with fail
    refine (HM.out false HB.out).mono ?_
    rintro e w1 ⟨rfl, hb1⟩
    have R1 := Lib.hid (HR0.out.below hb1 (by simp))
    have hN := R1.out.lt
    have B1 := Lib.hid (HW.out.trans (hb1.mono HW.out.size))
    obtain ⟨v0, v1, v2, v3⟩ := Blk.two R1.out
    obtain ⟨z0, z1, _, _⟩ := Blk.two ((R1.out.set 0 (.slice none 0 0)).set 1 (.int .i64 0))
    clear hb1
    go_wp2
    refine bodyPost_ret (v := .tuple #[.agg #[.slice none 0 0, .int .i64 0], .int .i64 8]) (by simp [results, Try.results25, go_sem, z0, z1]) rfl ⟨(B1.out.setCell (Nat.le_refl _) _).setCell (Nat.le_refl _) _, .inl ⟨HN.out, rfl⟩⟩
  have hnt : nt ≤ 64 := by have := hp.2.1; rwa [HT.out] at this
  obtain ⟨T, hT, hfl⟩ := hp.tree
  have HB := Lib.hid (patB_yes hp)
  have HTT := Lib.hid hT; have HFL := Lib.hid hfl; have HPT := Lib.hid hp
  have HMD := Lib.hid (fun (W : World) (kp : Keep w W) => ref09_Made tA nt ct t T w W w.heap.size kp (Nat.le_refl _) kp.size ht HT hnt hT hfl)
  clear hp ht hWB hT hfl
  go_enter Try.func25, Try.ntmps25
  go_wp2_with fail
  refine (HM.out true HB.out).mono ?_
  rintro e w1 ⟨rfl, hb1⟩
  have R1 := Lib.hid (HR0.out.below hb1 (by simp))
  have B1 := Lib.hid (HW.out.trans (hb1.mono HW.out.size))
  clear hb1
  go_wp2_with fail
  refine (HMD.out w1 (Keep.of B1.out)).mono ?_
  rintro e w2 (⟨hf, A', n', c', rfl, au, hb2⟩ | ⟨hf, rfl, hb2⟩)
  · have R2 := Lib.hid (hb2.blk R1.out TA_auto)
    have hN := R2.out.lt
    have B2 := Lib.hid ((Chg.of_below (T := TA) (base := w.heap.size) B1.out).trans hb2)
    have HF := Lib.hid hf
    have S2 := Lib.hid (store2 (.slice A' n' c') (.int .i64 (leadT T [[]] 0).2) R2.out au B2.out TA_auto (by decide) (Nat.le_refl _) (Nat.le_refl _))
    have hbz : Below ((w2.setCell ⟨w.heap.size, 0, none⟩ (.slice A' n' c')).setCell ⟨w.heap.size, 1, none⟩ (.int .i64 (leadT T [[]] 0).2)).heap.size ((w2.setCell ⟨w.heap.size, 0, none⟩ (.slice A' n' c')).setCell ⟨w.heap.size, 1, none⟩ (.int .i64 (leadT T [[]] 0).2)) (((w2.setCell ⟨w.heap.size, 0, none⟩ (.slice A' n' c')).setCell ⟨w.heap.size, 1, none⟩ (.int .i64 (leadT T [[]] 0).2)).alloc (.cells #[.slice A' n' c', .int .i64 (leadT T [[]] 0).2] TAuto)) := (Below.refl _ _).alloc (Nat.le_refl _) _
    have S3 := Lib.hid (And.intro (S2.out.2.1.next hbz) (S2.out.2.2.then hbz))
    obtain ⟨v0, v1, v2, v3⟩ := Blk.two R2.out
    obtain ⟨z0, z1, _, _⟩ := Blk.two (S2.out.1.alloc (.cells #[.slice A' n' c', .int .i64 (leadT T [[]] 0).2] TAuto))
    clear hb2 hf au hbz
    go_wp2
    refine bodyPost_ret (v := .tuple #[.agg #[.slice A' n' c', .int .i64 (leadT T [[]] 0).2], .int .i64 0]) (by simp [results, Try.results25, go_sem, z0, z1]) rfl ⟨S3.out.2.below (Nat.le_refl _), .inr ⟨HPT.out, T, HTT.out, HFL.out, .inr ⟨HF.out, A', n', c', rfl, S3.out.1⟩⟩⟩
  · have R2 := Lib.hid (hb2.blk R1.out TA_auto)
    have hN := R2.out.lt
    have B2 := Lib.hid (((Chg.of_below (T := TA) (base := w.heap.size) B1.out).trans hb2).below (Nat.le_refl _))
    have HF := Lib.hid hf
    obtain ⟨v0, v1, v2, v3⟩ := Blk.two R2.out
    obtain ⟨z0, z1, _, _⟩ := Blk.two (((R2.out.set 0 (.slice none 0 0)).set 1 (.int .i64 0)).alloc (.cells #[.slice none 0 0, .int .i64 0] TAuto))
    clear hb2 hf
    go_wp2
    refine bodyPost_ret (v := .tuple #[.agg #[.slice none 0 0, .int .i64 0], .int .i64 90]) (by simp [results, Try.results25, go_sem, z0, z1]) rfl ⟨((B2.out.setCell (Nat.le_refl _) _).setCell (Nat.le_refl _) _).alloc (by simpa using B2.out.size) _, .inr ⟨HPT.out, T, HTT.out, HFL.out, .inl ⟨HF.out, rfl⟩⟩⟩

end Go.Proofs.Ytjnjbcigbnjmkaa
