/- Walks: a response's text, whole. -/
import Derived.Test.YtjbfkceficokbaaDoorNe
namespace Pv
open Go Go.RowKit
theorem blk_two {w : World} {c1 c2 c3 : Array Value} {t1 t2 t3 : TypeId} : Blk (((w.alloc (.cells c1 t1)).alloc (.cells c2 t2)).alloc (.cells c3 t3)) w.heap.size t1 c1 ∧ Blk (((w.alloc (.cells c1 t1)).alloc (.cells c2 t2)).alloc (.cells c3 t3)) (w.heap.size + 1) t2 c2 ∧ Blk (((w.alloc (.cells c1 t1)).alloc (.cells c2 t2)).alloc (.cells c3 t3)) (w.heap.size + 1 + 1) t3 c3 := blk3 w c1 c2 c3 t1 t2 t3
end Pv
namespace Go.Proofs.YtjbfkceficokbaaDoor
open Go.RowKit Pv

theorem bytes_done {W : World} {B b : Nat} {l res : List UInt8} (h : Wr TW T8 B b l W) (e : l = res) (hne : l ≠ []) : Calls Tryd.prog 14 #[.pointer (some ⟨b, 0, none⟩)] W fun e w' => e = .returned (.string (mkS res)) ∧ Below B W w' := by
  subst e
  exact writer_String B b l W h hne

set_option maxHeartbeats 4000000 in
set_option maxRecDepth 100000 in
theorem serve_Write (W : World) (vA lA : Option Addr) (m mc n c : Nat) (v : List Cl) (fs : List Ft) (hv : AtCl W vA v) (hfs : AtFt W lA fs) (HM : Hid (v.length = m)) (HL : Hid (fs.length = n)) (hn : n ≤ 20) (hcv : ClsOk v) (hok : ∀ (i : Nat) x, fs[i]? = some x → FtOk x) (hT : TabsB W.heap.size W) :
    Calls Tryd.prog 6 #[.slice vA m mc, .slice lA n c] W fun e w' => e = .returned (.string (mkS (writeS v fs))) ∧ Below W.heap.size W w' := by
  have hW : Below W.heap.size W (((W.alloc (.cells #[.slice lA n c] TFs)).alloc (.cells #[.pointer none, .slice none 0 0] TW)).alloc (.cells #[.pointer (some ⟨W.heap.size + 1, 0, none⟩)] TPW)) := (((Below.refl _ _).alloc (Nat.le_refl _) _).alloc (by simp) _).alloc (by simp; omega) _
  have hb3 := blk3 W #[.slice lA n c] #[.pointer none, .slice none 0 0] #[.pointer (some ⟨W.heap.size + 1, 0, none⟩)] TFs TW TPW
  have F0 := Lib.hid hb3.1; have V0 := Lib.hid hb3.2.2
  have hwr : Wr TW T8 W.heap.size (W.heap.size + 1) [] (((W.alloc (.cells #[.slice lA n c] TFs)).alloc (.cells #[.pointer none, .slice none 0 0] TW)).alloc (.cells #[.pointer (some ⟨W.heap.size + 1, 0, none⟩)] TPW)) := ⟨by omega, none, .slice none 0 0, .inl rfl, hb3.2.1, World.ownsRow_nil _ _ _ _⟩
  have E0 := Lib.hid (show WE W (((W.alloc (.cells #[.slice lA n c] TFs)).alloc (.cells #[.pointer none, .slice none 0 0] TW)).alloc (.cells #[.pointer (some ⟨W.heap.size + 1, 0, none⟩)] TPW)) W.heap.size (W.heap.size + 1) [] from ⟨hwr, Keep.of hW, hT.next hW, Nat.le_refl _, hW.size⟩)
  have HVA := Lib.hid (value_all W W.heap.size (W.heap.size + 1) vA m mc v hv HM hcv v.length)
  have HVB := Lib.hid (fun h : 0 < m => valF_b hcv v.length 0 (by rw [HM.out]; exact h) (by omega))
  have hm100 : m ≤ 100 := by have := hcv.len; rwa [HM.out] at this
  have HLI := Lib.hid (fun (W' : World) (l : List UInt8) (h : WE W W' W.heap.size (W.heap.size + 1) l) (hl : l.length ≤ 1000000) (h1 : Blk W' (W.heap.size + 1 + 1) TPW #[.pointer (some ⟨W.heap.size + 1, 0, none⟩)]) (h2 : Blk W' W.heap.size TFs #[.slice lA n c]) => write_list W W' W.heap.size (W.heap.size + 1) (W.heap.size + 1 + 1) W.heap.size l lA n c fs hfs HL hn hok h hl h1 h2 (by omega) (by omega))
  have HCL := Lib.hid (commaN_len (faultsF_len hok) n)
  have hcl : (commaN (faultsF fs) n).length ≤ 10000000 := by
    have h1 := HCL.out
    have h2 := Nat.mul_le_mul_right (460000 + 1) hn
    omega
  have hne : ∀ {l : List UInt8}, [123] ++ l ≠ [] := fun h => by cases h
  have HB0 := Lib.hid (we_byte E0.out 123 (by simp))
  have hv1 : W.heap.size + 1 + 1 ≠ W.heap.size + 1 := by omega
  have hf1 : W.heap.size ≠ W.heap.size + 1 := by omega
  have HWS : Hid (writeS v fs = [123] ++ (optS (decide (0 < n)) (errS fs) ++ (optS (decide (0 < m)) (optS (decide (0 < n)) [44] ++ ([34, 100, 97, 116, 97, 34, 58] ++ (valF v v.length 0).1)) ++ [125]))) := Lib.hid (by unfold writeS; rw [HL.out, HM.out])
  have HES : Hid (errS fs = [34, 101, 114, 114, 111, 114, 115, 34, 58] ++ ([91] ++ (commaN (faultsF fs) n ++ [93]))) := Lib.hid (by unfold errS; rw [HL.out])
  have HW3 := Lib.hid hW
  have K0 := Lib.hid (WrK.refl TW T8 W.heap.size (W.heap.size + 1) (((W.alloc (.cells #[.slice lA n c] TFs)).alloc (.cells #[.pointer none, .slice none 0 0] TW)).alloc (.cells #[.pointer (some ⟨W.heap.size + 1, 0, none⟩)] TPW)))
  clear hv hfs hcv hok hT hW hb3 hwr
  generalize writeS v fs = res at *
  generalize errS fs = er at *
  by_cases hf : 0 < n
  · by_cases hd : 0 < m
    · have hF : decide (0 < n) = true := decide_eq_true hf
      have hD : decide (0 < m) = true := decide_eq_true hd
      rw [hF, hD] at HWS
      have HV0 := HVB.out hd
      obtain ⟨vb1, vb2, vb3⟩ := HV0
      have vb4 := Nat.le_trans vb2 (Nat.le_of_eq HM.out)
      clear vb2
      have HVC := Lib.hid (fun (W' : World) (l : List UInt8) (h : WE W W' W.heap.size (W.heap.size + 1) l) (hl : l.length ≤ 900000000) => HVA.out 0 W' l hd (by rw [HM.out]; omega) h (by omega))
      generalize (valF v v.length 0).2 = nx0 at *
      generalize (valF v v.length 0).1 = vo at *
      go_enter Tryd.func6, Tryd.ntmps6
      go_wp2_with fail
      refine (HB0.out).mono ?_
      rintro e w1 ⟨rfl, E', K'⟩
      have E1 := Lib.hid E'; have K1 := Lib.hid (K0.out.trans K'); have F1 := Lib.hid (K'.blk F0.out (by decide) hf1); have V1 := Lib.hid (K'.blk V0.out (by decide) hv1)
      have c1 := V1.out.cell 0; have d1 := F1.out.cell 0
      simp at c1 d1
      have r1 := V1.out.lt; have s1 := F1.out.lt
      clear E' K' 
      have HQ := Lib.hid (we_stringV E1.out { data := #[34, 101, 114, 114, 111, 114, 115, 34, 58] } [34, 101, 114, 114, 111, 114, 115, 34, 58] rfl (by show _ + 9 ≤ _; simp))
      go_wp2_with fail
      refine (HQ.out).mono ?_
      rintro e w2 ⟨vv2, rfl, E', K'⟩
      have E2 := Lib.hid E'; have K2 := Lib.hid (K1.out.trans K'); have F2 := Lib.hid (K'.blk F1.out (by decide) hf1); have V2 := Lib.hid (K'.blk V1.out (by decide) hv1)
      have c2 := V2.out.cell 0; have d2 := F2.out.cell 0
      simp at c2 d2
      have r2 := V2.out.lt; have s2 := F2.out.lt
      clear E' K' c1 d1
      go_wp2_with fail
      refine (HLI.out _ _ E2.out (by simp) V2.out F2.out).mono ?_
      rintro e w3 ⟨rfl, E', K'⟩
      have E3 := Lib.hid E'; have K3 := Lib.hid (K2.out.trans K'); have F3 := Lib.hid (K'.blk F2.out (by decide) hf1); have V3 := Lib.hid (K'.blk V2.out (by decide) hv1)
      have c3 := V3.out.cell 0; have d3 := F3.out.cell 0
      simp at c3 d3
      have r3 := V3.out.lt; have s3 := F3.out.lt
      clear E' K' c2 d2
      have HC := Lib.hid (we_byte E3.out 44 (by simp only [List.length_append, List.length_cons, List.length_nil]; omega))
      go_wp2_with fail
      refine (HC.out).mono ?_
      rintro e w4 ⟨rfl, E', K'⟩
      have E4 := Lib.hid E'; have K4 := Lib.hid (K3.out.trans K'); have F4 := Lib.hid (K'.blk F3.out (by decide) hf1); have V4 := Lib.hid (K'.blk V3.out (by decide) hv1)
      have c4 := V4.out.cell 0; have d4 := F4.out.cell 0
      simp at c4 d4
      have r4 := V4.out.lt; have s4 := F4.out.lt
      clear E' K' c3 d3
      have HDT := Lib.hid (we_stringV E4.out { data := #[34, 100, 97, 116, 97, 34, 58] } [34, 100, 97, 116, 97, 34, 58] rfl (by show _ + 7 ≤ _; simp only [List.length_append, List.length_cons, List.length_nil]; omega))
      go_wp2_with fail
      refine (HDT.out).mono ?_
      rintro e w5 ⟨vv5, rfl, E', K'⟩
      have E5 := Lib.hid E'; have K5 := Lib.hid (K4.out.trans K'); have F5 := Lib.hid (K'.blk F4.out (by decide) hf1); have V5 := Lib.hid (K'.blk V4.out (by decide) hv1)
      have c5 := V5.out.cell 0; have d5 := F5.out.cell 0
      simp at c5 d5
      have r5 := V5.out.lt; have s5 := F5.out.lt
      clear E' K' c4 d4
      go_wp2_with fail
      refine (HVC.out _ _ E5.out (by simp only [List.length_append, List.length_cons, List.length_nil]; omega)).mono ?_
      rintro e w6 ⟨rfl, E', K'⟩
      have E6 := Lib.hid E'; have K6 := Lib.hid (K5.out.trans K'); have F6 := Lib.hid (K'.blk F5.out (by decide) hf1); have V6 := Lib.hid (K'.blk V5.out (by decide) hv1)
      have c6 := V6.out.cell 0; have d6 := F6.out.cell 0
      simp at c6 d6
      have r6 := V6.out.lt; have s6 := F6.out.lt
      clear E' K' c5 d5
      have HE := Lib.hid (we_byte E6.out 125 (by simp only [List.length_append, List.length_cons, List.length_nil]; omega))
      go_wp2_with fail
      refine (HE.out).mono ?_
      rintro e w7 ⟨rfl, E', K'⟩
      have E7 := Lib.hid E'; have K7 := Lib.hid (K6.out.trans K'); have F7 := Lib.hid (K'.blk F6.out (by decide) hf1); have V7 := Lib.hid (K'.blk V6.out (by decide) hv1)
      have c7 := V7.out.cell 0; have d7 := F7.out.cell 0
      simp at c7 d7
      have r7 := V7.out.lt; have s7 := F7.out.lt
      clear E' K' c6 d6
      have HR := Lib.hid (bytes_done (res := res) E7.out.wr (by rw [HWS.out]; rw [HES.out]; simp [optS, List.append_assoc]) hne)
      have B7 := Lib.hid (HW3.out.trans (K7.out.below (by omega) HW3.out.size))
      go_wp2_with fail
      refine HR.out.mono ?_
      rintro e w8 ⟨rfl, hb8⟩
      go_wp2
      go_ret
      exact ⟨rfl, B7.out.trans hb8⟩
    · have hF : decide (0 < n) = true := decide_eq_true hf
      have hD : decide (0 < m) = false := decide_eq_false hd
      rw [hF, hD] at HWS
      go_enter Tryd.func6, Tryd.ntmps6
      go_wp2_with fail
      refine (HB0.out).mono ?_
      rintro e w1 ⟨rfl, E', K'⟩
      have E1 := Lib.hid E'; have K1 := Lib.hid (K0.out.trans K'); have F1 := Lib.hid (K'.blk F0.out (by decide) hf1); have V1 := Lib.hid (K'.blk V0.out (by decide) hv1)
      have c1 := V1.out.cell 0; have d1 := F1.out.cell 0
      simp at c1 d1
      have r1 := V1.out.lt; have s1 := F1.out.lt
      clear E' K' 
      have HQ := Lib.hid (we_stringV E1.out { data := #[34, 101, 114, 114, 111, 114, 115, 34, 58] } [34, 101, 114, 114, 111, 114, 115, 34, 58] rfl (by show _ + 9 ≤ _; simp))
      go_wp2_with fail
      refine (HQ.out).mono ?_
      rintro e w2 ⟨vv2, rfl, E', K'⟩
      have E2 := Lib.hid E'; have K2 := Lib.hid (K1.out.trans K'); have F2 := Lib.hid (K'.blk F1.out (by decide) hf1); have V2 := Lib.hid (K'.blk V1.out (by decide) hv1)
      have c2 := V2.out.cell 0; have d2 := F2.out.cell 0
      simp at c2 d2
      have r2 := V2.out.lt; have s2 := F2.out.lt
      clear E' K' c1 d1
      go_wp2_with fail
      refine (HLI.out _ _ E2.out (by simp) V2.out F2.out).mono ?_
      rintro e w3 ⟨rfl, E', K'⟩
      have E3 := Lib.hid E'; have K3 := Lib.hid (K2.out.trans K'); have F3 := Lib.hid (K'.blk F2.out (by decide) hf1); have V3 := Lib.hid (K'.blk V2.out (by decide) hv1)
      have c3 := V3.out.cell 0; have d3 := F3.out.cell 0
      simp at c3 d3
      have r3 := V3.out.lt; have s3 := F3.out.lt
      clear E' K' c2 d2
      have HE := Lib.hid (we_byte E3.out 125 (by simp only [List.length_append, List.length_cons, List.length_nil]; omega))
      go_wp2_with fail
      refine (HE.out).mono ?_
      rintro e w7 ⟨rfl, E', K'⟩
      have E7 := Lib.hid E'; have K7 := Lib.hid (K3.out.trans K'); have F7 := Lib.hid (K'.blk F3.out (by decide) hf1); have V7 := Lib.hid (K'.blk V3.out (by decide) hv1)
      have c7 := V7.out.cell 0; have d7 := F7.out.cell 0
      simp at c7 d7
      have r7 := V7.out.lt; have s7 := F7.out.lt
      clear E' K' c3 d3
      have HR := Lib.hid (bytes_done (res := res) E7.out.wr (by rw [HWS.out]; rw [HES.out]; simp [optS, List.append_assoc]) hne)
      have B7 := Lib.hid (HW3.out.trans (K7.out.below (by omega) HW3.out.size))
      go_wp2_with fail
      refine HR.out.mono ?_
      rintro e w8 ⟨rfl, hb8⟩
      go_wp2
      go_ret
      exact ⟨rfl, B7.out.trans hb8⟩
  · by_cases hd : 0 < m
    · have hF : decide (0 < n) = false := decide_eq_false hf
      have hD : decide (0 < m) = true := decide_eq_true hd
      rw [hF, hD] at HWS
      have HV0 := HVB.out hd
      obtain ⟨vb1, vb2, vb3⟩ := HV0
      have vb4 := Nat.le_trans vb2 (Nat.le_of_eq HM.out)
      clear vb2
      have HVC := Lib.hid (fun (W' : World) (l : List UInt8) (h : WE W W' W.heap.size (W.heap.size + 1) l) (hl : l.length ≤ 900000000) => HVA.out 0 W' l hd (by rw [HM.out]; omega) h (by omega))
      generalize (valF v v.length 0).2 = nx0 at *
      generalize (valF v v.length 0).1 = vo at *
      go_enter Tryd.func6, Tryd.ntmps6
      go_wp2_with fail
      refine (HB0.out).mono ?_
      rintro e w1 ⟨rfl, E', K'⟩
      have E1 := Lib.hid E'; have K1 := Lib.hid (K0.out.trans K'); have F1 := Lib.hid (K'.blk F0.out (by decide) hf1); have V1 := Lib.hid (K'.blk V0.out (by decide) hv1)
      have c1 := V1.out.cell 0; have d1 := F1.out.cell 0
      simp at c1 d1
      have r1 := V1.out.lt; have s1 := F1.out.lt
      clear E' K' 
      have HDT := Lib.hid (we_stringV E1.out { data := #[34, 100, 97, 116, 97, 34, 58] } [34, 100, 97, 116, 97, 34, 58] rfl (by show _ + 7 ≤ _; simp only [List.length_append, List.length_cons, List.length_nil]; omega))
      go_wp2_with fail
      refine (HDT.out).mono ?_
      rintro e w5 ⟨vv5, rfl, E', K'⟩
      have E5 := Lib.hid E'; have K5 := Lib.hid (K1.out.trans K'); have F5 := Lib.hid (K'.blk F1.out (by decide) hf1); have V5 := Lib.hid (K'.blk V1.out (by decide) hv1)
      have c5 := V5.out.cell 0; have d5 := F5.out.cell 0
      simp at c5 d5
      have r5 := V5.out.lt; have s5 := F5.out.lt
      clear E' K' c1 d1
      go_wp2_with fail
      refine (HVC.out _ _ E5.out (by simp only [List.length_append, List.length_cons, List.length_nil]; omega)).mono ?_
      rintro e w6 ⟨rfl, E', K'⟩
      have E6 := Lib.hid E'; have K6 := Lib.hid (K5.out.trans K'); have F6 := Lib.hid (K'.blk F5.out (by decide) hf1); have V6 := Lib.hid (K'.blk V5.out (by decide) hv1)
      have c6 := V6.out.cell 0; have d6 := F6.out.cell 0
      simp at c6 d6
      have r6 := V6.out.lt; have s6 := F6.out.lt
      clear E' K' c5 d5
      have HE := Lib.hid (we_byte E6.out 125 (by simp only [List.length_append, List.length_cons, List.length_nil]; omega))
      go_wp2_with fail
      refine (HE.out).mono ?_
      rintro e w7 ⟨rfl, E', K'⟩
      have E7 := Lib.hid E'; have K7 := Lib.hid (K6.out.trans K'); have F7 := Lib.hid (K'.blk F6.out (by decide) hf1); have V7 := Lib.hid (K'.blk V6.out (by decide) hv1)
      have c7 := V7.out.cell 0; have d7 := F7.out.cell 0
      simp at c7 d7
      have r7 := V7.out.lt; have s7 := F7.out.lt
      clear E' K' c6 d6
      have HR := Lib.hid (bytes_done (res := res) E7.out.wr (by rw [HWS.out]; simp [optS]) hne)
      have B7 := Lib.hid (HW3.out.trans (K7.out.below (by omega) HW3.out.size))
      go_wp2_with fail
      refine HR.out.mono ?_
      rintro e w8 ⟨rfl, hb8⟩
      go_wp2
      go_ret
      exact ⟨rfl, B7.out.trans hb8⟩
    · have hF : decide (0 < n) = false := decide_eq_false hf
      have hD : decide (0 < m) = false := decide_eq_false hd
      rw [hF, hD] at HWS
      go_enter Tryd.func6, Tryd.ntmps6
      go_wp2_with fail
      refine (HB0.out).mono ?_
      rintro e w1 ⟨rfl, E', K'⟩
      have E1 := Lib.hid E'; have K1 := Lib.hid (K0.out.trans K'); have F1 := Lib.hid (K'.blk F0.out (by decide) hf1); have V1 := Lib.hid (K'.blk V0.out (by decide) hv1)
      have c1 := V1.out.cell 0; have d1 := F1.out.cell 0
      simp at c1 d1
      have r1 := V1.out.lt; have s1 := F1.out.lt
      clear E' K' 
      have HE := Lib.hid (we_byte E1.out 125 (by simp only [List.length_append, List.length_cons, List.length_nil]; omega))
      go_wp2_with fail
      refine (HE.out).mono ?_
      rintro e w7 ⟨rfl, E', K'⟩
      have E7 := Lib.hid E'; have K7 := Lib.hid (K1.out.trans K'); have F7 := Lib.hid (K'.blk F1.out (by decide) hf1); have V7 := Lib.hid (K'.blk V1.out (by decide) hv1)
      have c7 := V7.out.cell 0; have d7 := F7.out.cell 0
      simp at c7 d7
      have r7 := V7.out.lt; have s7 := F7.out.lt
      clear E' K' c1 d1
      have HR := Lib.hid (bytes_done (res := res) E7.out.wr (by rw [HWS.out]; simp [optS]) hne)
      have B7 := Lib.hid (HW3.out.trans (K7.out.below (by omega) HW3.out.size))
      go_wp2_with fail
      refine HR.out.mono ?_
      rintro e w8 ⟨rfl, hb8⟩
      go_wp2
      go_ret
      exact ⟨rfl, B7.out.trans hb8⟩
end Go.Proofs.YtjbfkceficokbaaDoor
