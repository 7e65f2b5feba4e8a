/- Walks: the first word that tells two automata apart, or the error (the document's). PUT1 -/
import Derived.Test.YtjnjbcigbnjmkaaHdy
import Derived.Test.YtjnjbcigbnjmkaaGqy
namespace Go.Proofs.Ytjnjbcigbnjmkaa
open Go.RowKit Pv

set_option maxHeartbeats 2000000 in
set_option maxRecDepth 100000 in
theorem ref11_Apart (A1 A2 A3 B1 B2 B3 : Option Addr) (c1 c2 c3 n1 n n3 d1 d2 d3 m1 m m3 : Nat) (d o : Dfa) (w : World) (H : DfaAt w A1 A2 A3 n1 n n3 d) (K : DfaAt w B1 B2 B3 m1 m m3 o) :
    Calls Try.prog 48 #[.agg #[.slice A1 n1 c1, .slice A2 n c2, .slice A3 n3 c3], .agg #[.slice B1 m1 d1, .slice B2 m d2, .slice B3 m3 d3]] w (ApartR d o w) := by
  have HD := Lib.hid H; have HO := Lib.hid K
  have KK := blk2 w #[.slice A1 n1 c1, .slice A2 n c2, .slice A3 n3 c3] #[.slice B1 m1 d1, .slice B2 m d2, .slice B3 m3 d3] TDfa TDfa
  have HT0 := Lib.hid (show Two w _ _ _ from ⟨KK.1, KK.2, ((Below.refl w.heap.size w).alloc (Nat.le_refl _) (.cells #[.slice A1 n1 c1, .slice A2 n c2, .slice A3 n3 c3] TDfa)).alloc (by simp) (.cells #[.slice B1 m1 d1, .slice B2 m d2, .slice B3 m3 d3] TDfa)⟩)
  have HK1 := Lib.hid (ref10_May A1 A2 A3 c1 c2 c3 n1 n n3 d _ (H.keep (Keep.of HT0.out.be)))
  clear KK
  by_cases hok : d.Ok
  case neg =>
    rw [Dfa.okB_no hok] at HK1
    have HNO := Lib.hid (show ¬ (d.Ok ∧ o.Ok) from fun h => hok h.1)
    clear hok H K
    go_enter Try.func48, Try.ntmps48
    go_wp2_with fail
    refine HK1.out.mono ?_
    rintro e w1 ⟨rfl, hb1⟩
    have HB1 := Lib.hid (HT0.out.next hb1).be
    clear hb1
    go_wp2
    exact bodyPost_ret (v := .tuple #[.slice none 0 0, .bool false, .int .i64 8]) (by simp [results, Try.results48, go_sem]) rfl (apart_no HNO.out HB1.out)
  rw [Dfa.okB_yes hok] at HK1
  have HK2 := Lib.hid (fun W (hb : Below w.heap.size w W) => ref10_May B1 B2 B3 d1 d2 d3 m1 m m3 o W (K.keep (Keep.of hb)))
  by_cases hoo : o.Ok
  case neg =>
    rw [Dfa.okB_no hoo] at HK2
    have HNO := Lib.hid (show ¬ (d.Ok ∧ o.Ok) from fun h => hoo h.2)
    clear hok hoo H K
    go_enter Try.func48, Try.ntmps48
    go_wp2_with fail
    refine HK1.out.mono ?_
    rintro e w1 ⟨rfl, hb1⟩
    have HT1 := Lib.hid (HT0.out.next hb1)
    obtain ⟨p0, p1, p2, _, _, _⟩ := Blk.three HT1.out.b
    have hN := HT1.out.b.lt
    clear hb1
    go_wp2_with fail
    refine (HK2.out _ HT1.out.be).mono ?_
    rintro e w2 ⟨rfl, hb2⟩
    have HB2 := Lib.hid (HT1.out.next hb2).be
    clear hb2 p0 p1 p2 hN
    go_wp2
    exact bodyPost_ret (v := .tuple #[.slice none 0 0, .bool false, .int .i64 8]) (by simp [results, Try.results48, go_sem]) rfl (apart_no HNO.out HB2.out)
  rw [Dfa.okB_yes hoo] at HK2
  have HWD := Lib.hid (fun W (hb : Below w.heap.size w W) => ref11_Word A1 A2 A3 B1 B2 B3 c1 c2 c3 n1 n n3 d1 d2 d3 m1 m m3 d o W (H.keep (Keep.of hb)) (K.keep (Keep.of hb)) hok hoo)
  have HAW : Hid (apW d o = wordD d o ∧ apE d o = 0) := Lib.hid ⟨by unfold apW; rw [if_pos (yes_t ⟨hok, hoo⟩)], by unfold apE; rw [if_pos (yes_t ⟨hok, hoo⟩)]⟩
  clear H K hok hoo
  go_enter Try.func48, Try.ntmps48
  go_wp2_with fail
  refine HK1.out.mono ?_
  rintro e w1 ⟨rfl, hb1⟩
  have HT1 := Lib.hid (HT0.out.next hb1)
  obtain ⟨p0, p1, p2, _, _, _⟩ := Blk.three HT1.out.b
  have hN := HT1.out.b.lt
  clear hb1
  go_wp2_with fail
  refine (HK2.out _ HT1.out.be).mono ?_
  rintro e w2 ⟨rfl, hb2⟩
  have HT2 := Lib.hid (HT1.out.next hb2)
  clear p0 p1 p2 hN hb2
  obtain ⟨p0, p1, p2, _, _, _⟩ := Blk.three HT2.out.a
  obtain ⟨r0, r1, r2, _, _, _⟩ := Blk.three HT2.out.b
  have hNa := HT2.out.a.lt; have hNb := HT2.out.b.lt
  go_wp2_with fail
  refine (HWD.out _ HT2.out.be).mono ?_
  rintro e w3 ⟨v, rfl, hv, hb3⟩
  have HV := Lib.hid (hv.lower HT2.out.be.size)
  have HB3 := Lib.hid (HT2.out.next hb3).be
  obtain ⟨V, vc, ev, _⟩ := hv
  obtain ⟨q, hq⟩ : ∃ q, ((wordD d o).getD []).length = q := ⟨_, rfl⟩
  rw [hq] at ev
  subst ev
  obtain ⟨bb, hbb⟩ : ∃ bb, (wordD d o).isSome = bb := ⟨_, rfl⟩
  have HBB := Lib.hid hbb
  rw [hbb]
  clear hb3 hq hbb p0 p1 p2 r0 r1 r2 hNa hNb
  go_wp2
  exact bodyPost_ret (v := .tuple #[.slice V q vc, .bool bb, .int .i64 0]) (by simp [results, Try.results48, go_sem]) rfl ⟨_, by rw [HAW.out.1, HAW.out.2, HBB.out], by rw [HAW.out.1]; exact HV.out, HB3.out⟩
end Go.Proofs.Ytjnjbcigbnjmkaa
