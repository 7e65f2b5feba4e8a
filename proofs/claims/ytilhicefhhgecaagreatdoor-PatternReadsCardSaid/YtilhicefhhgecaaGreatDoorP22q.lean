/- Walks: the reader's escape: all of a word's, all blanks (printed by genp22.py). PUT1 -/
import Derived.Test.YtilhicefhhgecaaGreatDoorP9q
import Derived.Test.YtilhicefhhgecaaGreatDoorP8q
import Derived.Test.YtilhicefhhgecaaGreatDoorL9aq
namespace Go.Proofs.YtilhicefhhgecaaGreatDoor
open Go.RowKit Pv
abbrev TRS : TypeId := 50

set_option maxHeartbeats 2000000 in
set_option maxRecDepth 100000 in
theorem esc_wW (R B : Nat) (l r : Bs) (wd : Bool) (w : World) (h : RdS w R l wd) (ht : takeB [] l = some (119, r)) (hl : l.length ≤ 100000) (hT : TabV B w) :
    Calls Tryz.prog 199 #[.pointer (some ⟨R, 0, none⟩)] w (EscP R w [⟨48, 57⟩, ⟨65, 90⟩, ⟨95, 95⟩, ⟨97, 122⟩] false r wd) := by
  have HTK := Lib.hid (rd_takeG R B l r 119 wd ⟨#[]⟩ w h ht hl hT)
  have HIX := Lib.hid (fun W => marks_index 119 (by omega) false (by decide) W)
  have HS0 := Lib.hid (fun W => rd_span 48 57 W (by omega) (by omega))
  have HS1 := Lib.hid (fun W => rd_span 65 90 W (by omega) (by omega))
  have HS2 := Lib.hid (fun W => rd_span 95 95 W (by omega) (by omega))
  have HS3 := Lib.hid (fun W => rd_span 97 122 W (by omega) (by omega))
  simp only [Int.cast_ofNat_Int] at HTK HIX
  clear h ht hl hT
  go_enter Tryz.func199, Tryz.ntmps199
  go_wp2_with fail
  refine HTK.out.mono ?_
  rintro e w1 ⟨rfl, h1, h2⟩
  have H1 := Lib.hid h1; have H2 := Lib.hid h2
  clear h1 h2
  go_wp2_with fail
  refine (HIX.out _).mono ?_
  rintro e w' ⟨z, rfl, hz, rfl⟩
  have hz' := of_decide_eq_false hz
  clear hz
  have T0 := Lib.hid (Below.refl w1.heap.size w1)
  go_wp2_with fail
  refine (HS0.out _).mono ?_
  rintro e x0 ⟨rfl, h3, h4⟩
  have T1 := Lib.hid (T0.out.trans (h4.mono T0.out.size))
  have S0 := Lib.hid (OwnK.lower h3 T0.out.size)
  clear h3 h4
  go_wp2_with fail
  refine (HS1.out _).mono ?_
  rintro e x1 ⟨rfl, h3, h4⟩
  have T2 := Lib.hid (T1.out.trans (h4.mono T1.out.size))
  have S0 := Lib.hid (OwnK.below S0.out h4)
  have S1 := Lib.hid (OwnK.lower h3 T1.out.size)
  clear h3 h4
  go_wp2_with fail
  refine (HS2.out _).mono ?_
  rintro e x2 ⟨rfl, h3, h4⟩
  have T3 := Lib.hid (T2.out.trans (h4.mono T2.out.size))
  have S0 := Lib.hid (OwnK.below S0.out h4)
  have S1 := Lib.hid (OwnK.below S1.out h4)
  have S2 := Lib.hid (OwnK.lower h3 T2.out.size)
  clear h3 h4
  go_wp2_with fail
  refine (HS3.out _).mono ?_
  rintro e x3 ⟨rfl, h3, h4⟩
  have T4 := Lib.hid (T3.out.trans (h4.mono T3.out.size))
  have S0 := Lib.hid (OwnK.below S0.out h4)
  have S1 := Lib.hid (OwnK.below S1.out h4)
  have S2 := Lib.hid (OwnK.below S2.out h4)
  have S3 := Lib.hid (OwnK.lower h3 T3.out.size)
  clear h3 h4
  have HAT : Hid (At (x3.alloc (.cells #[.slice (some ⟨w1.heap.size, 0, none⟩) 1 1, .slice (some ⟨x0.heap.size, 0, none⟩) 1 1, .slice (some ⟨x1.heap.size, 0, none⟩) 1 1, .slice (some ⟨x2.heap.size, 0, none⟩) 1 1] TRS)) (some ⟨x3.heap.size, 0, none⟩) (fun u t => OwnSet (x3.alloc (.cells #[.slice (some ⟨w1.heap.size, 0, none⟩) 1 1, .slice (some ⟨x0.heap.size, 0, none⟩) 1 1, .slice (some ⟨x1.heap.size, 0, none⟩) 1 1, .slice (some ⟨x2.heap.size, 0, none⟩) 1 1] TRS)) w1.heap.size u t) [[⟨48, 57⟩], [⟨65, 90⟩], [⟨95, 95⟩], [⟨97, 122⟩]]) := Lib.hid (At.ofBlk (Blk.new _ _ _) ((Rel.one (OwnK.alloc S0.out (.cells #[.slice (some ⟨w1.heap.size, 0, none⟩) 1 1, .slice (some ⟨x0.heap.size, 0, none⟩) 1 1, .slice (some ⟨x1.heap.size, 0, none⟩) 1 1, .slice (some ⟨x2.heap.size, 0, none⟩) 1 1] TRS))).app ((Rel.one (OwnK.alloc S1.out (.cells #[.slice (some ⟨w1.heap.size, 0, none⟩) 1 1, .slice (some ⟨x0.heap.size, 0, none⟩) 1 1, .slice (some ⟨x1.heap.size, 0, none⟩) 1 1, .slice (some ⟨x2.heap.size, 0, none⟩) 1 1] TRS))).app ((Rel.one (OwnK.alloc S2.out (.cells #[.slice (some ⟨w1.heap.size, 0, none⟩) 1 1, .slice (some ⟨x0.heap.size, 0, none⟩) 1 1, .slice (some ⟨x1.heap.size, 0, none⟩) 1 1, .slice (some ⟨x2.heap.size, 0, none⟩) 1 1] TRS))).app (Rel.one (OwnK.alloc S3.out (.cells #[.slice (some ⟨w1.heap.size, 0, none⟩) 1 1, .slice (some ⟨x0.heap.size, 0, none⟩) 1 1, .slice (some ⟨x1.heap.size, 0, none⟩) 1 1, .slice (some ⟨x2.heap.size, 0, none⟩) 1 1] TRS)))))) (by simp))
  have TT := Lib.hid (T4.out.alloc T4.out.size (.cells #[.slice (some ⟨w1.heap.size, 0, none⟩) 1 1, .slice (some ⟨x0.heap.size, 0, none⟩) 1 1, .slice (some ⟨x1.heap.size, 0, none⟩) 1 1, .slice (some ⟨x2.heap.size, 0, none⟩) 1 1] TRS))
  have HCC := Lib.hid (concat_rg (some ⟨x3.heap.size, 0, none⟩) 4 4 4 [[⟨48, 57⟩], [⟨65, 90⟩], [⟨95, 95⟩], [⟨97, 122⟩]] w1.heap.size _ HAT.out (Lib.hid rfl) (Lib.hid rfl) (by have := TT.out.size; omega) (by omega) (by omega) (by omega))
  go_wp2_with fail
  refine HCC.out.mono ?_
  rintro e y ⟨G, q, d, rfl, h3, h4⟩
  have H3 := Lib.hid h3; have H4 := Lib.hid (TT.out.trans (h4.mono TT.out.size))
  clear h3 h4
  go_wp2
  go_ret2
  exact ⟨_, _, _, rfl, OwnK.lower H3.out H2.out.size, H1.out.below H4.out, H2.out.then H4.out⟩

set_option maxHeartbeats 2000000 in
set_option maxRecDepth 100000 in
theorem esc_sW (R B : Nat) (l r : Bs) (wd : Bool) (w : World) (h : RdS w R l wd) (ht : takeB [] l = some (115, r)) (hl : l.length ≤ 100000) (hT : TabV B w) :
    Calls Tryz.prog 199 #[.pointer (some ⟨R, 0, none⟩)] w (EscP R w [⟨9, 10⟩, ⟨13, 13⟩, ⟨32, 32⟩] false r wd) := by
  have HTK := Lib.hid (rd_takeG R B l r 115 wd ⟨#[]⟩ w h ht hl hT)
  have HIX := Lib.hid (fun W => marks_index 115 (by omega) false (by decide) W)
  have HS0 := Lib.hid (fun W => rd_span 9 10 W (by omega) (by omega))
  have HS1 := Lib.hid (fun W => rd_span 13 13 W (by omega) (by omega))
  have HS2 := Lib.hid (fun W => rd_span 32 32 W (by omega) (by omega))
  simp only [Int.cast_ofNat_Int] at HTK HIX
  clear h ht hl hT
  go_enter Tryz.func199, Tryz.ntmps199
  go_wp2_with fail
  refine HTK.out.mono ?_
  rintro e w1 ⟨rfl, h1, h2⟩
  have H1 := Lib.hid h1; have H2 := Lib.hid h2
  clear h1 h2
  go_wp2_with fail
  refine (HIX.out _).mono ?_
  rintro e w' ⟨z, rfl, hz, rfl⟩
  have hz' := of_decide_eq_false hz
  clear hz
  have T0 := Lib.hid (Below.refl w1.heap.size w1)
  go_wp2_with fail
  refine (HS0.out _).mono ?_
  rintro e x0 ⟨rfl, h3, h4⟩
  have T1 := Lib.hid (T0.out.trans (h4.mono T0.out.size))
  have S0 := Lib.hid (OwnK.lower h3 T0.out.size)
  clear h3 h4
  go_wp2_with fail
  refine (HS1.out _).mono ?_
  rintro e x1 ⟨rfl, h3, h4⟩
  have T2 := Lib.hid (T1.out.trans (h4.mono T1.out.size))
  have S0 := Lib.hid (OwnK.below S0.out h4)
  have S1 := Lib.hid (OwnK.lower h3 T1.out.size)
  clear h3 h4
  go_wp2_with fail
  refine (HS2.out _).mono ?_
  rintro e x2 ⟨rfl, h3, h4⟩
  have T3 := Lib.hid (T2.out.trans (h4.mono T2.out.size))
  have S0 := Lib.hid (OwnK.below S0.out h4)
  have S1 := Lib.hid (OwnK.below S1.out h4)
  have S2 := Lib.hid (OwnK.lower h3 T2.out.size)
  clear h3 h4
  have HAT : Hid (At (x2.alloc (.cells #[.slice (some ⟨w1.heap.size, 0, none⟩) 1 1, .slice (some ⟨x0.heap.size, 0, none⟩) 1 1, .slice (some ⟨x1.heap.size, 0, none⟩) 1 1] TRS)) (some ⟨x2.heap.size, 0, none⟩) (fun u t => OwnSet (x2.alloc (.cells #[.slice (some ⟨w1.heap.size, 0, none⟩) 1 1, .slice (some ⟨x0.heap.size, 0, none⟩) 1 1, .slice (some ⟨x1.heap.size, 0, none⟩) 1 1] TRS)) w1.heap.size u t) [[⟨9, 10⟩], [⟨13, 13⟩], [⟨32, 32⟩]]) := Lib.hid (At.ofBlk (Blk.new _ _ _) ((Rel.one (OwnK.alloc S0.out (.cells #[.slice (some ⟨w1.heap.size, 0, none⟩) 1 1, .slice (some ⟨x0.heap.size, 0, none⟩) 1 1, .slice (some ⟨x1.heap.size, 0, none⟩) 1 1] TRS))).app ((Rel.one (OwnK.alloc S1.out (.cells #[.slice (some ⟨w1.heap.size, 0, none⟩) 1 1, .slice (some ⟨x0.heap.size, 0, none⟩) 1 1, .slice (some ⟨x1.heap.size, 0, none⟩) 1 1] TRS))).app (Rel.one (OwnK.alloc S2.out (.cells #[.slice (some ⟨w1.heap.size, 0, none⟩) 1 1, .slice (some ⟨x0.heap.size, 0, none⟩) 1 1, .slice (some ⟨x1.heap.size, 0, none⟩) 1 1] TRS))))) (by simp))
  have TT := Lib.hid (T3.out.alloc T3.out.size (.cells #[.slice (some ⟨w1.heap.size, 0, none⟩) 1 1, .slice (some ⟨x0.heap.size, 0, none⟩) 1 1, .slice (some ⟨x1.heap.size, 0, none⟩) 1 1] TRS))
  have HCC := Lib.hid (concat_rg (some ⟨x2.heap.size, 0, none⟩) 3 3 3 [[⟨9, 10⟩], [⟨13, 13⟩], [⟨32, 32⟩]] w1.heap.size _ HAT.out (Lib.hid rfl) (Lib.hid rfl) (by have := TT.out.size; omega) (by omega) (by omega) (by omega))
  go_wp2_with fail
  refine HCC.out.mono ?_
  rintro e y ⟨G, q, d, rfl, h3, h4⟩
  have H3 := Lib.hid h3; have H4 := Lib.hid (TT.out.trans (h4.mono TT.out.size))
  clear h3 h4
  go_wp2
  go_ret2
  exact ⟨_, _, _, rfl, OwnK.lower H3.out H2.out.size, H1.out.below H4.out, H2.out.then H4.out⟩
end Go.Proofs.YtilhicefhhgecaaGreatDoor
