/- Walks: does a text tell that; is that the error? (laws of the patterns' chapter). PUT1 -/
import Derived.Test.YtilhicefhhgecaaGreatDoorL7ap
import Derived.Test.YtilhicefhhgecaaGreatDoorYmp
import Derived.Test.YtilhicefhhgecaaGreatDoorPjp
import Derived.Test.YtilhicefhhgecaaGreatDoorP20p
import Derived.Test.YtilhicefhhgecaaGreatDoorP28p
import Derived.Test.YtilhicefhhgecaaGreatDoorL9ap
import Derived.Test.YtilhicefhhgecaaGreatDoorRnp
namespace Go.Proofs.YtilhicefhhgecaaGreatDoor
open Go.RowKit Pv
/-- What the library has laid: what reading asks, what writing asks. -/
structure T7 (B : Nat) (w : World) : Prop where
  v : TabV B w
  p : TabsP B w
theorem T7.next {B : Nat} {w w' : World} (h : T7 B w) (hb : Below B w w') : T7 B w' := ⟨h.v.next hb, h.p.next hb⟩
theorem T7.then {B : Nat} {w w' : World} (h : T7 B w) (hb : Below w.heap.size w w') (hB : B ≤ w.heap.size) : T7 B w' := h.next (hb.mono hB)
theorem T7.tabs {B : Nat} {w : World} (h : T7 B w) (hB : B ≤ w.heap.size) : TabsP w.heap.size w := h.p.up hB
/-- Parse, opened: how many nodes. -/
theorem parse7 (s : ByteArray) (x : List Rx × Int) (w : World) (B : Nat) (hs : s.size ≤ 20000) (hx : parseB (bsl s) = x) (hT : T7 B w) (hB : B ≤ w.heap.size) :
    Calls Tryz.prog 12 #[.string s] w fun e w' => ∃ A c, e = .returned (.tuple #[.slice A x.1.length c, .int .i64 x.2]) ∧ OwnRx w' w.heap.size (.slice A x.1.length c) x.1 ∧ Below w.heap.size w w' := by
  refine (pattern_ParseG s w B hs (fun R _ => esc_ok R B) hT.v hB).mono ?_
  rw [hx]
  rintro e w' ⟨A, n, c, rfl, h1, h2⟩
  obtain ⟨A', c', us, hv, _⟩ := id h1
  injection hv with e1 e2 e3
  subst e2
  exact ⟨A, c, rfl, h1, h2⟩

set_option maxHeartbeats 1000000 in
set_option maxRecDepth 100000 in
theorem law7_fails (s : ByteArray) (c : Int) (w : World) (B : Nat) (hs : s.size ≤ 20000) (hx : parseB (bsl s) = ([], c)) (hT : T7 B w) (hB : B ≤ w.heap.size) :
    Calls Tryz.prog 33 #[.string s, .int .i64 c] w fun e w' => e = .returned (.bool true) ∧ Below w.heap.size w w' := by
  have HP := Lib.hid (parse7 s _ w B hs hx hT hB)
  simp only [List.length_nil] at HP
  have e1 : (c == c) = true := by simp
  clear hs hx hT hB
  go_enter Tryz.func33, Tryz.ntmps33
  go_wp2_with fail
  refine HP.out.mono ?_
  rintro e w1 ⟨A, c1, rfl, h1, h2⟩
  have H2 := Lib.hid h2
  clear h1 h2
  go_wp2
  go_ret
  exact ⟨rfl, H2.out⟩

set_option maxHeartbeats 1000000 in
set_option maxRecDepth 100000 in
theorem law7_tells (s : ByteArray) (A : Option Addr) (c n : Nat) (t : List Rx) (w : World) (B : Nat) (ht : AtRx w A t) (HL : Hid (t.length = n)) (hs : s.size ≤ 20000) (hx : parseB (bsl s) = (t, 0)) (hp : Pat t) (hn : NarX t) (he : textL t = bsl s) (hT : T7 B w) (hB : B ≤ w.heap.size) :
    Calls Tryz.prog 35 #[.string s, .slice A n c] w fun e w' => e = .returned (.bool true) ∧ Below w.heap.size w w' := by
  have HP := parse7 s _ w B hs hx hT hB
  simp only [HL.out] at HP
  have HP := Lib.hid HP
  have HA := Lib.hid ht
  have HT := Lib.hid hT
  have HTX := Lib.hid (fun W (hb : Below w.heap.size w W) => pattern_Text A c n t W (AtRx.keep ht (Keep.of hb)) HL ((hT.then hb hB).tabs (Nat.le_trans hB hb.size)))
  rw [he, patE_yes hp, mkS_bsl] at HTX
  have HN := Lib.hid hn
  have hn64 : n ≤ 64 := by rw [← HL.out]; exact hp.2.1
  clear hs hx hT hp hn he ht
  go_enter Tryz.func35, Tryz.ntmps35
  go_wp2_with fail
  refine HP.out.mono ?_
  rintro e w1 ⟨A1, c1, rfl, h1, h2⟩
  have HB1 := Lib.hid h2
  have HR1 := Lib.hid (rx_atG h1 (by rw [HL.out]; omega) HN.out)
  clear h1 h2
  go_wp2_with fail
  refine (HTX.out _ HB1.out).mono ?_
  rintro e w2 ⟨rfl, h2⟩
  have HB2 := Lib.hid (HB1.out.trans (h2.mono HB1.out.size))
  have HSM := ref07_Same A1 A c1 c n n t t w2 (AtRx.keep HR1.out (Keep.of h2)) (AtRx.keep HA.out (Keep.of HB2.out)) HL HL
  rw [decide_eq_true rfl] at HSM
  have HSM := Lib.hid HSM
  clear h2
  go_wp2_with fail
  refine HSM.out.mono ?_
  rintro e w3 ⟨rfl, h3⟩
  have HB3 := Lib.hid (HB2.out.trans (h3.mono HB2.out.size))
  clear h3
  go_wp2
  go_ret
  exact ⟨by simp, HB3.out⟩
end Go.Proofs.YtilhicefhhgecaaGreatDoor

namespace Pv
open Go Go.RowKit
def sA : Bs := [97, 124, 98, 42]
def tA : Tr := alX [chX 97, reX 0 (-1) (chX 98)]
theorem okA : tA.Ok 16 := okTr_is (by decide)
theorem txtA : tA.txt = sA := by decide +kernel
def sB : Bs := [40, 97, 98, 41, 99, 123, 50, 44, 51, 125]
def tB : Tr := caX [caX [chX 97, chX 98], reX 2 3 (chX 99)]
theorem okB : tB.Ok 16 := okTr_is (by decide)
theorem txtB : tB.txt = sB := by decide +kernel
end Pv
namespace Go.Proofs.YtilhicefhhgecaaGreatDoor
open Go.RowKit Pv
/-- A node, in its cells. -/
theorem node_rel {w : World} {k many least most : Int} {v : Value} {l : List Rng} (hv : IsSet w v l) (hk : 0 ≤ k ∧ k ≤ 255) (h1 : -9223372036854775808 ≤ many ∧ many ≤ 9223372036854775807) (h2 : -9223372036854775808 ≤ least ∧ least ≤ 9223372036854775807) (h3 : -9223372036854775808 ≤ most ∧ most ≤ 9223372036854775807) :
    RelK 5 (RRx w) [.int .u8 k, v, .int .i64 many, .int .i64 least, .int .i64 most] [⟨k, l, many, least, most⟩] :=
  RelK.one (f := fun j => [Value.int .u8 k, v, .int .i64 many, .int .i64 least, .int .i64 most].getD j undef) rfl (fun j hj => by
    rcases (show j = 0 ∨ j = 1 ∨ j = 2 ∨ j = 3 ∨ j = 4 by omega) with rfl | rfl | rfl | rfl | rfl <;> rfl) ⟨⟨rfl, hk⟩, hv, ⟨rfl, h1⟩, ⟨rfl, h2⟩, ⟨rfl, h3⟩⟩
theorem node_empty {w : World} {k many least most : Int} (hk : 0 ≤ k ∧ k ≤ 255) (h1 : -9223372036854775808 ≤ many ∧ many ≤ 9223372036854775807) (h2 : -9223372036854775808 ≤ least ∧ least ≤ 9223372036854775807) (h3 : -9223372036854775808 ≤ most ∧ most ≤ 9223372036854775807) :
    RelK 5 (RRx w) [.int .u8 k, .slice none 0 0, .int .i64 many, .int .i64 least, .int .i64 most] [⟨k, [], many, least, most⟩] := node_rel noset hk h1 h2 h3
theorem node_set {w : World} {v : Value} {l : List Rng} (hv : IsSet w v l) : RelK 5 (RRx w) [.int .u8 1, v, .int .i64 0, .int .i64 0, .int .i64 0] [setX l] := node_rel hv (by omega) (by omega) (by omega) (by omega)
/-- A set by two numbers. -/
theorem law7_set1 (a b : Int) (W : World) (ha : -9223372036854775808 ≤ a ∧ a ≤ 9223372036854775807) (hb : -9223372036854775808 ≤ b ∧ b ≤ 9223372036854775807) :
    Calls Tryz.prog 32 #[.slice (some ⟨W.heap.size, 0, none⟩) 2 2] (W.alloc (.cells #[.int .i64 a, .int .i64 b] 3)) fun e w' => ∃ A c n, e = .returned (.agg #[.int .u8 1, .slice A n c, .int .i64 0, .int .i64 0, .int .i64 0]) ∧ IsSet w' (.slice A n c) [⟨a, b⟩] ∧ Below W.heap.size W w' := by
  have hat : AtSet (W.alloc (.cells #[.int .i64 a, .int .i64 b] 3)) (some ⟨W.heap.size, 0, none⟩) [⟨a, b⟩] := AtK.ofBlk (Blk.new W 3 _) (rel_rng ha hb) (by simp)
  refine (law7_set (some ⟨W.heap.size, 0, none⟩) 2 1 [⟨a, b⟩] _ hat (Lib.hid rfl) (by omega)).mono ?_
  rintro e w' ⟨A, c, n, rfl, h1, h2⟩
  exact ⟨A, c, n, rfl, OwnK.sl h1 (by simp), ((Below.refl _ _).alloc (Nat.le_refl _) _).trans (h2.mono (by simp))⟩
theorem law7_set2 (a b c' d : Int) (W : World) (ha : -9223372036854775808 ≤ a ∧ a ≤ 9223372036854775807) (hb : -9223372036854775808 ≤ b ∧ b ≤ 9223372036854775807) (hc : -9223372036854775808 ≤ c' ∧ c' ≤ 9223372036854775807) (hd : -9223372036854775808 ≤ d ∧ d ≤ 9223372036854775807) :
    Calls Tryz.prog 32 #[.slice (some ⟨W.heap.size, 0, none⟩) 4 4] (W.alloc (.cells #[.int .i64 a, .int .i64 b, .int .i64 c', .int .i64 d] 3)) fun e w' => ∃ A c n, e = .returned (.agg #[.int .u8 1, .slice A n c, .int .i64 0, .int .i64 0, .int .i64 0]) ∧ IsSet w' (.slice A n c) [⟨a, b⟩, ⟨c', d⟩] ∧ Below W.heap.size W w' := by
  have hat : AtSet (W.alloc (.cells #[.int .i64 a, .int .i64 b, .int .i64 c', .int .i64 d] 3)) (some ⟨W.heap.size, 0, none⟩) [⟨a, b⟩, ⟨c', d⟩] := AtK.ofBlk (Blk.new W 3 _) ((rel_rng ha hb).app (rel_rng hc hd)) (by simp)
  refine (law7_set (some ⟨W.heap.size, 0, none⟩) 4 2 [⟨a, b⟩, ⟨c', d⟩] _ hat (Lib.hid rfl) (by omega)).mono ?_
  rintro e w' ⟨A, c, n, rfl, h1, h2⟩
  exact ⟨A, c, n, rfl, OwnK.sl h1 (by simp), ((Below.refl _ _).alloc (Nat.le_refl _) _).trans (h2.mono (by simp))⟩
/-- A tree's text tells it. -/
theorem tells7 (s : ByteArray) (T : Tr) (l : Bs) (hs : bsl s = l) (ho : T.Ok 16) (hz : T.flat.length ≤ 64) (hn : NarX T.flat) (ht : T.txt = l) (hl : l.length ≤ 16384) (A : Option Addr) (c n : Nat) (w : World) (B : Nat) (ha : AtRx w A T.flat) (HL : Hid (T.flat.length = n)) (hT : T7 B w) (hB : B ≤ w.heap.size) :
    Calls Tryz.prog 35 #[.string s, .slice A n c] w fun e w' => e = .returned (.bool true) ∧ Below w.heap.size w w' := by
  have hp : Pat T.flat := Pat.of_tree ho hz
  have he : textL T.flat = l := (textL_tree ho hz).trans ht
  exact law7_tells s A c n T.flat w B ha HL (by rw [← bsl_len, hs]; omega) (by rw [hs, ← he]; exact text_back hp (by rw [he]; exact hl)) hp hn (by rw [he, hs]) hT hB
set_option maxHeartbeats 4000000 in
set_option maxRecDepth 100000 in
theorem law7_alive (w : World) (B : Nat) (hT : T7 B w) (hB : B ≤ w.heap.size) : Calls Tryz.prog 34 #[] w fun e w' => e = .returned (.bool true) ∧ Below w.heap.size w w' := by
  have HS := Lib.hid (fun n W (h : 0 ≤ n ∧ n ≤ 1000) => law7_set1 n n W (by omega) (by omega))
  have H1 := Lib.hid (fun (A : Option Addr) (W : World) (ha : AtRx W A tA.flat) (hb : Below w.heap.size w W) => tells7 ⟨#[97, 124, 98, 42]⟩ tA sA rfl okA (by decide) (by unfold NarX; decide) txtA (by decide) A 4 4 W B ha (Lib.hid rfl) (hT.then hb hB) (Nat.le_trans hB hb.size))
  have H2 := Lib.hid (fun (A : Option Addr) (W : World) (ha : AtRx W A tB.flat) (hb : Below w.heap.size w W) => tells7 ⟨#[40, 97, 98, 41, 99, 123, 50, 44, 51, 125]⟩ tB sB rfl okB (by decide) (by unfold NarX; decide) txtB (by decide) A 6 6 W B ha (Lib.hid rfl) (hT.then hb hB) (Nat.le_trans hB hb.size))
  clear hT hB
  go_enter Tryz.func34, Tryz.ntmps34
  go_wp2_with fail
  refine (HS.out 97 _ (by omega)).mono ?_
  rintro e w1 ⟨A1, c1, n1, rfl, k1, k2⟩
  have HB1 := Lib.hid k2; have K1 := Lib.hid k1
  clear k1 k2
  go_wp2_with fail
  refine (HS.out 98 _ (by omega)).mono ?_
  rintro e w2 ⟨A2, c2, n2, rfl, k1, k2⟩
  have HB2 := Lib.hid (HB1.out.trans (k2.mono HB1.out.size))
  have K1 := Lib.hid (SlK.keep K1.out (Keep.of k2)); have K2 := Lib.hid k1
  have HB3 := Lib.hid (HB2.out.alloc HB2.out.size (.cells #[.int .u8 3, .slice none 0 0, .int .i64 2, .int .i64 0, .int .i64 0, .int .u8 1, .slice A1 n1 c1, .int .i64 0, .int .i64 0, .int .i64 0, .int .u8 4, .slice none 0 0, .int .i64 1, .int .i64 0, .int .i64 (-1), .int .u8 1, .slice A2 n2 c2, .int .i64 0, .int .i64 0, .int .i64 0] TRx))
  have hal := Keep.alloc w2 (.cells #[.int .u8 3, .slice none 0 0, .int .i64 2, .int .i64 0, .int .i64 0, .int .u8 1, .slice A1 n1 c1, .int .i64 0, .int .i64 0, .int .i64 0, .int .u8 4, .slice none 0 0, .int .i64 1, .int .i64 0, .int .i64 (-1), .int .u8 1, .slice A2 n2 c2, .int .i64 0, .int .i64 0, .int .i64 0] TRx)
  have HAT := Lib.hid (show AtRx _ _ tA.flat from AtK.ofBlk (Blk.new w2 TRx #[.int .u8 3, .slice none 0 0, .int .i64 2, .int .i64 0, .int .i64 0, .int .u8 1, .slice A1 n1 c1, .int .i64 0, .int .i64 0, .int .i64 0, .int .u8 4, .slice none 0 0, .int .i64 1, .int .i64 0, .int .i64 (-1), .int .u8 1, .slice A2 n2 c2, .int .i64 0, .int .i64 0, .int .i64 0]) ((node_empty (k := 3) (by omega) (by omega) (by omega) (by omega)).app ((node_set (SlK.keep K1.out hal)).app ((node_empty (k := 4) (by omega) (by omega) (by omega) (by omega)).app (node_set (SlK.keep K2.out hal))))) (by decide))
  clear k1 k2 hal
  go_wp2_with fail
  refine (H1.out _ _ HAT.out HB3.out).mono ?_
  rintro e w3 ⟨rfl, k2⟩
  have HB4 := Lib.hid (HB3.out.trans (k2.mono HB3.out.size))
  clear k2
  go_wp2_with fail
  refine (HS.out 97 _ (by omega)).mono ?_
  rintro e w4 ⟨A3, c3, n3, rfl, k1, k2⟩
  have HB5 := Lib.hid (HB4.out.trans (k2.mono HB4.out.size)); have K1 := Lib.hid k1
  clear k1 k2
  go_wp2_with fail
  refine (HS.out 98 _ (by omega)).mono ?_
  rintro e w5 ⟨A4, c4, n4, rfl, k1, k2⟩
  have HB6 := Lib.hid (HB5.out.trans (k2.mono HB5.out.size))
  have K1 := Lib.hid (SlK.keep K1.out (Keep.of k2)); have K2 := Lib.hid k1
  clear k1 k2
  go_wp2_with fail
  refine (HS.out 99 _ (by omega)).mono ?_
  rintro e w6 ⟨A5, c5, n5, rfl, k1, k2⟩
  have HB7 := Lib.hid (HB6.out.trans (k2.mono HB6.out.size))
  have K1 := Lib.hid (SlK.keep K1.out (Keep.of k2)); have K2 := Lib.hid (SlK.keep K2.out (Keep.of k2)); have K3 := Lib.hid k1
  have HB8 := Lib.hid (HB7.out.alloc HB7.out.size (.cells #[.int .u8 2, .slice none 0 0, .int .i64 2, .int .i64 0, .int .i64 0, .int .u8 2, .slice none 0 0, .int .i64 2, .int .i64 0, .int .i64 0, .int .u8 1, .slice A3 n3 c3, .int .i64 0, .int .i64 0, .int .i64 0, .int .u8 1, .slice A4 n4 c4, .int .i64 0, .int .i64 0, .int .i64 0, .int .u8 4, .slice none 0 0, .int .i64 1, .int .i64 2, .int .i64 3, .int .u8 1, .slice A5 n5 c5, .int .i64 0, .int .i64 0, .int .i64 0] TRx))
  have hal := Keep.alloc w6 (.cells #[.int .u8 2, .slice none 0 0, .int .i64 2, .int .i64 0, .int .i64 0, .int .u8 2, .slice none 0 0, .int .i64 2, .int .i64 0, .int .i64 0, .int .u8 1, .slice A3 n3 c3, .int .i64 0, .int .i64 0, .int .i64 0, .int .u8 1, .slice A4 n4 c4, .int .i64 0, .int .i64 0, .int .i64 0, .int .u8 4, .slice none 0 0, .int .i64 1, .int .i64 2, .int .i64 3, .int .u8 1, .slice A5 n5 c5, .int .i64 0, .int .i64 0, .int .i64 0] TRx)
  have HAT2 := Lib.hid (show AtRx _ _ tB.flat from AtK.ofBlk (Blk.new w6 TRx #[.int .u8 2, .slice none 0 0, .int .i64 2, .int .i64 0, .int .i64 0, .int .u8 2, .slice none 0 0, .int .i64 2, .int .i64 0, .int .i64 0, .int .u8 1, .slice A3 n3 c3, .int .i64 0, .int .i64 0, .int .i64 0, .int .u8 1, .slice A4 n4 c4, .int .i64 0, .int .i64 0, .int .i64 0, .int .u8 4, .slice none 0 0, .int .i64 1, .int .i64 2, .int .i64 3, .int .u8 1, .slice A5 n5 c5, .int .i64 0, .int .i64 0, .int .i64 0]) ((node_empty (k := 2) (by omega) (by omega) (by omega) (by omega)).app ((node_empty (k := 2) (by omega) (by omega) (by omega) (by omega)).app ((node_set (SlK.keep K1.out hal)).app ((node_set (SlK.keep K2.out hal)).app ((node_empty (k := 4) (by omega) (by omega) (by omega) (by omega)).app (node_set (SlK.keep K3.out hal))))))) (by decide))
  clear k1 k2 hal
  go_wp2_with fail
  refine (H2.out _ _ HAT2.out HB8.out).mono ?_
  rintro e w7 ⟨rfl, k2⟩
  have HB9 := Lib.hid (HB8.out.trans (k2.mono HB8.out.size))
  clear k2
  go_wp2
  go_ret
  exact ⟨rfl, HB9.out⟩
end Go.Proofs.YtilhicefhhgecaaGreatDoor

namespace Go.Proofs.YtilhicefhhgecaaGreatDoor
open Go.RowKit Pv
theorem same7 (A C : Option Addr) (c d n : Nat) (t : List Rx) (w : World) (ha : AtRx w A t) (hb : AtRx w C t) (HL : Hid (t.length = n)) :
    Calls Tryz.prog 30 #[.slice A n c, .slice C n d] w fun e w' => e = .returned (.bool true) ∧ Below w.heap.size w w' := by
  have h := ref07_Same A C c d n n t t w ha hb HL HL
  rw [decide_eq_true rfl] at h
  exact h
set_option maxHeartbeats 4000000 in
set_option maxRecDepth 100000 in
theorem law_PatternBack (A : Option Addr) (nt ct : Nat) (t : List Rx) (w : World) (B0 : Nat) (ht : AtRx w A t) (HT : Hid (t.length = nt)) (hT : T7 B0 w) (hB : B0 ≤ w.heap.size) :
    Calls Tryz.prog 8 #[.slice A nt ct] w fun e w' => e = .returned (.bool true) ∧ Below w.heap.size w w' := by
  have HAL := Lib.hid (law7_alive w B0 hT hB)
  have HGR := Lib.hid (fun W (hb : Below w.heap.size w W) => ref07_Great A ct nt 80 t W (AtRx.keep ht (Keep.of hb)) HT (by omega))
  have HTX := Lib.hid (fun W (hb : Below w.heap.size w W) => pattern_Text A ct nt t W (AtRx.keep ht (Keep.of hb)) HT ((hT.then hb hB).tabs (Nat.le_trans hB hb.size)))
  have HCK := Lib.hid (fun W (hb : Below w.heap.size w W) => pattern_Check A ct nt t W (AtRx.keep ht (Keep.of hb)) HT)
  have HPA := Lib.hid (fun (s : ByteArray) (x : List Rx × Int) W (hs : s.size ≤ 20000) (hx : parseB (bsl s) = x) (hb : Below w.heap.size w W) => parse7 s x W B0 hs hx (hT.then hb hB) (Nat.le_trans hB hb.size))
  have HSM := Lib.hid (fun W C d (hc : AtRx W C t) (hb : Below w.heap.size w W) => same7 A C ct d nt t W (AtRx.keep ht (Keep.of hb)) hc HT)
  have HAT := Lib.hid ht
  clear ht hT hB
  by_cases hp : Pat t
  · have hn : nt ≤ 64 := by rw [← HT.out]; exact hp.2.1
    have HBK := Lib.hid (text_back hp)
    rw [patE_yes hp] at HTX
    obtain ⟨l, hl⟩ : ∃ l, textL t = l := ⟨_, rfl⟩
    rw [hl] at HTX HBK
    clear hp hl
    go_enter Tryz.func8, Tryz.ntmps8
    go_wp2_with fail
    refine HAL.out.mono ?_
    rintro e w1 ⟨rfl, k⟩
    have HB1 := Lib.hid k
    clear k
    go_wp2_with fail
    refine (HGR.out _ HB1.out).mono ?_
    rintro e w' ⟨g, rfl, hg, rfl⟩
    have HG := Lib.hid hg
    clear hg
    cases g with
    | true =>
      go_wp2
      go_ret
      exact ⟨rfl, HB1.out⟩
    | false =>
      go_wp2_with fail
      refine (HTX.out _ HB1.out).mono ?_
      rintro e w2 ⟨rfl, k⟩
      have HB2 := Lib.hid (HB1.out.trans (k.mono HB1.out.size))
      clear k
      obtain ⟨s, hs⟩ : ∃ s, mkS l = s := ⟨_, rfl⟩
      have hsl : bsl s = l := by rw [← hs, bsl_mkS]
      have hsz : s.size = l.length := by rw [← hsl, bsl_len]
      rw [hs]
      by_cases h16 : (16000 : Int) < (s.size : Int)
      · clear hs hsl hsz
        go_wp2
        go_ret
        exact ⟨rfl, HB2.out⟩
      · have HP := HPA.out s (t, 0) w2 (by omega) (by rw [hsl]; exact HBK.out (by omega)) HB2.out
        simp only [HT.out] at HP
        have HP := Lib.hid HP
        clear hs hsl hsz
        go_wp2_with fail
        refine HP.out.mono ?_
        rintro e w3 ⟨C, d, rfl, h1, k⟩
        have HB3 := Lib.hid (HB2.out.trans (k.mono HB2.out.size))
        have HCT := Lib.hid (rx_atG h1 (by rw [HT.out]; omega) (fun x hx => by
          obtain ⟨i, hi⟩ := List.getElem?_of_mem hx
          have := (HG.out (by first | rfl | trivial)).2 i x hi
          omega))
        have HSS := Lib.hid (HSM.out w3 C d HCT.out HB3.out)
        clear h1 k
        go_wp2_with fail
        refine HSS.out.mono ?_
        rintro e w4 ⟨rfl, k⟩
        have HB4 := Lib.hid (HB3.out.trans (k.mono HB3.out.size))
        clear k
        go_wp2
        go_ret
        exact ⟨rfl, HB4.out⟩
  · rw [patE_no hp, textL_no hp] at HTX
    rw [patE_no hp] at HCK
    have e0 : mkS [] = ByteArray.empty := rfl
    clear hp
    go_enter Tryz.func8, Tryz.ntmps8
    go_wp2_with fail
    refine HAL.out.mono ?_
    rintro e w1 ⟨rfl, k⟩
    have HB1 := Lib.hid k
    clear k
    go_wp2_with fail
    refine (HGR.out _ HB1.out).mono ?_
    rintro e w' ⟨g, rfl, hg, rfl⟩
    clear hg
    cases g with
    | true =>
      go_wp2
      go_ret
      exact ⟨rfl, HB1.out⟩
    | false =>
      go_wp2_with fail
      refine (HTX.out _ HB1.out).mono ?_
      rintro e w2 ⟨rfl, k⟩
      have HB2 := Lib.hid (HB1.out.trans (k.mono HB1.out.size))
      have emp : (mkS ([] : List UInt8)).toList.isEmpty = true := by rw [toList_bsl, bsl_mkS]; rfl
      generalize mkS ([] : List UInt8) = s at *
      clear k
      go_wp2_with fail
      refine (HCK.out _ HB2.out).mono ?_
      rintro e w3 ⟨rfl, k⟩
      have HB3 := Lib.hid (HB2.out.trans (k.mono HB2.out.size))
      clear k
      go_wp2
      go_ret
      exact ⟨rfl, HB3.out⟩
end Go.Proofs.YtilhicefhhgecaaGreatDoor

namespace Pv
open Go Go.RowKit
/-- What is read is a pattern, of few ranges. -/
theorem parse_is {l : Bs} {t : List Rx} {c : Int} (h : parseB l = (t, c)) : (c ≠ 0 ∧ t = []) ∨ (c = 0 ∧ Pat t ∧ NarX t ∧ sumS t ≤ 2 * l.length) := by
  obtain ⟨d, hd⟩ : ∃ d, (if 16384 < l.length then (4 : Int) else if Lib.validD l then 0 else 10) = d := ⟨_, rfl⟩
  by_cases h0 : d = 0
  · rw [h0] at hd
    rw [parseB_ok hd] at h
    cases hr : rowsB (l.length + 1) l false with
    | none =>
      rw [hr] at h
      obtain ⟨rfl, rfl⟩ := Prod.mk.inj h
      exact .inl ⟨by decide, rfl⟩
    | some p =>
      obtain ⟨u, r, w⟩ := p
      have hn := rowsG_nar _ _ _ _ _ _ hr
      rw [hr] at h
      unfold endP at h
      simp only at h
      split at h
      · obtain ⟨rfl, rfl⟩ := Prod.mk.inj h
        exact .inl ⟨by decide, rfl⟩
      · split at h
        · obtain ⟨rfl, rfl⟩ := Prod.mk.inj h
          exact .inl ⟨by decide, rfl⟩
        · rename_i hw
          split at h
          · rename_i hp
            obtain ⟨rfl, rfl⟩ := Prod.mk.inj h
            simp only [Bool.or_eq_true, not_or, Bool.not_eq_true] at hw
            exact .inr ⟨rfl, Pat.of hp, (hn.2 hw.2).2, by omega⟩
          · obtain ⟨rfl, rfl⟩ := Prod.mk.inj h
            exact .inl ⟨by decide, rfl⟩
  · rw [parseB_bad hd h0] at h
    obtain ⟨rfl, rfl⟩ := Prod.mk.inj h
    exact .inl ⟨h0, rfl⟩
end Pv
namespace Go.Proofs.YtilhicefhhgecaaGreatDoor
open Go.RowKit Pv
set_option maxHeartbeats 4000000 in
set_option maxRecDepth 100000 in
theorem law_PatternOne (s : ByteArray) (w : World) (B0 : Nat) (hT : T7 B0 w) (hB : B0 ≤ w.heap.size) :
    Calls Tryz.prog 9 #[.string s] w fun e w' => e = .returned (.bool true) ∧ Below w.heap.size w w' := by
  have HAL := Lib.hid (law7_alive w B0 hT hB)
  have HPA := Lib.hid (fun (s : ByteArray) (x : List Rx × Int) W (hs : s.size ≤ 20000) (hx : parseB (bsl s) = x) (hb : Below w.heap.size w W) => parse7 s x W B0 hs hx (hT.then hb hB) (Nat.le_trans hB hb.size))
  have HTX := Lib.hid (fun A c n t W (ha : AtRx W A t) (HL : Hid (t.length = n)) (hb : Below w.heap.size w W) => pattern_Text A c n t W ha HL ((hT.then hb hB).tabs (Nat.le_trans hB hb.size)))
  clear hT hB
  by_cases h4 : (400 : Int) < (s.size : Int)
  · go_enter Tryz.func9, Tryz.ntmps9
    go_wp2_with fail
    refine HAL.out.mono ?_
    rintro e w1 ⟨rfl, k⟩
    have HB1 := Lib.hid k
    clear k
    go_wp2
    go_ret
    exact ⟨rfl, HB1.out⟩
  obtain ⟨⟨t, c⟩, hx⟩ : ∃ x, parseB (bsl s) = x := ⟨_, rfl⟩
  have hs4 : s.size ≤ 400 := by omega
  have HP := Lib.hid (fun W hb => HPA.out s _ W (by omega) hx hb)
  rcases parse_is hx with ⟨hc, rfl⟩ | ⟨rfl, hp, hn, hz⟩
  · simp only [List.length_nil] at HP
    have e1 : (c != 0) = true := by simpa using hc
    clear hx hc
    go_enter Tryz.func9, Tryz.ntmps9
    go_wp2_with fail
    refine HAL.out.mono ?_
    rintro e w1 ⟨rfl, k⟩
    have HB1 := Lib.hid k
    clear k
    go_wp2_with fail
    refine (HP.out _ HB1.out).mono ?_
    rintro e w2 ⟨A, d, rfl, _, k⟩
    have HB2 := Lib.hid (HB1.out.trans (k.mono HB1.out.size))
    clear k
    go_wp2
    go_ret
    exact ⟨rfl, HB2.out⟩
  obtain ⟨n, hn2⟩ : ∃ n, t.length = n := ⟨_, rfl⟩
  have HL := Lib.hid hn2
  have hn64 : n ≤ 64 := by rw [← hn2]; exact hp.2.1
  have hlen : (textL t).length ≤ 16384 := by
    have h1 := text_len hp
    rw [bsl_len] at hz
    omega
  obtain ⟨a, ha⟩ : ∃ a, mkS (textL t) = a := ⟨_, rfl⟩
  have hal : bsl a = textL t := by rw [← ha, bsl_mkS]
  have HP2 := Lib.hid (fun W hb => HPA.out a (t, 0) W (by rw [← bsl_len, hal]; omega) (by rw [hal]; exact text_back hp hlen) hb)
  have HTX2 := Lib.hid (fun A c W ha hb => HTX.out A c n t W ha HL hb)
  rw [ha, patE_yes hp] at HTX2
  have HCK := Lib.hid (fun A c W (ha : AtRx W A t) => pattern_Check A c n t W ha HL)
  rw [patE_yes hp] at HCK
  have HRX := Lib.hid (fun W b A c (h : OwnRx W b (.slice A n c) t) => rx_atG h (by rw [HL.out]; omega) hn)
  simp only [hn2] at HP HP2
  clear hx hp hn hz hn2 hlen ha hal
  go_enter Tryz.func9, Tryz.ntmps9
  go_wp2_with fail
  refine HAL.out.mono ?_
  rintro e w1 ⟨rfl, k⟩
  have HB1 := Lib.hid k
  clear k
  go_wp2_with fail
  refine (HP.out _ HB1.out).mono ?_
  rintro e w2 ⟨A1, d1, rfl, h1, k⟩
  have HB2 := Lib.hid (HB1.out.trans (k.mono HB1.out.size))
  have HA1 := Lib.hid (HRX.out _ _ _ _ h1)
  clear h1 k
  go_wp2_with fail
  refine (HTX2.out _ _ _ HA1.out HB2.out).mono ?_
  rintro e w3 ⟨rfl, k⟩
  have HB3 := Lib.hid (HB2.out.trans (k.mono HB2.out.size))
  have HA1 := Lib.hid (AtRx.keep HA1.out (Keep.of k))
  clear k
  go_wp2_with fail
  refine (HP2.out _ HB3.out).mono ?_
  rintro e w4 ⟨A2, d2, rfl, h1, k⟩
  have HB4 := Lib.hid (HB3.out.trans (k.mono HB3.out.size))
  have HA1 := Lib.hid (AtRx.keep HA1.out (Keep.of k))
  have HA2 := Lib.hid (HRX.out _ _ _ _ h1)
  clear h1 k
  go_wp2_with fail
  refine (HTX2.out _ _ _ HA2.out HB4.out).mono ?_
  rintro e w5 ⟨rfl, k⟩
  have HB5 := Lib.hid (HB4.out.trans (k.mono HB4.out.size))
  have HA1 := Lib.hid (AtRx.keep HA1.out (Keep.of k))
  have HA2 := Lib.hid (AtRx.keep HA2.out (Keep.of k))
  clear k
  go_wp2_with fail
  refine (HCK.out _ _ _ HA1.out).mono ?_
  rintro e w6 ⟨rfl, k⟩
  have HB6 := Lib.hid (HB5.out.trans (k.mono HB5.out.size))
  have HA1 := Lib.hid (AtRx.keep HA1.out (Keep.of k))
  have HA2 := Lib.hid (AtRx.keep HA2.out (Keep.of k))
  have HSM := Lib.hid (same7 A1 A2 d1 d2 n t w6 HA1.out HA2.out HL)
  clear k
  go_wp2_with fail
  refine HSM.out.mono ?_
  rintro e w7 ⟨rfl, k⟩
  have HB7 := Lib.hid (HB6.out.trans (k.mono HB6.out.size))
  clear k
  go_wp2
  go_ret
  exact ⟨by simp, HB7.out⟩
end Go.Proofs.YtilhicefhhgecaaGreatDoor

namespace Pv
open Go Go.RowKit
theorem parse_none {l : Bs} (h1 : l.length ≤ 16384) (hv : Lib.validD l = true) (h : rowsB (l.length + 1) l false = none) : parseB l = ([], 70) := by
  rw [parseB_ok (by rw [if_neg (by omega), hv]; rfl), h]
  rfl
theorem parse_many {l : Bs} (h1 : l.length ≤ 16384) (hv : Lib.validD l = true) (h : (match rowsB (l.length + 1) l false with | some (t, r, _) => r.isEmpty && decide (64 < t.length) | none => false) = true) : parseB l = ([], 4) := by
  rw [parseB_ok (by rw [if_neg (by omega), hv]; rfl)]
  cases hr : rowsB (l.length + 1) l false with
  | none => rw [hr] at h; cases h
  | some p =>
    obtain ⟨t, r, w⟩ := p
    rw [hr] at h
    simp only [Bool.and_eq_true, decide_eq_true_eq] at h
    unfold endP
    simp only [h.1, Bool.true_eq_false, if_false, h.2, decide_true, Bool.true_or, if_true]
theorem parse_tree {l : Bs} {T : Tr} (h1 : l.length ≤ 16384) (hv : Lib.validD l = true) (ho : T.Ok 16) (hz : T.flat.length ≤ 64) (h : rowsB (l.length + 1) l false = some (T.flat, [], false)) : parseB l = (T.flat, 0) := by
  rw [parseB_ok (by rw [if_neg (by omega), hv]; rfl), h]
  unfold endP
  simp only [List.isEmpty_nil, Bool.true_eq_false, if_false, Bool.or_false]
  rw [if_neg (by simp; omega), if_pos (patB_yes (Pat.of_tree ho hz))]
def noC : Tr := .mk ⟨1, [⟨0, 96⟩, ⟨100, 1114111⟩], 0, 0, 0⟩ []
theorem ok_noC : noC.Ok 16 := okTr_is (by decide)
theorem ok_ep : epX.Ok 16 := okTr_is (by decide)
def l0 : Bs := [91, 94, 97, 45, 99, 93]
def l1 : Bs := [91, 92, 117, 48, 48, 48, 48, 48, 48, 45, 96, 100, 45, 244, 143, 191, 191, 93]
theorem n0 : parseB l0 = (noC.flat, 0) := parse_tree (by decide) (by decide +kernel) ok_noC (by decide) (by decide +kernel)
theorem n1 : parseB [40, 41] = (epX.flat, 0) := parse_tree (by decide) (by decide +kernel) ok_ep (by decide) (by decide +kernel)
theorem n2 : noC.txt = l1 := by decide +kernel
theorem n3 : epX.txt = [] := by decide +kernel
theorem n4 : parseB [97, 42, 42] = ([], 70) := parse_none (by decide) (by decide +kernel) (by decide +kernel)
theorem n5 : parseB [40] = ([], 70) := parse_none (by decide) (by decide +kernel) (by decide +kernel)
theorem n6 : parseB [91, 98, 45, 97, 93] = ([], 70) := parse_none (by decide) (by decide +kernel) (by decide +kernel)
theorem n7 : parseB [97, 123, 49, 55, 125] = ([], 70) := parse_none (by decide) (by decide +kernel) (by decide +kernel)
theorem n8 : parseB [92, 113] = ([], 70) := parse_none (by decide) (by decide +kernel) (by decide +kernel)
theorem n9 : parseB [255] = ([], 10) := parseB_bad (by decide +kernel) (by decide)
theorem n10 : parseB (List.replicate 65 97) = ([], 4) := parse_many (by decide) (by decide +kernel) (by decide +kernel)
end Pv
namespace Go.Proofs.YtilhicefhhgecaaGreatDoor
open Go.RowKit Pv
theorem deep_next (k : Nat) : mkS (List.replicate k 97) ++ (⟨#[97]⟩ : ByteArray) = mkS (List.replicate (k + 1) 97) := by
  rw [List.replicate_succ', mkS_app]
  rfl
theorem one_node {w : World} {v : Value} {l : List Rng} (hv : IsSet w v l) : AtRx (w.alloc (.cells #[.int .u8 1, v, .int .i64 0, .int .i64 0, .int .i64 0] TRx)) (some ⟨w.heap.size, 0, none⟩) [setX l] :=
  AtK.ofBlk (Blk.new w TRx _) (node_set (SlK.keep hv (Keep.alloc w _))) (by simp)
set_option maxHeartbeats 4000000 in
set_option maxRecDepth 100000 in
theorem law_PatternNames (w : World) (B0 : Nat) (hT : T7 B0 w) (hB : B0 ≤ w.heap.size) :
    Calls Tryz.prog 7 #[] w fun e w' => e = .returned (.bool true) ∧ Below w.heap.size w w' := by
  have HAL := Lib.hid (fun W (hb : Below w.heap.size w W) => law7_alive W B0 (hT.then hb hB) (Nat.le_trans hB hb.size))
  have HP0 := Lib.hid (fun W (hb : Below w.heap.size w W) => show Calls Tryz.prog 12 #[.string ⟨#[91, 94, 97, 45, 99, 93]⟩] W (fun e w' => ∃ A c, e = .returned (.tuple #[.slice A 1 c, .int .i64 0]) ∧ OwnRx w' W.heap.size (.slice A 1 c) noC.flat ∧ Below W.heap.size W w') from parse7 ⟨#[91, 94, 97, 45, 99, 93]⟩ (noC.flat, 0) W B0 (by decide) n0 (hT.then hb hB) (Nat.le_trans hB hb.size))
  have HP1 := Lib.hid (fun W (hb : Below w.heap.size w W) => show Calls Tryz.prog 12 #[.string ⟨#[40, 41]⟩] W (fun e w' => ∃ A c, e = .returned (.tuple #[.slice A 1 c, .int .i64 0]) ∧ OwnRx w' W.heap.size (.slice A 1 c) epX.flat ∧ Below W.heap.size W w') from parse7 ⟨#[40, 41]⟩ (epX.flat, 0) W B0 (by decide) n1 (hT.then hb hB) (Nat.le_trans hB hb.size))
  have HST := Lib.hid (fun W => law7_set2 0 96 100 1114111 W (by omega) (by omega) (by omega) (by omega))
  have htx := textL_tree ok_noC (by decide)
  have HTX := Lib.hid (fun (A : Option Addr) W (ha : AtRx W A noC.flat) (hb : Below w.heap.size w W) => pattern_Text A 1 1 noC.flat W ha (Lib.hid rfl) ((hT.then hb hB).tabs (Nat.le_trans hB hb.size)))
  rw [htx, n2, patE_yes (Pat.of_tree ok_noC (by decide)), show mkS l1 = ⟨#[91, 92, 117, 48, 48, 48, 48, 48, 48, 45, 96, 100, 45, 244, 143, 191, 191, 93]⟩ from rfl] at HTX
  have HF := Lib.hid (fun (s : ByteArray) (c : Int) W (hs : s.size ≤ 20000) (hx : parseB (bsl s) = ([], c)) (hb : Below w.heap.size w W) => law7_fails s c W B0 hs hx (hT.then hb hB) (Nat.le_trans hB hb.size))
  have HTL := Lib.hid (fun (A : Option Addr) W (ha : AtRx W A epX.flat) (hb : Below w.heap.size w W) => tells7 ⟨#[]⟩ epX [] rfl ok_ep (by decide) (by unfold NarX; decide) n3 (by decide) A 1 1 W B0 ha (Lib.hid rfl) (hT.then hb hB) (Nat.le_trans hB hb.size))
  clear hT hB htx
  go_enter Tryz.func7, Tryz.ntmps7
  go_wp2_with fail
  refine (HP0.out _ (Below.refl _ _)).mono ?_
  rintro e w1 ⟨A1, c1, rfl, h1, k⟩
  have HB1 := Lib.hid k
  have HA1 := Lib.hid (rx_atG h1 (by decide) (by unfold NarX; decide))
  clear h1 k
  go_wp2_with fail
  refine (HP1.out _ HB1.out).mono ?_
  rintro e w2 ⟨A2, c2, rfl, h1, k⟩
  have HB2 := Lib.hid (HB1.out.trans (k.mono HB1.out.size))
  have HA1 := Lib.hid (AtRx.keep HA1.out (Keep.of k))
  have HA2 := Lib.hid (rx_atG h1 (by decide) (by unfold NarX; decide))
  clear h1 k
  go_wp2_with fail
  refine (HST.out _).mono ?_
  rintro e w3 ⟨A3, c3, n3, rfl, h1, k⟩
  have HB3 := Lib.hid (HB2.out.trans (k.mono HB2.out.size))
  have HA1 := Lib.hid (AtRx.keep HA1.out (Keep.of k))
  have HA2 := Lib.hid (AtRx.keep HA2.out (Keep.of k))
  have HX3 := Lib.hid (show AtRx _ _ noC.flat from one_node h1)
  have KA := Keep.alloc w3 (.cells #[.int .u8 1, .slice A3 n3 c3, .int .i64 0, .int .i64 0, .int .i64 0] TRx)
  have HA1 := Lib.hid (AtRx.keep HA1.out KA)
  have HA2 := Lib.hid (AtRx.keep HA2.out KA)
  have HB3 := Lib.hid (HB3.out.alloc HB3.out.size (.cells #[.int .u8 1, .slice A3 n3 c3, .int .i64 0, .int .i64 0, .int .i64 0] TRx))
  clear h1 k KA
  go_wp2_with fail
  refine (HTX.out _ _ HX3.out HB3.out).mono ?_
  rintro e w4 ⟨rfl, k⟩
  have HB4 := Lib.hid (HB3.out.trans (k.mono HB3.out.size))
  have HA1 := Lib.hid (AtRx.keep HA1.out (Keep.of k))
  have HA2 := Lib.hid (AtRx.keep HA2.out (Keep.of k))
  clear k
  go_wp2_with fail
  refine (HF.out ⟨#[97, 42, 42]⟩ 70 _ (by decide) n4 HB4.out).mono ?_
  rintro e w5 ⟨rfl, k⟩
  have HB5 := Lib.hid (HB4.out.trans (k.mono HB4.out.size))
  have HA1 := Lib.hid (AtRx.keep HA1.out (Keep.of k))
  have HA2 := Lib.hid (AtRx.keep HA2.out (Keep.of k))
  clear k
  go_wp2_with fail
  refine (HF.out ⟨#[40]⟩ 70 _ (by decide) n5 HB5.out).mono ?_
  rintro e w6 ⟨rfl, k⟩
  have HB6 := Lib.hid (HB5.out.trans (k.mono HB5.out.size))
  have HA1 := Lib.hid (AtRx.keep HA1.out (Keep.of k))
  have HA2 := Lib.hid (AtRx.keep HA2.out (Keep.of k))
  clear k
  go_wp2_with fail
  refine (HF.out ⟨#[91, 98, 45, 97, 93]⟩ 70 _ (by decide) n6 HB6.out).mono ?_
  rintro e w7 ⟨rfl, k⟩
  have HB7 := Lib.hid (HB6.out.trans (k.mono HB6.out.size))
  have HA1 := Lib.hid (AtRx.keep HA1.out (Keep.of k))
  have HA2 := Lib.hid (AtRx.keep HA2.out (Keep.of k))
  clear k
  go_wp2_with fail
  refine (HF.out ⟨#[97, 123, 49, 55, 125]⟩ 70 _ (by decide) n7 HB7.out).mono ?_
  rintro e w8 ⟨rfl, k⟩
  have HB8 := Lib.hid (HB7.out.trans (k.mono HB7.out.size))
  have HA1 := Lib.hid (AtRx.keep HA1.out (Keep.of k))
  have HA2 := Lib.hid (AtRx.keep HA2.out (Keep.of k))
  clear k
  go_wp2_with fail
  refine (HF.out ⟨#[92, 113]⟩ 70 _ (by decide) n8 HB8.out).mono ?_
  rintro e w9 ⟨rfl, k⟩
  have HB9 := Lib.hid (HB8.out.trans (k.mono HB8.out.size))
  have HA1 := Lib.hid (AtRx.keep HA1.out (Keep.of k))
  have HA2 := Lib.hid (AtRx.keep HA2.out (Keep.of k))
  clear k
  go_wp2_with fail
  refine (HF.out ⟨#[255]⟩ 10 _ (by decide) n9 HB9.out).mono ?_
  rintro e w10 ⟨rfl, k⟩
  have HB10 := Lib.hid (HB9.out.trans (k.mono HB9.out.size))
  have HA1 := Lib.hid (AtRx.keep HA1.out (Keep.of k))
  have HA2 := Lib.hid (AtRx.keep HA2.out (Keep.of k))
  clear k
  go_wp2
  go_loop [8, 9] (fun dv iv => ∃ k : Nat, dv = .string (mkS (List.replicate k 97)) ∧ iv = .int .i64 k ∧ k ≤ 65) (fun _ iv => 65 - (intOf iv).toNat)
  case atStart => exact ⟨0, rfl, rfl, by omega⟩
  case round =>
    obtain ⟨k, rfl, rfl, hk⟩ := hrel
    by_cases hlt : k < 65
    · have HD := Lib.hid (deep_next k)
      have hsz : (mkS (List.replicate k (97 : UInt8))).size = k := by rw [mkS_size, List.length_replicate]
      generalize mkS (List.replicate k 97) = s at *
      have hsz2 : (s.size : Int) ≤ 65 := by omega
      have hsz3 : s.size ≤ 65 := by omega
      clear hsz
      go_wp2
      refine ⟨⟨k + 1, by rw [← HD.out], by first | rfl | (congr 1; omega), by omega⟩, by simp [intOf]; omega⟩
    · obtain rfl : k = 65 := by omega
      have HDP : Hid (parseB (bsl (mkS (List.replicate 65 97))) = ([], 4)) := Lib.hid (by rw [bsl_mkS]; exact n10)
      have HDZ : (mkS (List.replicate 65 97)).size ≤ 20000 := by decide
      generalize mkS (List.replicate 65 97) = s at *
      go_wp2_with fail
      refine (HAL.out _ HB10.out).mono ?_
      rintro e w11 ⟨rfl, k⟩
      have HB11 := Lib.hid (HB10.out.trans (k.mono HB10.out.size))
      have HA1 := Lib.hid (AtRx.keep HA1.out (Keep.of k))
      have HA2 := Lib.hid (AtRx.keep HA2.out (Keep.of k))
      clear k
      go_wp2_with fail
      refine (HST.out _).mono ?_
      rintro e w12 ⟨A4, c4, n4, rfl, h1, k⟩
      have HB12 := Lib.hid (HB11.out.trans (k.mono HB11.out.size))
      have HA1 := Lib.hid (AtRx.keep HA1.out (Keep.of k))
      have HA2 := Lib.hid (AtRx.keep HA2.out (Keep.of k))
      have HX4 := Lib.hid (show AtRx _ _ noC.flat from one_node h1)
      have KA := Keep.alloc w12 (.cells #[.int .u8 1, .slice A4 n4 c4, .int .i64 0, .int .i64 0, .int .i64 0] TRx)
      have HA1 := Lib.hid (AtRx.keep HA1.out KA)
      have HA2 := Lib.hid (AtRx.keep HA2.out KA)
      have HB12 := Lib.hid (HB12.out.alloc HB12.out.size (.cells #[.int .u8 1, .slice A4 n4 c4, .int .i64 0, .int .i64 0, .int .i64 0] TRx))
      have HSM := Lib.hid (same7 A1 (some ⟨w12.heap.size, 0, none⟩) c1 1 1 noC.flat _ HA1.out HX4.out (Lib.hid rfl))
      clear h1 k KA
      go_wp2_with fail
      refine HSM.out.mono ?_
      rintro e w13 ⟨rfl, k⟩
      have HB13 := Lib.hid (HB12.out.trans (k.mono HB12.out.size))
      have HA2 := Lib.hid (AtRx.keep HA2.out (Keep.of k))
      have HX5 := Lib.hid (show AtRx (w13.alloc (.cells #[.int .u8 0, .slice none 0 0, .int .i64 0, .int .i64 0, .int .i64 0] TRx)) (some ⟨w13.heap.size, 0, none⟩) epX.flat from AtK.ofBlk (Blk.new w13 TRx _) (node_empty (k := 0) (by omega) (by omega) (by omega) (by omega)) (by decide))
      have KA := Keep.alloc w13 (.cells #[.int .u8 0, .slice none 0 0, .int .i64 0, .int .i64 0, .int .i64 0] TRx)
      have HA2 := Lib.hid (AtRx.keep HA2.out KA)
      have HB13 := Lib.hid (HB13.out.alloc HB13.out.size (.cells #[.int .u8 0, .slice none 0 0, .int .i64 0, .int .i64 0, .int .i64 0] TRx))
      have HSN := Lib.hid (same7 A2 (some ⟨w13.heap.size, 0, none⟩) c2 1 1 epX.flat _ HA2.out HX5.out (Lib.hid rfl))
      clear k KA
      go_wp2_with fail
      refine HSN.out.mono ?_
      rintro e w14 ⟨rfl, k⟩
      have HB14 := Lib.hid (HB13.out.trans (k.mono HB13.out.size))
      have HX6 := Lib.hid (show AtRx (w14.alloc (.cells #[.int .u8 0, .slice none 0 0, .int .i64 0, .int .i64 0, .int .i64 0] TRx)) (some ⟨w14.heap.size, 0, none⟩) epX.flat from AtK.ofBlk (Blk.new w14 TRx _) (node_empty (k := 0) (by omega) (by omega) (by omega) (by omega)) (by decide))
      have HB14 := Lib.hid (HB14.out.alloc HB14.out.size (.cells #[.int .u8 0, .slice none 0 0, .int .i64 0, .int .i64 0, .int .i64 0] TRx))
      clear k
      go_wp2_with fail
      refine (HTL.out _ _ HX6.out HB14.out).mono ?_
      rintro e w15 ⟨rfl, k⟩
      have HB15 := Lib.hid (HB14.out.trans (k.mono HB14.out.size))
      clear k
      go_wp2_with fail
      refine (HF.out s 4 _ HDZ HDP.out HB15.out).mono ?_
      rintro e w16 ⟨rfl, k⟩
      have HB16 := Lib.hid (HB15.out.trans (k.mono HB15.out.size))
      clear k
      go_wp2
      go_ret
      exact ⟨rfl, HB16.out⟩
end Go.Proofs.YtilhicefhhgecaaGreatDoor

namespace Pv
open Go Go.RowKit
theorem parse_some {l : Bs} {t : List Rx} (hl : l.length ≤ 16384) (hv : Lib.validD l = true) (h : rowsB (l.length + 1) l false = some (t, [], false)) : parseB l = (if 64 < t.length then ([], 4) else if patB t = true then (t, 0) else ([], 30)) := by
  rw [parseB_ok (by rw [if_neg (by omega), hv]; rfl), h]
  unfold endP
  simp
/-- Two patterns side by side. -/
theorem rows_good {a b : Bs} {t u : List Rx} (ha : parseB a = (t, 0)) (hb : parseB b = (u, 0)) (hl : a.length ≤ 200) (hm : b.length ≤ 200) :
    (parseB (catT a b) = (⟨2, [], 2, 0, 0⟩ :: (t ++ u), 0) ∧ parseB (altT a b) = (⟨3, [], 2, 0, 0⟩ :: (t ++ u), 0)) ∨ ∃ c : Int, c ≠ 0 ∧ c ≠ 70 ∧ parseB (catT a b) = ([], c) ∧ parseB (altT a b) = ([], c) := by
  obtain ⟨_, va, ra, _⟩ := parse_rows ha
  obtain ⟨_, vb, rb, _⟩ := parse_rows hb
  have v1 : Lib.validD (catT a b) = true := (valid_rows a b [] (fun c hc => by cases hc)).trans (by rw [va, vb]; rfl)
  have v2 : Lib.validD (altT a b) = true := (valid_rows a b [124] (fun c hc => by simp at hc; subst hc; decide)).trans (by rw [va, vb]; rfl)
  have l1 : (catT a b).length ≤ 16384 := by simp [catT]; omega
  have l2 : (altT a b).length ≤ 16384 := by simp [altT]; omega
  rw [parse_some l1 v1 (rows_cat ra rb), parse_some l2 v2 (rows_alt ra rb)]
  by_cases h64 : 64 < (⟨2, [], 2, 0, 0⟩ :: (t ++ u) : List Rx).length
  · have h65 : 64 < (⟨3, [], 2, 0, 0⟩ :: (t ++ u) : List Rx).length := by simpa using h64
    rw [if_pos h64, if_pos h65]
    exact .inr ⟨4, by decide, by decide, rfl, rfl⟩
  · have h65 : ¬ 64 < (⟨3, [], 2, 0, 0⟩ :: (t ++ u) : List Rx).length := by simpa using h64
    rw [if_neg h64, if_neg h65]
    by_cases hp : Pat (⟨2, [], 2, 0, 0⟩ :: (t ++ u))
    · have hq : Pat (⟨3, [], 2, 0, 0⟩ :: (t ++ u)) := pat_flip (.inl rfl) (.inr rfl) hp
      rw [if_pos (patB_yes hp), if_pos (patB_yes hq)]
      exact .inl ⟨rfl, rfl⟩
    · have hq : ¬ Pat (⟨3, [], 2, 0, 0⟩ :: (t ++ u)) := fun h => hp (pat_flip (.inr rfl) (.inl rfl) h)
      rw [if_neg (by rw [patB_no hp]; simp), if_neg (by rw [patB_no hq]; simp)]
      exact .inr ⟨30, by decide, by decide, rfl, rfl⟩
theorem rows_bad {a b : Bs} {t : List Rx} (ha : parseB a = (t, 10)) (hl : a.length ≤ 200) (hm : b.length ≤ 200) : parseB (catT a b) = ([], 10) := by
  have hv : Lib.validD a = false := by
    cases h : Lib.validD a with
    | false => rfl
    | true =>
      exfalso
      rw [parseB_ok (by rw [if_neg (by omega), h]; rfl)] at ha
      cases hr : rowsB (a.length + 1) a false with
      | none => rw [hr] at ha; exact absurd (Prod.mk.inj ha).2 (by decide)
      | some p =>
        obtain ⟨x, y, z⟩ := p
        rw [hr] at ha
        unfold endP at ha
        simp only at ha
        repeat' split at ha
        all_goals exact absurd (Prod.mk.inj ha).2 (by decide)
  have v1 : Lib.validD (catT a b) = false := (valid_rows a b [] (fun c hc => by cases hc)).trans (by rw [hv]; rfl)
  exact parseB_bad (by rw [if_neg (by simp [catT]; omega), v1]; rfl) (by decide)
theorem rrx_cells {w : World} {f : Nat → Value} {x : Rx} (h : RRx w f x) : ∀ j, j < 5 → (f j).oneCell' = true := by
  intro j hj
  match j, hj with
  | 0, _ => obtain ⟨h0, _⟩ := h.1; rw [h0]; rfl
  | 1, _ => obtain ⟨A, c, hv, _⟩ := h.2; rw [hv]; rfl
  | 2, _ => exact RI.one h.3
  | 3, _ => exact RI.one h.4
  | 4, _ => exact RI.one h.5
end Pv
namespace Go.Proofs.YtilhicefhhgecaaGreatDoor
open Go.RowKit Pv
theorem at7_own {w w9 : World} {b n c : Nat} {A : Option Addr} {us : List Value} {xs : List Rx} (h : w9.ownsRow b TRx 5 (.slice A n c) n us) (hr : RelK 5 (RRx w) us xs) (hn : n = xs.length) (hl : n ≤ 100000) : AtK w9 5 A (RRx w) xs := (AtK.of_own h hr hn (by omega)).2
theorem at7_src {w W' : World} {A : Option Addr} {xs : List Rx} (h : AtRx w A xs) (k : Keep w W') : ∃ us, Hid (RelK 5 (RRx w) us xs) ∧ Hid (Pv.Src W' A 5 xs.length us) := by
  obtain ⟨us, hr, hs⟩ := AtK.src (AtK.keep h k) (fun _ _ h => rrx_cells h)
  exact ⟨us, Lib.hid hr, Lib.hid hs⟩
set_option maxHeartbeats 4000000 in
set_option maxRecDepth 100000 in
theorem law_PatternRows (a b : ByteArray) (w : World) (B0 : Nat) (hT : T7 B0 w) (hB : B0 ≤ w.heap.size) :
    Calls Tryz.prog 10 #[.string a, .string b] w fun e w' => e = .returned (.bool true) ∧ Below w.heap.size w w' := by
  have HAL := Lib.hid (law7_alive w B0 hT hB)
  have HPA := Lib.hid (fun (s : ByteArray) (x : List Rx × Int) W (hs : s.size ≤ 20000) (hx : parseB (bsl s) = x) (hb : Below w.heap.size w W) => parse7 s x W B0 hs hx (hT.then hb hB) (Nat.le_trans hB hb.size))
  clear hT hB
  by_cases hab : (200 : Int) < (a.size : Int) ∨ (200 : Int) < (b.size : Int)
  · by_cases ha : (200 : Int) < (a.size : Int)
    · go_enter Tryz.func10, Tryz.ntmps10
      go_wp2_with fail
      refine HAL.out.mono ?_
      rintro e w1 ⟨rfl, k⟩
      have HB1 := Lib.hid k
      clear k
      go_wp2
      go_ret
      exact ⟨rfl, HB1.out⟩
    · have hb : (200 : Int) < (b.size : Int) := hab.resolve_left ha
      go_enter Tryz.func10, Tryz.ntmps10
      go_wp2_with fail
      refine HAL.out.mono ?_
      rintro e w1 ⟨rfl, k⟩
      have HB1 := Lib.hid k
      clear k
      go_wp2
      go_ret
      exact ⟨rfl, HB1.out⟩
  have ha : (a.size : Int) ≤ 200 := by omega
  have hb : (b.size : Int) ≤ 200 := by omega
  have ha2 : ¬ (200 : Int) < (a.size : Int) := by omega
  have hb2 : ¬ (200 : Int) < (b.size : Int) := by omega
  have la : (bsl a).length ≤ 200 := by rw [bsl_len]; omega
  have lb : (bsl b).length ≤ 200 := by rw [bsl_len]; omega
  obtain ⟨S, hS⟩ : ∃ S : ByteArray, (⟨#[40]⟩ : ByteArray) ++ a ++ ⟨#[41, 40]⟩ ++ b ++ ⟨#[41]⟩ = S := ⟨_, rfl⟩
  obtain ⟨Z, hZ⟩ : ∃ Z : ByteArray, (⟨#[40]⟩ : ByteArray) ++ a ++ ⟨#[41, 124, 40]⟩ ++ b ++ ⟨#[41]⟩ = Z := ⟨_, rfl⟩
  have bS : bsl S = catT (bsl a) (bsl b) := by
    rw [← hS]
    simp only [bsl_app, catT, List.append_assoc]
    rfl
  have bZ : bsl Z = altT (bsl a) (bsl b) := by
    rw [← hZ]
    simp only [bsl_app, altT, List.append_assoc]
    rfl
  have sS : S.size ≤ 20000 := by rw [← bsl_len, bS]; simp [catT]; omega
  have sZ : Z.size ≤ 20000 := by rw [← bsl_len, bZ]; simp [altT]; omega
  obtain ⟨⟨t, e⟩, hx⟩ : ∃ x, parseB (bsl a) = x := ⟨_, rfl⟩
  obtain ⟨⟨u, f⟩, hy⟩ : ∃ x, parseB (bsl b) = x := ⟨_, rfl⟩
  obtain ⟨⟨v, g⟩, hv⟩ : ∃ x, parseB (bsl S) = x := ⟨_, rfl⟩
  obtain ⟨⟨z, h⟩, hz⟩ : ∃ x, parseB (bsl Z) = x := ⟨_, rfl⟩
  have H1 := Lib.hid (fun W hb => HPA.out a _ W (by omega) hx hb)
  have H2 := Lib.hid (fun W hb => HPA.out b _ W (by omega) hy hb)
  have H3 := Lib.hid (fun W hb => HPA.out S _ W sS hv hb)
  have H4 := Lib.hid (fun W hb => HPA.out Z _ W sZ hz hb)
  have pa := parse_is hx
  have pb := parse_is hy
  have hS := Lib.hid hS; have hZ := Lib.hid hZ
  have hL := Lib.hid (rfl : t.length = t.length)
  by_cases he : e = 0
  · by_cases hf : f = 0
    · -- both tell patterns
      obtain ⟨_, hp1, hn1, _⟩ := pa.resolve_left (fun q => q.1 he)
      obtain ⟨_, hp2, hn2, _⟩ := pb.resolve_left (fun q => q.1 hf)
      subst he; subst hf
      have hg := rows_good hx hy la lb
      rw [← bS, ← bZ, hv, hz] at hg
      obtain ⟨n1, hl1⟩ : ∃ n, t.length = n := ⟨_, rfl⟩
      obtain ⟨n2, hl2⟩ : ∃ n, u.length = n := ⟨_, rfl⟩
      have i1 : n1 ≤ 64 := by rw [← hl1]; exact hp1.2.1
      have i2 : n2 ≤ 64 := by rw [← hl2]; exact hp2.2.1
      have HL1 := Lib.hid hl1; have HL2 := Lib.hid hl2
      rcases hg with ⟨g1, g2⟩ | ⟨c, c0, c70, g1, g2⟩
      · obtain ⟨rfl, rfl⟩ := Prod.mk.inj g1
        obtain ⟨rfl, rfl⟩ := Prod.mk.inj g2
        have hl3 : (⟨2, [], 2, 0, 0⟩ :: (t ++ u) : List Rx).length = 1 + n1 + n2 := by simp [hl1, hl2]; omega
        have hl4 : (⟨3, [], 2, 0, 0⟩ :: (t ++ u) : List Rx).length = 1 + n1 + n2 := by simp [hl1, hl2]; omega
        have HL3 := Lib.hid hl3; have HL4 := Lib.hid hl4
        have HN1 := Lib.hid hn1; have HN2 := Lib.hid hn2
        simp only [hl1] at H1
        simp only [hl2] at H2
        simp only [hl3] at H3
        simp only [hl4] at H4
        obtain ⟨i0, hi0, hz0, hs0, hb0⟩ := info_parts info_rx
        clear hx hy hv hz g1 g2 pa pb hp1 hp2 hn1 hn2 hl1 hl2 hl3 hl4 hab la lb bS bZ sS sZ
        go_enter Tryz.func10, Tryz.ntmps10
        go_wp2_with fail
        refine HAL.out.mono ?_
        rintro q w1 ⟨rfl, k⟩
        have HB1 := Lib.hid k
        clear k
        go_wp2_with fail
        refine (H1.out _ HB1.out).mono ?_
        rintro q w2 ⟨A1, c1, rfl, k1, k⟩
        have HB2 := Lib.hid (HB1.out.trans (k.mono HB1.out.size))
        have K1 := Lib.hid k1
        clear k k1
        go_wp2_with fail
        refine (H2.out _ HB2.out).mono ?_
        rintro q w3 ⟨A2, c2, rfl, k1, k⟩
        have HB3 := Lib.hid (HB2.out.trans (k.mono HB2.out.size))
        have K2 := Lib.hid k1
        have D3 := Lib.hid (Keep.of k)
        clear k k1
        go_wp2_with fail
        refine (H3.out _ HB3.out).mono ?_
        rintro q w4 ⟨A3, c3, rfl, k1, k⟩
        have HB4 := Lib.hid (HB3.out.trans (k.mono HB3.out.size))
        have K3 := Lib.hid k1
        have D4 := Lib.hid (Keep.of k)
        clear k k1
        go_wp2_with fail
        refine (H4.out _ HB4.out).mono ?_
        rintro q w5 ⟨A4, c4, rfl, k1, k⟩
        have HB5 := Lib.hid (HB4.out.trans (k.mono HB4.out.size))
        have K4 := Lib.hid k1
        have D5 := Lib.hid (Keep.of k)
        clear k k1
        have X1 := Lib.hid (AtRx.keep (AtRx.keep (AtRx.keep (rx_atG K1.out (by rw [HL1.out]; omega) HN1.out) D3.out) D4.out) D5.out)
        have X2 := Lib.hid (AtRx.keep (AtRx.keep (rx_atG K2.out (by rw [HL2.out]; omega) HN2.out) D4.out) D5.out)
        have hn3 : ∀ x : Rx, x.set = [] → NarX (x :: (t ++ u)) := fun x hx y hy => by
          rcases List.mem_cons.1 hy with rfl | hy
          · rw [hx]; simp
          · exact (List.mem_append.1 hy).elim (HN1.out y) (HN2.out y)
        have X3 := Lib.hid (AtRx.keep (rx_atG K3.out (by rw [HL3.out]; omega) (hn3 _ rfl)) D5.out)
        have X4 := Lib.hid (rx_atG K4.out (by rw [HL4.out]; omega) (hn3 _ rfl))
        clear hn3
        have P6 := Lib.hid (own_fiveE (W := w5) (N := w5.heap.size) (.int .u8 2) (.slice none 0 0) (.int .i64 2) (.int .i64 0) (.int .i64 0) rfl)
        have BA6 := Lib.hid ((Below.refl w5.heap.size w5).alloc (Nat.le_refl _) (.cells #[.int .u8 2, .slice none 0 0, .int .i64 2, .int .i64 0, .int .i64 0] TRx))
        obtain ⟨ua6, RA6, SA6⟩ := at7_src X1.out (Keep.of BA6.out)
        rw [HL1.out] at SA6
        have za6 : w5.heap.size ≤ (w5.alloc (.cells #[.int .u8 2, .slice none 0 0, .int .i64 2, .int .i64 0, .int .i64 0] TRx)).heap.size := by simp
        have qa6 : Hid (1 + n1 ≤ maxLen) := Lib.hid (by simp only [maxLen]; omega)
        have ra6 : Hid ((1 + n1) * 56 ≤ 140737488355328) := Lib.hid (by omega)
        have qb6 : Hid (1 + n1 + n2 ≤ maxLen) := Lib.hid (by simp only [maxLen]; omega)
        have rb6 : Hid ((1 + n1 + n2) * 56 ≤ 140737488355328) := Lib.hid (by omega)
        go_wp2_with (first
        | (at_builtin
           refine wpList_append_src _ rfl (.tmp 104) (.tmp 105) 29 rfl w5.heap.size TRx i0 _ 5 56 Tryz.underlying29 hi0 hz0 hs0 hb0 rfl (by decide) (some ⟨w5.heap.size, 0, none⟩) 1 1 _ rfl P6.out A1 n1 c1 _ rfl SA6.out qa6.out ra6.out za6 ?_
           go_must (intro Aa6 ca6 wa6 own9 gr9 _
                    have OA6 := Lib.hid own9
                    have BB6 := Lib.hid (BA6.out.grown gr9 za6 (fun k hk => (P6.out.lt k hk).1))
                    obtain ⟨ub6, RB6, SB6⟩ := at7_src X2.out (Keep.of BB6.out)
                    rw [HL2.out] at SB6
                    have zb6 : w5.heap.size ≤ wa6.heap.size := BB6.out.size
                    clear own9 gr9))
        | (at_builtin
           refine wpList_append_src _ rfl (.tmp 106) (.tmp 107) 29 rfl w5.heap.size TRx i0 _ 5 56 Tryz.underlying29 hi0 hz0 hs0 hb0 rfl (by decide) Aa6 ca6 (1 + n1) _ rfl OA6.out A2 n2 c2 _ rfl SB6.out qb6.out rb6.out zb6 ?_
           go_must (intro Ab6 cb6 wb6 own9 gr9 _
                    have BC6 := Lib.hid (BB6.out.grown gr9 zb6 (fun k hk => (OA6.out.lt k hk).1))
                    have KC6 := Lib.hid (Keep.of BC6.out)
                    have Y6 := Lib.hid (show AtRx wb6 Ab6 (⟨2, [], 2, 0, 0⟩ :: (t ++ u)) from AtK.keepR (at7_own (w := w5) own9 (((node_empty (w := w5) (k := 2) (many := 2) (least := 0) (most := 0) (by omega) (by omega) (by omega) (by omega)).app RA6.out).app RB6.out) (by simp [HL1.out, HL2.out]; omega) (by omega)) (Keep.refl _) (fun _ _ h => h.keep KC6.out))
                    have X1 := Lib.hid (AtRx.keep X1.out KC6.out)
                    have X2 := Lib.hid (AtRx.keep X2.out KC6.out)
                    have X3 := Lib.hid (AtRx.keep X3.out KC6.out)
                    have X4 := Lib.hid (AtRx.keep X4.out KC6.out)
                    have HB6 := Lib.hid (HB5.out.trans (BC6.out.mono HB5.out.size))
                    have P7 := Lib.hid (own_fiveE (W := wb6) (N := wb6.heap.size) (.int .u8 3) (.slice none 0 0) (.int .i64 2) (.int .i64 0) (.int .i64 0) rfl)
                    have BA7 := Lib.hid ((Below.refl wb6.heap.size wb6).alloc (Nat.le_refl _) (.cells #[.int .u8 3, .slice none 0 0, .int .i64 2, .int .i64 0, .int .i64 0] TRx))
                    obtain ⟨ua7, RA7, SA7⟩ := at7_src X1.out (Keep.of BA7.out)
                    rw [HL1.out] at SA7
                    have za7 : wb6.heap.size ≤ (wb6.alloc (.cells #[.int .u8 3, .slice none 0 0, .int .i64 2, .int .i64 0, .int .i64 0] TRx)).heap.size := by simp
                    have qa7 : Hid (1 + n1 ≤ maxLen) := Lib.hid (by simp only [maxLen]; omega)
                    have ra7 : Hid ((1 + n1) * 56 ≤ 140737488355328) := Lib.hid (by omega)
                    have qb7 : Hid (1 + n1 + n2 ≤ maxLen) := Lib.hid (by simp only [maxLen]; omega)
                    have rb7 : Hid ((1 + n1 + n2) * 56 ≤ 140737488355328) := Lib.hid (by omega)
                    clear own9 gr9))
        | (at_builtin
           refine wpList_append_src _ rfl (.tmp 110) (.tmp 111) 29 rfl wb6.heap.size TRx i0 _ 5 56 Tryz.underlying29 hi0 hz0 hs0 hb0 rfl (by decide) (some ⟨wb6.heap.size, 0, none⟩) 1 1 _ rfl P7.out A1 n1 c1 _ rfl SA7.out qa7.out ra7.out za7 ?_
           go_must (intro Aa7 ca7 wa7 own9 gr9 _
                    have OA7 := Lib.hid own9
                    have BB7 := Lib.hid (BA7.out.grown gr9 za7 (fun k hk => (P7.out.lt k hk).1))
                    obtain ⟨ub7, RB7, SB7⟩ := at7_src X2.out (Keep.of BB7.out)
                    rw [HL2.out] at SB7
                    have zb7 : wb6.heap.size ≤ wa7.heap.size := BB7.out.size
                    clear own9 gr9))
        | (at_builtin
           refine wpList_append_src _ rfl (.tmp 112) (.tmp 113) 29 rfl wb6.heap.size TRx i0 _ 5 56 Tryz.underlying29 hi0 hz0 hs0 hb0 rfl (by decide) Aa7 ca7 (1 + n1) _ rfl OA7.out A2 n2 c2 _ rfl SB7.out qb7.out rb7.out zb7 ?_
           go_must (intro Ab7 cb7 wb7 own9 gr9 _
                    have BC7 := Lib.hid (BB7.out.grown gr9 zb7 (fun k hk => (OA7.out.lt k hk).1))
                    have KC7 := Lib.hid (Keep.of BC7.out)
                    have Y7 := Lib.hid (show AtRx wb7 Ab7 (⟨3, [], 2, 0, 0⟩ :: (t ++ u)) from AtK.keepR (at7_own (w := wb6) own9 (((node_empty (w := wb6) (k := 3) (many := 2) (least := 0) (most := 0) (by omega) (by omega) (by omega) (by omega)).app RA7.out).app RB7.out) (by simp [HL1.out, HL2.out]; omega) (by omega)) (Keep.refl _) (fun _ _ h => h.keep KC7.out))
                    have X1 := Lib.hid (AtRx.keep X1.out KC7.out)
                    have X2 := Lib.hid (AtRx.keep X2.out KC7.out)
                    have X3 := Lib.hid (AtRx.keep X3.out KC7.out)
                    have X4 := Lib.hid (AtRx.keep X4.out KC7.out)
                    have HB7 := Lib.hid (HB6.out.trans (BC7.out.mono HB6.out.size))
                    have Y6 := Lib.hid (AtRx.keep Y6.out KC7.out)
                    clear own9 gr9)))
        have HSM := Lib.hid (same7 A3 Ab6 c3 cb6 (1 + n1 + n2) _ wb7 X3.out Y6.out HL3)
        go_wp2_with fail
        refine HSM.out.mono ?_
        rintro q w8 ⟨rfl, k⟩
        have HB8 := Lib.hid (HB7.out.trans (k.mono HB7.out.size))
        have HSN := Lib.hid (same7 A4 Ab7 c4 cb7 (1 + n1 + n2) _ w8 (AtRx.keep X4.out (Keep.of k)) (AtRx.keep Y7.out (Keep.of k)) HL4)
        clear k
        go_wp2_with fail
        refine HSN.out.mono ?_
        rintro q w9 ⟨rfl, k⟩
        have HB9 := Lib.hid (HB8.out.trans (k.mono HB8.out.size))
        clear k
        go_wp2
        go_ret
        exact ⟨rfl, HB9.out⟩
      · obtain ⟨rfl, rfl⟩ := Prod.mk.inj g1
        obtain ⟨rfl, rfl⟩ := Prod.mk.inj g2
        have j1 : (h != 0) = true := by simpa using c0
        have j2 : (h != 70) = true := by simpa using c70
        have j3 : (h == h) = true := by simp
        simp only [hl1] at H1
        simp only [hl2] at H2
        simp only [List.length_nil] at H3 H4
        clear hx hy hv hz g1 g2 pa pb hp1 hp2 hn1 hn2 hl1 hl2 c0 c70 hab la lb bS bZ sS sZ
        go_enter Tryz.func10, Tryz.ntmps10
        go_wp2_with fail
        refine HAL.out.mono ?_
        rintro q w1 ⟨rfl, k⟩
        have HB1 := Lib.hid k
        clear k
        go_wp2_with fail
        refine (H1.out _ HB1.out).mono ?_
        rintro q w2 ⟨A1, c1, rfl, k1, k⟩
        have HB2 := Lib.hid (HB1.out.trans (k.mono HB1.out.size))
        have K1 := Lib.hid k1
        clear k k1
        go_wp2_with fail
        refine (H2.out _ HB2.out).mono ?_
        rintro q w3 ⟨A2, c2, rfl, k1, k⟩
        have HB3 := Lib.hid (HB2.out.trans (k.mono HB2.out.size))
        have K2 := Lib.hid k1
        have D3 := Lib.hid (Keep.of k)
        clear k k1
        go_wp2_with fail
        refine (H3.out _ HB3.out).mono ?_
        rintro q w4 ⟨A3, c3, rfl, k1, k⟩
        have HB4 := Lib.hid (HB3.out.trans (k.mono HB3.out.size))
        have K3 := Lib.hid k1
        have D4 := Lib.hid (Keep.of k)
        clear k k1
        go_wp2_with fail
        refine (H4.out _ HB4.out).mono ?_
        rintro q w5 ⟨A4, c4, rfl, k1, k⟩
        have HB5 := Lib.hid (HB4.out.trans (k.mono HB4.out.size))
        have K4 := Lib.hid k1
        have D5 := Lib.hid (Keep.of k)
        clear k k1
        go_wp2
        go_ret
        exact ⟨rfl, HB5.out⟩
    · -- the second does not
      subst he
      have j0 : (f != 0) = true := by simpa using hf
      by_cases hg0 : g = 0
      · subst hg0
        by_cases hh0 : h = 0
        · subst hh0
          simp only at H1 H2 H3 H4
          clear hx hy hv hz pa pb hab la lb bS bZ sS sZ
          go_enter Tryz.func10, Tryz.ntmps10
          go_wp2_with fail
          refine HAL.out.mono ?_
          rintro q w1 ⟨rfl, k⟩
          have HB1 := Lib.hid k
          clear k
          go_wp2_with fail
          refine (H1.out _ HB1.out).mono ?_
          rintro q w2 ⟨A1, c1, rfl, k1, k⟩
          have HB2 := Lib.hid (HB1.out.trans (k.mono HB1.out.size))
          have K1 := Lib.hid k1
          clear k k1
          go_wp2_with fail
          refine (H2.out _ HB2.out).mono ?_
          rintro q w3 ⟨A2, c2, rfl, k1, k⟩
          have HB3 := Lib.hid (HB2.out.trans (k.mono HB2.out.size))
          have K2 := Lib.hid k1
          have D3 := Lib.hid (Keep.of k)
          clear k k1
          go_wp2_with fail
          refine (H3.out _ HB3.out).mono ?_
          rintro q w4 ⟨A3, c3, rfl, k1, k⟩
          have HB4 := Lib.hid (HB3.out.trans (k.mono HB3.out.size))
          have K3 := Lib.hid k1
          have D4 := Lib.hid (Keep.of k)
          clear k k1
          go_wp2_with fail
          refine (H4.out _ HB4.out).mono ?_
          rintro q w5 ⟨A4, c4, rfl, k1, k⟩
          have HB5 := Lib.hid (HB4.out.trans (k.mono HB4.out.size))
          have K4 := Lib.hid k1
          have D5 := Lib.hid (Keep.of k)
          clear k k1
          go_wp2
          go_ret
          exact ⟨rfl, HB5.out⟩
        · have j2 : (h != 0) = true := by simpa using hh0
          simp only at H1 H2 H3 H4
          clear hx hy hv hz pa pb hab la lb bS bZ sS sZ
          go_enter Tryz.func10, Tryz.ntmps10
          go_wp2_with fail
          refine HAL.out.mono ?_
          rintro q w1 ⟨rfl, k⟩
          have HB1 := Lib.hid k
          clear k
          go_wp2_with fail
          refine (H1.out _ HB1.out).mono ?_
          rintro q w2 ⟨A1, c1, rfl, k1, k⟩
          have HB2 := Lib.hid (HB1.out.trans (k.mono HB1.out.size))
          have K1 := Lib.hid k1
          clear k k1
          go_wp2_with fail
          refine (H2.out _ HB2.out).mono ?_
          rintro q w3 ⟨A2, c2, rfl, k1, k⟩
          have HB3 := Lib.hid (HB2.out.trans (k.mono HB2.out.size))
          have K2 := Lib.hid k1
          have D3 := Lib.hid (Keep.of k)
          clear k k1
          go_wp2_with fail
          refine (H3.out _ HB3.out).mono ?_
          rintro q w4 ⟨A3, c3, rfl, k1, k⟩
          have HB4 := Lib.hid (HB3.out.trans (k.mono HB3.out.size))
          have K3 := Lib.hid k1
          have D4 := Lib.hid (Keep.of k)
          clear k k1
          go_wp2_with fail
          refine (H4.out _ HB4.out).mono ?_
          rintro q w5 ⟨A4, c4, rfl, k1, k⟩
          have HB5 := Lib.hid (HB4.out.trans (k.mono HB4.out.size))
          have K4 := Lib.hid k1
          have D5 := Lib.hid (Keep.of k)
          clear k k1
          go_wp2
          go_ret
          exact ⟨rfl, HB5.out⟩
      · have j1 : (g != 0) = true := by simpa using hg0
        by_cases hh0 : h = 0
        · subst hh0
          simp only at H1 H2 H3 H4
          clear hx hy hv hz pa pb hab la lb bS bZ sS sZ
          go_enter Tryz.func10, Tryz.ntmps10
          go_wp2_with fail
          refine HAL.out.mono ?_
          rintro q w1 ⟨rfl, k⟩
          have HB1 := Lib.hid k
          clear k
          go_wp2_with fail
          refine (H1.out _ HB1.out).mono ?_
          rintro q w2 ⟨A1, c1, rfl, k1, k⟩
          have HB2 := Lib.hid (HB1.out.trans (k.mono HB1.out.size))
          have K1 := Lib.hid k1
          clear k k1
          go_wp2_with fail
          refine (H2.out _ HB2.out).mono ?_
          rintro q w3 ⟨A2, c2, rfl, k1, k⟩
          have HB3 := Lib.hid (HB2.out.trans (k.mono HB2.out.size))
          have K2 := Lib.hid k1
          have D3 := Lib.hid (Keep.of k)
          clear k k1
          go_wp2_with fail
          refine (H3.out _ HB3.out).mono ?_
          rintro q w4 ⟨A3, c3, rfl, k1, k⟩
          have HB4 := Lib.hid (HB3.out.trans (k.mono HB3.out.size))
          have K3 := Lib.hid k1
          have D4 := Lib.hid (Keep.of k)
          clear k k1
          go_wp2_with fail
          refine (H4.out _ HB4.out).mono ?_
          rintro q w5 ⟨A4, c4, rfl, k1, k⟩
          have HB5 := Lib.hid (HB4.out.trans (k.mono HB4.out.size))
          have K4 := Lib.hid k1
          have D5 := Lib.hid (Keep.of k)
          clear k k1
          go_wp2
          go_ret
          exact ⟨rfl, HB5.out⟩
        · have j2 : (h != 0) = true := by simpa using hh0
          simp only at H1 H2 H3 H4
          clear hx hy hv hz pa pb hab la lb bS bZ sS sZ
          go_enter Tryz.func10, Tryz.ntmps10
          go_wp2_with fail
          refine HAL.out.mono ?_
          rintro q w1 ⟨rfl, k⟩
          have HB1 := Lib.hid k
          clear k
          go_wp2_with fail
          refine (H1.out _ HB1.out).mono ?_
          rintro q w2 ⟨A1, c1, rfl, k1, k⟩
          have HB2 := Lib.hid (HB1.out.trans (k.mono HB1.out.size))
          have K1 := Lib.hid k1
          clear k k1
          go_wp2_with fail
          refine (H2.out _ HB2.out).mono ?_
          rintro q w3 ⟨A2, c2, rfl, k1, k⟩
          have HB3 := Lib.hid (HB2.out.trans (k.mono HB2.out.size))
          have K2 := Lib.hid k1
          have D3 := Lib.hid (Keep.of k)
          clear k k1
          go_wp2_with fail
          refine (H3.out _ HB3.out).mono ?_
          rintro q w4 ⟨A3, c3, rfl, k1, k⟩
          have HB4 := Lib.hid (HB3.out.trans (k.mono HB3.out.size))
          have K3 := Lib.hid k1
          have D4 := Lib.hid (Keep.of k)
          clear k k1
          go_wp2_with fail
          refine (H4.out _ HB4.out).mono ?_
          rintro q w5 ⟨A4, c4, rfl, k1, k⟩
          have HB5 := Lib.hid (HB4.out.trans (k.mono HB4.out.size))
          have K4 := Lib.hid k1
          have D5 := Lib.hid (Keep.of k)
          clear k k1
          go_wp2
          go_ret
          exact ⟨rfl, HB5.out⟩
  · -- the first does not
    obtain ⟨_, rfl⟩ := pa.resolve_right (fun q => he q.1)
    have j0 : (e != 0) = true := by simpa using he
    simp only [List.length_nil] at H1
    by_cases he10 : e = 10
    · subst he10
      have hg := rows_bad hx la lb
      rw [← bS, hv] at hg
      obtain ⟨rfl, rfl⟩ := Prod.mk.inj hg
      clear hg
      by_cases hh0 : h = 0
      · subst hh0
        simp only at H1 H2 H3 H4
        clear hx hy hv hz pa pb hab la lb bS bZ sS sZ
        go_enter Tryz.func10, Tryz.ntmps10
        go_wp2_with fail
        refine HAL.out.mono ?_
        rintro q w1 ⟨rfl, k⟩
        have HB1 := Lib.hid k
        clear k
        go_wp2_with fail
        refine (H1.out _ HB1.out).mono ?_
        rintro q w2 ⟨A1, c1, rfl, k1, k⟩
        have HB2 := Lib.hid (HB1.out.trans (k.mono HB1.out.size))
        have K1 := Lib.hid k1
        clear k k1
        go_wp2_with fail
        refine (H2.out _ HB2.out).mono ?_
        rintro q w3 ⟨A2, c2, rfl, k1, k⟩
        have HB3 := Lib.hid (HB2.out.trans (k.mono HB2.out.size))
        have K2 := Lib.hid k1
        have D3 := Lib.hid (Keep.of k)
        clear k k1
        go_wp2_with fail
        refine (H3.out _ HB3.out).mono ?_
        rintro q w4 ⟨A3, c3, rfl, k1, k⟩
        have HB4 := Lib.hid (HB3.out.trans (k.mono HB3.out.size))
        have K3 := Lib.hid k1
        have D4 := Lib.hid (Keep.of k)
        clear k k1
        go_wp2_with fail
        refine (H4.out _ HB4.out).mono ?_
        rintro q w5 ⟨A4, c4, rfl, k1, k⟩
        have HB5 := Lib.hid (HB4.out.trans (k.mono HB4.out.size))
        have K4 := Lib.hid k1
        have D5 := Lib.hid (Keep.of k)
        clear k k1
        go_wp2
        go_ret
        exact ⟨rfl, HB5.out⟩
      · have j2 : (h != 0) = true := by simpa using hh0
        simp only at H1 H2 H3 H4
        clear hx hy hv hz pa pb hab la lb bS bZ sS sZ
        go_enter Tryz.func10, Tryz.ntmps10
        go_wp2_with fail
        refine HAL.out.mono ?_
        rintro q w1 ⟨rfl, k⟩
        have HB1 := Lib.hid k
        clear k
        go_wp2_with fail
        refine (H1.out _ HB1.out).mono ?_
        rintro q w2 ⟨A1, c1, rfl, k1, k⟩
        have HB2 := Lib.hid (HB1.out.trans (k.mono HB1.out.size))
        have K1 := Lib.hid k1
        clear k k1
        go_wp2_with fail
        refine (H2.out _ HB2.out).mono ?_
        rintro q w3 ⟨A2, c2, rfl, k1, k⟩
        have HB3 := Lib.hid (HB2.out.trans (k.mono HB2.out.size))
        have K2 := Lib.hid k1
        have D3 := Lib.hid (Keep.of k)
        clear k k1
        go_wp2_with fail
        refine (H3.out _ HB3.out).mono ?_
        rintro q w4 ⟨A3, c3, rfl, k1, k⟩
        have HB4 := Lib.hid (HB3.out.trans (k.mono HB3.out.size))
        have K3 := Lib.hid k1
        have D4 := Lib.hid (Keep.of k)
        clear k k1
        go_wp2_with fail
        refine (H4.out _ HB4.out).mono ?_
        rintro q w5 ⟨A4, c4, rfl, k1, k⟩
        have HB5 := Lib.hid (HB4.out.trans (k.mono HB4.out.size))
        have K4 := Lib.hid k1
        have D5 := Lib.hid (Keep.of k)
        clear k k1
        go_wp2
        go_ret
        exact ⟨rfl, HB5.out⟩
    · have j5 : (e != 10) = true := by simpa using he10
      by_cases hg0 : g = 0
      · subst hg0
        by_cases hh0 : h = 0
        · subst hh0
          simp only at H1 H2 H3 H4
          clear hx hy hv hz pa pb hab la lb bS bZ sS sZ
          go_enter Tryz.func10, Tryz.ntmps10
          go_wp2_with fail
          refine HAL.out.mono ?_
          rintro q w1 ⟨rfl, k⟩
          have HB1 := Lib.hid k
          clear k
          go_wp2_with fail
          refine (H1.out _ HB1.out).mono ?_
          rintro q w2 ⟨A1, c1, rfl, k1, k⟩
          have HB2 := Lib.hid (HB1.out.trans (k.mono HB1.out.size))
          have K1 := Lib.hid k1
          clear k k1
          go_wp2_with fail
          refine (H2.out _ HB2.out).mono ?_
          rintro q w3 ⟨A2, c2, rfl, k1, k⟩
          have HB3 := Lib.hid (HB2.out.trans (k.mono HB2.out.size))
          have K2 := Lib.hid k1
          have D3 := Lib.hid (Keep.of k)
          clear k k1
          go_wp2_with fail
          refine (H3.out _ HB3.out).mono ?_
          rintro q w4 ⟨A3, c3, rfl, k1, k⟩
          have HB4 := Lib.hid (HB3.out.trans (k.mono HB3.out.size))
          have K3 := Lib.hid k1
          have D4 := Lib.hid (Keep.of k)
          clear k k1
          go_wp2_with fail
          refine (H4.out _ HB4.out).mono ?_
          rintro q w5 ⟨A4, c4, rfl, k1, k⟩
          have HB5 := Lib.hid (HB4.out.trans (k.mono HB4.out.size))
          have K4 := Lib.hid k1
          have D5 := Lib.hid (Keep.of k)
          clear k k1
          go_wp2
          go_ret
          exact ⟨rfl, HB5.out⟩
        · have j2 : (h != 0) = true := by simpa using hh0
          simp only at H1 H2 H3 H4
          clear hx hy hv hz pa pb hab la lb bS bZ sS sZ
          go_enter Tryz.func10, Tryz.ntmps10
          go_wp2_with fail
          refine HAL.out.mono ?_
          rintro q w1 ⟨rfl, k⟩
          have HB1 := Lib.hid k
          clear k
          go_wp2_with fail
          refine (H1.out _ HB1.out).mono ?_
          rintro q w2 ⟨A1, c1, rfl, k1, k⟩
          have HB2 := Lib.hid (HB1.out.trans (k.mono HB1.out.size))
          have K1 := Lib.hid k1
          clear k k1
          go_wp2_with fail
          refine (H2.out _ HB2.out).mono ?_
          rintro q w3 ⟨A2, c2, rfl, k1, k⟩
          have HB3 := Lib.hid (HB2.out.trans (k.mono HB2.out.size))
          have K2 := Lib.hid k1
          have D3 := Lib.hid (Keep.of k)
          clear k k1
          go_wp2_with fail
          refine (H3.out _ HB3.out).mono ?_
          rintro q w4 ⟨A3, c3, rfl, k1, k⟩
          have HB4 := Lib.hid (HB3.out.trans (k.mono HB3.out.size))
          have K3 := Lib.hid k1
          have D4 := Lib.hid (Keep.of k)
          clear k k1
          go_wp2_with fail
          refine (H4.out _ HB4.out).mono ?_
          rintro q w5 ⟨A4, c4, rfl, k1, k⟩
          have HB5 := Lib.hid (HB4.out.trans (k.mono HB4.out.size))
          have K4 := Lib.hid k1
          have D5 := Lib.hid (Keep.of k)
          clear k k1
          go_wp2
          go_ret
          exact ⟨rfl, HB5.out⟩
      · have j1 : (g != 0) = true := by simpa using hg0
        by_cases hh0 : h = 0
        · subst hh0
          simp only at H1 H2 H3 H4
          clear hx hy hv hz pa pb hab la lb bS bZ sS sZ
          go_enter Tryz.func10, Tryz.ntmps10
          go_wp2_with fail
          refine HAL.out.mono ?_
          rintro q w1 ⟨rfl, k⟩
          have HB1 := Lib.hid k
          clear k
          go_wp2_with fail
          refine (H1.out _ HB1.out).mono ?_
          rintro q w2 ⟨A1, c1, rfl, k1, k⟩
          have HB2 := Lib.hid (HB1.out.trans (k.mono HB1.out.size))
          have K1 := Lib.hid k1
          clear k k1
          go_wp2_with fail
          refine (H2.out _ HB2.out).mono ?_
          rintro q w3 ⟨A2, c2, rfl, k1, k⟩
          have HB3 := Lib.hid (HB2.out.trans (k.mono HB2.out.size))
          have K2 := Lib.hid k1
          have D3 := Lib.hid (Keep.of k)
          clear k k1
          go_wp2_with fail
          refine (H3.out _ HB3.out).mono ?_
          rintro q w4 ⟨A3, c3, rfl, k1, k⟩
          have HB4 := Lib.hid (HB3.out.trans (k.mono HB3.out.size))
          have K3 := Lib.hid k1
          have D4 := Lib.hid (Keep.of k)
          clear k k1
          go_wp2_with fail
          refine (H4.out _ HB4.out).mono ?_
          rintro q w5 ⟨A4, c4, rfl, k1, k⟩
          have HB5 := Lib.hid (HB4.out.trans (k.mono HB4.out.size))
          have K4 := Lib.hid k1
          have D5 := Lib.hid (Keep.of k)
          clear k k1
          go_wp2
          go_ret
          exact ⟨rfl, HB5.out⟩
        · have j2 : (h != 0) = true := by simpa using hh0
          simp only at H1 H2 H3 H4
          clear hx hy hv hz pa pb hab la lb bS bZ sS sZ
          go_enter Tryz.func10, Tryz.ntmps10
          go_wp2_with fail
          refine HAL.out.mono ?_
          rintro q w1 ⟨rfl, k⟩
          have HB1 := Lib.hid k
          clear k
          go_wp2_with fail
          refine (H1.out _ HB1.out).mono ?_
          rintro q w2 ⟨A1, c1, rfl, k1, k⟩
          have HB2 := Lib.hid (HB1.out.trans (k.mono HB1.out.size))
          have K1 := Lib.hid k1
          clear k k1
          go_wp2_with fail
          refine (H2.out _ HB2.out).mono ?_
          rintro q w3 ⟨A2, c2, rfl, k1, k⟩
          have HB3 := Lib.hid (HB2.out.trans (k.mono HB2.out.size))
          have K2 := Lib.hid k1
          have D3 := Lib.hid (Keep.of k)
          clear k k1
          go_wp2_with fail
          refine (H3.out _ HB3.out).mono ?_
          rintro q w4 ⟨A3, c3, rfl, k1, k⟩
          have HB4 := Lib.hid (HB3.out.trans (k.mono HB3.out.size))
          have K3 := Lib.hid k1
          have D4 := Lib.hid (Keep.of k)
          clear k k1
          go_wp2_with fail
          refine (H4.out _ HB4.out).mono ?_
          rintro q w5 ⟨A4, c4, rfl, k1, k⟩
          have HB5 := Lib.hid (HB4.out.trans (k.mono HB4.out.size))
          have K4 := Lib.hid k1
          have D5 := Lib.hid (Keep.of k)
          clear k k1
          go_wp2
          go_ret
          exact ⟨rfl, HB5.out⟩
end Go.Proofs.YtilhicefhhgecaaGreatDoor
