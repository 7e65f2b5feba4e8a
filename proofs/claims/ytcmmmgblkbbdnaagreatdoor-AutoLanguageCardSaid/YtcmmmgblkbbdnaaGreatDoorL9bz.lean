/- Walks: is that the automaton of a pattern's text? (laws of the automata's chapter): set, is. PUT1 -/
import Derived.Test.YtcmmmgblkbbdnaaGreatDoorRpz
import Derived.Test.YtcmmmgblkbbdnaaGreatDoorBvz
import Derived.Test.YtcmmmgblkbbdnaaGreatDoorBrz
namespace Pv
open Go Go.RowKit
theorem At.ofBlk {α : Type} {w : World} {g : Nat} {t : TypeId} {cs : Array Value} {R : Value → α → Prop} {xs : List α} (h : Blk w g t cs) (hr : Rel R cs.toList xs) (hl : xs.length ≤ 100000) : At w (some ⟨g, 0, none⟩) R xs := by
  refine ⟨by omega, fun _ => ⟨g, 0, rfl, h.lt, fun i x hx => ?_⟩⟩
  have hi : i < cs.toList.length := by rw [hr.1]; exact lt_of_get hx
  refine ⟨cs.toList[i], ?_, hr.2 i _ x (List.getElem?_eq_getElem hi) hx⟩
  rw [h.cell (0 + i), Nat.zero_add, ← Array.getElem?_toList, List.getElem?_eq_getElem hi]
theorem AtK.ofBlk {α : Type} {w : World} {g k : Nat} {t : TypeId} {cs : Array Value} {R : (Nat → Value) → α → Prop} {xs : List α} (h : Blk w g t cs) (hr : RelK k R cs.toList xs) (hl : xs.length ≤ 100000) : AtK w k (some ⟨g, 0, none⟩) R xs := by
  refine ⟨by omega, fun _ => ⟨g, 0, rfl, h.lt, fun i x hx => ?_⟩⟩
  obtain ⟨f, hf, hR⟩ := hr.2 i x hx
  refine ⟨f, fun j hj => ?_, hR⟩
  rw [h.cell (0 + i * k + j), Nat.zero_add, ← Array.getElem?_toList]
  exact hf j hj
end Pv
namespace Go.Proofs.YtcmmmgblkbbdnaaGreatDoor
open Go.RowKit Pv

/-- An automaton's edge, in its cells. -/
theorem edge_rel {w : World} {q : Int} {free : Bool} {v : Value} {l : List Rng} (ht : -9223372036854775808 ≤ q ∧ q ≤ 9223372036854775807) (hv : IsSet w v l) : RelK 3 (RE w) [.int .i64 q, .bool free, v] [⟨q, free, l⟩] :=
  RelK.one (f := fun j => [Value.int .i64 q, .bool free, v].getD j undef) rfl (fun j hj => by
    rcases (show j = 0 ∨ j = 1 ∨ j = 2 by omega) with rfl | rfl | rfl <;> rfl) ⟨⟨rfl, ht⟩, rfl, hv⟩
theorem noset {w : World} : IsSet w (.slice none 0 0) [] := ⟨none, 0, rfl, AtK.nil, Nat.le_refl _⟩
theorem isRow_blk {w : World} {g n : Nat} {t : TypeId} {cs : Array Value} {es : List Ed} (h : Blk w g t cs) (hr : RelK 3 (RE w) cs.toList es) (hn : es.length = n) (hl : n ≤ 100000) : IsRow w (.slice (some ⟨g, 0, none⟩) n n) es := by
  subst hn
  exact ⟨_, _, rfl, AtK.ofBlk h hr hl, Nat.le_refl _⟩
theorem known_build {T : Tr} {r : Au × Int × Int} (h : Known T) (hb : BR T.flat r) : r = ((leadT T [[]] 0).1, (((leadT T [[]] 0).2 : Nat) : Int), 0) :=
  BR.one hb (.inr ⟨h.pat, T, h.ok, rfl, .inr ⟨h.few, rfl⟩⟩)
/-- What the program's Build leaves, read. -/
theorem PBuild.read {t : List Rx} {w w' : World} {e : Ending} (h : PBuild t w e w') : Below w.heap.size w w' ∧ ∃ r A n c, BR t r ∧ e = .returned (.tuple #[.agg #[.slice A n c, .int .i64 r.2.1], .int .i64 r.2.2]) ∧ AtAu w' A r.1 ∧ r.1.length = n := by
  obtain ⟨hb, r, hbr, A, n, c, rfl, au⟩ := h.one
  obtain ⟨h1, h2⟩ := hbr.few
  have hn : n = r.1.length := by obtain ⟨rows, _, h2⟩ := au; exact h2.n
  exact ⟨hb, r, A, n, c, hbr, rfl, au.reads (by omega) (by omega), hn.symm⟩

set_option maxHeartbeats 1000000 in
set_option maxRecDepth 100000 in
theorem law9_set (n : Int) (w : World) (hn : -9223372036854775808 ≤ n ∧ n ≤ 9223372036854775807) :
    Calls Tryz.prog 24 #[.int .i64 n] w fun e w' => e = .returned (.slice (some ⟨w.heap.size, 0, none⟩) 1 1) ∧ Blk w' w.heap.size 93 #[.int .i64 n, .int .i64 n] ∧ Below w.heap.size w w' := by
  have HN := Lib.hid hn
  clear hn
  go_enter Tryz.func24, Tryz.ntmps24
  go_wp2
  go_ret
  exact ⟨rfl, Blk.new _ _ _, (Below.refl _ _).alloc (Nat.le_refl _) _⟩
theorem set_blk {w : World} {g : Nat} {t : TypeId} {a b : Int} (h : Blk w g t #[.int .i64 a, .int .i64 b]) (ha : -9223372036854775808 ≤ a ∧ a ≤ 9223372036854775807) (hb : -9223372036854775808 ≤ b ∧ b ≤ 9223372036854775807) : IsSet w (.slice (some ⟨g, 0, none⟩) 1 1) [⟨a, b⟩] :=
  ⟨_, _, rfl, AtK.ofBlk h (RelK.one (f := fun j => [Value.int .i64 a, .int .i64 b].getD j undef) rfl (fun j hj => by
    rcases (show j = 0 ∨ j = 1 by omega) with rfl | rfl <;> rfl) ⟨⟨rfl, ha⟩, ⟨rfl, hb⟩⟩) (by simp), Nat.le_refl _⟩

set_option maxHeartbeats 2000000 in
set_option maxRecDepth 100000 in
theorem law9_is (t : ByteArray) (T : Tr) (A : Option Addr) (c n : Nat) (acc : Int) (a : Au) (q : Bool) (w : World) (B : Nat) (h : Tells (bsl t) T) (ha : AtAu w A a) (HL : Hid (a.length = n)) (hq : decide ((leadT T [[]] 0).1 = a ∧ (((leadT T [[]] 0).2 : Nat) : Int) = acc) = q) (hT : TabU B w) (hB : B ≤ w.heap.size) :
    Calls Tryz.prog 23 #[.string t, .agg #[.slice A n c, .int .i64 acc]] w fun e w' => e = .returned (.bool q) ∧ Below w.heap.size w w' := by
  have hW : Below w.heap.size w (w.alloc (.cells #[.slice A n c, .int .i64 acc] TAuto)) := (Below.refl _ _).alloc (Nat.le_refl _) _
  have HW := Lib.hid hW
  have K0 := Lib.hid (Blk.new w TAuto #[.slice A n c, .int .i64 acc])
  have HP := Lib.hid (pattern_Parse t T _ B h h.plain (hT.then hW hB) (by simp; omega))
  have HT := Lib.hid h
  have HA := Lib.hid ha; have HQ := Lib.hid hq
  obtain ⟨nt, hnt⟩ : ∃ nt, T.flat.length = nt := ⟨_, rfl⟩
  have HN := Lib.hid hnt
  have hn : nt ≤ 64 := by rw [← hnt]; exact h.known.size
  clear h hT hB hnt hW ha hq
  go_enter Tryz.func23, Tryz.ntmps23
  go_wp2_with fail
  refine HP.out.mono ?_
  rintro e w1 ⟨A1, c1, rfl, k1, k2⟩
  have HB1 := Lib.hid (HW.out.trans (k2.mono HW.out.size))
  have K1 := Lib.hid (K0.out.below k2 (by simp))
  have HAT := Lib.hid (rx_at k1 (by rw [HN.out]; omega) HT.out.sets)
  rw [HN.out]
  clear k1 k2
  have HBU := Lib.hid (auto_Build A1 nt c1 T.flat w1 HAT.out HN)
  go_wp2_with fail
  refine HBU.out.mono ?_
  intro e w2 hpb
  obtain ⟨k2, r, A2, n2, c2, hbr, rfl, hau, hl2⟩ := hpb.read
  obtain rfl := known_build HT.out.known hbr
  have HB2 := Lib.hid (HB1.out.trans (k2.mono HB1.out.size))
  have K2 := Lib.hid (K1.out.below k2 K1.out.lt)
  have HX := Lib.hid hau
  have HL2 := Lib.hid hl2
  have hb3 : Below w2.heap.size w2 (w2.alloc (.cells #[.slice A2 n2 c2, .int .i64 (((leadT T [[]] 0).2 : Nat) : Int)] TAuto)) := (Below.refl _ _).alloc (Nat.le_refl _) _
  have HB3 := Lib.hid (HB2.out.trans (hb3.mono HB2.out.size))
  have K3 := Lib.hid (K2.out.below hb3 K2.out.lt)
  have HSM := Lib.hid (ref09_Same A2 A c2 c n2 n (((leadT T [[]] 0).2 : Nat) : Int) acc (leadT T [[]] 0).1 a _ (AtAu.keep hau (Keep.of hb3)) (AtAu.keep HA.out (Keep.of HB3.out)) HL2 HL)
  rw [HQ.out] at HSM
  obtain ⟨p0, p1, _, _⟩ := Blk.two K3.out
  clear hpb k2 hbr hau hl2 hb3
  go_wp2_with fail
  refine HSM.out.mono ?_
  rintro e w4 ⟨rfl, k4⟩
  have HB4 := Lib.hid (HB3.out.trans (k4.mono HB3.out.size))
  clear k4
  go_wp2
  go_ret
  exact ⟨rfl, HB4.out⟩
end Go.Proofs.YtcmmmgblkbbdnaaGreatDoor

namespace Pv
open Go Go.RowKit
end Pv
namespace Go.Proofs.YtcmmmgblkbbdnaaGreatDoor
open Go.RowKit Pv
abbrev TEg : TypeId := 42
abbrev TEr : TypeId := 43
/-- A row of one edge with one number's set; of one free edge; without edges. -/
theorem row_set {w : World} {g gs : Nat} {q p : Int} (h : Blk w g TEg #[.int .i64 q, .bool false, .slice (some ⟨gs, 0, none⟩) 1 1]) (hs : Blk w gs 93 #[.int .i64 p, .int .i64 p]) (hq : -9223372036854775808 ≤ q ∧ q ≤ 9223372036854775807) (hp : -9223372036854775808 ≤ p ∧ p ≤ 9223372036854775807) :
    IsRow w (.slice (some ⟨g, 0, none⟩) 1 1) [⟨q, false, [⟨p, p⟩]⟩] := isRow_blk h (edge_rel hq (set_blk hs hp hp)) rfl (by omega)
theorem row_free {w : World} {g : Nat} {q : Int} (h : Blk w g TEg #[.int .i64 q, .bool true, .slice none 0 0]) (hq : -9223372036854775808 ≤ q ∧ q ≤ 9223372036854775807) :
    IsRow w (.slice (some ⟨g, 0, none⟩) 1 1) [⟨q, true, []⟩] := isRow_blk h (edge_rel hq noset) rfl (by omega)
theorem row_none {w : World} {g : Nat} (h : Blk w g TEg #[]) : IsRow w (.slice (some ⟨g, 0, none⟩) 0 0) [] := isRow_blk h RelK.nil rfl (by omega)

theorem au_lit1 {w : World} {g : Nat} (hs : Blk w g 93 #[.int .i64 97, .int .i64 97]) :
    AtAu (((w.alloc (.cells #[.int .i64 1, .bool false, .slice (some ⟨g, 0, none⟩) 1 1] TEg)).alloc (.cells #[] TEg)).alloc (.cells #[.slice (some ⟨w.heap.size, 0, none⟩) 1 1, .slice (some ⟨w.heap.size + 1, 0, none⟩) 0 0] TEr)) (some ⟨w.heap.size + 1 + 1, 0, none⟩) [[⟨1, false, [⟨97, 97⟩]⟩], []] := by
  obtain ⟨b1, b2, b3⟩ := blk3 w #[.int .i64 1, .bool false, .slice (some ⟨g, 0, none⟩) 1 1] #[] #[.slice (some ⟨w.heap.size, 0, none⟩) 1 1, .slice (some ⟨w.heap.size + 1, 0, none⟩) 0 0] TEg TEg TEr
  exact At.ofBlk b3 ((Rel.one (row_set b1 (((hs.alloc _).alloc _).alloc _) (by omega) (by omega))).app (Rel.one (row_none b2))) (by simp)
theorem au_lit2 {w : World} {ga g : Nat} (ha : Blk w ga TEg #[.int .i64 1, .bool true, .slice none 0 0]) (hs : Blk w g 93 #[.int .i64 97, .int .i64 97]) :
    AtAu (((w.alloc (.cells #[.int .i64 2, .bool false, .slice (some ⟨g, 0, none⟩) 1 1] TEg)).alloc (.cells #[.int .i64 1, .bool true, .slice none 0 0] TEg)).alloc (.cells #[.slice (some ⟨ga, 0, none⟩) 1 1, .slice (some ⟨w.heap.size, 0, none⟩) 1 1, .slice (some ⟨w.heap.size + 1, 0, none⟩) 1 1] TEr)) (some ⟨w.heap.size + 1 + 1, 0, none⟩) [[⟨1, true, []⟩], [⟨2, false, [⟨97, 97⟩]⟩], [⟨1, true, []⟩]] := by
  obtain ⟨b1, b2, b3⟩ := blk3 w #[.int .i64 2, .bool false, .slice (some ⟨g, 0, none⟩) 1 1] #[.int .i64 1, .bool true, .slice none 0 0] #[.slice (some ⟨ga, 0, none⟩) 1 1, .slice (some ⟨w.heap.size, 0, none⟩) 1 1, .slice (some ⟨w.heap.size + 1, 0, none⟩) 1 1] TEg TEg TEr
  exact At.ofBlk b3 ((Rel.one (row_free (((ha.alloc _).alloc _).alloc _) (by omega))).app ((Rel.one (row_set b1 (((hs.alloc _).alloc _).alloc _) (by omega) (by omega))).app (Rel.one (row_free b2 (by omega))))) (by simp)

set_option maxHeartbeats 2000000 in
set_option maxRecDepth 100000 in
theorem law9_alive (w : World) (B : Nat) (hT : TabU B w) (hB : B ≤ w.heap.size) : Calls Tryz.prog 27 #[] w fun e w' => e = .returned (.bool true) ∧ Below w.heap.size w w' := by
  have HS := Lib.hid (fun W => law9_set 97 W (by omega))
  have H1 := Lib.hid (fun (A : Option Addr) (W : World) (ha : AtAu W A [[⟨1, false, [⟨97, 97⟩]⟩], []]) (hb : Below w.heap.size w W) => law9_is ⟨#[97]⟩ (chX 97) A 2 2 1 [[⟨1, false, [⟨97, 97⟩]⟩], []] true W B tells7 ha (Lib.hid rfl) (by decide +kernel) (hT.then hb hB) (Nat.le_trans hB hb.size))
  have H2 := Lib.hid (fun (A : Option Addr) (W : World) (ha : AtAu W A [[⟨1, true, []⟩], [⟨2, false, [⟨97, 97⟩]⟩], [⟨1, true, []⟩]]) (hb : Below w.heap.size w W) => law9_is ⟨#[97, 42]⟩ t6 A 3 3 1 [[⟨1, true, []⟩], [⟨2, false, [⟨97, 97⟩]⟩], [⟨1, true, []⟩]] true W B tells6 ha (Lib.hid rfl) (by decide +kernel) (hT.then hb hB) (Nat.le_trans hB hb.size))
  clear hT hB
  go_enter Tryz.func27, Tryz.ntmps27
  go_wp2_with fail
  refine (HS.out _).mono ?_
  rintro e w1 ⟨rfl, k1, k2⟩
  have HA1 := Lib.hid (au_lit1 k1)
  have HB1 := Lib.hid (((k2.alloc k2.size (.cells #[.int .i64 1, .bool false, .slice (some ⟨w.heap.size, 0, none⟩) 1 1] TEg)).alloc (by have := k2.size; simp; omega) (.cells #[] TEg)).alloc (by have := k2.size; simp; omega) (.cells #[.slice (some ⟨w1.heap.size, 0, none⟩) 1 1, .slice (some ⟨w1.heap.size + 1, 0, none⟩) 0 0] TEr))
  clear k1 k2
  go_wp2_with fail
  refine (H1.out _ _ HA1.out HB1.out).mono ?_
  rintro e w2 ⟨rfl, k3⟩
  have HB2 := Lib.hid (HB1.out.trans (k3.mono HB1.out.size))
  have KA := Lib.hid (Blk.new w2 TEg #[.int .i64 1, .bool true, .slice none 0 0])
  have HB2a := Lib.hid (HB2.out.alloc HB2.out.size (.cells #[.int .i64 1, .bool true, .slice none 0 0] TEg))
  clear k3
  go_wp2_with fail
  refine (HS.out _).mono ?_
  rintro e w3 ⟨rfl, k4, k5⟩
  have HA2 := Lib.hid (au_lit2 (KA.out.below k5 (by simp)) (by simpa using k4))
  have HB3 := Lib.hid (HB2a.out.trans (k5.mono HB2a.out.size))
  have HB4 := Lib.hid (((HB3.out.alloc HB3.out.size (.cells #[.int .i64 2, .bool false, .slice (some ⟨w2.heap.size + 1, 0, none⟩) 1 1] TEg)).alloc (by have := HB3.out.size; simp; omega) (.cells #[.int .i64 1, .bool true, .slice none 0 0] TEg)).alloc (by have := HB3.out.size; simp; omega) (.cells #[.slice (some ⟨w2.heap.size, 0, none⟩) 1 1, .slice (some ⟨w3.heap.size, 0, none⟩) 1 1, .slice (some ⟨w3.heap.size + 1, 0, none⟩) 1 1] TEr))
  clear k4 k5
  go_wp2_with fail
  refine (H2.out _ _ HA2.out HB4.out).mono ?_
  rintro e w5 ⟨rfl, k6⟩
  have HB5 := Lib.hid (HB4.out.trans (k6.mono HB4.out.size))
  clear k6
  go_wp2
  go_ret
  exact ⟨rfl, HB5.out⟩
end Go.Proofs.YtcmmmgblkbbdnaaGreatDoor
