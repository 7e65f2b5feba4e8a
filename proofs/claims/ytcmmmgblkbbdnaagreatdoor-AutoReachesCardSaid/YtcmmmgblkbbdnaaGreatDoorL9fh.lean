/- Walks: is that the automaton of a pattern's text? (laws of the automata's chapter): set, is. PUT1 -/
import Derived.Test.YtcmmmgblkbbdnaaGreatDoorRqh
import Derived.Test.YtcmmmgblkbbdnaaGreatDoorBvh
import Derived.Test.YtcmmmgblkbbdnaaGreatDoorBrh
import Derived.Test.YtcmmmgblkbbdnaaGreatDoorBhh
import Derived.Test.YtcmmmgblkbbdnaaGreatDoorZlh
import Derived.Test.YtcmmmgblkbbdnaaGreatDoorQth
import Derived.Test.YtcmmmgblkbbdnaaGreatDoorZnh
namespace Pv
open Go Go.RowKit
theorem At.ofBlk {α : Type} {w : World} {g : Nat} {t : TypeId} {cs : Array Value} {R : Value → α → Prop} {xs : List α} (h : Blk w g t cs) (hr : Rel R cs.toList xs) (hl : xs.length ≤ 100000) : At w (some ⟨g, 0, none⟩) R xs := by
  refine ⟨by omega, fun _ => ⟨g, 0, rfl, h.lt, fun i x hx => ?_⟩⟩
  have hi : i < cs.toList.length := by rw [hr.1]; exact lt_of_get hx
  refine ⟨cs.toList[i], ?_, hr.2 i _ x (List.getElem?_eq_getElem hi) hx⟩
  rw [h.cell (0 + i), Nat.zero_add, ← Array.getElem?_toList, List.getElem?_eq_getElem hi]
theorem AtK.ofBlk {α : Type} {w : World} {g k : Nat} {t : TypeId} {cs : Array Value} {R : (Nat → Value) → α → Prop} {xs : List α} (h : Blk w g t cs) (hr : RelK k R cs.toList xs) (hl : xs.length ≤ 100000) : AtK w k (some ⟨g, 0, none⟩) R xs := by
  refine ⟨by omega, fun _ => ⟨g, 0, rfl, h.lt, fun i x hx => ?_⟩⟩
  obtain ⟨f, hf, hR⟩ := hr.2 i x hx
  refine ⟨f, fun j hj => ?_, hR⟩
  rw [h.cell (0 + i * k + j), Nat.zero_add, ← Array.getElem?_toList]
  exact hf j hj
end Pv
namespace Go.Proofs.YtcmmmgblkbbdnaaGreatDoor
open Go.RowKit Pv

/-- An automaton's edge, in its cells. -/
theorem edge_rel {w : World} {q : Int} {free : Bool} {v : Value} {l : List Rng} (ht : -9223372036854775808 ≤ q ∧ q ≤ 9223372036854775807) (hv : IsSet w v l) : RelK 3 (RE w) [.int .i64 q, .bool free, v] [⟨q, free, l⟩] :=
  RelK.one (f := fun j => [Value.int .i64 q, .bool free, v].getD j undef) rfl (fun j hj => by
    rcases (show j = 0 ∨ j = 1 ∨ j = 2 by omega) with rfl | rfl | rfl <;> rfl) ⟨⟨rfl, ht⟩, rfl, hv⟩
theorem noset {w : World} : IsSet w (.slice none 0 0) [] := ⟨none, 0, rfl, AtK.nil, Nat.le_refl _⟩
theorem isRow_blk {w : World} {g n : Nat} {t : TypeId} {cs : Array Value} {es : List Ed} (h : Blk w g t cs) (hr : RelK 3 (RE w) cs.toList es) (hn : es.length = n) (hl : n ≤ 100000) : IsRow w (.slice (some ⟨g, 0, none⟩) n n) es := by
  subst hn
  exact ⟨_, _, rfl, AtK.ofBlk h hr hl, Nat.le_refl _⟩
theorem known_build {T : Tr} {r : Au × Int × Int} (h : Known T) (hb : BR T.flat r) : r = ((leadT T [[]] 0).1, (((leadT T [[]] 0).2 : Nat) : Int), 0) :=
  BR.one hb (.inr ⟨h.pat, T, h.ok, rfl, .inr ⟨h.few, rfl⟩⟩)
/-- What the program's Build leaves, read. -/
theorem PBuild.read {t : List Rx} {w w' : World} {e : Ending} (h : PBuild t w e w') : Below w.heap.size w w' ∧ ∃ r A n c, BR t r ∧ e = .returned (.tuple #[.agg #[.slice A n c, .int .i64 r.2.1], .int .i64 r.2.2]) ∧ AtAu w' A r.1 ∧ r.1.length = n := by
  obtain ⟨hb, r, hbr, A, n, c, rfl, au⟩ := h.one
  obtain ⟨h1, h2⟩ := hbr.few
  have hn : n = r.1.length := by obtain ⟨rows, _, h2⟩ := au; exact h2.n
  exact ⟨hb, r, A, n, c, hbr, rfl, au.reads (by omega) (by omega), hn.symm⟩

set_option maxHeartbeats 1000000 in
set_option maxRecDepth 100000 in
theorem law9_set (n : Int) (w : World) (hn : -9223372036854775808 ≤ n ∧ n ≤ 9223372036854775807) :
    Calls Tryz.prog 24 #[.int .i64 n] w fun e w' => e = .returned (.slice (some ⟨w.heap.size, 0, none⟩) 1 1) ∧ Blk w' w.heap.size 93 #[.int .i64 n, .int .i64 n] ∧ Below w.heap.size w w' := by
  have HN := Lib.hid hn
  clear hn
  go_enter Tryz.func24, Tryz.ntmps24
  go_wp2
  go_ret
  exact ⟨rfl, Blk.new _ _ _, (Below.refl _ _).alloc (Nat.le_refl _) _⟩
theorem set_blk {w : World} {g : Nat} {t : TypeId} {a b : Int} (h : Blk w g t #[.int .i64 a, .int .i64 b]) (ha : -9223372036854775808 ≤ a ∧ a ≤ 9223372036854775807) (hb : -9223372036854775808 ≤ b ∧ b ≤ 9223372036854775807) : IsSet w (.slice (some ⟨g, 0, none⟩) 1 1) [⟨a, b⟩] :=
  ⟨_, _, rfl, AtK.ofBlk h (RelK.one (f := fun j => [Value.int .i64 a, .int .i64 b].getD j undef) rfl (fun j hj => by
    rcases (show j = 0 ∨ j = 1 by omega) with rfl | rfl <;> rfl) ⟨⟨rfl, ha⟩, ⟨rfl, hb⟩⟩) (by simp), Nat.le_refl _⟩

set_option maxHeartbeats 2000000 in
set_option maxRecDepth 100000 in
theorem law9_is (t : ByteArray) (T : Tr) (A : Option Addr) (c n : Nat) (acc : Int) (a : Au) (q : Bool) (w : World) (B : Nat) (h : Tells (bsl t) T) (ha : AtAu w A a) (HL : Hid (a.length = n)) (hq : decide ((leadT T [[]] 0).1 = a ∧ (((leadT T [[]] 0).2 : Nat) : Int) = acc) = q) (hT : TabU B w) (hB : B ≤ w.heap.size) :
    Calls Tryz.prog 23 #[.string t, .agg #[.slice A n c, .int .i64 acc]] w fun e w' => e = .returned (.bool q) ∧ Below w.heap.size w w' := by
  have hW : Below w.heap.size w (w.alloc (.cells #[.slice A n c, .int .i64 acc] TAuto)) := (Below.refl _ _).alloc (Nat.le_refl _) _
  have HW := Lib.hid hW
  have K0 := Lib.hid (Blk.new w TAuto #[.slice A n c, .int .i64 acc])
  have HP := Lib.hid (pattern_Parse t T _ B h h.plain (hT.then hW hB) (by simp; omega))
  have HT := Lib.hid h
  have HA := Lib.hid ha; have HQ := Lib.hid hq
  obtain ⟨nt, hnt⟩ : ∃ nt, T.flat.length = nt := ⟨_, rfl⟩
  have HN := Lib.hid hnt
  have hn : nt ≤ 64 := by rw [← hnt]; exact h.known.size
  clear h hT hB hnt hW ha hq
  go_enter Tryz.func23, Tryz.ntmps23
  go_wp2_with fail
  refine HP.out.mono ?_
  rintro e w1 ⟨A1, c1, rfl, k1, k2⟩
  have HB1 := Lib.hid (HW.out.trans (k2.mono HW.out.size))
  have K1 := Lib.hid (K0.out.below k2 (by simp))
  have HAT := Lib.hid (rx_at k1 (by rw [HN.out]; omega) HT.out.sets)
  rw [HN.out]
  clear k1 k2
  have HBU := Lib.hid (auto_Build A1 nt c1 T.flat w1 HAT.out HN)
  go_wp2_with fail
  refine HBU.out.mono ?_
  intro e w2 hpb
  obtain ⟨k2, r, A2, n2, c2, hbr, rfl, hau, hl2⟩ := hpb.read
  obtain rfl := known_build HT.out.known hbr
  have HB2 := Lib.hid (HB1.out.trans (k2.mono HB1.out.size))
  have K2 := Lib.hid (K1.out.below k2 K1.out.lt)
  have HX := Lib.hid hau
  have HL2 := Lib.hid hl2
  have hb3 : Below w2.heap.size w2 (w2.alloc (.cells #[.slice A2 n2 c2, .int .i64 (((leadT T [[]] 0).2 : Nat) : Int)] TAuto)) := (Below.refl _ _).alloc (Nat.le_refl _) _
  have HB3 := Lib.hid (HB2.out.trans (hb3.mono HB2.out.size))
  have K3 := Lib.hid (K2.out.below hb3 K2.out.lt)
  have HSM := Lib.hid (ref09_Same A2 A c2 c n2 n (((leadT T [[]] 0).2 : Nat) : Int) acc (leadT T [[]] 0).1 a _ (AtAu.keep hau (Keep.of hb3)) (AtAu.keep HA.out (Keep.of HB3.out)) HL2 HL)
  rw [HQ.out] at HSM
  obtain ⟨p0, p1, _, _⟩ := Blk.two K3.out
  clear hpb k2 hbr hau hl2 hb3
  go_wp2_with fail
  refine HSM.out.mono ?_
  rintro e w4 ⟨rfl, k4⟩
  have HB4 := Lib.hid (HB3.out.trans (k4.mono HB3.out.size))
  clear k4
  go_wp2
  go_ret
  exact ⟨rfl, HB4.out⟩
end Go.Proofs.YtcmmmgblkbbdnaaGreatDoor

namespace Pv
open Go Go.RowKit
theorem blk_at {W : World} {n : Nat} (t : TypeId) (cs : Array Value) (h : W.heap.size = n) : Blk (W.alloc (.cells cs t)) n t cs := by
  subst h; exact Blk.new _ _ _
end Pv
namespace Go.Proofs.YtcmmmgblkbbdnaaGreatDoor
open Go.RowKit Pv
abbrev TEg : TypeId := 42
abbrev TEr : TypeId := 43
/-- A row of one edge with one number's set; of one free edge; without edges. -/
theorem row_set {w : World} {g gs : Nat} {q p : Int} (h : Blk w g TEg #[.int .i64 q, .bool false, .slice (some ⟨gs, 0, none⟩) 1 1]) (hs : Blk w gs 93 #[.int .i64 p, .int .i64 p]) (hq : -9223372036854775808 ≤ q ∧ q ≤ 9223372036854775807) (hp : -9223372036854775808 ≤ p ∧ p ≤ 9223372036854775807) :
    IsRow w (.slice (some ⟨g, 0, none⟩) 1 1) [⟨q, false, [⟨p, p⟩]⟩] := isRow_blk h (edge_rel hq (set_blk hs hp hp)) rfl (by omega)
theorem row_free {w : World} {g : Nat} {q : Int} (h : Blk w g TEg #[.int .i64 q, .bool true, .slice none 0 0]) (hq : -9223372036854775808 ≤ q ∧ q ≤ 9223372036854775807) :
    IsRow w (.slice (some ⟨g, 0, none⟩) 1 1) [⟨q, true, []⟩] := isRow_blk h (edge_rel hq noset) rfl (by omega)
theorem row_none {w : World} {g : Nat} (h : Blk w g TEg #[]) : IsRow w (.slice (some ⟨g, 0, none⟩) 0 0) [] := isRow_blk h RelK.nil rfl (by omega)

theorem au_lit1 {w : World} {g : Nat} (hs : Blk w g 93 #[.int .i64 97, .int .i64 97]) :
    AtAu (((w.alloc (.cells #[.int .i64 1, .bool false, .slice (some ⟨g, 0, none⟩) 1 1] TEg)).alloc (.cells #[] TEg)).alloc (.cells #[.slice (some ⟨w.heap.size, 0, none⟩) 1 1, .slice (some ⟨w.heap.size + 1, 0, none⟩) 0 0] TEr)) (some ⟨w.heap.size + 1 + 1, 0, none⟩) [[⟨1, false, [⟨97, 97⟩]⟩], []] := by
  obtain ⟨b1, b2, b3⟩ := blk3 w #[.int .i64 1, .bool false, .slice (some ⟨g, 0, none⟩) 1 1] #[] #[.slice (some ⟨w.heap.size, 0, none⟩) 1 1, .slice (some ⟨w.heap.size + 1, 0, none⟩) 0 0] TEg TEg TEr
  exact At.ofBlk b3 ((Rel.one (row_set b1 (((hs.alloc _).alloc _).alloc _) (by omega) (by omega))).app (Rel.one (row_none b2))) (by simp)
theorem au_lit2 {w : World} {ga g : Nat} (ha : Blk w ga TEg #[.int .i64 1, .bool true, .slice none 0 0]) (hs : Blk w g 93 #[.int .i64 97, .int .i64 97]) :
    AtAu (((w.alloc (.cells #[.int .i64 2, .bool false, .slice (some ⟨g, 0, none⟩) 1 1] TEg)).alloc (.cells #[.int .i64 1, .bool true, .slice none 0 0] TEg)).alloc (.cells #[.slice (some ⟨ga, 0, none⟩) 1 1, .slice (some ⟨w.heap.size, 0, none⟩) 1 1, .slice (some ⟨w.heap.size + 1, 0, none⟩) 1 1] TEr)) (some ⟨w.heap.size + 1 + 1, 0, none⟩) [[⟨1, true, []⟩], [⟨2, false, [⟨97, 97⟩]⟩], [⟨1, true, []⟩]] := by
  obtain ⟨b1, b2, b3⟩ := blk3 w #[.int .i64 2, .bool false, .slice (some ⟨g, 0, none⟩) 1 1] #[.int .i64 1, .bool true, .slice none 0 0] #[.slice (some ⟨ga, 0, none⟩) 1 1, .slice (some ⟨w.heap.size, 0, none⟩) 1 1, .slice (some ⟨w.heap.size + 1, 0, none⟩) 1 1] TEg TEg TEr
  exact At.ofBlk b3 ((Rel.one (row_free (((ha.alloc _).alloc _).alloc _) (by omega))).app ((Rel.one (row_set b1 (((hs.alloc _).alloc _).alloc _) (by omega) (by omega))).app (Rel.one (row_free b2 (by omega))))) (by simp)

set_option maxHeartbeats 2000000 in
set_option maxRecDepth 100000 in
theorem law9_alive (w : World) (B : Nat) (hT : TabU B w) (hB : B ≤ w.heap.size) : Calls Tryz.prog 27 #[] w fun e w' => e = .returned (.bool true) ∧ Below w.heap.size w w' := by
  have HS := Lib.hid (fun W => law9_set 97 W (by omega))
  have H1 := Lib.hid (fun (A : Option Addr) (W : World) (ha : AtAu W A [[⟨1, false, [⟨97, 97⟩]⟩], []]) (hb : Below w.heap.size w W) => law9_is ⟨#[97]⟩ (chX 97) A 2 2 1 [[⟨1, false, [⟨97, 97⟩]⟩], []] true W B tells7 ha (Lib.hid rfl) (by decide +kernel) (hT.then hb hB) (Nat.le_trans hB hb.size))
  have H2 := Lib.hid (fun (A : Option Addr) (W : World) (ha : AtAu W A [[⟨1, true, []⟩], [⟨2, false, [⟨97, 97⟩]⟩], [⟨1, true, []⟩]]) (hb : Below w.heap.size w W) => law9_is ⟨#[97, 42]⟩ t6 A 3 3 1 [[⟨1, true, []⟩], [⟨2, false, [⟨97, 97⟩]⟩], [⟨1, true, []⟩]] true W B tells6 ha (Lib.hid rfl) (by decide +kernel) (hT.then hb hB) (Nat.le_trans hB hb.size))
  clear hT hB
  go_enter Tryz.func27, Tryz.ntmps27
  go_wp2_with fail
  refine (HS.out _).mono ?_
  rintro e w1 ⟨rfl, k1, k2⟩
  have HA1 := Lib.hid (au_lit1 k1)
  have HB1 := Lib.hid (((k2.alloc k2.size (.cells #[.int .i64 1, .bool false, .slice (some ⟨w.heap.size, 0, none⟩) 1 1] TEg)).alloc (by have := k2.size; simp; omega) (.cells #[] TEg)).alloc (by have := k2.size; simp; omega) (.cells #[.slice (some ⟨w1.heap.size, 0, none⟩) 1 1, .slice (some ⟨w1.heap.size + 1, 0, none⟩) 0 0] TEr))
  clear k1 k2
  go_wp2_with fail
  refine (H1.out _ _ HA1.out HB1.out).mono ?_
  rintro e w2 ⟨rfl, k3⟩
  have HB2 := Lib.hid (HB1.out.trans (k3.mono HB1.out.size))
  have KA := Lib.hid (Blk.new w2 TEg #[.int .i64 1, .bool true, .slice none 0 0])
  have HB2a := Lib.hid (HB2.out.alloc HB2.out.size (.cells #[.int .i64 1, .bool true, .slice none 0 0] TEg))
  clear k3
  go_wp2_with fail
  refine (HS.out _).mono ?_
  rintro e w3 ⟨rfl, k4, k5⟩
  have HA2 := Lib.hid (au_lit2 (KA.out.below k5 (by simp)) (by simpa using k4))
  have HB3 := Lib.hid (HB2a.out.trans (k5.mono HB2a.out.size))
  have HB4 := Lib.hid (((HB3.out.alloc HB3.out.size (.cells #[.int .i64 2, .bool false, .slice (some ⟨w2.heap.size + 1, 0, none⟩) 1 1] TEg)).alloc (by have := HB3.out.size; simp; omega) (.cells #[.int .i64 1, .bool true, .slice none 0 0] TEg)).alloc (by have := HB3.out.size; simp; omega) (.cells #[.slice (some ⟨w2.heap.size, 0, none⟩) 1 1, .slice (some ⟨w3.heap.size, 0, none⟩) 1 1, .slice (some ⟨w3.heap.size + 1, 0, none⟩) 1 1] TEr))
  clear k4 k5
  go_wp2_with fail
  refine (H2.out _ _ HA2.out HB4.out).mono ?_
  rintro e w5 ⟨rfl, k6⟩
  have HB5 := Lib.hid (HB4.out.trans (k6.mono HB4.out.size))
  clear k6
  go_wp2
  go_ret
  exact ⟨rfl, HB5.out⟩
end Go.Proofs.YtcmmmgblkbbdnaaGreatDoor

namespace Pv
open Go Go.RowKit
def s90 : Bs := [40, 97, 123, 49, 54, 125, 41, 123, 49, 54, 125]
def t90 : Tr := reX 16 16 (reX 16 16 (chX 97))
theorem tells90 : TellsW s90 t90 := tellsW_is (by decide +kernel)
theorem runE_nil : runE [] 0 [] = 8 := by
  unfold runE
  rw [if_neg]
  rw [auB_no (fun h => by have := h.pos; simp at this)]
  simp
theorem auE_many : auE (List.replicate 257 []) 0 = 8 := auE_no (fun h => by have := h.few; simp only [List.length_replicate] at this; omega)
theorem made_row (v : Value) (n : Nat) : (madeCells #[v] n).toList = List.replicate n v := by
  apply List.ext_getElem?
  intro i
  by_cases h : i < n
  · simp [madeCells, h, Nat.mod_one]
  · simp [madeCells, h]
end Pv
namespace Go.Proofs.YtcmmmgblkbbdnaaGreatDoor
open Go.RowKit Pv
theorem build90 {r : Au × Int × Int} (hb : BR t90.flat r) : r = ([], 0, 90) := BR.one hb (.inr ⟨tells90.pat, t90, tells90.ok, rfl, .inl ⟨by unfold Few; decide +kernel, rfl⟩⟩)
theorem rel_norows (w : World) (n : Nat) : Rel (IsRow w) (List.replicate n (.slice none 0 0)) (List.replicate n []) := ⟨by simp, fun i u x hu hx => by
  simp only [List.getElem?_replicate] at hu hx
  split at hu <;> simp at hu hx
  subst hu
  obtain ⟨_, rfl⟩ := hx
  exact ⟨none, 0, rfl, AtK.nil, Nat.le_refl _⟩⟩
theorem au_lit5 {w : World} {g1 g2 : Nat} (h1 : Blk w g1 93 #[.int .i64 97, .int .i64 97]) (h2 : Blk w g2 93 #[.int .i64 98, .int .i64 98]) :
    AtAu (((((w.alloc (.cells #[.int .i64 1, .bool false, .slice (some ⟨g1, 0, none⟩) 1 1, .int .i64 2, .bool false, .slice (some ⟨g2, 0, none⟩) 1 1] TEg)).alloc (.cells #[.int .i64 3, .bool true, .slice none 0 0] TEg)).alloc (.cells #[.int .i64 3, .bool true, .slice none 0 0] TEg)).alloc (.cells #[] TEg)).alloc (.cells #[.slice (some ⟨w.heap.size, 0, none⟩) 2 2, .slice (some ⟨w.heap.size + 1, 0, none⟩) 1 1, .slice (some ⟨w.heap.size + 1 + 1, 0, none⟩) 1 1, .slice (some ⟨w.heap.size + 1 + 1 + 1, 0, none⟩) 0 0] TEr)) (some ⟨w.heap.size + 1 + 1 + 1 + 1, 0, none⟩) [[⟨1, false, [⟨97, 97⟩]⟩, ⟨2, false, [⟨98, 98⟩]⟩], [⟨3, true, []⟩], [⟨3, true, []⟩], []] := by
  have b1 := ((((Blk.new w TEg #[.int .i64 1, .bool false, .slice (some ⟨g1, 0, none⟩) 1 1, .int .i64 2, .bool false, .slice (some ⟨g2, 0, none⟩) 1 1]).alloc (.cells #[.int .i64 3, .bool true, .slice none 0 0] TEg)).alloc (.cells #[.int .i64 3, .bool true, .slice none 0 0] TEg)).alloc (.cells #[] TEg)).alloc (.cells #[.slice (some ⟨w.heap.size, 0, none⟩) 2 2, .slice (some ⟨w.heap.size + 1, 0, none⟩) 1 1, .slice (some ⟨w.heap.size + 1 + 1, 0, none⟩) 1 1, .slice (some ⟨w.heap.size + 1 + 1 + 1, 0, none⟩) 0 0] TEr)
  have b2 := (((blk_at (W := w.alloc (.cells #[.int .i64 1, .bool false, .slice (some ⟨g1, 0, none⟩) 1 1, .int .i64 2, .bool false, .slice (some ⟨g2, 0, none⟩) 1 1] TEg)) (n := w.heap.size + 1) TEg #[.int .i64 3, .bool true, .slice none 0 0] (by simp)).alloc (.cells #[.int .i64 3, .bool true, .slice none 0 0] TEg)).alloc (.cells #[] TEg)).alloc (.cells #[.slice (some ⟨w.heap.size, 0, none⟩) 2 2, .slice (some ⟨w.heap.size + 1, 0, none⟩) 1 1, .slice (some ⟨w.heap.size + 1 + 1, 0, none⟩) 1 1, .slice (some ⟨w.heap.size + 1 + 1 + 1, 0, none⟩) 0 0] TEr)
  have b3 := ((blk_at (W := (w.alloc (.cells #[.int .i64 1, .bool false, .slice (some ⟨g1, 0, none⟩) 1 1, .int .i64 2, .bool false, .slice (some ⟨g2, 0, none⟩) 1 1] TEg)).alloc (.cells #[.int .i64 3, .bool true, .slice none 0 0] TEg)) (n := w.heap.size + 1 + 1) TEg #[.int .i64 3, .bool true, .slice none 0 0] (by simp)).alloc (.cells #[] TEg)).alloc (.cells #[.slice (some ⟨w.heap.size, 0, none⟩) 2 2, .slice (some ⟨w.heap.size + 1, 0, none⟩) 1 1, .slice (some ⟨w.heap.size + 1 + 1, 0, none⟩) 1 1, .slice (some ⟨w.heap.size + 1 + 1 + 1, 0, none⟩) 0 0] TEr)
  have b4 := (blk_at (W := ((w.alloc (.cells #[.int .i64 1, .bool false, .slice (some ⟨g1, 0, none⟩) 1 1, .int .i64 2, .bool false, .slice (some ⟨g2, 0, none⟩) 1 1] TEg)).alloc (.cells #[.int .i64 3, .bool true, .slice none 0 0] TEg)).alloc (.cells #[.int .i64 3, .bool true, .slice none 0 0] TEg)) (n := w.heap.size + 1 + 1 + 1) TEg #[] (by simp)).alloc (.cells #[.slice (some ⟨w.heap.size, 0, none⟩) 2 2, .slice (some ⟨w.heap.size + 1, 0, none⟩) 1 1, .slice (some ⟨w.heap.size + 1 + 1, 0, none⟩) 1 1, .slice (some ⟨w.heap.size + 1 + 1 + 1, 0, none⟩) 0 0] TEr)
  have b5 := blk_at (W := (((w.alloc (.cells #[.int .i64 1, .bool false, .slice (some ⟨g1, 0, none⟩) 1 1, .int .i64 2, .bool false, .slice (some ⟨g2, 0, none⟩) 1 1] TEg)).alloc (.cells #[.int .i64 3, .bool true, .slice none 0 0] TEg)).alloc (.cells #[.int .i64 3, .bool true, .slice none 0 0] TEg)).alloc (.cells #[] TEg)) (n := w.heap.size + 1 + 1 + 1 + 1) TEr #[.slice (some ⟨w.heap.size, 0, none⟩) 2 2, .slice (some ⟨w.heap.size + 1, 0, none⟩) 1 1, .slice (some ⟨w.heap.size + 1 + 1, 0, none⟩) 1 1, .slice (some ⟨w.heap.size + 1 + 1 + 1, 0, none⟩) 0 0] (by simp)
  have s1 := ((((h1.alloc (.cells #[.int .i64 1, .bool false, .slice (some ⟨g1, 0, none⟩) 1 1, .int .i64 2, .bool false, .slice (some ⟨g2, 0, none⟩) 1 1] TEg)).alloc (.cells #[.int .i64 3, .bool true, .slice none 0 0] TEg)).alloc (.cells #[.int .i64 3, .bool true, .slice none 0 0] TEg)).alloc (.cells #[] TEg)).alloc (.cells #[.slice (some ⟨w.heap.size, 0, none⟩) 2 2, .slice (some ⟨w.heap.size + 1, 0, none⟩) 1 1, .slice (some ⟨w.heap.size + 1 + 1, 0, none⟩) 1 1, .slice (some ⟨w.heap.size + 1 + 1 + 1, 0, none⟩) 0 0] TEr)
  have s2 := ((((h2.alloc (.cells #[.int .i64 1, .bool false, .slice (some ⟨g1, 0, none⟩) 1 1, .int .i64 2, .bool false, .slice (some ⟨g2, 0, none⟩) 1 1] TEg)).alloc (.cells #[.int .i64 3, .bool true, .slice none 0 0] TEg)).alloc (.cells #[.int .i64 3, .bool true, .slice none 0 0] TEg)).alloc (.cells #[] TEg)).alloc (.cells #[.slice (some ⟨w.heap.size, 0, none⟩) 2 2, .slice (some ⟨w.heap.size + 1, 0, none⟩) 1 1, .slice (some ⟨w.heap.size + 1 + 1, 0, none⟩) 1 1, .slice (some ⟨w.heap.size + 1 + 1 + 1, 0, none⟩) 0 0] TEr)
  have r1 := isRow_blk b1 ((edge_rel (q := 1) (free := false) (by omega) (set_blk s1 (by omega) (by omega))).app (edge_rel (q := 2) (free := false) (by omega) (set_blk s2 (by omega) (by omega)))) rfl (by simp)
  have r2 := row_free b2 (by omega)
  have r3 := row_free b3 (by omega)
  have r4 := row_none b4
  exact At.ofBlk b5 ((Rel.one r1).app ((Rel.one r2).app ((Rel.one r3).app (Rel.one r4)))) (by simp)

set_option maxHeartbeats 4000000 in
set_option maxRecDepth 100000 in
theorem law_AutoNames (w : World) (B : Nat) (hT : TabU B w) (hB : B ≤ w.heap.size) : Calls Tryz.prog 5 #[] w fun e w' => e = .returned (.bool true) ∧ Below w.heap.size w w' := by
  have HS1 := Lib.hid (fun W => law9_set 97 W (by omega))
  have HS2 := Lib.hid (fun W => law9_set 98 W (by omega))
  have HI := Lib.hid (fun (A : Option Addr) (W : World) (ha : AtAu W A [[⟨1, false, [⟨97, 97⟩]⟩, ⟨2, false, [⟨98, 98⟩]⟩], [⟨3, true, []⟩], [⟨3, true, []⟩], []]) (hb : Below w.heap.size w W) => law9_is ⟨#[97, 124, 98]⟩ t8 A 4 4 3 [[⟨1, false, [⟨97, 97⟩]⟩, ⟨2, false, [⟨98, 98⟩]⟩], [⟨3, true, []⟩], [⟨3, true, []⟩], []] true W B tells8 ha (Lib.hid rfl) (by decide +kernel) (hT.then hb hB) (Nat.le_trans hB hb.size))
  have HP := Lib.hid (fun (w' : World) (hb : Below w.heap.size w w') => pattern_ParseW ⟨#[40, 97, 123, 49, 54, 125, 41, 123, 49, 54, 125]⟩ t90 w' B tells90 tells90.plain (hT.then hb hB) (Nat.le_trans hB hb.size))
  have HAL := Lib.hid (fun (w' : World) (hb : Below w.heap.size w w') => law9_alive w' B (hT.then hb hB) (Nat.le_trans hB hb.size))
  have hmk : ∀ W : World, (Instr.makeSlice 44 (.int .i64 257) (.int .i64 257)).run Tryz.prog W = .ok (.slice (some ⟨W.heap.size, 0, none⟩) 257 257) (W.alloc (.cells (madeCells #[.slice none 0 0] 257) TEr)) := fun W => by
    have := run_make_row' (P := Tryz.prog) 44 TEr (.slice none 0 0) 24 Tryz.underlying44 info_row rfl .i64 .i64 257 (by omega) (by omega) W
    simpa only [Int.cast_ofNat_Int] using this
  obtain ⟨nt, hnt⟩ : ∃ nt, t90.flat.length = nt := ⟨_, rfl⟩
  have HN := Lib.hid hnt
  have hn : nt ≤ 64 := by rw [← hnt]; exact tells90.size
  clear hT hB hnt
  go_enter Tryz.func5, Tryz.ntmps5
  go_wp2_with fail
  refine (HS1.out _).mono ?_
  rintro e w1 ⟨rfl, k1, k2⟩
  have HB1 := Lib.hid k2
  have K1 := Lib.hid k1
  clear k1 k2
  go_wp2_with fail
  refine (HS2.out _).mono ?_
  rintro e w2 ⟨rfl, k1, k2⟩
  have HA := Lib.hid (au_lit5 (K1.out.below k2 K1.out.lt) k1)
  have HB2 := Lib.hid (HB1.out.trans (k2.mono HB1.out.size))
  have HB3 := Lib.hid (((((HB2.out.alloc HB2.out.size (.cells #[.int .i64 1, .bool false, .slice (some ⟨w.heap.size, 0, none⟩) 1 1, .int .i64 2, .bool false, .slice (some ⟨w1.heap.size, 0, none⟩) 1 1] TEg)).alloc (by have := HB2.out.size; simp; omega) (.cells #[.int .i64 3, .bool true, .slice none 0 0] TEg)).alloc (by have := HB2.out.size; simp; omega) (.cells #[.int .i64 3, .bool true, .slice none 0 0] TEg)).alloc (by have := HB2.out.size; simp; omega) (.cells #[] TEg)).alloc (by have := HB2.out.size; simp; omega) (.cells #[.slice (some ⟨w2.heap.size, 0, none⟩) 2 2, .slice (some ⟨w2.heap.size + 1, 0, none⟩) 1 1, .slice (some ⟨w2.heap.size + 1 + 1, 0, none⟩) 1 1, .slice (some ⟨w2.heap.size + 1 + 1 + 1, 0, none⟩) 0 0] TEr))
  clear k1 k2
  go_wp2_with fail
  refine (HI.out _ _ HA.out HB3.out).mono ?_
  rintro e w4 ⟨rfl, k⟩
  have HB4 := Lib.hid (HB3.out.trans (k.mono HB3.out.size))
  clear k
  go_wp2_with fail
  refine (HP.out _ HB4.out).mono ?_
  rintro e w5 ⟨A, c, rfl, k1, k2⟩
  have HB5 := Lib.hid (HB4.out.trans (k2.mono HB4.out.size))
  have HAT := Lib.hid (rx_at k1 (by rw [HN.out]; omega) tells90.sets)
  rw [HN.out]
  have HBU := Lib.hid (auto_Build A nt c t90.flat w5 HAT.out HN)
  clear k1 k2
  go_wp2_with fail
  refine HBU.out.mono ?_
  intro e w6 hpb
  obtain ⟨k2, r, A2, n2, c2, hbr, rfl, hau, hl2⟩ := hpb.read
  obtain rfl := build90 hbr
  have HB6 := Lib.hid (HB5.out.trans (k2.mono HB5.out.size))
  clear hpb k2 hbr hau hl2
  have hb7 : Below w6.heap.size w6 (w6.alloc (.cells #[.slice A2 n2 c2, .int .i64 0] TAuto)) := (Below.refl _ _).alloc (Nat.le_refl _) _
  have HB7 := Lib.hid (HB6.out.trans (hb7.mono HB6.out.size))
  have HR := Lib.hid (auto_Run none 0 0 0 [] none 0 0 [] (w6.alloc (.cells #[.slice A2 n2 c2, .int .i64 0] TAuto)) At.nil (Lib.hid rfl) At.nil (Lib.hid rfl))
  rw [runE_nil] at HR
  clear hb7
  go_wp2_with fail
  refine HR.out.mono ?_
  rintro e w8 ⟨rfl, k⟩
  have HB8 := Lib.hid (HB7.out.trans (k.mono HB7.out.size))
  clear k
  go_wp2_with fail
  refine (HAL.out _ HB8.out).mono ?_
  rintro e w9 ⟨rfl, k⟩
  have HB9 := Lib.hid (HB8.out.trans (k.mono HB8.out.size))
  clear k
  have hb10 : Below w9.heap.size w9 (w9.alloc (.cells (madeCells #[.slice none 0 0] 257) TEr)) := (Below.refl _ _).alloc (Nat.le_refl _) _
  have HB10 := Lib.hid (HB9.out.trans (hb10.mono HB9.out.size))
  have HC := Lib.hid (auto_Check (some ⟨w9.heap.size, 0, none⟩) 257 257 0 (List.replicate 257 []) (w9.alloc (.cells (madeCells #[.slice none 0 0] 257) TEr)) (At.ofBlk (Blk.new _ _ _) (by rw [made_row]; exact rel_norows _ 257) (by simp)) (Lib.hid (by simp)))
  rw [auE_many] at HC
  clear hb10
  go_wp2_with fail
  refine HC.out.mono ?_
  rintro e w11 ⟨rfl, k⟩
  have HB11 := Lib.hid (HB10.out.trans (k.mono HB10.out.size))
  clear k
  go_wp2
  go_ret
  exact ⟨rfl, HB11.out⟩
end Go.Proofs.YtcmmmgblkbbdnaaGreatDoor

namespace Pv
open Go Go.RowKit Go.Proofs.YtcmmmgblkbbdnaaGreatDoor
theorem clo_clo (a : Au) (S : Nat → Prop) : Clo a (Clo a S) = Clo a S := by
  funext s
  refine propext ⟨fun h => Clo.least (fun _ h => h) (fun _ _ h1 h2 => .step h1 h2) h, fun h => .base h⟩
theorem of_in {a : Au} {l : List Int} (h : InAu a.length l) : ∀ s, Of l s → s < a.length := fun s hs => by have := h _ hs; omega
theorem Stp.mono {a : Au} {p : Int} {S T : Nat → Prop} (h : ∀ s, S s → T s) {t : Nat} (ht : Stp a p S t) : Stp a p T t := by
  obtain ⟨s, h1, h2⟩ := ht
  exact ⟨s, h s h1, h2⟩
/-- What is reached is closed; what is stepped to, is stepped to state by state. -/
structure Reached (a : Au) (acc : Int) (l : List Int) (p : Int) (R S : List Int) : Prop where
  ask : askE a acc R = 0
  again : reachL a acc R = R
  few : R.length ≤ a.length
  few2 : S.length ≤ a.length
  has : ∀ x, x ∈ l → x ∈ R
  one : ∀ x, x ∈ l → askE a acc [x] = 0
  all : ∀ x, x ∈ l → ∀ y, y ∈ stepL a acc [x] p → y ∈ S
  bd : ∀ x, x ∈ R → 0 ≤ x ∧ x ≤ 1000
  bd2 : ∀ x, x ∈ S → 0 ≤ x ∧ x ≤ 1000
  bd3 : ∀ x, x ∈ l → (stepL a acc [x] p).length ≤ a.length ∧ ∀ y, y ∈ stepL a acc [x] p → 0 ≤ y ∧ y ≤ 1000
theorem stL_bd2 {n : Nat} {S : Nat → Prop} (hn : n ≤ 256) : ∀ x, x ∈ stL n S → 0 ≤ x ∧ x ≤ 1000 := fun x hx => by have := stL_in x hx; omega
theorem reached_is {a : Au} {acc : Int} {l : List Int} {p : Int} (h : AuOk a acc) (hl : InAu a.length l) (he : askE a acc l = 0) : Reached a acc l p (reachL a acc l) (stepL a acc l p) := by
  have e1 := reachL_yes he
  have e2 := stepL_yes (p := p) he
  have a1 : askE a acc (stL a.length (Clo a (Of l))) = 0 := askE_yes h stL_in
  have hone : ∀ x, x ∈ l → askE a acc [x] = 0 := fun x hx => askE_yes h (fun y hy => by simp at hy; subst hy; exact hl _ hx)
  rw [e1, e2]
  refine ⟨a1, ?_, stL_len _ _, stL_len _ _, ?_, hone, ?_, stL_bd2 h.few, stL_bd2 h.few, ?_⟩
  · rw [reachL_yes a1, of_stL (fun s hs => clo_in h (of_in hl) hs), clo_clo]
  · intro x hx
    have := hl x hx
    obtain ⟨s, rfl⟩ := Int.eq_ofNat_of_zero_le this.1
    exact stL_mem.2 ⟨s, by omega, .base hx, rfl⟩
  · intro x hx y hy
    rw [stepL_yes (hone x hx)] at hy
    obtain ⟨s, h1, h2, rfl⟩ := stL_mem.1 hy
    exact stL_mem.2 ⟨s, h1, h2.mono (fun t ht => by
      have ht' : (t : Int) ∈ [x] := ht
      simp at ht'
      show (t : Int) ∈ l
      rw [ht']; exact hx), rfl⟩
  · intro x hx
    rw [stepL_yes (hone x hx)]
    exact ⟨stL_len _ _, stL_bd2 h.few⟩
/-- The states behind a row of numbers, as the law reckons them. -/
noncomputable def atL (a : Au) (w : List Int) : List Int := stL a.length (runA a w)
theorem atL_nil {a : Au} {acc : Int} (h : AuOk a acc) : askE a acc [0] = 0 ∧ reachL a acc [0] = atL a [] := by
  have e : askE a acc [0] = 0 := askE_yes h (fun y hy => by simp at hy; subst hy; have := h.pos; omega)
  refine ⟨e, ?_⟩
  rw [reachL_yes e, of_zero]
  rfl
theorem atL_snoc {a : Au} {acc : Int} (h : AuOk a acc) (w : List Int) (p : Int) :
    askE a acc (atL a w) = 0 ∧ askE a acc (stepL a acc (atL a w) p) = 0 ∧ reachL a acc (stepL a acc (atL a w) p) = atL a (w ++ [p]) := by
  have e : askE a acc (atL a w) = 0 := askE_yes h stL_in
  have e2 : askE a acc (stepL a acc (atL a w) p) = 0 := by rw [stepL_yes e]; exact askE_yes h stL_in
  refine ⟨e, e2, ?_⟩
  rw [reachL_yes e2, stepL_yes e, atL, atL, of_stL (fun s hs => runA_in h _ s hs), of_stL (fun s hs => stp_in h hs), runA_snoc]
theorem atL_bd {a : Au} {acc : Int} (h : AuOk a acc) (w : List Int) : (atL a w).length ≤ a.length ∧ ∀ y, y ∈ atL a w → 0 ≤ y ∧ y ≤ 1000 := ⟨stL_len _ _, stL_bd2 h.few⟩
theorem stepL_bd {a : Au} {acc : Int} (h : AuOk a acc) (w : List Int) (p : Int) : (stepL a acc (atL a w) p).length ≤ a.length ∧ ∀ y, y ∈ stepL a acc (atL a w) p → 0 ≤ y ∧ y ≤ 1000 := by
  rw [stepL_yes (atL_snoc h w p).1]
  exact ⟨stL_len _ _, stL_bd2 h.few⟩
end Pv
namespace Go.Proofs.YtcmmmgblkbbdnaaGreatDoor
open Go.RowKit Pv

set_option maxHeartbeats 1000000 in
set_option maxRecDepth 100000 in
theorem law9_has (A : Option Addr) (c n : Nat) (l : List Int) (p : Int) (w : World) (h : At w A RI l) (HL : Hid (l.length = n)) :
    Calls Tryz.prog 33 #[.slice A n c, .int .i64 p] w fun e w' => e = .returned (.bool (decide (p ∈ l))) ∧ w' = w := by
  have hl : n ≤ 140737488355328 := by have := h.1; rwa [HL.out] at this
  go_enter Tryz.func33, Tryz.ntmps33
  go_wp2
  go_loop [5] (fun i => ∃ k : Nat, i = .int .i64 k ∧ k ≤ n ∧ p ∉ l.take k) (fun i => n - (intOf i).toNat)
  case atStart => exact ⟨0, rfl, by omega, by simp⟩
  case round =>
    obtain ⟨k, rfl, hk, hno⟩ := hrel
    have HNO := Lib.hid hno
    clear hno
    by_cases hlt : k < n
    · obtain ⟨b, off, u, x, rfl, hbs, hx, ⟨rfl, _, _⟩, HX⟩ := h.gt HL hlt
      by_cases hpx : x = p
      · have HM := Lib.hid (decide_eq_true (show p ∈ l by rw [← hpx]; exact mem_of_get HX.out))
        subst hpx
        go_wp2
        go_ret
        exact ⟨ret_bool HM.out.symm, rfl⟩
      · have HS := Lib.hid (show p ∉ l.take (k + 1) by
          rw [take_snoc HX.out]
          simp only [List.mem_append, List.mem_singleton, not_or]
          exact ⟨HNO.out, fun h => hpx h.symm⟩)
        go_wp2
        go_round
        case rel => exact ⟨k + 1, by go_num, by omega, HS.out⟩
        case measure => simp [intOf]; omega
    · have HN := Lib.hid (decide_eq_false (show p ∉ l by have := HNO.out; rwa [List.take_of_length_le (by rw [HL.out]; omega)] at this))
      go_wp2
      go_ret
      exact ⟨ret_bool HN.out.symm, rfl⟩

set_option maxHeartbeats 1000000 in
set_option maxRecDepth 100000 in
theorem law9_all (A B : Option Addr) (c n d m : Nat) (l r : List Int) (w : World) (h : At w A RI l) (HL : Hid (l.length = n)) (h' : At w B RI r) (HM : Hid (r.length = m)) (HY : Hid (∀ y, y ∈ r → y ∈ l)) :
    Calls Tryz.prog 34 #[.slice A n c, .slice B m d] w fun e w' => e = .returned (.bool true) ∧ w' = w := by
  have hl : m ≤ 140737488355328 := by have := h'.1; rwa [HM.out] at this
  have HH := Lib.hid (fun x => law9_has A c n l x w h HL)
  clear h
  go_enter Tryz.func34, Tryz.ntmps34
  go_wp2
  go_loop [5] (fun i => ∃ k : Nat, i = .int .i64 k ∧ k ≤ m) (fun i => m - (intOf i).toNat)
  case atStart => exact ⟨0, rfl, by omega⟩
  case round =>
    obtain ⟨k, rfl, hk⟩ := hrel
    by_cases hlt : k < m
    · obtain ⟨b, off, u, x, rfl, hbs, hx, ⟨rfl, _, _⟩, HX⟩ := h'.gt HM hlt
      have HQ := HH.out x
      rw [decide_eq_true (HY.out x (mem_of_get HX.out))] at HQ
      have HQ := Lib.hid HQ
      go_wp2_with fail
      refine HQ.out.mono ?_
      rintro e w1 ⟨rfl, rfl⟩
      go_wp2
      go_round
      case rel => exact ⟨k + 1, by go_num, by omega⟩
      case measure => simp [intOf]; omega
    · go_wp2
      go_ret
      exact ⟨rfl, rfl⟩
end Go.Proofs.YtcmmmgblkbbdnaaGreatDoor

namespace Go.Proofs.YtcmmmgblkbbdnaaGreatDoor
open Go.RowKit Pv
theorem ints_open {w : World} {b : Nat} {v : Value} {l : List Int} (h : OwnI w b v l) (hr : ∀ x, x ∈ l → 0 ≤ x ∧ x ≤ 1000) (hl : l.length ≤ 1000) : ∃ A c, v = .slice A l.length c ∧ At w A RI l := by
  obtain ⟨A, c, e, h2, _⟩ := h.at' (fun x hx => by have := hr x hx; omega) (by omega)
  exact ⟨A, c, e, h2⟩
theorem ints_none {w : World} {b : Nat} {v : Value} (h : OwnI w b v []) : ∃ A c, v = .slice A 0 c := by
  obtain ⟨A, c, e, _⟩ := h
  exact ⟨A, c, e⟩
theorem bel2 {a b c : World} (h : Below a.heap.size a b) (k : Below b.heap.size b c) : Below a.heap.size a c := h.trans (k.mono h.size)

set_option maxHeartbeats 8000000 in
set_option maxRecDepth 100000 in
theorem law_AutoReaches (A lA wA : Option Addr) (n c m lc q wc : Nat) (acc p : Int) (a : Au) (l ws : List Int) (w : World) (B0 : Nat) (ha : AtAu w A a) (HL : Hid (a.length = n)) (hl : At w lA RI l) (HM : Hid (l.length = m)) (hmc : m ≤ lc) (hw : At w wA RI ws) (HQ : Hid (ws.length = q)) (hT : TabU B0 w) (hB : B0 ≤ w.heap.size) :
    Calls Tryz.prog 6 #[.agg #[.slice A n c, .int .i64 acc], .slice lA m lc, .int .i64 p, .slice wA q wc] w fun e w' => e = .returned (.bool true) ∧ Below w.heap.size w w' := by
  have hB0 : Below w.heap.size w (w.alloc (.cells #[.slice A n c, .int .i64 acc] TAuto)) := (Below.refl _ _).alloc (Nat.le_refl _) _
  have HB0 := Lib.hid hB0
  have K0 := Lib.hid (Blk.new w TAuto #[.slice A n c, .int .i64 acc])
  have HAL := Lib.hid (law9_alive _ B0 (hT.then hB0 hB) (Nat.le_trans hB hB0.size))
  have HA := Lib.hid ha; have HLL := Lib.hid hl; have HWW := Lib.hid hw
  have HGR := Lib.hid (fun W (hb : Below w.heap.size w W) => ref09_Great A c n 40 acc a W (HA.out.keep (Keep.of hb)) HL (by omega))
  have hml : m ≤ 140737488355328 := by have := hl.1; rwa [HM.out] at this
  have hql : q ≤ 140737488355328 := by have := hw.1; rwa [HQ.out] at this
  clear ha hl hw hT hB hB0
  by_cases h8 : m ≤ 40 ∧ q ≤ 8
  case neg =>
    rcases (show 40 < m ∨ (m ≤ 40 ∧ 8 < q) by omega) with h | ⟨h, h'⟩
    · have e1 : (40 : Int) < (m : Int) := by omega
      go_enter Tryz.func6, Tryz.ntmps6
      go_wp2_with fail
      refine HAL.out.mono ?_
      rintro e w1 ⟨rfl, k⟩
      have HB1 := Lib.hid (HB0.out.trans (k.mono HB0.out.size))
      have K1 := Lib.hid (K0.out.below k K0.out.lt)
      clear k
      obtain ⟨p0, p1, _, _⟩ := Blk.two K1.out
      go_wp2_with fail
      refine (HGR.out _ HB1.out).mono ?_
      rintro e w2 ⟨g, rfl, hg, k⟩
      have HB2 := Lib.hid (HB1.out.trans (k.mono HB1.out.size))
      have K2 := Lib.hid (K1.out.below k K1.out.lt)
      have HG := Lib.hid hg
      clear k hg p0 p1
      cases g
      all_goals
        go_wp2
        go_ret
        exact ⟨rfl, HB2.out⟩
    · have e1 : (m : Int) ≤ 40 := by omega
      have e2 : (8 : Int) < (q : Int) := by omega
      go_enter Tryz.func6, Tryz.ntmps6
      go_wp2_with fail
      refine HAL.out.mono ?_
      rintro e w1 ⟨rfl, k⟩
      have HB1 := Lib.hid (HB0.out.trans (k.mono HB0.out.size))
      have K1 := Lib.hid (K0.out.below k K0.out.lt)
      clear k
      obtain ⟨p0, p1, _, _⟩ := Blk.two K1.out
      go_wp2_with fail
      refine (HGR.out _ HB1.out).mono ?_
      rintro e w2 ⟨g, rfl, hg, k⟩
      have HB2 := Lib.hid (HB1.out.trans (k.mono HB1.out.size))
      have K2 := Lib.hid (K1.out.below k K1.out.lt)
      have HG := Lib.hid hg
      clear k hg p0 p1
      cases g
      all_goals
        go_wp2
        go_ret
        exact ⟨rfl, HB2.out⟩
  have e1 : (m : Int) ≤ 40 := by omega
  have e2 : (q : Int) ≤ 8 := by omega
  go_enter Tryz.func6, Tryz.ntmps6
  go_wp2_with fail
  refine HAL.out.mono ?_
  rintro e w1 ⟨rfl, k⟩
  have HB1 := Lib.hid (HB0.out.trans (k.mono HB0.out.size))
  have K1 := Lib.hid (K0.out.below k K0.out.lt)
  clear k
  obtain ⟨p0, p1, _, _⟩ := Blk.two K1.out
  go_wp2_with fail
  refine (HGR.out _ HB1.out).mono ?_
  rintro e w2 ⟨g, rfl, hg, k⟩
  have HB2 := Lib.hid (HB1.out.trans (k.mono HB1.out.size))
  have K2 := Lib.hid (K1.out.below k K1.out.lt)
  have HG := Lib.hid hg
  clear k hg p0 p1
  cases g with
  | true =>
    go_wp2
    go_ret
    exact ⟨rfl, HB2.out⟩
  | false =>
    have hn : n ≤ 40 := by have := HG.out rfl; rwa [HL.out] at this
    have HRE := Lib.hid (fun (l : List Int) (lA : Option Addr) (lc m : Nat) (hm : m ≤ 1000) (HM : Hid (l.length = m)) W (hb : Below w.heap.size w W) (hl : At W lA RI l) => auto_Reach A c n acc a lA lc m l W (HA.out.keep (Keep.of hb)) HL hl HM (by omega))
    have HST := Lib.hid (fun (l : List Int) (p : Int) (lA : Option Addr) (lc m : Nat) (hm : m ≤ 1000) (HM : Hid (l.length = m)) W (hb : Below w.heap.size w W) (hl : At W lA RI l) => auto_Step A c n acc a lA lc m l p W (HA.out.keep (Keep.of hb)) HL hl HM (by omega))
    obtain ⟨er, her⟩ : ∃ er, askE a acc l = er := ⟨_, rfl⟩
    obtain ⟨p0, p1, _, _⟩ := Blk.two K2.out
    go_wp2_with fail
    refine (HRE.out l lA lc m (by omega) HM w2 HB2.out (HLL.out.keep (Keep.of HB2.out))).mono ?_
    rintro e w3 ⟨⟨v3, rfl, hv3⟩, k⟩
    have HB3 := Lib.hid (bel2 HB2.out k)
    have K3 := Lib.hid (K2.out.below k K2.out.lt)
    rw [her]
    have HV3 := Lib.hid hv3
    clear k p0 p1 hv3
    obtain ⟨p0, p1, _, _⟩ := Blk.two K3.out
    go_wp2_with fail
    refine (HST.out l p lA lc m (by omega) HM w3 HB3.out (HLL.out.keep (Keep.of HB3.out))).mono ?_
    rintro e w4 ⟨⟨v4, rfl, hv4⟩, k⟩
    have HB4 := Lib.hid (bel2 HB3.out k)
    have K4 := Lib.hid (K3.out.below k K3.out.lt)
    rw [her]
    have HV4 := Lib.hid hv4
    have HW4 := Lib.hid k
    clear k p0 p1 hv4
    have hc := acase a acc l
    by_cases he : er = 0
    case neg =>
      have z3 := HV3.out
      have z4 := HV4.out
      rw [reachL_no her he] at z3
      rw [stepL_no her he] at z4
      obtain ⟨A3, c3, rfl⟩ := ints_none z3
      obtain ⟨A4, c4, rfl⟩ := ints_none z4
      clear z3 z4 HV3 HV4 hc her
      go_wp2
      go_ret
      exact ⟨rfl, HB4.out⟩
    subst he
    have hok : AuOk a acc ∧ InAu a.length l := by
      cases hc with
      | bad _ e => omega
      | out _ _ e => omega
      | ok h h2 _ => exact ⟨h, h2⟩
    have hr := reached_is (p := p) hok.1 hok.2 her
    have HOK := Lib.hid hok.1
    obtain ⟨R, hR⟩ : ∃ R, reachL a acc l = R := ⟨_, rfl⟩
    obtain ⟨S, hS⟩ : ∃ S, stepL a acc l p = S := ⟨_, rfl⟩
    rw [hR] at HV3
    rw [hS] at HV4
    rw [hR, hS] at hr
    have HR := Lib.hid hr
    clear hr hok hc her hR hS
    have hR1 : R.length ≤ 40 := by have := HR.out.few; rw [HL.out] at this; omega
    have hS1 : S.length ≤ 40 := by have := HR.out.few2; rw [HL.out] at this; omega
    obtain ⟨A3, c3, rfl, hat3⟩ := ints_open (HV3.out.below HW4.out) HR.out.bd (by omega)
    obtain ⟨A4, c4, rfl, hat4⟩ := ints_open HV4.out HR.out.bd2 (by omega)
    obtain ⟨nr, hnr⟩ : ∃ nr, R.length = nr := ⟨_, rfl⟩
    obtain ⟨ns, hns⟩ : ∃ ns, S.length = ns := ⟨_, rfl⟩
    rw [hnr, hns]
    rw [hnr] at hR1
    rw [hns] at hS1
    have HNR := Lib.hid hnr; have HNS := Lib.hid hns
    have HT3 := Lib.hid hat3; have HT4 := Lib.hid hat4
    clear hat3 hat4 hnr hns HV3 HV4 HW4
    obtain ⟨p0, p1, _, _⟩ := Blk.two K4.out
    go_wp2_with fail
    refine (HRE.out R A3 c3 nr (by omega) HNR w4 HB4.out HT3.out).mono ?_
    rintro e w5 ⟨⟨v5, rfl, hv5⟩, k⟩
    have HB5 := Lib.hid (bel2 HB4.out k)
    have K5 := Lib.hid (K4.out.below k K4.out.lt)
    have HT3 := Lib.hid (HT3.out.keep (Keep.of k)); have HT4 := Lib.hid (HT4.out.keep (Keep.of k))
    rw [HR.out.again] at hv5
    rw [HR.out.ask]
    obtain ⟨A5, c5, rfl, hat5⟩ := ints_open hv5 HR.out.bd (by rw [HNR.out]; omega)
    rw [HNR.out]
    have HSI := Lib.hid (ref06_SameInts A3 A5 c3 c5 nr nr R R w5 HT3.out hat5 HNR HNR)
    rw [decide_eq_true rfl] at HSI
    clear k p0 p1 hv5 hat5
    go_wp2_with fail
    refine HSI.out.mono ?_
    rintro e w6 ⟨rfl, dn, rfl⟩
    have k6 : Below w5.heap.size w5 (w5.drewN dn) := below_drewN (Below.refl _ _) dn
    have HB6 := Lib.hid (bel2 HB5.out k6)
    have K6 := Lib.hid (K5.out.below k6 K5.out.lt)
    have HT6 := Lib.hid (HT3.out.keep (Keep.of k6)); have HU6 := Lib.hid (HT4.out.keep (Keep.of k6))
    clear k6 HT3 HT4 HSI
    go_wp2
    go_loopw [16] (fun iv wr => ∃ i : Nat, iv = .int .i64 i ∧ i ≤ m ∧ Hid (At wr A3 RI R) ∧ Hid (At wr A4 RI S) ∧ Hid (Blk wr w.heap.size TAuto #[.slice A n c, .int .i64 acc]) ∧ Hid (Below w.heap.size w wr)) (fun iv _ => m - (intOf iv).toNat)
    case atStart => exact ⟨0, rfl, by omega, HT6, HU6, K6, HB6⟩
    case round =>
      clear HT6 HU6 K6 HB6
      obtain ⟨i, rfl, hi, HX, HY, HK, HB⟩ := hrel
      by_cases hlt : i < m
      · obtain ⟨b1, o1, u, x, hlA, hb1, c1, ⟨rfl, _, _⟩, HZ⟩ := (HLL.out.keep (Keep.of HB.out)).gt HM hlt
        subst hlA
        have HMEM := Lib.hid (show x ∈ l from mem_of_get HZ.out)
        have i1 : (0 : Int) ≤ (i : Int) := by omega
        have i2 : (i : Int) < (m : Int) := by omega
        have i3 : (i : Int) + 1 ≤ (lc : Int) := by omega
        have i4 : (i : Int) ≤ (i : Int) + 1 := by omega
        have i5 : i + 1 ≤ lc := by omega
        have hwv : IntKind.i64.wrap ((i : Int) + 1) = (i : Int) + 1 := by rw [IntKind.wrap_i64]; omega
        have HBD := Lib.hid HB.out.drew
        have KD := Lib.hid (HK.out.below (Below.refl _ _).drew HK.out.lt)
        have hone : At wr.drew (some ⟨b1, o1 + i, none⟩) RI [x] := by
          have z := (HLL.out.keep (Keep.of HBD.out))
          refine ⟨by simp, fun _ => ⟨b1, o1 + i, rfl, by simpa using hb1, fun j y hy => ?_⟩⟩
          match j, hy with
          | 0, hy =>
            simp at hy
            subst hy
            exact ⟨_, by simpa using c1, rfl, by assumption, by assumption⟩
          | j + 1, hy => simp at hy
        have HST1 := Lib.hid (HST.out [x] p (some ⟨b1, o1 + i, none⟩) (lc - i) 1 (by omega) (Lib.hid rfl) wr.drew HBD.out hone)
        obtain ⟨p0, p1, _, _⟩ := Blk.two KD.out
        have HS := Lib.hid (And.intro p0 p1)
        clear p0 p1 hone
        go_wp2
        refine wp_region_T 12 (fun W => W.cell? ⟨w.heap.size, 0, none⟩ = some (.slice A n c) ∧ W.cell? ⟨w.heap.size, 1, none⟩ = some (.int .i64 acc)) (by kernel_rfl) ?_
        refine wpAnyT_take (i := 0) (v := ?_) rfl (by kernel_rfl) (by kernel_rfl) (by kernel_rfl) (by kernel_rfl) (by kernel_rfl) (fun _ _ _ h => h) (.inl ⟨rfl, ?_⟩) HS.out ?_
        rotate_left
        · intro W__ hW__
          obtain ⟨h1, h2⟩ := hW__
          go_simp
          (try with_reducible rfl)
        try simp only [Act.put]
        refine wpAnyT_take (i := 1) (v := ?_) rfl (by kernel_rfl) (by kernel_rfl) (by kernel_rfl) (by kernel_rfl) (by kernel_rfl) (fun _ _ _ h => h) (.inl ⟨rfl, ?_⟩) HS.out ?_
        rotate_left
        · intro W__ hW__
          obtain ⟨h1, h2⟩ := hW__
          go_simp
          (try with_reducible rfl)
        try simp only [Act.put]
        refine wpAnyT_take (i := 2) (v := ?_) rfl (by kernel_rfl) (by kernel_rfl) (by kernel_rfl) (by kernel_rfl) (by kernel_rfl) (fun _ _ _ h => h) (.inl ⟨rfl, ?_⟩) HS.out ?_
        rotate_left
        · intro W__ hW__
          obtain ⟨h1, h2⟩ := hW__
          go_simp
          (try with_reducible rfl)
        try simp only [Act.put]
        refine wpAnyT_take (i := 3) (v := ?_) rfl (by kernel_rfl) (by kernel_rfl) (by kernel_rfl) (by kernel_rfl) (by kernel_rfl) (fun _ _ _ h => h) (.inl ⟨rfl, ?_⟩) HS.out ?_
        rotate_left
        · intro W__ hW__
          obtain ⟨h1, h2⟩ := hW__
          go_simp
          (try with_reducible rfl)
        try simp only [Act.put]
        refine wpAnyT_take (i := 4) (v := ?_) rfl (by kernel_rfl) (by kernel_rfl) (by kernel_rfl) (by kernel_rfl) (by kernel_rfl) (fun _ _ _ h => h) (.inl ⟨rfl, ?_⟩) HS.out ?_
        rotate_left
        · intro W__ hW__
          obtain ⟨h1, h2⟩ := hW__
          go_simp
          (try with_reducible rfl)
        try simp only [Act.put]
        refine wpAnyT_take (i := 5) (v := .slice (some ⟨b1, o1 + i, none⟩) 1 (lc - i)) rfl (by kernel_rfl) (by kernel_rfl) (by kernel_rfl) (by kernel_rfl) (by kernel_rfl) (fun _ _ _ h => h) (.inl ⟨rfl, ?_⟩) HS.out ?_
        · intro W__ hW__
          obtain ⟨h1, h2⟩ := hW__
          go_simp; intro hh; omega
        try simp only [Act.put]
        refine wpAnyT_take (i := 6) (v := ?_) rfl (by kernel_rfl) (by kernel_rfl) (by kernel_rfl) (by kernel_rfl) (by kernel_rfl) (fun _ _ _ h => h) (.inl ⟨rfl, ?_⟩) HS.out ?_
        rotate_left
        · intro W__ hW__
          obtain ⟨h1, h2⟩ := hW__
          go_simp
          (try with_reducible rfl)
        try simp only [Act.put]
        refine wpAnyT_one (i := 7) rfl (by kernel_rfl) rfl fun K__ hK__ => ?_
        unfold Oper.wp
        go_simp
        refine HST1.out.mono ?_
        rintro e w7 ⟨⟨v7, rfl, hv7⟩, k⟩
        rw [HR.out.one x HMEM.out]
        obtain ⟨A7, c7, rfl, hat7⟩ := ints_open hv7 (HR.out.bd3 x HMEM.out).2 (by have := (HR.out.bd3 x HMEM.out).1; rw [HL.out] at this; omega)
        obtain ⟨n7, hn7⟩ : ∃ n7, (stepL a acc [x] p).length = n7 := ⟨_, rfl⟩
        rw [hn7]
        have HB7 := Lib.hid (bel2 HBD.out k)
        have K7 := Lib.hid (KD.out.below k KD.out.lt)
        have HX7 := Lib.hid ((HX.out.keep (Keep.of (Below.refl wr.heap.size wr).drew)).keep (Keep.of k))
        have HY7 := Lib.hid ((HY.out.keep (Keep.of (Below.refl wr.heap.size wr).drew)).keep (Keep.of k))
        have c17 := ((Keep.of k).cell b1 (o1 + i) (by simpa using hb1)).trans (show wr.drew.cell? ⟨b1, o1 + i, none⟩ = _ by simpa using c1)
        have HHAS := law9_has A3 c3 nr R x w7 HX7.out HNR
        rw [decide_eq_true (HR.out.has x HMEM.out)] at HHAS
        have HHAS := Lib.hid HHAS
        have HALL := Lib.hid (law9_all A4 A7 c4 ns c7 n7 S _ w7 HY7.out HNS hat7 (Lib.hid hn7) (Lib.hid (HR.out.all x HMEM.out)))
        have hb17 : b1 < w7.heap.size := World.block_lt_of_cell? _ _ c17
        obtain ⟨p0, p1, _, _⟩ := Blk.two K7.out
        have HS7 := Lib.hid (And.intro p0 p1)
        clear k hv7 hat7 hn7 p0 p1
        refine hK__ _ _ HS7.out ?_
        clear hK__
        refine wpAnyT_take (i := 8) (v := ?_) rfl (by kernel_rfl) (by kernel_rfl) (by kernel_rfl) (by kernel_rfl) (by kernel_rfl) (fun _ _ _ h => h) (.inl ⟨rfl, ?_⟩) HS7.out ?_
        rotate_left
        · intro W__ hW__
          obtain ⟨h1, h2⟩ := hW__
          go_simp
          (try with_reducible rfl)
        try simp only [Act.put]
        refine wpAnyT_take (i := 9) (v := ?_) rfl (by kernel_rfl) (by kernel_rfl) (by kernel_rfl) (by kernel_rfl) (by kernel_rfl) (fun _ _ _ h => h) (.inl ⟨rfl, ?_⟩) HS7.out ?_
        rotate_left
        · intro W__ hW__
          obtain ⟨h1, h2⟩ := hW__
          go_simp
          (try with_reducible rfl)
        try simp only [Act.put]
        refine wpAnyT_take (i := 10) (v := ?_) rfl (by kernel_rfl) (by kernel_rfl) (by kernel_rfl) (by kernel_rfl) (by kernel_rfl) (fun _ _ _ h => h) (.inl ⟨rfl, ?_⟩) HS7.out ?_
        rotate_left
        · intro W__ hW__
          obtain ⟨h1, h2⟩ := hW__
          go_simp
          (try with_reducible rfl)
        try simp only [Act.put]
        refine wpAnyT_take (i := 11) (v := ?_) rfl (by kernel_rfl) (by kernel_rfl) (by kernel_rfl) (by kernel_rfl) (by kernel_rfl) (fun _ _ _ h => h) (.inl ⟨rfl, ?_⟩) HS7.out ?_
        rotate_left
        · intro W__ hW__
          obtain ⟨h1, h2⟩ := hW__
          go_simp
          (try with_reducible rfl)
        try simp only [Act.put]
        refine wpAnyT_end (i := 12) rfl (by kernel_rfl) rfl (by kernel_rfl) fun K__ hK__ => ?_
        unfold Oper.wp
        go_simp
        refine hK__ _ _ ?_
        clear hK__
        refine wpAnyT_done (by kernel_rfl) ?_ _
        go_wp2_with fail
        refine HHAS.out.mono ?_
        rintro e w8 ⟨rfl, rfl⟩
        go_wp2_with fail
        refine HALL.out.mono ?_
        rintro e w9 ⟨rfl, rfl⟩
        go_wp2
        go_roundw
        case rel => exact ⟨i + 1, by go_num, by omega, HX7, HY7, K7, HB7⟩
        case measure => simp [intOf]; omega
      · obtain ⟨p0, p1, _, _⟩ := Blk.two HK.out
        have HZ := atL_nil HOK.out
        have HZ1 := Lib.hid HZ.1; have HZ2 := Lib.hid HZ.2
        have hb7 : Below wr.heap.size wr (wr.alloc (.cells #[.int .i64 0] 3)) := (Below.refl _ _).alloc (Nat.le_refl _) _
        have HB7 := Lib.hid (bel2 HB.out hb7)
        have K7 := Lib.hid (HK.out.below hb7 HK.out.lt)
        have HRZ := Lib.hid (HRE.out [0] (some ⟨wr.heap.size, 0, none⟩) 1 1 (by omega) (Lib.hid rfl) _ HB7.out (At.ofBlk (Blk.new wr 3 #[.int .i64 0]) (Rel.one ⟨rfl, by omega, by omega⟩) (by simp)))
        rw [HZ1.out, HZ2.out] at HRZ
        clear hb7 HZ
        go_wp2_with fail
        refine HRZ.out.mono ?_
        rintro e w8 ⟨⟨v8, rfl, hv8⟩, k⟩
        have HB8 := Lib.hid (bel2 HB7.out k)
        have K8 := Lib.hid (K7.out.below k K7.out.lt)
        obtain ⟨A8, c8, rfl, hat8⟩ := ints_open hv8 (atL_bd HOK.out []).2 (by have := (atL_bd HOK.out []).1; rw [HL.out] at this; omega)
        have h80 : (atL a []).length ≤ 40 := by have := (atL_bd HOK.out []).1; rw [HL.out] at this; omega
        obtain ⟨n8, hn8⟩ : ∃ n8, (atL a []).length = n8 := ⟨_, rfl⟩
        rw [hn8]
        rw [hn8] at h80
        have HAT8 := Lib.hid hat8
        have HN8 := Lib.hid hn8
        clear k hv8 hat8 hn8 p0 p1
        go_wp2
        go_loopw [19, 21] (fun av iv wr => ∃ (i j : Nat) (B : Option Addr) (bc : Nat), av = .slice B j bc ∧ iv = .int .i64 i ∧ i ≤ q ∧ j ≤ 40 ∧ Hid ((atL a (ws.take i)).length = j) ∧ Hid (At wr B RI (atL a (ws.take i))) ∧ Hid (Blk wr w.heap.size TAuto #[.slice A n c, .int .i64 acc]) ∧ Hid (Below w.heap.size w wr)) (fun _ iv _ => q - (intOf iv).toNat)
        case atStart => exact ⟨0, n8, A8, c8, rfl, rfl, by omega, h80, HN8, HAT8, K8, HB8⟩
        case round =>
          clear HAT8 K8 HB8 HN8 h80
          clear HX HY HK HB K7 HB7 HRZ
          obtain ⟨i, j, B, bc, rfl, rfl, hi, hj, HJ, HT, HK, HB⟩ := hrel
          by_cases hlt : i < q
          · obtain ⟨b1, o1, u, x, hwA, hb1, c1, ⟨rfl, _, _⟩, HZ⟩ := (HWW.out.keep (Keep.of HB.out)).gt HQ hlt
            subst hwA
            have HSN := Lib.hid (take_snoc HZ.out)
            have i1 : (0 : Int) ≤ (i : Int) := by omega
            have i2 : (i : Int) < (q : Int) := by omega
            have hs := atL_snoc HOK.out (ws.take i) x
            rw [← HSN.out] at hs
            have HSA := Lib.hid hs
            have HBD := Lib.hid HB.out.drew
            have KD := Lib.hid (HK.out.below (Below.refl _ _).drew HK.out.lt)
            have HST1 := Lib.hid (HST.out (atL a (ws.take i)) x B bc j (by omega) HJ wr.drew HBD.out (HT.out.keep (Keep.of (Below.refl wr.heap.size wr).drew)))
            obtain ⟨p0, p1, _, _⟩ := Blk.two KD.out
            have HS := Lib.hid (And.intro p0 (And.intro p1 (show wr.drew.cell? ⟨b1, o1 + i, none⟩ = some (.int .i64 x) by simpa using c1)))
            clear p0 p1 hs
            go_wp2
            refine wp_region_T 11 (fun W => W.cell? ⟨w.heap.size, 0, none⟩ = some (.slice A n c) ∧ W.cell? ⟨w.heap.size, 1, none⟩ = some (.int .i64 acc) ∧ W.cell? ⟨b1, o1 + i, none⟩ = some (.int .i64 x)) (by kernel_rfl) ?_
            refine wpAnyT_take (i := 0) (v := ?_) rfl (by kernel_rfl) (by kernel_rfl) (by kernel_rfl) (by kernel_rfl) (by kernel_rfl) (fun _ _ _ h => h) (.inl ⟨rfl, ?_⟩) HS.out ?_
            rotate_left
            · intro W__ hW__
              obtain ⟨h1, h2, h3⟩ := hW__
              go_simp
              (try with_reducible rfl)
            try simp only [Act.put]
            refine wpAnyT_take (i := 1) (v := ?_) rfl (by kernel_rfl) (by kernel_rfl) (by kernel_rfl) (by kernel_rfl) (by kernel_rfl) (fun _ _ _ h => h) (.inl ⟨rfl, ?_⟩) HS.out ?_
            rotate_left
            · intro W__ hW__
              obtain ⟨h1, h2, h3⟩ := hW__
              go_simp
              (try with_reducible rfl)
            try simp only [Act.put]
            refine wpAnyT_take (i := 2) (v := ?_) rfl (by kernel_rfl) (by kernel_rfl) (by kernel_rfl) (by kernel_rfl) (by kernel_rfl) (fun _ _ _ h => h) (.inl ⟨rfl, ?_⟩) HS.out ?_
            rotate_left
            · intro W__ hW__
              obtain ⟨h1, h2, h3⟩ := hW__
              go_simp
              (try with_reducible rfl)
            try simp only [Act.put]
            refine wpAnyT_take (i := 3) (v := ?_) rfl (by kernel_rfl) (by kernel_rfl) (by kernel_rfl) (by kernel_rfl) (by kernel_rfl) (fun _ _ _ h => h) (.inl ⟨rfl, ?_⟩) HS.out ?_
            rotate_left
            · intro W__ hW__
              obtain ⟨h1, h2, h3⟩ := hW__
              go_simp
              (try with_reducible rfl)
            try simp only [Act.put]
            refine wpAnyT_take (i := 4) (v := ?_) rfl (by kernel_rfl) (by kernel_rfl) (by kernel_rfl) (by kernel_rfl) (by kernel_rfl) (fun _ _ _ h => h) (.inl ⟨rfl, ?_⟩) HS.out ?_
            rotate_left
            · intro W__ hW__
              obtain ⟨h1, h2, h3⟩ := hW__
              go_simp
              (try with_reducible rfl)
            try simp only [Act.put]
            refine wpAnyT_take (i := 5) (v := ?_) rfl (by kernel_rfl) (by kernel_rfl) (by kernel_rfl) (by kernel_rfl) (by kernel_rfl) (fun _ _ _ h => h) (.inl ⟨rfl, ?_⟩) HS.out ?_
            rotate_left
            · intro W__ hW__
              obtain ⟨h1, h2, h3⟩ := hW__
              go_simp
              (try with_reducible rfl)
            try simp only [Act.put]
            refine wpAnyT_one (i := 6) rfl (by kernel_rfl) rfl fun K__ hK__ => ?_
            unfold Oper.wp
            go_simp
            refine HST1.out.mono ?_
            rintro e w7 ⟨⟨v7, rfl, hv7⟩, k⟩
            rw [HSA.out.1]
            have hsb := stepL_bd HOK.out (ws.take i) x
            rw [HL.out] at hsb
            obtain ⟨A7, c7, rfl, hat7⟩ := ints_open hv7 hsb.2 (by omega)
            obtain ⟨n7, hn7⟩ : ∃ n7, (stepL a acc (atL a (ws.take i)) x).length = n7 := ⟨_, rfl⟩
            rw [hn7]
            have hn70 : n7 ≤ 40 := by rw [← hn7]; omega
            have HB7 := Lib.hid (bel2 HBD.out k)
            have K7 := Lib.hid (KD.out.below k KD.out.lt)
            have c17 := ((Keep.of k).cell b1 (o1 + i) (by simpa using hb1)).trans (show wr.drew.cell? ⟨b1, o1 + i, none⟩ = _ by simpa using c1)
            obtain ⟨p0, p1, _, _⟩ := Blk.two K7.out
            have HS7 := Lib.hid (And.intro p0 (And.intro p1 c17))
            have HRX := Lib.hid (HRE.out _ A7 c7 n7 (by omega) (Lib.hid hn7) w7 HB7.out hat7)
            clear k hv7 hat7 hn7 p0 p1 hsb
            refine hK__ _ _ HS7.out ?_
            clear hK__
            refine wpAnyT_take (i := 7) (v := ?_) rfl (by kernel_rfl) (by kernel_rfl) (by kernel_rfl) (by kernel_rfl) (by kernel_rfl) (fun _ _ _ h => h) (.inl ⟨rfl, ?_⟩) HS7.out ?_
            rotate_left
            · intro W__ hW__
              obtain ⟨h1, h2, h3⟩ := hW__
              go_simp
              (try with_reducible rfl)
            try simp only [Act.put]
            refine wpAnyT_take (i := 8) (v := ?_) rfl (by kernel_rfl) (by kernel_rfl) (by kernel_rfl) (by kernel_rfl) (by kernel_rfl) (fun _ _ _ h => h) (.inl ⟨rfl, ?_⟩) HS7.out ?_
            rotate_left
            · intro W__ hW__
              obtain ⟨h1, h2, h3⟩ := hW__
              go_simp
              (try with_reducible rfl)
            try simp only [Act.put]
            refine wpAnyT_take (i := 9) (v := ?_) rfl (by kernel_rfl) (by kernel_rfl) (by kernel_rfl) (by kernel_rfl) (by kernel_rfl) (fun _ _ _ h => h) (.inl ⟨rfl, ?_⟩) HS7.out ?_
            rotate_left
            · intro W__ hW__
              obtain ⟨h1, h2, h3⟩ := hW__
              go_simp
              (try with_reducible rfl)
            try simp only [Act.put]
            refine wpAnyT_take (i := 10) (v := ?_) rfl (by kernel_rfl) (by kernel_rfl) (by kernel_rfl) (by kernel_rfl) (by kernel_rfl) (fun _ _ _ h => h) (.inl ⟨rfl, ?_⟩) HS7.out ?_
            rotate_left
            · intro W__ hW__
              obtain ⟨h1, h2, h3⟩ := hW__
              go_simp
              (try with_reducible rfl)
            try simp only [Act.put]
            refine wpAnyT_end (i := 11) rfl (by kernel_rfl) rfl (by kernel_rfl) fun K__ hK__ => ?_
            unfold Oper.wp
            go_simp
            refine hK__ _ _ ?_
            clear hK__
            refine wpAnyT_done (by kernel_rfl) ?_ _
            obtain ⟨p0, p1, _, _⟩ := Blk.two K7.out
            go_wp2_with fail
            refine HRX.out.mono ?_
            rintro e w8 ⟨⟨v8, rfl, hv8⟩, k⟩
            rw [HSA.out.2.1]
            rw [HSA.out.2.2] at hv8
            have hab := atL_bd HOK.out (ws.take (i + 1))
            rw [HL.out] at hab
            obtain ⟨A8, c8, rfl, hat8⟩ := ints_open hv8 hab.2 (by omega)
            obtain ⟨n8, hn8⟩ : ∃ n8, (atL a (ws.take (i + 1))).length = n8 := ⟨_, rfl⟩
            rw [hn8]
            have hn80 : n8 ≤ 40 := by rw [← hn8]; omega
            have HB8 := Lib.hid (bel2 HB7.out k)
            have K8 := Lib.hid (K7.out.below k K7.out.lt)
            have HAT8 := Lib.hid hat8
            have HN8 := Lib.hid hn8
            clear k hv8 hat8 hn8 p0 p1 hab
            go_wp2
            go_roundw
            case rel => exact ⟨i + 1, n8, A8, c8, rfl, by go_num, by omega, hn80, HN8, HAT8, K8, HB8⟩
            case measure => simp [intOf]; omega
          · obtain rfl : i = q := by omega
            have HTK := Lib.hid (show ws.take i = ws from List.take_of_length_le (by rw [HQ.out]; omega))
            rw [HTK.out] at HJ HT
            obtain ⟨p0, p1, _, _⟩ := Blk.two HK.out
            have HRUN := auto_Run A c n acc a wA wc i ws wr (HA.out.keep (Keep.of HB.out)) HL (HWW.out.keep (Keep.of HB.out)) HQ
            obtain ⟨r1, r2⟩ := runB_ok (l := ws) HOK.out (by rw [HQ.out]; omega)
            rw [r1, r2] at HRUN
            have HRUN := Lib.hid HRUN
            clear r1 r2
            go_wp2_with fail
            refine HRUN.out.mono ?_
            rintro e w7 ⟨rfl, k⟩
            have HB7 := Lib.hid (bel2 HB.out k)
            have K7 := Lib.hid (HK.out.below k HK.out.lt)
            have HHAS := Lib.hid (law9_has B bc j (atL a ws) acc w7 (HT.out.keep (Keep.of k)) HJ)
            clear k p0 p1
            obtain ⟨p0, p1, _, _⟩ := Blk.two K7.out
            have HEQ : Hid (decide (acc ∈ atL a ws) = decide (acc ∈ stL a.length (runA a ws))) := Lib.hid rfl
            rw [← HEQ.out]
            generalize decide (acc ∈ atL a ws) = ans at *
            cases ans
            all_goals
              go_wp2_with fail
              refine HHAS.out.mono ?_
              rintro e w8 ⟨rfl, rfl⟩
              go_wp2
              go_ret
              exact ⟨rfl, HB7.out⟩
end Go.Proofs.YtcmmmgblkbbdnaaGreatDoor
