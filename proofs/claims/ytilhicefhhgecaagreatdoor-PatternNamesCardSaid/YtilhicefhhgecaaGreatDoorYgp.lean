/- A set's text, and walks: by the document, by the program. PUT1 -/
import Derived.Test.YtilhicefhhgecaaGreatDoorYdp
import Derived.Test.YtilhicefhhgecaaGreatDoorYe0p
import Derived.Test.YtilhicefhhgecaaGreatDoorPap
import Derived.Test.YtilhicefhhgecaaGreatDoorQgp
namespace Pv
open Go Go.RowKit
theorem setL_any {l : List Rng} {x : Rng} (h : l[0]? = some x) (h1 : l.length = 1) (h2 : x.lo = 0 ∧ x.hi = 1114111) : setL l = [46] := by
  match l, h, h1 with
  | [y], h, _ => simp at h; subst h; simp only [setL]; rw [if_pos h2]
theorem setL_one {l : List Rng} {x : Rng} (h : l[0]? = some x) (h1 : l.length = 1) (h2 : x.lo = x.hi) : setL l = numL x.lo.toNat := by
  match l, h, h1 with
  | [y], h, _ => simp at h; subst h; simp only [setL]; rw [if_neg (by omega), if_pos h2]
theorem setL_body {l : List Rng} (h : ∀ x, l[0]? = some x → l.length = 1 → ¬ (x.lo = 0 ∧ x.hi = 1114111) ∧ x.lo ≠ x.hi) : setL l = bodyL l := by
  match l, h with
  | [y], h => obtain ⟨h1, h2⟩ := h y rfl rfl; simp only [setL]; rw [if_neg h1, if_neg h2]
  | [], _ => rfl
  | _ :: _ :: _, _ => rfl
/-- A set's text under way. -/
def preS (l : List Rng) (k : Nat) : ByteArray := mkS (91 :: (l.take k).flatMap rngL)
theorem preS_size {l : List Rng} {k : Nat} (hk : k ≤ l.length) (hl : l.length ≤ 256) : (preS l k).size ≤ 4353 := by
  unfold preS
  rw [mkS_size]
  have := flat_len (l.take k)
  simp only [List.length_cons, List.length_take] at this ⊢
  omega
theorem preS_eq {l : List Rng} {k : Nat} {x : Rng} (h : l[k]? = some x) (he : x.lo = x.hi) : preS l k ++ mkS (numL x.lo.toNat) = preS l (k + 1) := by
  unfold preS
  rw [take_snoc h, ← mkS_app]
  simp [rngL, he]
theorem preS_ne {l : List Rng} {k : Nat} {x : Rng} (h : l[k]? = some x) (he : x.lo ≠ x.hi) : preS l k ++ mkS (numL x.lo.toNat) ++ (⟨#[45]⟩ ++ mkS (numL x.hi.toNat)) = preS l (k + 1) := by
  unfold preS
  rw [take_snoc h, show (⟨#[45]⟩ : ByteArray) = mkS [45] from rfl, ← mkS_app, ← mkS_app, ← mkS_app]
  simp [rngL, he]
theorem preS_end (l : List Rng) : preS l l.length ++ ⟨#[93]⟩ = mkS (bodyL l) := by
  unfold preS bodyL
  rw [show (⟨#[93]⟩ : ByteArray) = mkS [93] from rfl, ← mkS_app]
  simp
end Pv
namespace Go.Proofs.YtilhicefhhgecaaGreatDoor
open Go.RowKit Pv

/-- The library's tables stand as they are laid, whatever is made from B on. -/
def TabsP (B : Nat) (w : World) : Prop := ∀ w', Below B w w' → w'.cell? ⟨7, 15, none⟩ = some (.int .u8 4) ∧ Lib.TabIs Tryz.prog w' "internal/strconv.uint64pow10" .u64 Lib.pow10Tab
theorem TabsP.bit {B : Nat} {w : World} (h : TabsP B w) : w.cell? ⟨7, 15, none⟩ = some (.int .u8 4) := (h w (Below.refl _ _)).1
theorem TabsP.tab {B : Nat} {w : World} (h : TabsP B w) : Lib.TabIs Tryz.prog w "internal/strconv.uint64pow10" .u64 Lib.pow10Tab := (h w (Below.refl _ _)).2
theorem TabsP.next {B : Nat} {w w' : World} (h : TabsP B w) (hb : Below B w w') : TabsP B w' := fun w2 h2 => h w2 (hb.trans h2)
theorem TabsP.up {B B' : Nat} {w : World} (h : TabsP B w) (hb : B ≤ B') : TabsP B' w := fun w2 h2 => h w2 (h2.mono hb)

end Go.Proofs.YtilhicefhhgecaaGreatDoor

namespace Go.Proofs.YtilhicefhhgecaaGreatDoor
open Go.RowKit Pv

set_option maxHeartbeats 2000000 in
set_option maxRecDepth 100000 in
theorem pattern_set (B : Option Addr) (c m : Nat) (l : List Rng) (w : World) (hs : AtSet w B l) (HM : Hid (l.length = m)) (hok : SetOk l) (hT : TabsP w.heap.size w) :
    Calls Tryz.prog 71 #[.slice B m c] w fun e w' => e = .returned (.string (mkS (setL l))) ∧ Below w.heap.size w w' := by
  have HW := Lib.hid (fun (x : Int) (hx : 0 ≤ x ∧ x ≤ 1114111) (W : World) (hb : Below w.heap.size w W) => show Calls Tryz.prog 108 #[.int .i64 x] W fun e w' => e = .returned (.string (mkS (numL x.toNat))) ∧ Below W.heap.size W w' by
    have := pattern_written x.toNat W (by omega) (hT.next hb).bit
    rwa [Int.toNat_of_nonneg hx.1] at this)
  have HO := Lib.hid hok.one
  have HS := Lib.hid hs
  have hm : m ≤ 256 := by rw [← HM.out]; exact hok.few
  have H256 := Lib.hid hok.few
  clear hok hT
  by_cases h1 : m = 1
  · subst h1
    obtain ⟨b, off, lo, hi, rfl, hb, c0, c1, _, _, HX⟩ := hs.gt HM (i := 0) (by omega)
    simp only [Nat.zero_mul, Nat.add_zero] at c0 c1
    have hr := HO.out 0 _ HX.out
    obtain ⟨r0, r1, r2⟩ := hr
    simp only at r0 r1 r2
    clear hs
    by_cases ha : lo = 0 ∧ hi = 1114111
    · obtain ⟨rfl, rfl⟩ := ha
      have HN := Lib.hid (setL_any HX.out HM.out ⟨rfl, rfl⟩)
      go_enter Tryz.func71, Tryz.ntmps71
      go_wp2
      go_ret
      exact ⟨by show Ending.returned (.string _) = _; rw [HN.out]; rfl, Below.refl _ _⟩
    by_cases he : lo = hi
    · subst he
      have HN := Lib.hid (congrArg mkS (setL_one HX.out HM.out rfl))
      simp only at HN
      have HWL := Lib.hid (HW.out lo ⟨r0, r2⟩)
      have HAE := Lib.hid (show ¬ (lo = 0 ∧ lo = 1114111) from ha)
      generalize mkS (numL lo.toNat) = res at *
      clear ha
      have hbl : Below w.heap.size w w := Below.refl _ _
      by_cases hz : lo = 0
      case' pos => subst hz
      all_goals
        go_enter Tryz.func71, Tryz.ntmps71
        go_wp2
        go_quiet (fail)
        go_wp2_with (go_at_call 108; refine (HWL.out _ (below_drewN (Below.refl _ _) _)).mono ?_; rintro e w1 ⟨rfl, hb1⟩)
        go_ret
        exact ⟨by show Ending.returned (.string _) = _; rw [HN.out], (by repeat (first | exact Below.refl _ _ | apply below_drewN) : Below w.heap.size w _).trans hb1⟩
    · have HN := Lib.hid (setL_body (l := l) (fun y hy _ => by obtain rfl := Option.some.inj (HX.out.symm.trans hy); exact ⟨ha, he⟩))
      have q0 : (lo == hi) = false := by simpa using he
      have HAE := Lib.hid (show ¬ (lo = 0 ∧ hi = 1114111) from ha)
      clear ha he
      by_cases hz : lo = 0
      case' pos =>
        subst hz
        have q1 : (hi == 1114111) = false := by have := HAE.out; simp; omega
      all_goals
        go_enter Tryz.func71, Tryz.ntmps71
        go_wp2
        go_quiet (fail)
        go_wp2
        go_loopw [3, 37] (fun sv iv wr => ∃ (k : Nat) (s : ByteArray), iv = .int .i64 k ∧ k ≤ 1 ∧ sv = .string s ∧ s.size ≤ 4353 ∧ Hid (s = preS l k) ∧ Hid (Below w.heap.size w wr)) (fun _ iv _ => 1 - (intOf iv).toNat)
        case atStart => exact ⟨0, _, rfl, by omega, rfl, by decide, Lib.hid rfl, Lib.hid (by repeat (first | exact Below.refl _ _ | apply below_drewN))⟩
        case round =>
          obtain ⟨k, s, rfl, hk, rfl, hs0, HP, HB⟩ := hrel
          by_cases hlt : k < 1
          · obtain ⟨b1, off1, lo1, hi1, e1, hb1, d0, d1, _, _, HX1⟩ := AtSet.gt (AtK.keep HS.out (Keep.of HB.out)) HM hlt
            cases e1
            obtain ⟨r0', r1', r2'⟩ := HO.out k _ HX1.out
            simp only at r0' r1' r2'
            have i1 : (0 : Int) ≤ (k : Int) := by omega
            have i2 : (k : Int) < (1 : Int) := by omega
            have HBN := Lib.hid (HB.out.alloc HB.out.size (.cells #[.int .i64 lo1, .int .i64 hi1] 124))
            have HW1 := Lib.hid (HW.out lo1 ⟨r0', by omega⟩ _ HBN.out)
            have HW2 := Lib.hid (fun W (hW : Below w.heap.size w W) => HW.out hi1 ⟨by omega, r2'⟩ W hW)
            have hz1 : (mkS (numL lo1.toNat)).size ≤ 8 := by rw [mkS_size]; exact numL_len _
            have hz2 : (mkS (numL hi1.toNat)).size ≤ 8 := by rw [mkS_size]; exact numL_len _
            have HKL := Lib.hid (show k + 1 ≤ l.length by rw [HM.out]; omega)
            by_cases he1 : lo1 = hi1
            · have HQ := Lib.hid (preS_eq HX1.out he1)
              have q1 : decide (lo1 < hi1) = false := decide_eq_false (by omega)
              simp only at HQ
              generalize mkS (numL lo1.toNat) = s1 at *
              generalize mkS (numL hi1.toNat) = s2 at *
              clear he1
              go_wp2_with (go_at_call 108; refine HW1.out.mono ?_; rintro e w1 ⟨rfl, hbw⟩; have f0 := (hbw.cell (p := ⟨_, 0, none⟩) (by simp)).trans (World.cell?_alloc_new ..); have f1 := (hbw.cell (p := ⟨_, 1, none⟩) (by simp)).trans (World.cell?_alloc_new ..); simp at f0 f1; have HBW := Lib.hid (HBN.out.trans (hbw.mono HBN.out.size)); clear hbw)
              go_roundw
              case rel =>
                have h1 := HKL.out; have h2 := preS_size HKL.out H256.out
                exact ⟨k + 1, _, by go_num, by omega, rfl, by rw [HP.out, HQ.out]; exact h2, Lib.hid (by rw [HP.out, HQ.out]), Lib.hid HBW.out⟩
              case measure => simp [intOf]; omega
            · have HQ := Lib.hid (preS_ne HX1.out he1)
              have q1 : decide (lo1 < hi1) = true := decide_eq_true (by omega)
              simp only at HQ
              generalize mkS (numL lo1.toNat) = s1 at *
              generalize mkS (numL hi1.toNat) = s2 at *
              clear he1
              go_wp2_with (first | (go_at_call 108; refine (HW2.out _ HBW.out).mono ?_; rintro e w2 ⟨rfl, hbw2⟩; have HBX := Lib.hid (HBW.out.trans (hbw2.mono HBW.out.size)); clear hbw2) | (go_at_call 108; refine HW1.out.mono ?_; rintro e w1 ⟨rfl, hbw⟩; have f0 := (hbw.cell (p := ⟨_, 0, none⟩) (by simp)).trans (World.cell?_alloc_new ..); have f1 := (hbw.cell (p := ⟨_, 1, none⟩) (by simp)).trans (World.cell?_alloc_new ..); simp at f0 f1; have HBW := Lib.hid (HBN.out.trans (hbw.mono HBN.out.size)); clear hbw))
              go_roundw
              case rel =>
                have h1 := HKL.out; have h2 := preS_size HKL.out H256.out
                exact ⟨k + 1, _, by go_num, by omega, rfl, by rw [HP.out, HQ.out]; exact h2, Lib.hid (by rw [HP.out, HQ.out]), Lib.hid HBX.out⟩
              case measure => simp [intOf]; omega
          · obtain rfl : k = 1 := by omega
            have HE := Lib.hid (preS_end l)
            rw [HM.out] at HE
            go_wp2
            go_ret
            exact ⟨by show Ending.returned (.string _) = _; rw [HP.out, HE.out, HN.out], HB.out⟩
  · have HN := Lib.hid (setL_body (l := l) (fun y hy h => by rw [HM.out] at h; exact absurd h h1))
    have q0 : ((m : Int) == 1) = false := by simp; omega
    clear hs h1
    go_enter Tryz.func71, Tryz.ntmps71
    go_wp2
    go_quiet (fail)
    go_wp2
    go_loopw [3, 37] (fun sv iv wr => ∃ (k : Nat) (s : ByteArray), iv = .int .i64 k ∧ k ≤ m ∧ sv = .string s ∧ s.size ≤ 4353 ∧ Hid (s = preS l k) ∧ Hid (Below w.heap.size w wr)) (fun _ iv _ => m - (intOf iv).toNat)
    case atStart => exact ⟨0, _, rfl, by omega, rfl, by decide, Lib.hid rfl, Lib.hid (by repeat (first | exact Below.refl _ _ | apply below_drewN))⟩
    case round =>
      obtain ⟨k, s, rfl, hk, rfl, hs0, HP, HB⟩ := hrel
      by_cases hlt : k < m
      · obtain ⟨b1, off1, lo1, hi1, e1, hb1, d0, d1, _, _, HX1⟩ := AtSet.gt (AtK.keep HS.out (Keep.of HB.out)) HM hlt
        cases e1
        obtain ⟨r0', r1', r2'⟩ := HO.out k _ HX1.out
        simp only at r0' r1' r2'
        have i1 : (0 : Int) ≤ (k : Int) := by omega
        have i2 : (k : Int) < (m : Int) := by omega
        have HBN := Lib.hid (HB.out.alloc HB.out.size (.cells #[.int .i64 lo1, .int .i64 hi1] 124))
        have HW1 := Lib.hid (HW.out lo1 ⟨r0', by omega⟩ _ HBN.out)
        have HW2 := Lib.hid (fun W (hW : Below w.heap.size w W) => HW.out hi1 ⟨by omega, r2'⟩ W hW)
        have hz1 : (mkS (numL lo1.toNat)).size ≤ 8 := by rw [mkS_size]; exact numL_len _
        have hz2 : (mkS (numL hi1.toNat)).size ≤ 8 := by rw [mkS_size]; exact numL_len _
        have HKL := Lib.hid (show k + 1 ≤ l.length by rw [HM.out]; omega)
        by_cases he1 : lo1 = hi1
        · have HQ := Lib.hid (preS_eq HX1.out he1)
          have q1 : decide (lo1 < hi1) = false := decide_eq_false (by omega)
          simp only at HQ
          generalize mkS (numL lo1.toNat) = s1 at *
          generalize mkS (numL hi1.toNat) = s2 at *
          clear he1
          go_wp2_with (go_at_call 108; refine HW1.out.mono ?_; rintro e w1 ⟨rfl, hbw⟩; have f0 := (hbw.cell (p := ⟨_, 0, none⟩) (by simp)).trans (World.cell?_alloc_new ..); have f1 := (hbw.cell (p := ⟨_, 1, none⟩) (by simp)).trans (World.cell?_alloc_new ..); simp at f0 f1; have HBW := Lib.hid (HBN.out.trans (hbw.mono HBN.out.size)); clear hbw)
          go_roundw
          case rel =>
            have h1 := HKL.out; have h2 := preS_size HKL.out H256.out
            exact ⟨k + 1, _, by go_num, by omega, rfl, by rw [HP.out, HQ.out]; exact h2, Lib.hid (by rw [HP.out, HQ.out]), Lib.hid HBW.out⟩
          case measure => simp [intOf]; omega
        · have HQ := Lib.hid (preS_ne HX1.out he1)
          have q1 : decide (lo1 < hi1) = true := decide_eq_true (by omega)
          simp only at HQ
          generalize mkS (numL lo1.toNat) = s1 at *
          generalize mkS (numL hi1.toNat) = s2 at *
          clear he1
          go_wp2_with (first | (go_at_call 108; refine (HW2.out _ HBW.out).mono ?_; rintro e w2 ⟨rfl, hbw2⟩; have HBX := Lib.hid (HBW.out.trans (hbw2.mono HBW.out.size)); clear hbw2) | (go_at_call 108; refine HW1.out.mono ?_; rintro e w1 ⟨rfl, hbw⟩; have f0 := (hbw.cell (p := ⟨_, 0, none⟩) (by simp)).trans (World.cell?_alloc_new ..); have f1 := (hbw.cell (p := ⟨_, 1, none⟩) (by simp)).trans (World.cell?_alloc_new ..); simp at f0 f1; have HBW := Lib.hid (HBN.out.trans (hbw.mono HBN.out.size)); clear hbw))
          go_roundw
          case rel =>
            have h1 := HKL.out; have h2 := preS_size HKL.out H256.out
            exact ⟨k + 1, _, by go_num, by omega, rfl, by rw [HP.out, HQ.out]; exact h2, Lib.hid (by rw [HP.out, HQ.out]), Lib.hid HBX.out⟩
          case measure => simp [intOf]; omega
      · obtain rfl : k = m := by omega
        have HE := Lib.hid (preS_end l)
        rw [HM.out] at HE
        go_wp2
        go_ret
        exact ⟨by show Ending.returned (.string _) = _; rw [HP.out, HE.out, HN.out], HB.out⟩
end Go.Proofs.YtilhicefhhgecaaGreatDoor

namespace Pv
open Go Go.RowKit
theorem itoa_dig : ∀ n : Nat, n ≤ 16 → Lib.itoa (n : Int) = digL n
  | 0, _ | 1, _ | 2, _ | 3, _ | 4, _ | 5, _ | 6, _ | 7, _ | 8, _ | 9, _ | 10, _ | 11, _ | 12, _ | 13, _ | 14, _ | 15, _ | 16, _ => by decide +kernel
  | n + 17, h => by omega
theorem oft0 (l : List UInt8) : mkS (123 :: (l ++ [44, 125])) = (⟨#[123]⟩ : ByteArray) ++ mkS l ++ ⟨#[44, 125]⟩ := by
  rw [show (⟨#[123]⟩ : ByteArray) = mkS [123] from rfl, show (⟨#[44, 125]⟩ : ByteArray) = mkS [44, 125] from rfl, ← mkS_app, ← mkS_app]; simp
theorem oft1 (l : List UInt8) : mkS (123 :: (l ++ [125])) = (⟨#[123]⟩ : ByteArray) ++ mkS l ++ ⟨#[125]⟩ := by
  rw [show (⟨#[123]⟩ : ByteArray) = mkS [123] from rfl, show (⟨#[125]⟩ : ByteArray) = mkS [125] from rfl, ← mkS_app, ← mkS_app]; simp
theorem oft2 (l m : List UInt8) : mkS (123 :: (l ++ (44 :: (m ++ [125])))) = (⟨#[123]⟩ : ByteArray) ++ mkS l ++ ⟨#[44]⟩ ++ mkS m ++ ⟨#[125]⟩ := by
  rw [show (⟨#[123]⟩ : ByteArray) = mkS [123] from rfl, show (⟨#[125]⟩ : ByteArray) = mkS [125] from rfl, show (⟨#[44]⟩ : ByteArray) = mkS [44] from rfl, ← mkS_app, ← mkS_app, ← mkS_app, ← mkS_app]; simp
end Pv
namespace Go.Proofs.YtilhicefhhgecaaGreatDoor
open Go.RowKit Pv

end Go.Proofs.YtilhicefhhgecaaGreatDoor
