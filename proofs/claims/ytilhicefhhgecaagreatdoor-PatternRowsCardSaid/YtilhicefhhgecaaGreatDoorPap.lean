/- Walks: ranges and sets: whether one may be. -/
import Derived.Deep.RegionHeld3
import Derived.Test.YtilhicefhhgecaaGreatDoorYe0p
import Derived.Test.YtilhicefhhgecaaGreatDoorMemp
import Derived.Test.YtilhicefhhgecaaGreatDoorChecked
import Derived.WalkKit
import Derived.WalkSpells
import Derived.WalkLawsBesides
import Derived.Deep.QuietTactic
import Derived.BigQuiet
import Derived.Lib.Hide
import Derived.Outline
import Derived.Test.YtilhicefhhgecaaGreatDoorQgp
namespace Go.Proofs.YtilhicefhhgecaaGreatDoor
open Go.RowKit Pv

/-- A range by itself. -/
def rngOne (lo hi : Int) : Prop := 0 ≤ lo ∧ lo ≤ hi ∧ hi ≤ 1114111

set_option maxHeartbeats 400000 in
theorem ref06_One (lo hi : Int) (w : World) :
    Calls Tryz.prog 211 #[.agg #[.int .i64 lo, .int .i64 hi]] w fun e w' => e = .returned (.bool (yes (rngOne lo hi))) ∧ Below w.heap.size w w' := by
  by_cases h1 : 0 ≤ lo
  case neg =>
    have HN := Lib.hid (yes_f (p := rngOne lo hi) fun h => h1 h.1)
    go_enter Tryz.func211, Tryz.ntmps211
    go_wp2
    go_ret
    exact ⟨ret_bool HN.out.symm, (by repeat (first | exact Below.refl _ _ | exact (Below.refl _ _).alloc (Nat.le_refl _) _ | apply below_drewN))⟩
  by_cases h2 : lo ≤ hi
  case neg =>
    have HN := Lib.hid (yes_f (p := rngOne lo hi) fun h => h2 h.2.1)
    go_enter Tryz.func211, Tryz.ntmps211
    go_wp2
    go_ret
    exact ⟨ret_bool HN.out.symm, (by repeat (first | exact Below.refl _ _ | exact (Below.refl _ _).alloc (Nat.le_refl _) _ | apply below_drewN))⟩
  by_cases h3 : hi ≤ 1114111
  case neg =>
    have HN := Lib.hid (yes_f (p := rngOne lo hi) fun h => h3 h.2.2)
    go_enter Tryz.func211, Tryz.ntmps211
    go_wp2
    go_ret
    exact ⟨ret_bool HN.out.symm, (by repeat (first | exact Below.refl _ _ | exact (Below.refl _ _).alloc (Nat.le_refl _) _ | apply below_drewN))⟩
  have HN := Lib.hid (yes_t (p := rngOne lo hi) ⟨h1, h2, h3⟩)
  go_enter Tryz.func211, Tryz.ntmps211
  go_wp2
  go_ret
  exact ⟨ret_bool HN.out.symm, (by repeat (first | exact Below.refl _ _ | exact (Below.refl _ _).alloc (Nat.le_refl _) _ | apply below_drewN))⟩

set_option maxHeartbeats 400000 in
theorem ranges_one (lo hi : Int) (w : World) :
    Calls Tryz.prog 120 #[.agg #[.int .i64 lo, .int .i64 hi]] w fun e w' => e = .returned (.bool (yes (rngOne lo hi))) ∧ Below w.heap.size w w' := by
  by_cases h1 : 0 ≤ lo
  case neg =>
    have HN := Lib.hid (yes_f (p := rngOne lo hi) fun h => h1 h.1)
    go_enter Tryz.func120, Tryz.ntmps120
    go_wp2
    go_ret
    exact ⟨ret_bool HN.out.symm, (by repeat (first | exact Below.refl _ _ | exact (Below.refl _ _).alloc (Nat.le_refl _) _ | apply below_drewN))⟩
  by_cases h2 : lo ≤ hi
  case neg =>
    have HN := Lib.hid (yes_f (p := rngOne lo hi) fun h => h2 h.2.1)
    go_enter Tryz.func120, Tryz.ntmps120
    go_wp2
    go_ret
    exact ⟨ret_bool HN.out.symm, (by repeat (first | exact Below.refl _ _ | exact (Below.refl _ _).alloc (Nat.le_refl _) _ | apply below_drewN))⟩
  by_cases h3 : hi ≤ 1114111
  case neg =>
    have HN := Lib.hid (yes_f (p := rngOne lo hi) fun h => h3 h.2.2)
    go_enter Tryz.func120, Tryz.ntmps120
    go_wp2
    go_ret
    exact ⟨ret_bool HN.out.symm, (by repeat (first | exact Below.refl _ _ | exact (Below.refl _ _).alloc (Nat.le_refl _) _ | apply below_drewN))⟩
  have HN := Lib.hid (yes_t (p := rngOne lo hi) ⟨h1, h2, h3⟩)
  go_enter Tryz.func120, Tryz.ntmps120
  go_wp2
  go_ret
  exact ⟨ret_bool HN.out.symm, (by repeat (first | exact Below.refl _ _ | exact (Below.refl _ _).alloc (Nat.le_refl _) _ | apply below_drewN))⟩

set_option maxHeartbeats 1000000 in
theorem ref06_May (A : Option Addr) (c n : Nat) (l : List Rng) (w : World) (h : AtSet w A l) (HL : Hid (l.length = n)) :
    Calls Tryz.prog 190 #[.slice A n c] w fun e w' => e = .returned (.bool (setB l)) ∧ Below w.heap.size w w' := by
  have hl : n ≤ 140737488355328 := by have := h.1; rwa [HL.out] at this
  by_cases hmax : 256 < n
  · have HN := Lib.hid (setB_no (l := l) fun o => by have := o.few; have := HL.out; omega)
    have hd : decide ((n : Int) ≤ 256) = false := by simp; omega
    go_enter Tryz.func190, Tryz.ntmps190
    go_wp2
    go_loopw [3] (fun i wr => i = .int .i64 0 ∧ wr = w) (fun _ _ => 0)
    case atStart => exact ⟨rfl, rfl⟩
    case round =>
      obtain ⟨rfl, rfl⟩ := hrel
      go_wp2
      go_ret
      exact ⟨ret_bool HN.out.symm, (by repeat (first | exact Below.refl _ _ | exact (Below.refl _ _).alloc (Nat.le_refl _) _ | apply below_drewN))⟩
  have HO := Lib.hid (fun (lo hi : Int) (b : Bool) (h : yes (rngOne lo hi) = b) (W : World) => show Calls Tryz.prog 211 #[.agg #[.int .i64 lo, .int .i64 hi]] W fun e w' => e = .returned (.bool b) ∧ Below W.heap.size W w' from h ▸ ref06_One lo hi W)
  go_enter Tryz.func190, Tryz.ntmps190
  go_wp2
  go_loopw [3] (fun i wr => ∃ k : Nat, i = .int .i64 k ∧ k ≤ n ∧ Below w.heap.size w wr ∧ (∀ (i : Nat) x, i < k → l[i]? = some x → rngOne x.lo x.hi) ∧ (∀ (i : Nat) x y, i + 1 < k → l[i]? = some x → l[i + 1]? = some y → x.hi + 2 ≤ y.lo)) (fun i _ => n - (intOf i).toNat)
  case atStart => exact ⟨0, rfl, by omega, (by repeat (first | exact Below.refl _ _ | exact (Below.refl _ _).alloc (Nat.le_refl _) _ | apply below_drewN)), by intros; omega, by intros; omega⟩
  case round =>
    obtain ⟨k, rfl, hk, hbel, ho, hg⟩ := hrel
    have HB := Lib.hid hbel; have H1 := Lib.hid ho; have H2 := Lib.hid hg
    clear hbel ho hg
    by_cases hlt : k < n
    · obtain ⟨b, off, lo, hi, rfl, hb, x0, x1, hlo, hhi, HX⟩ := h.gt HL hlt
      have y0 := (HB.out.cell (p := ⟨b, off + k * 2, none⟩) hb).trans x0
      have y1 := (HB.out.cell (p := ⟨b, off + k * 2 + 1, none⟩) hb).trans x1
      have hbr := Nat.lt_of_lt_of_le hb HB.out.size
      clear x0 x1
      by_cases hone : rngOne lo hi
      case neg =>
        have HN := Lib.hid (setB_no (l := l) fun o => hone (o.one k _ HX.out))
        have HF := Lib.hid (yes_f hone)
        clear h hone
        go_wp2
        refine wp_region_grown (by kernel_rfl) (by kernel_rfl) ?_
        have hgc__ := @Grown.cell
        repeat (go_big_quiet_step ((go_at_call 211; refine callG (HO.out lo hi false HF.out _))))
        refine wpQuiet_nil ?_
        clear hgc__
        intro _ hw__
        obtain ⟨⟨w1, hb1⟩, hw__⟩ := hw__
        simp only at hw__
        subst hw__
        go_wp2
        go_ret
        exact ⟨ret_bool HN.out.symm, HB.out.trans (hb1.mono HB.out.size)⟩
      have HF := Lib.hid (yes_t hone)
      have ⟨ho1, ho2, ho3⟩ := hone
      clear hone
      rcases Nat.eq_zero_or_pos k with hk0 | hk0
      · subst hk0
        simp only [Nat.zero_mul, Nat.add_zero] at y0 y1
        clear h
        go_wp2
        refine wp_region_grown (by kernel_rfl) (by kernel_rfl) ?_
        have hgc__ := @Grown.cell
        repeat (go_big_quiet_step ((go_at_call 211; refine callG (HO.out lo hi true HF.out _))))
        refine wpQuiet_nil ?_
        clear hgc__
        intro _ hw__
        obtain ⟨⟨w1, hb1⟩, hw__⟩ := hw__
        simp only at hw__
        subst hw__
        go_wp2
        go_roundw
        case rel =>
          refine ⟨1, by go_num, by omega, HB.out.trans (hb1.mono HB.out.size), fun i x hi hx => ?_, by intros; omega⟩
          obtain rfl : i = 0 := by omega
          obtain rfl := Option.some.inj (HX.out.symm.trans hx)
          exact of_yes HF.out
        case measure => simp [intOf]; omega
      · obtain ⟨k, rfl⟩ : ∃ j, k = j + 1 := ⟨k - 1, by omega⟩
        obtain ⟨b', off', lo', hi', e, hb', x0', x1', hlo', hhi', HX'⟩ := h.gt HL (i := k) (by omega)
        simp only [Option.some.injEq, Addr.mk.injEq, and_true] at e
        obtain ⟨rfl, rfl⟩ := e
        have z1 := (HB.out.cell (p := ⟨b, off + k * 2 + 1, none⟩) hb).trans x1'
        have hh' : hi' ≤ 1114111 := (H1.out k _ (by omega) HX'.out).2.2
        have hd0 : decide ((0 : Int) < ((k + 1 : Nat) : Int)) = true := decide_eq_true (by omega)
        clear h x0' x1'
        by_cases hgap : lo < hi' + 2
        · have HN := Lib.hid (setB_no (l := l) fun o => by have := o.gap k _ _ HX'.out HX.out; simp only at this; omega)
          have hd : decide (lo < hi' + 2) = true := decide_eq_true hgap
          go_wp2
          refine wp_region_grown (by kernel_rfl) (by kernel_rfl) ?_
          have hgc__ := @Grown.cell
          repeat (go_big_quiet_step ((go_at_call 211; refine callG (HO.out lo hi true HF.out _))))
          refine wpQuiet_nil ?_
          clear hgc__
          intro _ hw__
          obtain ⟨⟨w1, hb1⟩, hw__⟩ := hw__
          simp only at hw__
          subst hw__
          go_wp2
          go_ret
          exact ⟨ret_bool HN.out.symm, HB.out.trans (hb1.mono HB.out.size)⟩
        · have hd : decide (lo < hi' + 2) = false := decide_eq_false hgap
          go_wp2
          refine wp_region_grown (by kernel_rfl) (by kernel_rfl) ?_
          have hgc__ := @Grown.cell
          repeat (go_big_quiet_step ((go_at_call 211; refine callG (HO.out lo hi true HF.out _))))
          refine wpQuiet_nil ?_
          clear hgc__
          intro _ hw__
          obtain ⟨⟨w1, hb1⟩, hw__⟩ := hw__
          simp only at hw__
          subst hw__
          go_wp2
          go_roundw
          case rel =>
            refine ⟨k + 2, by go_num, by omega, HB.out.trans (hb1.mono HB.out.size), fun i x hi hx => ?_, fun i x y hi hx hy => ?_⟩
            · by_cases hik : i = k + 1
              · subst hik
                obtain rfl := Option.some.inj (HX.out.symm.trans hx)
                exact of_yes HF.out
              · exact H1.out i x (by omega) hx
            · by_cases hik : i = k
              · subst hik
                obtain rfl := Option.some.inj (HX.out.symm.trans hy)
                obtain rfl := Option.some.inj (HX'.out.symm.trans hx)
                simp only
                omega
              · exact H2.out i x y (by omega) hx hy
          case measure => simp [intOf]; omega
    · have : k = n := by omega
      subst this
      have HY := Lib.hid (setB_yes (l := l) ⟨by rw [HL.out]; omega, fun i x hx => H1.out i x (by have := lt_of_get hx; rwa [HL.out] at this) hx, fun i x y hx hy => H2.out i x y (by have := lt_of_get hy; rwa [HL.out] at this) hx hy⟩)
      clear h
      go_wp2
      go_ret
      exact ⟨ret_bool ((decide_eq_true (by omega)).trans HY.out.symm), HB.out⟩

set_option maxHeartbeats 1000000 in
theorem ranges_Check (A : Option Addr) (c n : Nat) (l : List Rng) (w : World) (h : AtSet w A l) (HL : Hid (l.length = n)) :
    Calls Tryz.prog 84 #[.slice A n c] w fun e w' => e = .returned (.int .i64 (setE l)) ∧ Below w.heap.size w w' := by
  have hl : n ≤ 140737488355328 := by have := h.1; rwa [HL.out] at this
  by_cases hmax : 256 < n
  · have HN := Lib.hid (setE_no (l := l) (setB_no (l := l) fun o => by have := o.few; have := HL.out; omega))
    go_enter Tryz.func84, Tryz.ntmps84
    go_wp2
    go_ret
    exact ⟨ret_int HN.out.symm, (by repeat (first | exact Below.refl _ _ | exact (Below.refl _ _).alloc (Nat.le_refl _) _ | apply below_drewN))⟩
  have HO := Lib.hid (fun (lo hi : Int) (b : Bool) (h : yes (rngOne lo hi) = b) (W : World) => show Calls Tryz.prog 120 #[.agg #[.int .i64 lo, .int .i64 hi]] W fun e w' => e = .returned (.bool b) ∧ Below W.heap.size W w' from h ▸ ranges_one lo hi W)
  go_enter Tryz.func84, Tryz.ntmps84
  go_wp2
  go_loopw [3, 11] (fun la i wr => ∃ (k : Nat) (q : Int), i = .int .i64 k ∧ la = .int .i64 q ∧ k ≤ n ∧ -2 ≤ q ∧ q ≤ 1114111 ∧ Below w.heap.size w wr ∧ (k = 0 → q = -2) ∧ (∀ x, l[k - 1]? = some x → 0 < k → q = x.hi) ∧ (∀ (i : Nat) x, i < k → l[i]? = some x → rngOne x.lo x.hi) ∧ (∀ (i : Nat) x y, i + 1 < k → l[i]? = some x → l[i + 1]? = some y → x.hi + 2 ≤ y.lo)) (fun _ i _ => n - (intOf i).toNat)
  case atStart => exact ⟨0, -2, rfl, rfl, by omega, by omega, by omega, (by repeat (first | exact Below.refl _ _ | exact (Below.refl _ _).alloc (Nat.le_refl _) _ | apply below_drewN)), fun _ => rfl, by intros; omega, by intros; omega, by intros; omega⟩
  case round =>
    obtain ⟨k, q, rfl, rfl, hk, hq1, hq2, hbel, hq0, hqx, ho, hg⟩ := hrel
    have HB := Lib.hid hbel; have H1 := Lib.hid ho; have H2 := Lib.hid hg; have HQ0 := Lib.hid hq0; have HQX := Lib.hid hqx
    clear hbel ho hg hq0 hqx
    by_cases hlt : k < n
    · obtain ⟨b, off, lo, hi, rfl, hb, x0, x1, hlo, hhi, HX⟩ := h.gt HL hlt
      have y0 := (HB.out.cell (p := ⟨b, off + k * 2, none⟩) hb).trans x0
      have y1 := (HB.out.cell (p := ⟨b, off + k * 2 + 1, none⟩) hb).trans x1
      have hbr := Nat.lt_of_lt_of_le hb HB.out.size
      have HB2 := Lib.hid (HB.out.alloc HB.out.size (.cells #[.int .i64 lo, .int .i64 hi] 124))
      have CB := fun (w1 : World) (hb1 : Below (wr.alloc (.cells #[.int .i64 lo, .int .i64 hi] 124)).heap.size (wr.alloc (.cells #[.int .i64 lo, .int .i64 hi] 124)) w1) => box2 hb1
      clear x0 x1 h
      by_cases hone : rngOne lo hi
      case neg =>
        have HN := Lib.hid (setE_no (l := l) (setB_no (l := l) fun o => hone (o.one k _ HX.out)))
        have HF := Lib.hid (yes_f hone)
        clear hone
        go_wp2_with (go_at_call 120; refine (HO.out lo hi false HF.out _).mono ?_; rintro e w1 ⟨rfl, hb1⟩; obtain ⟨u0, u1, u2, u3⟩ := CB w1 hb1)
        go_ret
        exact ⟨ret_int HN.out.symm, HB.out.trans (u3.mono HB.out.size)⟩
      have HF := Lib.hid (yes_t hone)
      have ⟨ho1, ho2, ho3⟩ := hone
      clear hone
      have HG := Lib.hid (show (lo < q + 2 ↔ 0 < k ∧ ∃ x, l[k - 1]? = some x ∧ lo < x.hi + 2) from by
        rcases Nat.eq_zero_or_pos k with h0 | h0
        · have := HQ0.out h0
          omega
        · have hx : l[k - 1]? = some (l[k - 1]'(by rw [HL.out]; omega)) := List.getElem?_eq_getElem (by rw [HL.out]; omega)
          have := HQX.out _ hx h0
          constructor
          · intro h; exact ⟨h0, _, hx, by omega⟩
          · rintro ⟨_, x, hx', h⟩
            obtain rfl := Option.some.inj (hx.symm.trans hx')
            omega)
      by_cases hgap : lo < q + 2
      · have HN := Lib.hid (setE_no (l := l) (setB_no (l := l) fun o => by
          obtain ⟨h0, x, hx, hh⟩ := HG.out.1 hgap
          have := o.gap (k - 1) _ _ hx (by rw [Nat.sub_add_cancel h0]; exact HX.out)
          simp only at this; omega))
        have hd : decide (lo < q + 2) = true := decide_eq_true hgap
        go_wp2_with (go_at_call 120; refine (HO.out lo hi true HF.out _).mono ?_; rintro e w1 ⟨rfl, hb1⟩; obtain ⟨u0, u1, u2, u3⟩ := CB w1 hb1)
        go_ret
        exact ⟨ret_int HN.out.symm, HB.out.trans (u3.mono HB.out.size)⟩
      · have hd : decide (lo < q + 2) = false := decide_eq_false hgap
        go_wp2_with (go_at_call 120; refine (HO.out lo hi true HF.out _).mono ?_; rintro e w1 ⟨rfl, hb1⟩; obtain ⟨u0, u1, u2, u3⟩ := CB w1 hb1)
        go_roundw
        case rel =>
          refine ⟨k + 1, hi, by go_num, rfl, by omega, by omega, by omega, HB.out.trans (u3.mono HB.out.size), by omega, fun x hx _ => ?_, fun i x hi hx => ?_, fun i x y hi hx hy => ?_⟩
          · obtain rfl := Option.some.inj (HX.out.symm.trans hx); rfl
          · by_cases hik : i = k
            · subst hik
              obtain rfl := Option.some.inj (HX.out.symm.trans hx)
              exact of_yes HF.out
            · exact H1.out i x (by omega) hx
          · by_cases hik : i + 1 = k
            · subst hik
              obtain rfl := Option.some.inj (HX.out.symm.trans hy)
              have := HQX.out x hx (by omega)
              simp only
              omega
            · exact H2.out i x y (by omega) hx hy
        case measure => simp [intOf]; omega
    · have : k = n := by omega
      subst this
      have HY := Lib.hid (setE_yes (l := l) (setB_yes (l := l) ⟨by rw [HL.out]; omega, fun i x hx => H1.out i x (by have := lt_of_get hx; rwa [HL.out] at this) hx, fun i x y hx hy => H2.out i x y (by have := lt_of_get hy; rwa [HL.out] at this) hx hy⟩))
      clear h
      go_wp2
      go_ret
      exact ⟨ret_int HY.out.symm, HB.out⟩

set_option maxHeartbeats 1000000 in
theorem ref06_Same (A B : Option Addr) (c d n m : Nat) (l r : List Rng) (w : World) (ha : AtSet w A l) (hb : AtSet w B r) (HL : Hid (l.length = n)) (HM : Hid (r.length = m)) :
    Calls Tryz.prog 68 #[.slice A n c, .slice B m d] w fun e w' => e = .returned (.bool (decide (l = r))) ∧ ∃ n, w' = w.drewN n := by
  by_cases hlen : n = m
  · have hl : n ≤ 140737488355328 := by have := ha.1; rwa [HL.out] at this
    subst hlen
    have h1 : ((n : Int) != (n : Int)) = false := by simp
    go_enter Tryz.func68, Tryz.ntmps68
    go_wp2
    go_loopw [5] (fun i wr => ∃ k q : Nat, i = .int .i64 k ∧ wr = w.drewN q ∧ k ≤ n ∧ l.take k = r.take k) (fun i _ => n - (intOf i).toNat)
    case atStart => exact ⟨0, 0, rfl, rfl, by omega, by simp⟩
    case round =>
      obtain ⟨k, q, rfl, rfl, hk, heq⟩ := hrel
      have HE := Lib.hid heq; clear heq
      by_cases hlt : k < n
      · obtain ⟨b, off, lo, hi, rfl, hbs, x0, x1, _, _, HX⟩ := ha.gt HL hlt
        obtain ⟨b', off', lo', hi', rfl, hbs', y0, y1, _, _, HY⟩ := hb.gt HM hlt
        clear ha hb
        by_cases hxy : (⟨lo, hi⟩ : Rng) = ⟨lo', hi'⟩
        · obtain ⟨rfl, rfl⟩ := Rng.mk.inj hxy
          clear hxy
          have h2 : (lo == lo) = true := by simp
          have h3 : (hi == hi) = true := by simp
          go_wp2
          go_quiet (fail)
          go_wp2
          go_roundw
          case rel => exact ⟨k + 1, _, by go_num, rfl, by omega, by rw [take_snoc HX.out, take_snoc HY.out, HE.out]⟩
          case measure => simp [intOf]; omega
        · have HXY := Lib.hid hxy; clear hxy
          by_cases h2 : lo = lo'
          · have h3 : (hi == hi') = false := by
              rw [beq_eq_false_iff_ne]; rintro rfl; exact HXY.out (by rw [h2])
            subst h2
            have h4 : (lo == lo) = true := by simp
            go_wp2
            go_quiet (fail)
            go_wp2
            go_ret
            exact ⟨ret_bool (decide_eq_false fun hh => HXY.out (by subst hh; exact Option.some.inj (HX.out.symm.trans HY.out))).symm, _, World.drewN_drewN _ _ _⟩
          · have h3 : (lo == lo') = false := by simpa using h2
            have H2 := Lib.hid h2; clear h2
            go_wp2
            go_quiet (fail)
            go_wp2
            go_ret
            exact ⟨ret_bool (decide_eq_false fun hh => HXY.out (by subst hh; exact Option.some.inj (HX.out.symm.trans HY.out))).symm, _, World.drewN_drewN _ _ _⟩
      · have : k = n := by omega
        subst this
        go_wp2
        go_ret
        exact ⟨ret_bool (decide_eq_true (by have := HE.out; rwa [List.take_of_length_le (by rw [HL.out]; omega), List.take_of_length_le (by rw [HM.out]; omega)] at this)).symm, q, rfl⟩
  · have h1 : ((n : Int) != (m : Int)) = true := by simp; omega
    have HN := Lib.hid (show decide (l = r) = false by simp; intro h; subst h; exact hlen (HL.out.symm.trans HM.out))
    clear hlen
    go_enter Tryz.func68, Tryz.ntmps68
    go_wp2
    go_ret
    exact ⟨ret_bool HN.out.symm, 0, rfl⟩

end Go.Proofs.YtilhicefhhgecaaGreatDoor
