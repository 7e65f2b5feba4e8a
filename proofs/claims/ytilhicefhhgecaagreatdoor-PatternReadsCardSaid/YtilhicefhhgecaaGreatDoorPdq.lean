/- Walks: ranges and sets: whether one may be. -/
import Derived.Deep.RegionHeld3
import Derived.Test.YtilhicefhhgecaaGreatDoorTaq
import Derived.Test.YtilhicefhhgecaaGreatDoorMemq
import Derived.Test.YtilhicefhhgecaaGreatDoorChecked
import Derived.WalkKit
import Derived.WalkSpells
import Derived.WalkLawsBesides
import Derived.Deep.QuietTactic
import Derived.BigQuiet
import Derived.Lib.Hide
import Derived.Outline
import Derived.Test.YtilhicefhhgecaaGreatDoorQgq
namespace Go.Proofs.YtilhicefhhgecaaGreatDoor
open Go.RowKit Pv

/-- A range by itself. -/
def rngOne (lo hi : Int) : Prop := 0 ≤ lo ∧ lo ≤ hi ∧ hi ≤ 1114111

set_option maxHeartbeats 400000 in
theorem ref06_One (lo hi : Int) (w : World) :
    Calls Tryz.prog 211 #[.agg #[.int .i64 lo, .int .i64 hi]] w fun e w' => e = .returned (.bool (yes (rngOne lo hi))) ∧ Below w.heap.size w w' := by
  by_cases h1 : 0 ≤ lo
  case neg =>
    have HN := Lib.hid (yes_f (p := rngOne lo hi) fun h => h1 h.1)
    go_enter Tryz.func211, Tryz.ntmps211
    go_wp2
    go_ret
    exact ⟨ret_bool HN.out.symm, (by repeat (first | exact Below.refl _ _ | exact (Below.refl _ _).alloc (Nat.le_refl _) _ | apply below_drewN))⟩
  by_cases h2 : lo ≤ hi
  case neg =>
    have HN := Lib.hid (yes_f (p := rngOne lo hi) fun h => h2 h.2.1)
    go_enter Tryz.func211, Tryz.ntmps211
    go_wp2
    go_ret
    exact ⟨ret_bool HN.out.symm, (by repeat (first | exact Below.refl _ _ | exact (Below.refl _ _).alloc (Nat.le_refl _) _ | apply below_drewN))⟩
  by_cases h3 : hi ≤ 1114111
  case neg =>
    have HN := Lib.hid (yes_f (p := rngOne lo hi) fun h => h3 h.2.2)
    go_enter Tryz.func211, Tryz.ntmps211
    go_wp2
    go_ret
    exact ⟨ret_bool HN.out.symm, (by repeat (first | exact Below.refl _ _ | exact (Below.refl _ _).alloc (Nat.le_refl _) _ | apply below_drewN))⟩
  have HN := Lib.hid (yes_t (p := rngOne lo hi) ⟨h1, h2, h3⟩)
  go_enter Tryz.func211, Tryz.ntmps211
  go_wp2
  go_ret
  exact ⟨ret_bool HN.out.symm, (by repeat (first | exact Below.refl _ _ | exact (Below.refl _ _).alloc (Nat.le_refl _) _ | apply below_drewN))⟩

set_option maxHeartbeats 400000 in
theorem ranges_one (lo hi : Int) (w : World) :
    Calls Tryz.prog 120 #[.agg #[.int .i64 lo, .int .i64 hi]] w fun e w' => e = .returned (.bool (yes (rngOne lo hi))) ∧ Below w.heap.size w w' := by
  by_cases h1 : 0 ≤ lo
  case neg =>
    have HN := Lib.hid (yes_f (p := rngOne lo hi) fun h => h1 h.1)
    go_enter Tryz.func120, Tryz.ntmps120
    go_wp2
    go_ret
    exact ⟨ret_bool HN.out.symm, (by repeat (first | exact Below.refl _ _ | exact (Below.refl _ _).alloc (Nat.le_refl _) _ | apply below_drewN))⟩
  by_cases h2 : lo ≤ hi
  case neg =>
    have HN := Lib.hid (yes_f (p := rngOne lo hi) fun h => h2 h.2.1)
    go_enter Tryz.func120, Tryz.ntmps120
    go_wp2
    go_ret
    exact ⟨ret_bool HN.out.symm, (by repeat (first | exact Below.refl _ _ | exact (Below.refl _ _).alloc (Nat.le_refl _) _ | apply below_drewN))⟩
  by_cases h3 : hi ≤ 1114111
  case neg =>
    have HN := Lib.hid (yes_f (p := rngOne lo hi) fun h => h3 h.2.2)
    go_enter Tryz.func120, Tryz.ntmps120
    go_wp2
    go_ret
    exact ⟨ret_bool HN.out.symm, (by repeat (first | exact Below.refl _ _ | exact (Below.refl _ _).alloc (Nat.le_refl _) _ | apply below_drewN))⟩
  have HN := Lib.hid (yes_t (p := rngOne lo hi) ⟨h1, h2, h3⟩)
  go_enter Tryz.func120, Tryz.ntmps120
  go_wp2
  go_ret
  exact ⟨ret_bool HN.out.symm, (by repeat (first | exact Below.refl _ _ | exact (Below.refl _ _).alloc (Nat.le_refl _) _ | apply below_drewN))⟩

set_option maxHeartbeats 1000000 in
theorem ref06_May (A : Option Addr) (c n : Nat) (l : List Rng) (w : World) (h : AtSet w A l) (HL : Hid (l.length = n)) :
    Calls Tryz.prog 190 #[.slice A n c] w fun e w' => e = .returned (.bool (setB l)) ∧ Below w.heap.size w w' := by
  have hl : n ≤ 140737488355328 := by have := h.1; rwa [HL.out] at this
  by_cases hmax : 256 < n
  · have HN := Lib.hid (setB_no (l := l) fun o => by have := o.few; have := HL.out; omega)
    have hd : decide ((n : Int) ≤ 256) = false := by simp; omega
    go_enter Tryz.func190, Tryz.ntmps190
    go_wp2
    go_loopw [3] (fun i wr => i = .int .i64 0 ∧ wr = w) (fun _ _ => 0)
    case atStart => exact ⟨rfl, rfl⟩
    case round =>
      obtain ⟨rfl, rfl⟩ := hrel
      go_wp2
      go_ret
      exact ⟨ret_bool HN.out.symm, (by repeat (first | exact Below.refl _ _ | exact (Below.refl _ _).alloc (Nat.le_refl _) _ | apply below_drewN))⟩
  have HO := Lib.hid (fun (lo hi : Int) (b : Bool) (h : yes (rngOne lo hi) = b) (W : World) => show Calls Tryz.prog 211 #[.agg #[.int .i64 lo, .int .i64 hi]] W fun e w' => e = .returned (.bool b) ∧ Below W.heap.size W w' from h ▸ ref06_One lo hi W)
  go_enter Tryz.func190, Tryz.ntmps190
  go_wp2
  go_loopw [3] (fun i wr => ∃ k : Nat, i = .int .i64 k ∧ k ≤ n ∧ Below w.heap.size w wr ∧ (∀ (i : Nat) x, i < k → l[i]? = some x → rngOne x.lo x.hi) ∧ (∀ (i : Nat) x y, i + 1 < k → l[i]? = some x → l[i + 1]? = some y → x.hi + 2 ≤ y.lo)) (fun i _ => n - (intOf i).toNat)
  case atStart => exact ⟨0, rfl, by omega, (by repeat (first | exact Below.refl _ _ | exact (Below.refl _ _).alloc (Nat.le_refl _) _ | apply below_drewN)), by intros; omega, by intros; omega⟩
  case round =>
    obtain ⟨k, rfl, hk, hbel, ho, hg⟩ := hrel
    have HB := Lib.hid hbel; have H1 := Lib.hid ho; have H2 := Lib.hid hg
    clear hbel ho hg
    by_cases hlt : k < n
    · obtain ⟨b, off, lo, hi, rfl, hb, x0, x1, hlo, hhi, HX⟩ := h.gt HL hlt
      have y0 := (HB.out.cell (p := ⟨b, off + k * 2, none⟩) hb).trans x0
      have y1 := (HB.out.cell (p := ⟨b, off + k * 2 + 1, none⟩) hb).trans x1
      have hbr := Nat.lt_of_lt_of_le hb HB.out.size
      clear x0 x1
      by_cases hone : rngOne lo hi
      case neg =>
        have HN := Lib.hid (setB_no (l := l) fun o => hone (o.one k _ HX.out))
        have HF := Lib.hid (yes_f hone)
        clear h hone
        go_wp2
        refine wp_region_grown (by kernel_rfl) (by kernel_rfl) ?_
        have hgc__ := @Grown.cell
        repeat (go_big_quiet_step ((go_at_call 211; refine callG (HO.out lo hi false HF.out _))))
        refine wpQuiet_nil ?_
        clear hgc__
        intro _ hw__
        obtain ⟨⟨w1, hb1⟩, hw__⟩ := hw__
        simp only at hw__
        subst hw__
        go_wp2
        go_ret
        exact ⟨ret_bool HN.out.symm, HB.out.trans (hb1.mono HB.out.size)⟩
      have HF := Lib.hid (yes_t hone)
      have ⟨ho1, ho2, ho3⟩ := hone
      clear hone
      rcases Nat.eq_zero_or_pos k with hk0 | hk0
      · subst hk0
        simp only [Nat.zero_mul, Nat.add_zero] at y0 y1
        clear h
        go_wp2
        refine wp_region_grown (by kernel_rfl) (by kernel_rfl) ?_
        have hgc__ := @Grown.cell
        repeat (go_big_quiet_step ((go_at_call 211; refine callG (HO.out lo hi true HF.out _))))
        refine wpQuiet_nil ?_
        clear hgc__
        intro _ hw__
        obtain ⟨⟨w1, hb1⟩, hw__⟩ := hw__
        simp only at hw__
        subst hw__
        go_wp2
        go_roundw
        case rel =>
          refine ⟨1, by go_num, by omega, HB.out.trans (hb1.mono HB.out.size), fun i x hi hx => ?_, by intros; omega⟩
          obtain rfl : i = 0 := by omega
          obtain rfl := Option.some.inj (HX.out.symm.trans hx)
          exact of_yes HF.out
        case measure => simp [intOf]; omega
      · obtain ⟨k, rfl⟩ : ∃ j, k = j + 1 := ⟨k - 1, by omega⟩
        obtain ⟨b', off', lo', hi', e, hb', x0', x1', hlo', hhi', HX'⟩ := h.gt HL (i := k) (by omega)
        simp only [Option.some.injEq, Addr.mk.injEq, and_true] at e
        obtain ⟨rfl, rfl⟩ := e
        have z1 := (HB.out.cell (p := ⟨b, off + k * 2 + 1, none⟩) hb).trans x1'
        have hh' : hi' ≤ 1114111 := (H1.out k _ (by omega) HX'.out).2.2
        have hd0 : decide ((0 : Int) < ((k + 1 : Nat) : Int)) = true := decide_eq_true (by omega)
        clear h x0' x1'
        by_cases hgap : lo < hi' + 2
        · have HN := Lib.hid (setB_no (l := l) fun o => by have := o.gap k _ _ HX'.out HX.out; simp only at this; omega)
          have hd : decide (lo < hi' + 2) = true := decide_eq_true hgap
          go_wp2
          refine wp_region_grown (by kernel_rfl) (by kernel_rfl) ?_
          have hgc__ := @Grown.cell
          repeat (go_big_quiet_step ((go_at_call 211; refine callG (HO.out lo hi true HF.out _))))
          refine wpQuiet_nil ?_
          clear hgc__
          intro _ hw__
          obtain ⟨⟨w1, hb1⟩, hw__⟩ := hw__
          simp only at hw__
          subst hw__
          go_wp2
          go_ret
          exact ⟨ret_bool HN.out.symm, HB.out.trans (hb1.mono HB.out.size)⟩
        · have hd : decide (lo < hi' + 2) = false := decide_eq_false hgap
          go_wp2
          refine wp_region_grown (by kernel_rfl) (by kernel_rfl) ?_
          have hgc__ := @Grown.cell
          repeat (go_big_quiet_step ((go_at_call 211; refine callG (HO.out lo hi true HF.out _))))
          refine wpQuiet_nil ?_
          clear hgc__
          intro _ hw__
          obtain ⟨⟨w1, hb1⟩, hw__⟩ := hw__
          simp only at hw__
          subst hw__
          go_wp2
          go_roundw
          case rel =>
            refine ⟨k + 2, by go_num, by omega, HB.out.trans (hb1.mono HB.out.size), fun i x hi hx => ?_, fun i x y hi hx hy => ?_⟩
            · by_cases hik : i = k + 1
              · subst hik
                obtain rfl := Option.some.inj (HX.out.symm.trans hx)
                exact of_yes HF.out
              · exact H1.out i x (by omega) hx
            · by_cases hik : i = k
              · subst hik
                obtain rfl := Option.some.inj (HX.out.symm.trans hy)
                obtain rfl := Option.some.inj (HX'.out.symm.trans hx)
                simp only
                omega
              · exact H2.out i x y (by omega) hx hy
          case measure => simp [intOf]; omega
    · have : k = n := by omega
      subst this
      have HY := Lib.hid (setB_yes (l := l) ⟨by rw [HL.out]; omega, fun i x hx => H1.out i x (by have := lt_of_get hx; rwa [HL.out] at this) hx, fun i x y hx hy => H2.out i x y (by have := lt_of_get hy; rwa [HL.out] at this) hx hy⟩)
      clear h
      go_wp2
      go_ret
      exact ⟨ret_bool ((decide_eq_true (by omega)).trans HY.out.symm), HB.out⟩

set_option maxHeartbeats 1000000 in
theorem ranges_Check (A : Option Addr) (c n : Nat) (l : List Rng) (w : World) (h : AtSet w A l) (HL : Hid (l.length = n)) :
    Calls Tryz.prog 84 #[.slice A n c] w fun e w' => e = .returned (.int .i64 (setE l)) ∧ Below w.heap.size w w' := by
  have hl : n ≤ 140737488355328 := by have := h.1; rwa [HL.out] at this
  by_cases hmax : 256 < n
  · have HN := Lib.hid (setE_no (l := l) (setB_no (l := l) fun o => by have := o.few; have := HL.out; omega))
    go_enter Tryz.func84, Tryz.ntmps84
    go_wp2
    go_ret
    exact ⟨ret_int HN.out.symm, (by repeat (first | exact Below.refl _ _ | exact (Below.refl _ _).alloc (Nat.le_refl _) _ | apply below_drewN))⟩
  have HO := Lib.hid (fun (lo hi : Int) (b : Bool) (h : yes (rngOne lo hi) = b) (W : World) => show Calls Tryz.prog 120 #[.agg #[.int .i64 lo, .int .i64 hi]] W fun e w' => e = .returned (.bool b) ∧ Below W.heap.size W w' from h ▸ ranges_one lo hi W)
  go_enter Tryz.func84, Tryz.ntmps84
  go_wp2
  go_loopw [3, 11] (fun la i wr => ∃ (k : Nat) (q : Int), i = .int .i64 k ∧ la = .int .i64 q ∧ k ≤ n ∧ -2 ≤ q ∧ q ≤ 1114111 ∧ Below w.heap.size w wr ∧ (k = 0 → q = -2) ∧ (∀ x, l[k - 1]? = some x → 0 < k → q = x.hi) ∧ (∀ (i : Nat) x, i < k → l[i]? = some x → rngOne x.lo x.hi) ∧ (∀ (i : Nat) x y, i + 1 < k → l[i]? = some x → l[i + 1]? = some y → x.hi + 2 ≤ y.lo)) (fun _ i _ => n - (intOf i).toNat)
  case atStart => exact ⟨0, -2, rfl, rfl, by omega, by omega, by omega, (by repeat (first | exact Below.refl _ _ | exact (Below.refl _ _).alloc (Nat.le_refl _) _ | apply below_drewN)), fun _ => rfl, by intros; omega, by intros; omega, by intros; omega⟩
  case round =>
    obtain ⟨k, q, rfl, rfl, hk, hq1, hq2, hbel, hq0, hqx, ho, hg⟩ := hrel
    have HB := Lib.hid hbel; have H1 := Lib.hid ho; have H2 := Lib.hid hg; have HQ0 := Lib.hid hq0; have HQX := Lib.hid hqx
    clear hbel ho hg hq0 hqx
    by_cases hlt : k < n
    · obtain ⟨b, off, lo, hi, rfl, hb, x0, x1, hlo, hhi, HX⟩ := h.gt HL hlt
      have y0 := (HB.out.cell (p := ⟨b, off + k * 2, none⟩) hb).trans x0
      have y1 := (HB.out.cell (p := ⟨b, off + k * 2 + 1, none⟩) hb).trans x1
      have hbr := Nat.lt_of_lt_of_le hb HB.out.size
      have HB2 := Lib.hid (HB.out.alloc HB.out.size (.cells #[.int .i64 lo, .int .i64 hi] 124))
      have CB := fun (w1 : World) (hb1 : Below (wr.alloc (.cells #[.int .i64 lo, .int .i64 hi] 124)).heap.size (wr.alloc (.cells #[.int .i64 lo, .int .i64 hi] 124)) w1) => box2 hb1
      clear x0 x1 h
      by_cases hone : rngOne lo hi
      case neg =>
        have HN := Lib.hid (setE_no (l := l) (setB_no (l := l) fun o => hone (o.one k _ HX.out)))
        have HF := Lib.hid (yes_f hone)
        clear hone
        go_wp2_with (go_at_call 120; refine (HO.out lo hi false HF.out _).mono ?_; rintro e w1 ⟨rfl, hb1⟩; obtain ⟨u0, u1, u2, u3⟩ := CB w1 hb1)
        go_ret
        exact ⟨ret_int HN.out.symm, HB.out.trans (u3.mono HB.out.size)⟩
      have HF := Lib.hid (yes_t hone)
      have ⟨ho1, ho2, ho3⟩ := hone
      clear hone
      have HG := Lib.hid (show (lo < q + 2 ↔ 0 < k ∧ ∃ x, l[k - 1]? = some x ∧ lo < x.hi + 2) from by
        rcases Nat.eq_zero_or_pos k with h0 | h0
        · have := HQ0.out h0
          omega
        · have hx : l[k - 1]? = some (l[k - 1]'(by rw [HL.out]; omega)) := List.getElem?_eq_getElem (by rw [HL.out]; omega)
          have := HQX.out _ hx h0
          constructor
          · intro h; exact ⟨h0, _, hx, by omega⟩
          · rintro ⟨_, x, hx', h⟩
            obtain rfl := Option.some.inj (hx.symm.trans hx')
            omega)
      by_cases hgap : lo < q + 2
      · have HN := Lib.hid (setE_no (l := l) (setB_no (l := l) fun o => by
          obtain ⟨h0, x, hx, hh⟩ := HG.out.1 hgap
          have := o.gap (k - 1) _ _ hx (by rw [Nat.sub_add_cancel h0]; exact HX.out)
          simp only at this; omega))
        have hd : decide (lo < q + 2) = true := decide_eq_true hgap
        go_wp2_with (go_at_call 120; refine (HO.out lo hi true HF.out _).mono ?_; rintro e w1 ⟨rfl, hb1⟩; obtain ⟨u0, u1, u2, u3⟩ := CB w1 hb1)
        go_ret
        exact ⟨ret_int HN.out.symm, HB.out.trans (u3.mono HB.out.size)⟩
      · have hd : decide (lo < q + 2) = false := decide_eq_false hgap
        go_wp2_with (go_at_call 120; refine (HO.out lo hi true HF.out _).mono ?_; rintro e w1 ⟨rfl, hb1⟩; obtain ⟨u0, u1, u2, u3⟩ := CB w1 hb1)
        go_roundw
        case rel =>
          refine ⟨k + 1, hi, by go_num, rfl, by omega, by omega, by omega, HB.out.trans (u3.mono HB.out.size), by omega, fun x hx _ => ?_, fun i x hi hx => ?_, fun i x y hi hx hy => ?_⟩
          · obtain rfl := Option.some.inj (HX.out.symm.trans hx); rfl
          · by_cases hik : i = k
            · subst hik
              obtain rfl := Option.some.inj (HX.out.symm.trans hx)
              exact of_yes HF.out
            · exact H1.out i x (by omega) hx
          · by_cases hik : i + 1 = k
            · subst hik
              obtain rfl := Option.some.inj (HX.out.symm.trans hy)
              have := HQX.out x hx (by omega)
              simp only
              omega
            · exact H2.out i x y (by omega) hx hy
        case measure => simp [intOf]; omega
    · have : k = n := by omega
      subst this
      have HY := Lib.hid (setE_yes (l := l) (setB_yes (l := l) ⟨by rw [HL.out]; omega, fun i x hx => H1.out i x (by have := lt_of_get hx; rwa [HL.out] at this) hx, fun i x y hx hy => H2.out i x y (by have := lt_of_get hy; rwa [HL.out] at this) hx hy⟩))
      clear h
      go_wp2
      go_ret
      exact ⟨ret_int HY.out.symm, HB.out⟩

set_option maxHeartbeats 1000000 in
theorem ref06_Same (A B : Option Addr) (c d n m : Nat) (l r : List Rng) (w : World) (ha : AtSet w A l) (hb : AtSet w B r) (HL : Hid (l.length = n)) (HM : Hid (r.length = m)) :
    Calls Tryz.prog 68 #[.slice A n c, .slice B m d] w fun e w' => e = .returned (.bool (decide (l = r))) ∧ ∃ n, w' = w.drewN n := by
  by_cases hlen : n = m
  · have hl : n ≤ 140737488355328 := by have := ha.1; rwa [HL.out] at this
    subst hlen
    have h1 : ((n : Int) != (n : Int)) = false := by simp
    go_enter Tryz.func68, Tryz.ntmps68
    go_wp2
    go_loopw [5] (fun i wr => ∃ k q : Nat, i = .int .i64 k ∧ wr = w.drewN q ∧ k ≤ n ∧ l.take k = r.take k) (fun i _ => n - (intOf i).toNat)
    case atStart => exact ⟨0, 0, rfl, rfl, by omega, by simp⟩
    case round =>
      obtain ⟨k, q, rfl, rfl, hk, heq⟩ := hrel
      have HE := Lib.hid heq; clear heq
      by_cases hlt : k < n
      · obtain ⟨b, off, lo, hi, rfl, hbs, x0, x1, _, _, HX⟩ := ha.gt HL hlt
        obtain ⟨b', off', lo', hi', rfl, hbs', y0, y1, _, _, HY⟩ := hb.gt HM hlt
        clear ha hb
        by_cases hxy : (⟨lo, hi⟩ : Rng) = ⟨lo', hi'⟩
        · obtain ⟨rfl, rfl⟩ := Rng.mk.inj hxy
          clear hxy
          have h2 : (lo == lo) = true := by simp
          have h3 : (hi == hi) = true := by simp
          go_wp2
          go_quiet (fail)
          go_wp2
          go_roundw
          case rel => exact ⟨k + 1, _, by go_num, rfl, by omega, by rw [take_snoc HX.out, take_snoc HY.out, HE.out]⟩
          case measure => simp [intOf]; omega
        · have HXY := Lib.hid hxy; clear hxy
          by_cases h2 : lo = lo'
          · have h3 : (hi == hi') = false := by
              rw [beq_eq_false_iff_ne]; rintro rfl; exact HXY.out (by rw [h2])
            subst h2
            have h4 : (lo == lo) = true := by simp
            go_wp2
            go_quiet (fail)
            go_wp2
            go_ret
            exact ⟨ret_bool (decide_eq_false fun hh => HXY.out (by subst hh; exact Option.some.inj (HX.out.symm.trans HY.out))).symm, _, World.drewN_drewN _ _ _⟩
          · have h3 : (lo == lo') = false := by simpa using h2
            have H2 := Lib.hid h2; clear h2
            go_wp2
            go_quiet (fail)
            go_wp2
            go_ret
            exact ⟨ret_bool (decide_eq_false fun hh => HXY.out (by subst hh; exact Option.some.inj (HX.out.symm.trans HY.out))).symm, _, World.drewN_drewN _ _ _⟩
      · have : k = n := by omega
        subst this
        go_wp2
        go_ret
        exact ⟨ret_bool (decide_eq_true (by have := HE.out; rwa [List.take_of_length_le (by rw [HL.out]; omega), List.take_of_length_le (by rw [HM.out]; omega)] at this)).symm, q, rfl⟩
  · have h1 : ((n : Int) != (m : Int)) = true := by simp; omega
    have HN := Lib.hid (show decide (l = r) = false by simp; intro h; subst h; exact hlen (HL.out.symm.trans HM.out))
    clear hlen
    go_enter Tryz.func68, Tryz.ntmps68
    go_wp2
    go_ret
    exact ⟨ret_bool HN.out.symm, 0, rfl⟩

end Go.Proofs.YtilhicefhhgecaaGreatDoor

namespace Go.Proofs.YtilhicefhhgecaaGreatDoor
open Go.RowKit Pv

set_option maxHeartbeats 4000000 in
set_option maxRecDepth 100000 in
theorem pattern_one0 (B : Option Addr) (many least most : Int) (c m : Nat) (l : List Rng) (w : World) (hs : AtSet w B l) (HM : Hid (l.length = m)) :
    Calls Tryz.prog 100 #[.agg #[.int .u8 0, .slice B m c, .int .i64 many, .int .i64 least, .int .i64 most]] w fun e w' => e = .returned (.bool (oneC 0 (setB l) m many least most)) ∧ Below w.heap.size w w' := by
  have hl : m ≤ 140737488355328 := by have := hs.1; rwa [HM.out] at this
  clear hs HM
  rcases Bool.eq_false_or_eq_true ((m : Int) == 0) with t_n | t_n
  · rcases Bool.eq_false_or_eq_true (least == 0) with t_l0 | t_l0
    · rcases Bool.eq_false_or_eq_true (most == 0) with t_s0 | t_s0
      · rcases Bool.eq_false_or_eq_true (many == 0) with t_m0 | t_m0
        · go_enter Tryz.func100, Tryz.ntmps100
          go_wp2
          go_quiet (fail)
          go_wp2
          go_ret
          exact ⟨ret_bool (by simp [oneC, t_n, t_l0, t_s0, t_m0]), (by repeat (first | exact Below.refl _ _ | exact (Below.refl _ _).alloc (Nat.le_refl _) _ | apply below_drewN))⟩
        · go_enter Tryz.func100, Tryz.ntmps100
          go_wp2
          go_quiet (fail)
          go_wp2
          go_ret
          exact ⟨ret_bool (by simp [oneC, t_n, t_l0, t_s0, t_m0]), (by repeat (first | exact Below.refl _ _ | exact (Below.refl _ _).alloc (Nat.le_refl _) _ | apply below_drewN))⟩
      · go_enter Tryz.func100, Tryz.ntmps100
        go_wp2
        go_quiet (fail)
        go_wp2
        go_ret
        exact ⟨ret_bool (by simp [oneC, t_n, t_l0, t_s0]), (by repeat (first | exact Below.refl _ _ | exact (Below.refl _ _).alloc (Nat.le_refl _) _ | apply below_drewN))⟩
    · go_enter Tryz.func100, Tryz.ntmps100
      go_wp2
      go_quiet (fail)
      go_wp2
      go_ret
      exact ⟨ret_bool (by simp [oneC, t_n, t_l0]), (by repeat (first | exact Below.refl _ _ | exact (Below.refl _ _).alloc (Nat.le_refl _) _ | apply below_drewN))⟩
  · rcases Bool.eq_false_or_eq_true (least == 0) with t_l0 | t_l0
    · rcases Bool.eq_false_or_eq_true (most == 0) with t_s0 | t_s0
      · go_enter Tryz.func100, Tryz.ntmps100
        go_wp2
        go_quiet (fail)
        go_wp2
        go_ret
        exact ⟨ret_bool (by simp [oneC, t_n]), (by repeat (first | exact Below.refl _ _ | exact (Below.refl _ _).alloc (Nat.le_refl _) _ | apply below_drewN))⟩
      · go_enter Tryz.func100, Tryz.ntmps100
        go_wp2
        go_quiet (fail)
        go_wp2
        go_ret
        exact ⟨ret_bool (by simp [oneC, t_n]), (by repeat (first | exact Below.refl _ _ | exact (Below.refl _ _).alloc (Nat.le_refl _) _ | apply below_drewN))⟩
    · go_enter Tryz.func100, Tryz.ntmps100
      go_wp2
      go_quiet (fail)
      go_wp2
      go_ret
      exact ⟨ret_bool (by simp [oneC, t_n]), (by repeat (first | exact Below.refl _ _ | exact (Below.refl _ _).alloc (Nat.le_refl _) _ | apply below_drewN))⟩

set_option maxHeartbeats 4000000 in
set_option maxRecDepth 100000 in
theorem pattern_one1 (B : Option Addr) (many least most : Int) (c m : Nat) (l : List Rng) (w : World) (hs : AtSet w B l) (HM : Hid (l.length = m)) :
    Calls Tryz.prog 100 #[.agg #[.int .u8 1, .slice B m c, .int .i64 many, .int .i64 least, .int .i64 most]] w fun e w' => e = .returned (.bool (oneC 1 (setB l) m many least most)) ∧ Below w.heap.size w w' := by
  have hl : m ≤ 140737488355328 := by have := hs.1; rwa [HM.out] at this
  have HC := Lib.hid (fun (b : Int) (h : setE l = b) (W : World) (kp : Keep w W) => show Calls Tryz.prog 84 #[.slice B m c] W fun e w' => e = .returned (.int .i64 b) ∧ Below W.heap.size W w' from h ▸ ranges_Check B c m l W (hs.keep kp) HM)
  clear hs HM
  rcases Bool.eq_false_or_eq_true ((m : Int) == 0) with t_n | t_n
  · rcases Bool.eq_false_or_eq_true (least == 0) with t_l0 | t_l0
    · rcases Bool.eq_false_or_eq_true (most == 0) with t_s0 | t_s0
      · rcases Bool.eq_false_or_eq_true (many == 0) with t_m0 | t_m0
        · rcases Bool.eq_false_or_eq_true (setB l) with t_sb | t_sb
          · have H_sb := Lib.hid t_sb; clear t_sb
            go_enter Tryz.func100, Tryz.ntmps100
            go_wp2
            go_quiet (fail)
            go_wp2_with (go_at_call 84; refine (HC.out 0 (setE_yes H_sb.out) _ ((Keep.alloc _ _).trans (Keep.drewN _ _))).mono ?_; rintro e w1 ⟨rfl, hb1⟩)
            go_ret
            exact ⟨ret_bool (by simp [oneC, t_l0, t_s0, t_m0, H_sb.out]), ((below_drewN ((Below.refl _ _).alloc (Nat.le_refl _) _) _).trans (hb1.mono (by simp)))⟩
          · have H_sb := Lib.hid t_sb; clear t_sb
            go_enter Tryz.func100, Tryz.ntmps100
            go_wp2
            go_quiet (fail)
            go_wp2_with (go_at_call 84; refine (HC.out 8 (setE_no H_sb.out) _ ((Keep.alloc _ _).trans (Keep.drewN _ _))).mono ?_; rintro e w1 ⟨rfl, hb1⟩)
            go_ret
            exact ⟨ret_bool (by simp [oneC, t_l0, t_s0, t_m0, H_sb.out]), ((below_drewN ((Below.refl _ _).alloc (Nat.le_refl _) _) _).trans (hb1.mono (by simp)))⟩
        · go_enter Tryz.func100, Tryz.ntmps100
          go_wp2
          go_quiet (fail)
          go_wp2
          go_ret
          exact ⟨ret_bool (by simp [oneC, t_l0, t_s0, t_m0]), (by repeat (first | exact Below.refl _ _ | exact (Below.refl _ _).alloc (Nat.le_refl _) _ | apply below_drewN))⟩
      · go_enter Tryz.func100, Tryz.ntmps100
        go_wp2
        go_quiet (fail)
        go_wp2
        go_ret
        exact ⟨ret_bool (by simp [oneC, t_l0, t_s0]), (by repeat (first | exact Below.refl _ _ | exact (Below.refl _ _).alloc (Nat.le_refl _) _ | apply below_drewN))⟩
    · go_enter Tryz.func100, Tryz.ntmps100
      go_wp2
      go_quiet (fail)
      go_wp2
      go_ret
      exact ⟨ret_bool (by simp [oneC, t_l0]), (by repeat (first | exact Below.refl _ _ | exact (Below.refl _ _).alloc (Nat.le_refl _) _ | apply below_drewN))⟩
  · rcases Bool.eq_false_or_eq_true (least == 0) with t_l0 | t_l0
    · rcases Bool.eq_false_or_eq_true (most == 0) with t_s0 | t_s0
      · rcases Bool.eq_false_or_eq_true (many == 0) with t_m0 | t_m0
        · rcases Bool.eq_false_or_eq_true (setB l) with t_sb | t_sb
          · have H_sb := Lib.hid t_sb; clear t_sb
            go_enter Tryz.func100, Tryz.ntmps100
            go_wp2
            go_quiet (fail)
            go_wp2_with (go_at_call 84; refine (HC.out 0 (setE_yes H_sb.out) _ ((Keep.alloc _ _).trans (Keep.drewN _ _))).mono ?_; rintro e w1 ⟨rfl, hb1⟩)
            go_ret
            exact ⟨ret_bool (by simp [oneC, t_l0, t_s0, t_m0, H_sb.out]), ((below_drewN ((Below.refl _ _).alloc (Nat.le_refl _) _) _).trans (hb1.mono (by simp)))⟩
          · have H_sb := Lib.hid t_sb; clear t_sb
            go_enter Tryz.func100, Tryz.ntmps100
            go_wp2
            go_quiet (fail)
            go_wp2_with (go_at_call 84; refine (HC.out 8 (setE_no H_sb.out) _ ((Keep.alloc _ _).trans (Keep.drewN _ _))).mono ?_; rintro e w1 ⟨rfl, hb1⟩)
            go_ret
            exact ⟨ret_bool (by simp [oneC, t_l0, t_s0, t_m0, H_sb.out]), ((below_drewN ((Below.refl _ _).alloc (Nat.le_refl _) _) _).trans (hb1.mono (by simp)))⟩
        · go_enter Tryz.func100, Tryz.ntmps100
          go_wp2
          go_quiet (fail)
          go_wp2
          go_ret
          exact ⟨ret_bool (by simp [oneC, t_l0, t_s0, t_m0]), (by repeat (first | exact Below.refl _ _ | exact (Below.refl _ _).alloc (Nat.le_refl _) _ | apply below_drewN))⟩
      · go_enter Tryz.func100, Tryz.ntmps100
        go_wp2
        go_quiet (fail)
        go_wp2
        go_ret
        exact ⟨ret_bool (by simp [oneC, t_l0, t_s0]), (by repeat (first | exact Below.refl _ _ | exact (Below.refl _ _).alloc (Nat.le_refl _) _ | apply below_drewN))⟩
    · go_enter Tryz.func100, Tryz.ntmps100
      go_wp2
      go_quiet (fail)
      go_wp2
      go_ret
      exact ⟨ret_bool (by simp [oneC, t_l0]), (by repeat (first | exact Below.refl _ _ | exact (Below.refl _ _).alloc (Nat.le_refl _) _ | apply below_drewN))⟩

set_option maxHeartbeats 4000000 in
set_option maxRecDepth 100000 in
theorem pattern_one2 (B : Option Addr) (many least most : Int) (c m : Nat) (l : List Rng) (w : World) (hs : AtSet w B l) (HM : Hid (l.length = m)) :
    Calls Tryz.prog 100 #[.agg #[.int .u8 2, .slice B m c, .int .i64 many, .int .i64 least, .int .i64 most]] w fun e w' => e = .returned (.bool (oneC 2 (setB l) m many least most)) ∧ Below w.heap.size w w' := by
  have hl : m ≤ 140737488355328 := by have := hs.1; rwa [HM.out] at this
  clear hs HM
  rcases Bool.eq_false_or_eq_true ((m : Int) == 0) with t_n | t_n
  · rcases Bool.eq_false_or_eq_true (least == 0) with t_l0 | t_l0
    · rcases Bool.eq_false_or_eq_true (most == 0) with t_s0 | t_s0
      · rcases Bool.eq_false_or_eq_true (decide (2 ≤ many)) with t_m2 | t_m2
        · go_enter Tryz.func100, Tryz.ntmps100
          go_wp2
          go_quiet (fail)
          go_wp2
          go_ret
          exact ⟨ret_bool (by simp [oneC, t_n, t_l0, t_s0, t_m2] <;> (simp at t_m2; omega)), (by repeat (first | exact Below.refl _ _ | exact (Below.refl _ _).alloc (Nat.le_refl _) _ | apply below_drewN))⟩
        · go_enter Tryz.func100, Tryz.ntmps100
          go_wp2
          go_quiet (fail)
          go_wp2
          go_ret
          exact ⟨ret_bool (by simp [oneC, t_n, t_l0, t_s0, t_m2] <;> (simp at t_m2; omega)), (by repeat (first | exact Below.refl _ _ | exact (Below.refl _ _).alloc (Nat.le_refl _) _ | apply below_drewN))⟩
      · go_enter Tryz.func100, Tryz.ntmps100
        go_wp2
        go_quiet (fail)
        go_wp2
        go_ret
        exact ⟨ret_bool (by simp [oneC, t_n, t_l0, t_s0]), (by repeat (first | exact Below.refl _ _ | exact (Below.refl _ _).alloc (Nat.le_refl _) _ | apply below_drewN))⟩
    · go_enter Tryz.func100, Tryz.ntmps100
      go_wp2
      go_quiet (fail)
      go_wp2
      go_ret
      exact ⟨ret_bool (by simp [oneC, t_n, t_l0]), (by repeat (first | exact Below.refl _ _ | exact (Below.refl _ _).alloc (Nat.le_refl _) _ | apply below_drewN))⟩
  · rcases Bool.eq_false_or_eq_true (least == 0) with t_l0 | t_l0
    · rcases Bool.eq_false_or_eq_true (most == 0) with t_s0 | t_s0
      · go_enter Tryz.func100, Tryz.ntmps100
        go_wp2
        go_quiet (fail)
        go_wp2
        go_ret
        exact ⟨ret_bool (by simp [oneC, t_n]), (by repeat (first | exact Below.refl _ _ | exact (Below.refl _ _).alloc (Nat.le_refl _) _ | apply below_drewN))⟩
      · go_enter Tryz.func100, Tryz.ntmps100
        go_wp2
        go_quiet (fail)
        go_wp2
        go_ret
        exact ⟨ret_bool (by simp [oneC, t_n]), (by repeat (first | exact Below.refl _ _ | exact (Below.refl _ _).alloc (Nat.le_refl _) _ | apply below_drewN))⟩
    · go_enter Tryz.func100, Tryz.ntmps100
      go_wp2
      go_quiet (fail)
      go_wp2
      go_ret
      exact ⟨ret_bool (by simp [oneC, t_n]), (by repeat (first | exact Below.refl _ _ | exact (Below.refl _ _).alloc (Nat.le_refl _) _ | apply below_drewN))⟩

set_option maxHeartbeats 4000000 in
set_option maxRecDepth 100000 in
theorem pattern_one3 (B : Option Addr) (many least most : Int) (c m : Nat) (l : List Rng) (w : World) (hs : AtSet w B l) (HM : Hid (l.length = m)) :
    Calls Tryz.prog 100 #[.agg #[.int .u8 3, .slice B m c, .int .i64 many, .int .i64 least, .int .i64 most]] w fun e w' => e = .returned (.bool (oneC 3 (setB l) m many least most)) ∧ Below w.heap.size w w' := by
  have hl : m ≤ 140737488355328 := by have := hs.1; rwa [HM.out] at this
  clear hs HM
  rcases Bool.eq_false_or_eq_true ((m : Int) == 0) with t_n | t_n
  · rcases Bool.eq_false_or_eq_true (least == 0) with t_l0 | t_l0
    · rcases Bool.eq_false_or_eq_true (most == 0) with t_s0 | t_s0
      · rcases Bool.eq_false_or_eq_true (decide (2 ≤ many)) with t_m2 | t_m2
        · go_enter Tryz.func100, Tryz.ntmps100
          go_wp2
          go_quiet (fail)
          go_wp2
          go_ret
          exact ⟨ret_bool (by simp [oneC, t_n, t_l0, t_s0, t_m2] <;> (simp at t_m2; omega)), (by repeat (first | exact Below.refl _ _ | exact (Below.refl _ _).alloc (Nat.le_refl _) _ | apply below_drewN))⟩
        · go_enter Tryz.func100, Tryz.ntmps100
          go_wp2
          go_quiet (fail)
          go_wp2
          go_ret
          exact ⟨ret_bool (by simp [oneC, t_n, t_l0, t_s0, t_m2] <;> (simp at t_m2; omega)), (by repeat (first | exact Below.refl _ _ | exact (Below.refl _ _).alloc (Nat.le_refl _) _ | apply below_drewN))⟩
      · go_enter Tryz.func100, Tryz.ntmps100
        go_wp2
        go_quiet (fail)
        go_wp2
        go_ret
        exact ⟨ret_bool (by simp [oneC, t_n, t_l0, t_s0]), (by repeat (first | exact Below.refl _ _ | exact (Below.refl _ _).alloc (Nat.le_refl _) _ | apply below_drewN))⟩
    · go_enter Tryz.func100, Tryz.ntmps100
      go_wp2
      go_quiet (fail)
      go_wp2
      go_ret
      exact ⟨ret_bool (by simp [oneC, t_n, t_l0]), (by repeat (first | exact Below.refl _ _ | exact (Below.refl _ _).alloc (Nat.le_refl _) _ | apply below_drewN))⟩
  · rcases Bool.eq_false_or_eq_true (least == 0) with t_l0 | t_l0
    · rcases Bool.eq_false_or_eq_true (most == 0) with t_s0 | t_s0
      · go_enter Tryz.func100, Tryz.ntmps100
        go_wp2
        go_quiet (fail)
        go_wp2
        go_ret
        exact ⟨ret_bool (by simp [oneC, t_n]), (by repeat (first | exact Below.refl _ _ | exact (Below.refl _ _).alloc (Nat.le_refl _) _ | apply below_drewN))⟩
      · go_enter Tryz.func100, Tryz.ntmps100
        go_wp2
        go_quiet (fail)
        go_wp2
        go_ret
        exact ⟨ret_bool (by simp [oneC, t_n]), (by repeat (first | exact Below.refl _ _ | exact (Below.refl _ _).alloc (Nat.le_refl _) _ | apply below_drewN))⟩
    · go_enter Tryz.func100, Tryz.ntmps100
      go_wp2
      go_quiet (fail)
      go_wp2
      go_ret
      exact ⟨ret_bool (by simp [oneC, t_n]), (by repeat (first | exact Below.refl _ _ | exact (Below.refl _ _).alloc (Nat.le_refl _) _ | apply below_drewN))⟩

set_option maxHeartbeats 4000000 in
set_option maxRecDepth 100000 in
theorem pattern_one4 (B : Option Addr) (many least most : Int) (c m : Nat) (l : List Rng) (w : World) (hs : AtSet w B l) (HM : Hid (l.length = m)) :
    Calls Tryz.prog 100 #[.agg #[.int .u8 4, .slice B m c, .int .i64 many, .int .i64 least, .int .i64 most]] w fun e w' => e = .returned (.bool (oneC 4 (setB l) m many least most)) ∧ Below w.heap.size w w' := by
  have hl : m ≤ 140737488355328 := by have := hs.1; rwa [HM.out] at this
  clear hs HM
  rcases Bool.eq_false_or_eq_true ((m : Int) == 0) with t_n | t_n
  · rcases Bool.eq_false_or_eq_true (least == 0) with t_l0 | t_l0
    · rcases Bool.eq_false_or_eq_true (most == 0) with t_s0 | t_s0
      · rcases Bool.eq_false_or_eq_true (many == 1) with t_m1 | t_m1
        · rcases Bool.eq_false_or_eq_true (decide (0 ≤ least)) with t_l1 | t_l1
          · rcases Bool.eq_false_or_eq_true (decide (least ≤ 16)) with t_l16 | t_l16
            · rcases Bool.eq_false_or_eq_true (most == -1) with t_s1 | t_s1
              · go_enter Tryz.func100, Tryz.ntmps100
                go_wp2
                go_quiet (fail)
                go_wp2
                go_ret
                exact ⟨ret_bool (by simp [oneC, t_n, t_m1, t_l1, t_l16, t_s1]), (by repeat (first | exact Below.refl _ _ | exact (Below.refl _ _).alloc (Nat.le_refl _) _ | apply below_drewN))⟩
              · rcases Bool.eq_false_or_eq_true (decide (least ≤ most)) with t_ls | t_ls
                · rcases Bool.eq_false_or_eq_true (decide (most ≤ 16)) with t_s16 | t_s16
                  · go_enter Tryz.func100, Tryz.ntmps100
                    go_wp2
                    go_quiet (fail)
                    go_wp2
                    go_ret
                    exact ⟨ret_bool (by simp [oneC, t_n, t_m1, t_l1, t_l16, t_s1, t_ls, t_s16]), (by repeat (first | exact Below.refl _ _ | exact (Below.refl _ _).alloc (Nat.le_refl _) _ | apply below_drewN))⟩
                  · go_enter Tryz.func100, Tryz.ntmps100
                    go_wp2
                    go_quiet (fail)
                    go_wp2
                    go_ret
                    exact ⟨ret_bool (by simp [oneC, t_n, t_m1, t_l1, t_l16, t_s1, t_ls, t_s16]), (by repeat (first | exact Below.refl _ _ | exact (Below.refl _ _).alloc (Nat.le_refl _) _ | apply below_drewN))⟩
                · go_enter Tryz.func100, Tryz.ntmps100
                  go_wp2
                  go_quiet (fail)
                  go_wp2
                  go_ret
                  exact ⟨ret_bool (by simp [oneC, t_n, t_m1, t_l1, t_l16, t_s1, t_ls]), (by repeat (first | exact Below.refl _ _ | exact (Below.refl _ _).alloc (Nat.le_refl _) _ | apply below_drewN))⟩
            · go_enter Tryz.func100, Tryz.ntmps100
              go_wp2
              go_quiet (fail)
              go_wp2
              go_ret
              exact ⟨ret_bool (by simp [oneC, t_n, t_m1, t_l1, t_l16]), (by repeat (first | exact Below.refl _ _ | exact (Below.refl _ _).alloc (Nat.le_refl _) _ | apply below_drewN))⟩
          · go_enter Tryz.func100, Tryz.ntmps100
            go_wp2
            go_quiet (fail)
            go_wp2
            go_ret
            exact ⟨ret_bool (by simp [oneC, t_n, t_m1, t_l1]), (by repeat (first | exact Below.refl _ _ | exact (Below.refl _ _).alloc (Nat.le_refl _) _ | apply below_drewN))⟩
        · go_enter Tryz.func100, Tryz.ntmps100
          go_wp2
          go_quiet (fail)
          go_wp2
          go_ret
          exact ⟨ret_bool (by simp [oneC, t_n, t_m1]), (by repeat (first | exact Below.refl _ _ | exact (Below.refl _ _).alloc (Nat.le_refl _) _ | apply below_drewN))⟩
      · rcases Bool.eq_false_or_eq_true (many == 1) with t_m1 | t_m1
        · rcases Bool.eq_false_or_eq_true (decide (0 ≤ least)) with t_l1 | t_l1
          · rcases Bool.eq_false_or_eq_true (decide (least ≤ 16)) with t_l16 | t_l16
            · rcases Bool.eq_false_or_eq_true (most == -1) with t_s1 | t_s1
              · go_enter Tryz.func100, Tryz.ntmps100
                go_wp2
                go_quiet (fail)
                go_wp2
                go_ret
                exact ⟨ret_bool (by simp [oneC, t_n, t_m1, t_l1, t_l16, t_s1]), (by repeat (first | exact Below.refl _ _ | exact (Below.refl _ _).alloc (Nat.le_refl _) _ | apply below_drewN))⟩
              · rcases Bool.eq_false_or_eq_true (decide (least ≤ most)) with t_ls | t_ls
                · rcases Bool.eq_false_or_eq_true (decide (most ≤ 16)) with t_s16 | t_s16
                  · go_enter Tryz.func100, Tryz.ntmps100
                    go_wp2
                    go_quiet (fail)
                    go_wp2
                    go_ret
                    exact ⟨ret_bool (by simp [oneC, t_n, t_m1, t_l1, t_l16, t_s1, t_ls, t_s16]), (by repeat (first | exact Below.refl _ _ | exact (Below.refl _ _).alloc (Nat.le_refl _) _ | apply below_drewN))⟩
                  · go_enter Tryz.func100, Tryz.ntmps100
                    go_wp2
                    go_quiet (fail)
                    go_wp2
                    go_ret
                    exact ⟨ret_bool (by simp [oneC, t_n, t_m1, t_l1, t_l16, t_s1, t_ls, t_s16]), (by repeat (first | exact Below.refl _ _ | exact (Below.refl _ _).alloc (Nat.le_refl _) _ | apply below_drewN))⟩
                · go_enter Tryz.func100, Tryz.ntmps100
                  go_wp2
                  go_quiet (fail)
                  go_wp2
                  go_ret
                  exact ⟨ret_bool (by simp [oneC, t_n, t_m1, t_l1, t_l16, t_s1, t_ls]), (by repeat (first | exact Below.refl _ _ | exact (Below.refl _ _).alloc (Nat.le_refl _) _ | apply below_drewN))⟩
            · go_enter Tryz.func100, Tryz.ntmps100
              go_wp2
              go_quiet (fail)
              go_wp2
              go_ret
              exact ⟨ret_bool (by simp [oneC, t_n, t_m1, t_l1, t_l16]), (by repeat (first | exact Below.refl _ _ | exact (Below.refl _ _).alloc (Nat.le_refl _) _ | apply below_drewN))⟩
          · go_enter Tryz.func100, Tryz.ntmps100
            go_wp2
            go_quiet (fail)
            go_wp2
            go_ret
            exact ⟨ret_bool (by simp [oneC, t_n, t_m1, t_l1]), (by repeat (first | exact Below.refl _ _ | exact (Below.refl _ _).alloc (Nat.le_refl _) _ | apply below_drewN))⟩
        · go_enter Tryz.func100, Tryz.ntmps100
          go_wp2
          go_quiet (fail)
          go_wp2
          go_ret
          exact ⟨ret_bool (by simp [oneC, t_n, t_m1]), (by repeat (first | exact Below.refl _ _ | exact (Below.refl _ _).alloc (Nat.le_refl _) _ | apply below_drewN))⟩
    · rcases Bool.eq_false_or_eq_true (many == 1) with t_m1 | t_m1
      · rcases Bool.eq_false_or_eq_true (decide (0 ≤ least)) with t_l1 | t_l1
        · rcases Bool.eq_false_or_eq_true (decide (least ≤ 16)) with t_l16 | t_l16
          · rcases Bool.eq_false_or_eq_true (most == -1) with t_s1 | t_s1
            · go_enter Tryz.func100, Tryz.ntmps100
              go_wp2
              go_quiet (fail)
              go_wp2
              go_ret
              exact ⟨ret_bool (by simp [oneC, t_n, t_m1, t_l1, t_l16, t_s1]), (by repeat (first | exact Below.refl _ _ | exact (Below.refl _ _).alloc (Nat.le_refl _) _ | apply below_drewN))⟩
            · rcases Bool.eq_false_or_eq_true (decide (least ≤ most)) with t_ls | t_ls
              · rcases Bool.eq_false_or_eq_true (decide (most ≤ 16)) with t_s16 | t_s16
                · go_enter Tryz.func100, Tryz.ntmps100
                  go_wp2
                  go_quiet (fail)
                  go_wp2
                  go_ret
                  exact ⟨ret_bool (by simp [oneC, t_n, t_m1, t_l1, t_l16, t_s1, t_ls, t_s16]), (by repeat (first | exact Below.refl _ _ | exact (Below.refl _ _).alloc (Nat.le_refl _) _ | apply below_drewN))⟩
                · go_enter Tryz.func100, Tryz.ntmps100
                  go_wp2
                  go_quiet (fail)
                  go_wp2
                  go_ret
                  exact ⟨ret_bool (by simp [oneC, t_n, t_m1, t_l1, t_l16, t_s1, t_ls, t_s16]), (by repeat (first | exact Below.refl _ _ | exact (Below.refl _ _).alloc (Nat.le_refl _) _ | apply below_drewN))⟩
              · go_enter Tryz.func100, Tryz.ntmps100
                go_wp2
                go_quiet (fail)
                go_wp2
                go_ret
                exact ⟨ret_bool (by simp [oneC, t_n, t_m1, t_l1, t_l16, t_s1, t_ls]), (by repeat (first | exact Below.refl _ _ | exact (Below.refl _ _).alloc (Nat.le_refl _) _ | apply below_drewN))⟩
          · go_enter Tryz.func100, Tryz.ntmps100
            go_wp2
            go_quiet (fail)
            go_wp2
            go_ret
            exact ⟨ret_bool (by simp [oneC, t_n, t_m1, t_l1, t_l16]), (by repeat (first | exact Below.refl _ _ | exact (Below.refl _ _).alloc (Nat.le_refl _) _ | apply below_drewN))⟩
        · go_enter Tryz.func100, Tryz.ntmps100
          go_wp2
          go_quiet (fail)
          go_wp2
          go_ret
          exact ⟨ret_bool (by simp [oneC, t_n, t_m1, t_l1]), (by repeat (first | exact Below.refl _ _ | exact (Below.refl _ _).alloc (Nat.le_refl _) _ | apply below_drewN))⟩
      · go_enter Tryz.func100, Tryz.ntmps100
        go_wp2
        go_quiet (fail)
        go_wp2
        go_ret
        exact ⟨ret_bool (by simp [oneC, t_n, t_m1]), (by repeat (first | exact Below.refl _ _ | exact (Below.refl _ _).alloc (Nat.le_refl _) _ | apply below_drewN))⟩
  · rcases Bool.eq_false_or_eq_true (least == 0) with t_l0 | t_l0
    · rcases Bool.eq_false_or_eq_true (most == 0) with t_s0 | t_s0
      · go_enter Tryz.func100, Tryz.ntmps100
        go_wp2
        go_quiet (fail)
        go_wp2
        go_ret
        exact ⟨ret_bool (by simp [oneC, t_n]), (by repeat (first | exact Below.refl _ _ | exact (Below.refl _ _).alloc (Nat.le_refl _) _ | apply below_drewN))⟩
      · go_enter Tryz.func100, Tryz.ntmps100
        go_wp2
        go_quiet (fail)
        go_wp2
        go_ret
        exact ⟨ret_bool (by simp [oneC, t_n]), (by repeat (first | exact Below.refl _ _ | exact (Below.refl _ _).alloc (Nat.le_refl _) _ | apply below_drewN))⟩
    · go_enter Tryz.func100, Tryz.ntmps100
      go_wp2
      go_quiet (fail)
      go_wp2
      go_ret
      exact ⟨ret_bool (by simp [oneC, t_n]), (by repeat (first | exact Below.refl _ _ | exact (Below.refl _ _).alloc (Nat.le_refl _) _ | apply below_drewN))⟩

set_option maxHeartbeats 4000000 in
set_option maxRecDepth 100000 in
theorem pattern_one5 (B : Option Addr) (k : Int) (many least most : Int) (c m : Nat) (l : List Rng) (w : World) (hs : AtSet w B l) (HM : Hid (l.length = m)) (hk5 : Hid (4 < k)) :
    Calls Tryz.prog 100 #[.agg #[.int .u8 k, .slice B m c, .int .i64 many, .int .i64 least, .int .i64 most]] w fun e w' => e = .returned (.bool (oneC k (setB l) m many least most)) ∧ Below w.heap.size w w' := by
  have hl : m ≤ 140737488355328 := by have := hs.1; rwa [HM.out] at this
  have k0 : (k == 0) = false := by have := hk5.out; simp; omega
  have k1 : (k == 1) = false := by have := hk5.out; simp; omega
  have k2 : (k == 2) = false := by have := hk5.out; simp; omega
  have k3 : (k == 3) = false := by have := hk5.out; simp; omega
  have k4 : (k == 4) = false := by have := hk5.out; simp; omega
  clear hs HM
  rcases Bool.eq_false_or_eq_true ((m : Int) == 0) with t_n | t_n
  · rcases Bool.eq_false_or_eq_true (least == 0) with t_l0 | t_l0
    · rcases Bool.eq_false_or_eq_true (most == 0) with t_s0 | t_s0
      · go_enter Tryz.func100, Tryz.ntmps100
        go_wp2
        go_quiet (fail)
        go_wp2
        go_ret
        exact ⟨ret_bool (by simp [oneC, k0, k1, k2, k3, k4]), (by repeat (first | exact Below.refl _ _ | exact (Below.refl _ _).alloc (Nat.le_refl _) _ | apply below_drewN))⟩
      · go_enter Tryz.func100, Tryz.ntmps100
        go_wp2
        go_quiet (fail)
        go_wp2
        go_ret
        exact ⟨ret_bool (by simp [oneC, k0, k1, k2, k3, k4]), (by repeat (first | exact Below.refl _ _ | exact (Below.refl _ _).alloc (Nat.le_refl _) _ | apply below_drewN))⟩
    · go_enter Tryz.func100, Tryz.ntmps100
      go_wp2
      go_quiet (fail)
      go_wp2
      go_ret
      exact ⟨ret_bool (by simp [oneC, k0, k1, k2, k3, k4]), (by repeat (first | exact Below.refl _ _ | exact (Below.refl _ _).alloc (Nat.le_refl _) _ | apply below_drewN))⟩
  · rcases Bool.eq_false_or_eq_true (least == 0) with t_l0 | t_l0
    · rcases Bool.eq_false_or_eq_true (most == 0) with t_s0 | t_s0
      · go_enter Tryz.func100, Tryz.ntmps100
        go_wp2
        go_quiet (fail)
        go_wp2
        go_ret
        exact ⟨ret_bool (by simp [oneC, k0, k1, k2, k3, k4]), (by repeat (first | exact Below.refl _ _ | exact (Below.refl _ _).alloc (Nat.le_refl _) _ | apply below_drewN))⟩
      · go_enter Tryz.func100, Tryz.ntmps100
        go_wp2
        go_quiet (fail)
        go_wp2
        go_ret
        exact ⟨ret_bool (by simp [oneC, k0, k1, k2, k3, k4]), (by repeat (first | exact Below.refl _ _ | exact (Below.refl _ _).alloc (Nat.le_refl _) _ | apply below_drewN))⟩
    · go_enter Tryz.func100, Tryz.ntmps100
      go_wp2
      go_quiet (fail)
      go_wp2
      go_ret
      exact ⟨ret_bool (by simp [oneC, k0, k1, k2, k3, k4]), (by repeat (first | exact Below.refl _ _ | exact (Below.refl _ _).alloc (Nat.le_refl _) _ | apply below_drewN))⟩

end Go.Proofs.YtilhicefhhgecaaGreatDoor

namespace Go.Proofs.YtilhicefhhgecaaGreatDoor
open Go.RowKit Pv

set_option maxHeartbeats 4000000 in
set_option maxRecDepth 100000 in
theorem ref07_one0 (B : Option Addr) (many least most : Int) (c m : Nat) (l : List Rng) (w : World) (hs : AtSet w B l) (HM : Hid (l.length = m)) :
    Calls Tryz.prog 151 #[.agg #[.int .u8 0, .slice B m c, .int .i64 many, .int .i64 least, .int .i64 most]] w fun e w' => e = .returned (.bool (oneC 0 (setB l) m many least most)) ∧ Below w.heap.size w w' := by
  have hl : m ≤ 140737488355328 := by have := hs.1; rwa [HM.out] at this
  clear hs HM
  rcases Bool.eq_false_or_eq_true ((m : Int) == 0) with t_n | t_n
  · rcases Bool.eq_false_or_eq_true (least == 0) with t_l0 | t_l0
    · rcases Bool.eq_false_or_eq_true (most == 0) with t_s0 | t_s0
      · rcases Bool.eq_false_or_eq_true (many == 0) with t_m0 | t_m0
        · go_enter Tryz.func151, Tryz.ntmps151
          go_wp2
          go_ret
          exact ⟨ret_bool (by simp [oneC, t_n, t_l0, t_s0, t_m0]), (by repeat (first | exact Below.refl _ _ | exact (Below.refl _ _).alloc (Nat.le_refl _) _ | apply below_drewN))⟩
        · go_enter Tryz.func151, Tryz.ntmps151
          go_wp2
          go_ret
          exact ⟨ret_bool (by simp [oneC, t_n, t_l0, t_s0, t_m0]), (by repeat (first | exact Below.refl _ _ | exact (Below.refl _ _).alloc (Nat.le_refl _) _ | apply below_drewN))⟩
      · go_enter Tryz.func151, Tryz.ntmps151
        go_wp2
        go_ret
        exact ⟨ret_bool (by simp [oneC, t_n, t_l0, t_s0]), (by repeat (first | exact Below.refl _ _ | exact (Below.refl _ _).alloc (Nat.le_refl _) _ | apply below_drewN))⟩
    · go_enter Tryz.func151, Tryz.ntmps151
      go_wp2
      go_ret
      exact ⟨ret_bool (by simp [oneC, t_n, t_l0]), (by repeat (first | exact Below.refl _ _ | exact (Below.refl _ _).alloc (Nat.le_refl _) _ | apply below_drewN))⟩
  · go_enter Tryz.func151, Tryz.ntmps151
    go_wp2
    go_ret
    exact ⟨ret_bool (by simp [oneC, t_n]), (by repeat (first | exact Below.refl _ _ | exact (Below.refl _ _).alloc (Nat.le_refl _) _ | apply below_drewN))⟩

set_option maxHeartbeats 4000000 in
set_option maxRecDepth 100000 in
theorem ref07_one1 (B : Option Addr) (many least most : Int) (c m : Nat) (l : List Rng) (w : World) (hs : AtSet w B l) (HM : Hid (l.length = m)) :
    Calls Tryz.prog 151 #[.agg #[.int .u8 1, .slice B m c, .int .i64 many, .int .i64 least, .int .i64 most]] w fun e w' => e = .returned (.bool (oneC 1 (setB l) m many least most)) ∧ Below w.heap.size w w' := by
  have hl : m ≤ 140737488355328 := by have := hs.1; rwa [HM.out] at this
  have HC := Lib.hid (fun (b : Bool) (h : setB l = b) (W : World) (kp : Keep w W) => show Calls Tryz.prog 190 #[.slice B m c] W fun e w' => e = .returned (.bool b) ∧ Below W.heap.size W w' from h ▸ ref06_May B c m l W (hs.keep kp) HM)
  clear hs HM
  rcases Bool.eq_false_or_eq_true ((m : Int) == 0) with t_n | t_n
  · rcases Bool.eq_false_or_eq_true (least == 0) with t_l0 | t_l0
    · rcases Bool.eq_false_or_eq_true (most == 0) with t_s0 | t_s0
      · rcases Bool.eq_false_or_eq_true (setB l) with t_sb | t_sb
        · have H_sb := Lib.hid t_sb; clear t_sb
          rcases Bool.eq_false_or_eq_true (many == 0) with t_m0 | t_m0
          · go_enter Tryz.func151, Tryz.ntmps151
            go_wp2_with (go_at_call 190; refine (HC.out true H_sb.out _ (Keep.alloc _ _)).mono ?_; rintro e w1 ⟨rfl, hb1⟩; obtain ⟨b0, b1, b2, b3, b4, b5, b6⟩ := box5 hb1)
            go_ret
            exact ⟨ret_bool (by simp [oneC, H_sb.out, t_l0, t_s0, t_m0]), (b6)⟩
          · go_enter Tryz.func151, Tryz.ntmps151
            go_wp2_with (go_at_call 190; refine (HC.out true H_sb.out _ (Keep.alloc _ _)).mono ?_; rintro e w1 ⟨rfl, hb1⟩; obtain ⟨b0, b1, b2, b3, b4, b5, b6⟩ := box5 hb1)
            go_ret
            exact ⟨ret_bool (by simp [oneC, H_sb.out, t_l0, t_s0, t_m0]), (b6)⟩
        · have H_sb := Lib.hid t_sb; clear t_sb
          go_enter Tryz.func151, Tryz.ntmps151
          go_wp2_with (go_at_call 190; refine (HC.out false H_sb.out _ (Keep.alloc _ _)).mono ?_; rintro e w1 ⟨rfl, hb1⟩; obtain ⟨b0, b1, b2, b3, b4, b5, b6⟩ := box5 hb1)
          go_ret
          exact ⟨ret_bool (by simp [oneC, H_sb.out]), (b6)⟩
      · rcases Bool.eq_false_or_eq_true (setB l) with t_sb | t_sb
        · have H_sb := Lib.hid t_sb; clear t_sb
          go_enter Tryz.func151, Tryz.ntmps151
          go_wp2_with (go_at_call 190; refine (HC.out true H_sb.out _ (Keep.alloc _ _)).mono ?_; rintro e w1 ⟨rfl, hb1⟩; obtain ⟨b0, b1, b2, b3, b4, b5, b6⟩ := box5 hb1)
          go_ret
          exact ⟨ret_bool (by simp [oneC, H_sb.out, t_l0, t_s0]), (b6)⟩
        · have H_sb := Lib.hid t_sb; clear t_sb
          go_enter Tryz.func151, Tryz.ntmps151
          go_wp2_with (go_at_call 190; refine (HC.out false H_sb.out _ (Keep.alloc _ _)).mono ?_; rintro e w1 ⟨rfl, hb1⟩; obtain ⟨b0, b1, b2, b3, b4, b5, b6⟩ := box5 hb1)
          go_ret
          exact ⟨ret_bool (by simp [oneC, H_sb.out]), (b6)⟩
    · rcases Bool.eq_false_or_eq_true (setB l) with t_sb | t_sb
      · have H_sb := Lib.hid t_sb; clear t_sb
        go_enter Tryz.func151, Tryz.ntmps151
        go_wp2_with (go_at_call 190; refine (HC.out true H_sb.out _ (Keep.alloc _ _)).mono ?_; rintro e w1 ⟨rfl, hb1⟩; obtain ⟨b0, b1, b2, b3, b4, b5, b6⟩ := box5 hb1)
        go_ret
        exact ⟨ret_bool (by simp [oneC, H_sb.out, t_l0]), (b6)⟩
      · have H_sb := Lib.hid t_sb; clear t_sb
        go_enter Tryz.func151, Tryz.ntmps151
        go_wp2_with (go_at_call 190; refine (HC.out false H_sb.out _ (Keep.alloc _ _)).mono ?_; rintro e w1 ⟨rfl, hb1⟩; obtain ⟨b0, b1, b2, b3, b4, b5, b6⟩ := box5 hb1)
        go_ret
        exact ⟨ret_bool (by simp [oneC, H_sb.out]), (b6)⟩
  · rcases Bool.eq_false_or_eq_true (setB l) with t_sb | t_sb
    · have H_sb := Lib.hid t_sb; clear t_sb
      rcases Bool.eq_false_or_eq_true (least == 0) with t_l0 | t_l0
      · rcases Bool.eq_false_or_eq_true (most == 0) with t_s0 | t_s0
        · rcases Bool.eq_false_or_eq_true (many == 0) with t_m0 | t_m0
          · go_enter Tryz.func151, Tryz.ntmps151
            go_wp2_with (go_at_call 190; refine (HC.out true H_sb.out _ (Keep.alloc _ _)).mono ?_; rintro e w1 ⟨rfl, hb1⟩; obtain ⟨b0, b1, b2, b3, b4, b5, b6⟩ := box5 hb1)
            go_ret
            exact ⟨ret_bool (by simp [oneC, H_sb.out, t_l0, t_s0, t_m0]), (b6)⟩
          · go_enter Tryz.func151, Tryz.ntmps151
            go_wp2_with (go_at_call 190; refine (HC.out true H_sb.out _ (Keep.alloc _ _)).mono ?_; rintro e w1 ⟨rfl, hb1⟩; obtain ⟨b0, b1, b2, b3, b4, b5, b6⟩ := box5 hb1)
            go_ret
            exact ⟨ret_bool (by simp [oneC, H_sb.out, t_l0, t_s0, t_m0]), (b6)⟩
        · go_enter Tryz.func151, Tryz.ntmps151
          go_wp2_with (go_at_call 190; refine (HC.out true H_sb.out _ (Keep.alloc _ _)).mono ?_; rintro e w1 ⟨rfl, hb1⟩; obtain ⟨b0, b1, b2, b3, b4, b5, b6⟩ := box5 hb1)
          go_ret
          exact ⟨ret_bool (by simp [oneC, H_sb.out, t_l0, t_s0]), (b6)⟩
      · go_enter Tryz.func151, Tryz.ntmps151
        go_wp2_with (go_at_call 190; refine (HC.out true H_sb.out _ (Keep.alloc _ _)).mono ?_; rintro e w1 ⟨rfl, hb1⟩; obtain ⟨b0, b1, b2, b3, b4, b5, b6⟩ := box5 hb1)
        go_ret
        exact ⟨ret_bool (by simp [oneC, H_sb.out, t_l0]), (b6)⟩
    · have H_sb := Lib.hid t_sb; clear t_sb
      go_enter Tryz.func151, Tryz.ntmps151
      go_wp2_with (go_at_call 190; refine (HC.out false H_sb.out _ (Keep.alloc _ _)).mono ?_; rintro e w1 ⟨rfl, hb1⟩; obtain ⟨b0, b1, b2, b3, b4, b5, b6⟩ := box5 hb1)
      go_ret
      exact ⟨ret_bool (by simp [oneC, H_sb.out]), (b6)⟩

set_option maxHeartbeats 4000000 in
set_option maxRecDepth 100000 in
theorem ref07_one2 (B : Option Addr) (many least most : Int) (c m : Nat) (l : List Rng) (w : World) (hs : AtSet w B l) (HM : Hid (l.length = m)) :
    Calls Tryz.prog 151 #[.agg #[.int .u8 2, .slice B m c, .int .i64 many, .int .i64 least, .int .i64 most]] w fun e w' => e = .returned (.bool (oneC 2 (setB l) m many least most)) ∧ Below w.heap.size w w' := by
  have hl : m ≤ 140737488355328 := by have := hs.1; rwa [HM.out] at this
  clear hs HM
  rcases Bool.eq_false_or_eq_true ((m : Int) == 0) with t_n | t_n
  · rcases Bool.eq_false_or_eq_true (least == 0) with t_l0 | t_l0
    · rcases Bool.eq_false_or_eq_true (most == 0) with t_s0 | t_s0
      · rcases Bool.eq_false_or_eq_true (decide (2 ≤ many)) with t_m2 | t_m2
        · go_enter Tryz.func151, Tryz.ntmps151
          go_wp2
          go_ret
          exact ⟨ret_bool (by simp [oneC, t_n, t_l0, t_s0, t_m2]), (by repeat (first | exact Below.refl _ _ | exact (Below.refl _ _).alloc (Nat.le_refl _) _ | apply below_drewN))⟩
        · go_enter Tryz.func151, Tryz.ntmps151
          go_wp2
          go_ret
          exact ⟨ret_bool (by simp [oneC, t_n, t_l0, t_s0, t_m2]), (by repeat (first | exact Below.refl _ _ | exact (Below.refl _ _).alloc (Nat.le_refl _) _ | apply below_drewN))⟩
      · go_enter Tryz.func151, Tryz.ntmps151
        go_wp2
        go_ret
        exact ⟨ret_bool (by simp [oneC, t_n, t_l0, t_s0]), (by repeat (first | exact Below.refl _ _ | exact (Below.refl _ _).alloc (Nat.le_refl _) _ | apply below_drewN))⟩
    · go_enter Tryz.func151, Tryz.ntmps151
      go_wp2
      go_ret
      exact ⟨ret_bool (by simp [oneC, t_n, t_l0]), (by repeat (first | exact Below.refl _ _ | exact (Below.refl _ _).alloc (Nat.le_refl _) _ | apply below_drewN))⟩
  · go_enter Tryz.func151, Tryz.ntmps151
    go_wp2
    go_ret
    exact ⟨ret_bool (by simp [oneC, t_n]), (by repeat (first | exact Below.refl _ _ | exact (Below.refl _ _).alloc (Nat.le_refl _) _ | apply below_drewN))⟩

set_option maxHeartbeats 4000000 in
set_option maxRecDepth 100000 in
theorem ref07_one3 (B : Option Addr) (many least most : Int) (c m : Nat) (l : List Rng) (w : World) (hs : AtSet w B l) (HM : Hid (l.length = m)) :
    Calls Tryz.prog 151 #[.agg #[.int .u8 3, .slice B m c, .int .i64 many, .int .i64 least, .int .i64 most]] w fun e w' => e = .returned (.bool (oneC 3 (setB l) m many least most)) ∧ Below w.heap.size w w' := by
  have hl : m ≤ 140737488355328 := by have := hs.1; rwa [HM.out] at this
  clear hs HM
  rcases Bool.eq_false_or_eq_true ((m : Int) == 0) with t_n | t_n
  · rcases Bool.eq_false_or_eq_true (least == 0) with t_l0 | t_l0
    · rcases Bool.eq_false_or_eq_true (most == 0) with t_s0 | t_s0
      · rcases Bool.eq_false_or_eq_true (decide (2 ≤ many)) with t_m2 | t_m2
        · go_enter Tryz.func151, Tryz.ntmps151
          go_wp2
          go_ret
          exact ⟨ret_bool (by simp [oneC, t_n, t_l0, t_s0, t_m2]), (by repeat (first | exact Below.refl _ _ | exact (Below.refl _ _).alloc (Nat.le_refl _) _ | apply below_drewN))⟩
        · go_enter Tryz.func151, Tryz.ntmps151
          go_wp2
          go_ret
          exact ⟨ret_bool (by simp [oneC, t_n, t_l0, t_s0, t_m2]), (by repeat (first | exact Below.refl _ _ | exact (Below.refl _ _).alloc (Nat.le_refl _) _ | apply below_drewN))⟩
      · go_enter Tryz.func151, Tryz.ntmps151
        go_wp2
        go_ret
        exact ⟨ret_bool (by simp [oneC, t_n, t_l0, t_s0]), (by repeat (first | exact Below.refl _ _ | exact (Below.refl _ _).alloc (Nat.le_refl _) _ | apply below_drewN))⟩
    · go_enter Tryz.func151, Tryz.ntmps151
      go_wp2
      go_ret
      exact ⟨ret_bool (by simp [oneC, t_n, t_l0]), (by repeat (first | exact Below.refl _ _ | exact (Below.refl _ _).alloc (Nat.le_refl _) _ | apply below_drewN))⟩
  · go_enter Tryz.func151, Tryz.ntmps151
    go_wp2
    go_ret
    exact ⟨ret_bool (by simp [oneC, t_n]), (by repeat (first | exact Below.refl _ _ | exact (Below.refl _ _).alloc (Nat.le_refl _) _ | apply below_drewN))⟩

set_option maxHeartbeats 4000000 in
set_option maxRecDepth 100000 in
theorem ref07_one4 (B : Option Addr) (many least most : Int) (c m : Nat) (l : List Rng) (w : World) (hs : AtSet w B l) (HM : Hid (l.length = m)) :
    Calls Tryz.prog 151 #[.agg #[.int .u8 4, .slice B m c, .int .i64 many, .int .i64 least, .int .i64 most]] w fun e w' => e = .returned (.bool (oneC 4 (setB l) m many least most)) ∧ Below w.heap.size w w' := by
  have hl : m ≤ 140737488355328 := by have := hs.1; rwa [HM.out] at this
  clear hs HM
  rcases Bool.eq_false_or_eq_true ((m : Int) == 0) with t_n | t_n
  · rcases Bool.eq_false_or_eq_true (least == 0) with t_l0 | t_l0
    · rcases Bool.eq_false_or_eq_true (most == 0) with t_s0 | t_s0
      · rcases Bool.eq_false_or_eq_true (many == 1) with t_m1 | t_m1
        · rcases Bool.eq_false_or_eq_true (decide (0 ≤ least)) with t_l1 | t_l1
          · rcases Bool.eq_false_or_eq_true (decide (least ≤ 16)) with t_l16 | t_l16
            · rcases Bool.eq_false_or_eq_true (most == -1) with t_s1 | t_s1
              · go_enter Tryz.func151, Tryz.ntmps151
                go_wp2
                go_ret
                exact ⟨ret_bool (by simp [oneC, t_n, t_m1, t_l1, t_l16, t_s1]), (by repeat (first | exact Below.refl _ _ | exact (Below.refl _ _).alloc (Nat.le_refl _) _ | apply below_drewN))⟩
              · rcases Bool.eq_false_or_eq_true (decide (least ≤ most)) with t_ls | t_ls
                · rcases Bool.eq_false_or_eq_true (decide (most ≤ 16)) with t_s16 | t_s16
                  · go_enter Tryz.func151, Tryz.ntmps151
                    go_wp2
                    go_ret
                    exact ⟨ret_bool (by simp [oneC, t_n, t_m1, t_l1, t_l16, t_s1, t_ls, t_s16]), (by repeat (first | exact Below.refl _ _ | exact (Below.refl _ _).alloc (Nat.le_refl _) _ | apply below_drewN))⟩
                  · go_enter Tryz.func151, Tryz.ntmps151
                    go_wp2
                    go_ret
                    exact ⟨ret_bool (by simp [oneC, t_n, t_m1, t_l1, t_l16, t_s1, t_ls, t_s16]), (by repeat (first | exact Below.refl _ _ | exact (Below.refl _ _).alloc (Nat.le_refl _) _ | apply below_drewN))⟩
                · go_enter Tryz.func151, Tryz.ntmps151
                  go_wp2
                  go_ret
                  exact ⟨ret_bool (by simp [oneC, t_n, t_m1, t_l1, t_l16, t_s1, t_ls]), (by repeat (first | exact Below.refl _ _ | exact (Below.refl _ _).alloc (Nat.le_refl _) _ | apply below_drewN))⟩
            · go_enter Tryz.func151, Tryz.ntmps151
              go_wp2
              go_ret
              exact ⟨ret_bool (by simp [oneC, t_n, t_m1, t_l1, t_l16]), (by repeat (first | exact Below.refl _ _ | exact (Below.refl _ _).alloc (Nat.le_refl _) _ | apply below_drewN))⟩
          · go_enter Tryz.func151, Tryz.ntmps151
            go_wp2
            go_ret
            exact ⟨ret_bool (by simp [oneC, t_n, t_m1, t_l1]), (by repeat (first | exact Below.refl _ _ | exact (Below.refl _ _).alloc (Nat.le_refl _) _ | apply below_drewN))⟩
        · go_enter Tryz.func151, Tryz.ntmps151
          go_wp2
          go_ret
          exact ⟨ret_bool (by simp [oneC, t_n, t_m1]), (by repeat (first | exact Below.refl _ _ | exact (Below.refl _ _).alloc (Nat.le_refl _) _ | apply below_drewN))⟩
      · rcases Bool.eq_false_or_eq_true (many == 1) with t_m1 | t_m1
        · rcases Bool.eq_false_or_eq_true (decide (0 ≤ least)) with t_l1 | t_l1
          · rcases Bool.eq_false_or_eq_true (decide (least ≤ 16)) with t_l16 | t_l16
            · rcases Bool.eq_false_or_eq_true (most == -1) with t_s1 | t_s1
              · go_enter Tryz.func151, Tryz.ntmps151
                go_wp2
                go_ret
                exact ⟨ret_bool (by simp [oneC, t_n, t_m1, t_l1, t_l16, t_s1]), (by repeat (first | exact Below.refl _ _ | exact (Below.refl _ _).alloc (Nat.le_refl _) _ | apply below_drewN))⟩
              · rcases Bool.eq_false_or_eq_true (decide (least ≤ most)) with t_ls | t_ls
                · rcases Bool.eq_false_or_eq_true (decide (most ≤ 16)) with t_s16 | t_s16
                  · go_enter Tryz.func151, Tryz.ntmps151
                    go_wp2
                    go_ret
                    exact ⟨ret_bool (by simp [oneC, t_n, t_m1, t_l1, t_l16, t_s1, t_ls, t_s16]), (by repeat (first | exact Below.refl _ _ | exact (Below.refl _ _).alloc (Nat.le_refl _) _ | apply below_drewN))⟩
                  · go_enter Tryz.func151, Tryz.ntmps151
                    go_wp2
                    go_ret
                    exact ⟨ret_bool (by simp [oneC, t_n, t_m1, t_l1, t_l16, t_s1, t_ls, t_s16]), (by repeat (first | exact Below.refl _ _ | exact (Below.refl _ _).alloc (Nat.le_refl _) _ | apply below_drewN))⟩
                · go_enter Tryz.func151, Tryz.ntmps151
                  go_wp2
                  go_ret
                  exact ⟨ret_bool (by simp [oneC, t_n, t_m1, t_l1, t_l16, t_s1, t_ls]), (by repeat (first | exact Below.refl _ _ | exact (Below.refl _ _).alloc (Nat.le_refl _) _ | apply below_drewN))⟩
            · go_enter Tryz.func151, Tryz.ntmps151
              go_wp2
              go_ret
              exact ⟨ret_bool (by simp [oneC, t_n, t_m1, t_l1, t_l16]), (by repeat (first | exact Below.refl _ _ | exact (Below.refl _ _).alloc (Nat.le_refl _) _ | apply below_drewN))⟩
          · go_enter Tryz.func151, Tryz.ntmps151
            go_wp2
            go_ret
            exact ⟨ret_bool (by simp [oneC, t_n, t_m1, t_l1]), (by repeat (first | exact Below.refl _ _ | exact (Below.refl _ _).alloc (Nat.le_refl _) _ | apply below_drewN))⟩
        · go_enter Tryz.func151, Tryz.ntmps151
          go_wp2
          go_ret
          exact ⟨ret_bool (by simp [oneC, t_n, t_m1]), (by repeat (first | exact Below.refl _ _ | exact (Below.refl _ _).alloc (Nat.le_refl _) _ | apply below_drewN))⟩
    · rcases Bool.eq_false_or_eq_true (many == 1) with t_m1 | t_m1
      · rcases Bool.eq_false_or_eq_true (decide (0 ≤ least)) with t_l1 | t_l1
        · rcases Bool.eq_false_or_eq_true (decide (least ≤ 16)) with t_l16 | t_l16
          · rcases Bool.eq_false_or_eq_true (most == -1) with t_s1 | t_s1
            · go_enter Tryz.func151, Tryz.ntmps151
              go_wp2
              go_ret
              exact ⟨ret_bool (by simp [oneC, t_n, t_m1, t_l1, t_l16, t_s1]), (by repeat (first | exact Below.refl _ _ | exact (Below.refl _ _).alloc (Nat.le_refl _) _ | apply below_drewN))⟩
            · rcases Bool.eq_false_or_eq_true (decide (least ≤ most)) with t_ls | t_ls
              · rcases Bool.eq_false_or_eq_true (decide (most ≤ 16)) with t_s16 | t_s16
                · go_enter Tryz.func151, Tryz.ntmps151
                  go_wp2
                  go_ret
                  exact ⟨ret_bool (by simp [oneC, t_n, t_m1, t_l1, t_l16, t_s1, t_ls, t_s16]), (by repeat (first | exact Below.refl _ _ | exact (Below.refl _ _).alloc (Nat.le_refl _) _ | apply below_drewN))⟩
                · go_enter Tryz.func151, Tryz.ntmps151
                  go_wp2
                  go_ret
                  exact ⟨ret_bool (by simp [oneC, t_n, t_m1, t_l1, t_l16, t_s1, t_ls, t_s16]), (by repeat (first | exact Below.refl _ _ | exact (Below.refl _ _).alloc (Nat.le_refl _) _ | apply below_drewN))⟩
              · go_enter Tryz.func151, Tryz.ntmps151
                go_wp2
                go_ret
                exact ⟨ret_bool (by simp [oneC, t_n, t_m1, t_l1, t_l16, t_s1, t_ls]), (by repeat (first | exact Below.refl _ _ | exact (Below.refl _ _).alloc (Nat.le_refl _) _ | apply below_drewN))⟩
          · go_enter Tryz.func151, Tryz.ntmps151
            go_wp2
            go_ret
            exact ⟨ret_bool (by simp [oneC, t_n, t_m1, t_l1, t_l16]), (by repeat (first | exact Below.refl _ _ | exact (Below.refl _ _).alloc (Nat.le_refl _) _ | apply below_drewN))⟩
        · go_enter Tryz.func151, Tryz.ntmps151
          go_wp2
          go_ret
          exact ⟨ret_bool (by simp [oneC, t_n, t_m1, t_l1]), (by repeat (first | exact Below.refl _ _ | exact (Below.refl _ _).alloc (Nat.le_refl _) _ | apply below_drewN))⟩
      · go_enter Tryz.func151, Tryz.ntmps151
        go_wp2
        go_ret
        exact ⟨ret_bool (by simp [oneC, t_n, t_m1]), (by repeat (first | exact Below.refl _ _ | exact (Below.refl _ _).alloc (Nat.le_refl _) _ | apply below_drewN))⟩
  · go_enter Tryz.func151, Tryz.ntmps151
    go_wp2
    go_ret
    exact ⟨ret_bool (by simp [oneC, t_n]), (by repeat (first | exact Below.refl _ _ | exact (Below.refl _ _).alloc (Nat.le_refl _) _ | apply below_drewN))⟩

set_option maxHeartbeats 4000000 in
set_option maxRecDepth 100000 in
theorem ref07_one5 (B : Option Addr) (k : Int) (many least most : Int) (c m : Nat) (l : List Rng) (w : World) (hs : AtSet w B l) (HM : Hid (l.length = m)) (hk5 : Hid (4 < k)) :
    Calls Tryz.prog 151 #[.agg #[.int .u8 k, .slice B m c, .int .i64 many, .int .i64 least, .int .i64 most]] w fun e w' => e = .returned (.bool (oneC k (setB l) m many least most)) ∧ Below w.heap.size w w' := by
  have hl : m ≤ 140737488355328 := by have := hs.1; rwa [HM.out] at this
  have k0 : (k == 0) = false := by have := hk5.out; simp; omega
  have k1 : (k == 1) = false := by have := hk5.out; simp; omega
  have k2 : (k == 2) = false := by have := hk5.out; simp; omega
  have k3 : (k == 3) = false := by have := hk5.out; simp; omega
  have k4 : (k == 4) = false := by have := hk5.out; simp; omega
  clear hs HM
  rcases Bool.eq_false_or_eq_true ((m : Int) == 0) with t_n | t_n
  · rcases Bool.eq_false_or_eq_true (least == 0) with t_l0 | t_l0
    · rcases Bool.eq_false_or_eq_true (most == 0) with t_s0 | t_s0
      · go_enter Tryz.func151, Tryz.ntmps151
        go_wp2
        go_ret
        exact ⟨ret_bool (by simp [oneC, k0, k1, k2, k3, k4]), (by repeat (first | exact Below.refl _ _ | exact (Below.refl _ _).alloc (Nat.le_refl _) _ | apply below_drewN))⟩
      · go_enter Tryz.func151, Tryz.ntmps151
        go_wp2
        go_ret
        exact ⟨ret_bool (by simp [oneC, k0, k1, k2, k3, k4]), (by repeat (first | exact Below.refl _ _ | exact (Below.refl _ _).alloc (Nat.le_refl _) _ | apply below_drewN))⟩
    · go_enter Tryz.func151, Tryz.ntmps151
      go_wp2
      go_ret
      exact ⟨ret_bool (by simp [oneC, k0, k1, k2, k3, k4]), (by repeat (first | exact Below.refl _ _ | exact (Below.refl _ _).alloc (Nat.le_refl _) _ | apply below_drewN))⟩
  · go_enter Tryz.func151, Tryz.ntmps151
    go_wp2
    go_ret
    exact ⟨ret_bool (by simp [oneC, k0, k1, k2, k3, k4]), (by repeat (first | exact Below.refl _ _ | exact (Below.refl _ _).alloc (Nat.le_refl _) _ | apply below_drewN))⟩

end Go.Proofs.YtilhicefhhgecaaGreatDoor

namespace Go.Proofs.YtilhicefhhgecaaGreatDoor
open Go.RowKit Pv

theorem kindcases {k : Int} (h : 0 ≤ k) : k = 0 ∨ k = 1 ∨ k = 2 ∨ k = 3 ∨ k = 4 ∨ 4 < k := by omega
/-- One node, whatever kind. -/
theorem ref07_one (B : Option Addr) (k many least most : Int) (c m : Nat) (l : List Rng) (w : World) (hs : AtSet w B l) (HM : Hid (l.length = m)) (hk : 0 ≤ k) :
    Calls Tryz.prog 151 #[.agg #[.int .u8 k, .slice B m c, .int .i64 many, .int .i64 least, .int .i64 most]] w fun e w' => e = .returned (.bool (Rx.oneB ⟨k, l, many, least, most⟩)) ∧ Below w.heap.size w w' := by
  have := oneC_eq ⟨k, l, many, least, most⟩
  rw [← this]; simp only [HM.out]
  rcases kindcases hk with rfl | rfl | rfl | rfl | rfl | h
  · exact ref07_one0 B many least most c m l w hs HM
  · exact ref07_one1 B many least most c m l w hs HM
  · exact ref07_one2 B many least most c m l w hs HM
  · exact ref07_one3 B many least most c m l w hs HM
  · exact ref07_one4 B many least most c m l w hs HM
  · exact ref07_one5 B k many least most c m l w hs HM (Lib.hid h)

def deepB (k : Int) : Bool := k == 2 || k == 3 || k == 4
theorem ref07_deeper (k : Int) (w : World) : Calls Tryz.prog 152 #[.int .u8 k] w fun e w' => e = .returned (.bool (deepB k)) ∧ w = w' := by
  rcases Bool.eq_false_or_eq_true (k == 2) with t2 | t2
  · go_enter Tryz.func152, Tryz.ntmps152
    go_wp2
    go_ret
    exact ⟨ret_bool (by simp [deepB, t2]), rfl⟩
  rcases Bool.eq_false_or_eq_true (k == 3) with t3 | t3
  · go_enter Tryz.func152, Tryz.ntmps152
    go_wp2
    go_ret
    exact ⟨ret_bool (by simp [deepB, t2, t3]), rfl⟩
  go_enter Tryz.func152, Tryz.ntmps152
  go_wp2
  go_ret
  exact ⟨ret_bool (by simp [deepB, t2, t3]), rfl⟩
theorem deepB_iff {x : Rx} (h : x.oneB = true) : deepB x.kind = decide (1 < x.kind) := by
  have h := Rx.One.of h
  rcases h with ⟨h, _⟩ | ⟨h, _⟩ | ⟨h | h, _⟩ | ⟨h, _⟩ <;> simp [deepB, h]

set_option maxHeartbeats 2000000 in
set_option maxRecDepth 100000 in
theorem ref07_Behind (A : Option Addr) (c n : Nat) (t : List Rx) (w0 : World) (h0 : AtRx w0 A t) (HL : Hid (t.length = n)) : ∀ (d : Nat), d ≤ 16 → ∀ (i : Nat) (w : World), Keep w0 w → i ≤ n →
    Calls Tryz.prog 107 #[.slice A n c, .int .i64 i, .int .i64 d] w fun e w' => e = .returned (.int .i64 (bR (behind t d i))) ∧ Below w.heap.size w w' := by
  intro d
  refine Nat.strongRecOn d ?_
  clear d
  intro d ih hd i w kp hi
  have hl : n ≤ 140737488355328 := by have := h0.1; rwa [HL.out] at this
  by_cases hin : i < n
  case neg =>
    have HN := Lib.hid (show bR (behind t d i) = -1 by rw [behind_none (by rw [List.getElem?_eq_none]; rw [HL.out]; omega)]; rfl)
    clear h0 ih
    go_enter Tryz.func107, Tryz.ntmps107
    go_wp2
    go_ret
    exact ⟨ret_int HN.out.symm, (by repeat (first | exact Below.refl _ _ | exact (Below.refl _ _).alloc (Nat.le_refl _) _ | apply below_drewN))⟩
  obtain ⟨b, off, k, B, cs, m, l, many, least, most, rfl, H5, hs, HM, hm, ⟨hk0, hk1⟩, ⟨hm0, hm1⟩, _, _, HX⟩ := h0.g5 HL hin
  have HS := Lib.hid hs
  have H1 := Lib.hid (fun (bb : Bool) (e : Rx.oneB ⟨k, l, many, least, most⟩ = bb) (W : World) (kp : Keep w0 W) => show Calls Tryz.prog 151 #[.agg #[.int .u8 k, .slice B m cs, .int .i64 many, .int .i64 least, .int .i64 most]] W fun e w' => e = .returned (.bool bb) ∧ Below W.heap.size W w' from e ▸ ref07_one B k many least most cs m l W (HS.out.keep kp) HM hk0)
  have HD := Lib.hid (fun (bb : Bool) (e : deepB k = bb) (W : World) => show Calls Tryz.prog 152 #[.int .u8 k] W fun e w' => e = .returned (.bool bb) ∧ W = w' from e ▸ ref07_deeper k W)
  have H5' := Lib.hid (H5.next kp)
  have ⟨y0, y1, y2, y3, y4, y5⟩ := H5.next kp
  have HIH := Lib.hid ih
  have HKP := Lib.hid kp
  clear hs H5 h0 ih kp
  have F5 := fun (w1 : World) (hb : Below w.heap.size w w1) => C5.next H5'.out (Keep.of hb)
  rcases Bool.eq_false_or_eq_true (Rx.oneB ⟨k, l, many, least, most⟩) with hone | hone
  case inr =>
    have HO := Lib.hid hone
    have HN := Lib.hid (show bR (behind t d i) = -1 by rw [behind_bad HX.out hone]; rfl)
    clear hone
    go_enter Tryz.func107, Tryz.ntmps107
    go_wp2_with (go_at_call 151; refine (H1.out false HO.out _ HKP.out).mono ?_; rintro e w1 ⟨rfl, hb1⟩)
    go_ret
    exact ⟨ret_int HN.out.symm, hb1⟩
  have HO := Lib.hid hone
  have HDB := Lib.hid (show deepB k = decide (1 < k) from deepB_iff hone)
  have HMA := Lib.hid (show 0 ≤ many from (Rx.One.of hone).many)
  clear hone
  by_cases hdeep : 1 < k ∧ d = 0
  · obtain ⟨hk2, rfl⟩ := hdeep
    have HN := Lib.hid (show bR (behind t 0 i) = -1 by rw [behind_deep HX.out hk2]; rfl)
    have HDT := Lib.hid (show deepB k = true by rw [HDB.out]; exact decide_eq_true hk2)
    go_enter Tryz.func107, Tryz.ntmps107
    go_wp2_with (first
      | (go_at_call 151; refine (H1.out true HO.out _ HKP.out).mono ?_; rintro e w1 ⟨rfl, hb1⟩; obtain ⟨z0, z1, z2, z3, z4, z5⟩ := F5 w1 hb1)
      | (go_at_call 152; refine (HD.out true HDT.out _).mono ?_; rintro e w2 ⟨rfl, rfl⟩))
    go_ret
    exact ⟨ret_int HN.out.symm, hb1⟩
  have HDP := Lib.hid (show 1 < k → 0 < d from fun h => by omega)
  have HALL := Lib.hid (behind_all HX.out HO.out d HDP.out)
  have hmany : 0 ≤ many := HMA.out
  obtain ⟨bb, hbb⟩ : ∃ bb, deepB k = bb := ⟨_, rfl⟩
  have HBB := Lib.hid hbb
  have hdz : bb = true → ((d : Int) == 0) = false := by
    rintro rfl
    rw [HDB.out] at hbb
    have := HDP.out (of_decide_eq_true hbb)
    simp; omega
  clear hbb hdeep
  have hdi : decide ((i : Int) < 0) = false := decide_eq_false (by omega)
  have hdn : decide (n ≤ i) = false := decide_eq_false (by omega)
  cases bb
  case' true => have hdz' := hdz rfl
  all_goals
    clear hdz
    go_enter Tryz.func107, Tryz.ntmps107
    go_wp2_with (first
      | (go_at_call 151; refine (H1.out true HO.out _ HKP.out).mono ?_; rintro e w1 ⟨rfl, hb1⟩; obtain ⟨z0, z1, z2, z3, z4, z5⟩ := F5 w1 hb1)
      | (go_at_call 152; refine (HD.out _ HBB.out _).mono ?_; rintro e w2 ⟨rfl, rfl⟩))
    have HB1 := Lib.hid hb1
    clear hb1
    go_loopw [1, 8] (fun at' j wr => ∃ q : Nat, j = .int .i64 q ∧ (q : Int) ≤ many ∧ at' = .int .i64 (bR (again (behind t (d - 1)) q (i + 1))) ∧ Below w.heap.size w wr) (fun _ j _ => (many - intOf j).toNat)
    case atStart => exact ⟨0, rfl, by omega, rfl, HB1.out⟩
    case round =>
      clear z0 z1 z2 z3 z4 z5 y0 y1 y2 y3 y4 y5
      obtain ⟨q, rfl, hq, rfl, hbel⟩ := hrel
      have HB := Lib.hid hbel
      clear hbel
      by_cases hlt : (q : Int) < many
      · cases ha : again (behind t (d - 1)) q (i + 1) with
        | none =>
          have HN := Lib.hid (show bR (behind t d i) = -1 by rw [HALL.out]; rw [again_more ha _ (by omega)]; rfl)
          simp only [bR_none]
          clear ha
          go_wp2
          go_ret
          exact ⟨ret_int HN.out.symm, HB.out⟩
        | some e =>
          have hen : e ≤ n := by have := again_in (t := t) (d := d - 1) ha (by rw [HL.out]; omega); rwa [HL.out] at this
          have hdp : 0 < d := by
            rcases Nat.eq_zero_or_pos d with h0 | h0
            · have hk' : ¬ 1 < k := fun h => by have := HDP.out h; omega
              have := Rx.many0 (Rx.One.of HO.out) (by simp only; omega)
              simp only at this
              omega
            · exact h0
          have HA := Lib.hid (show again (behind t (d - 1)) (q + 1) (i + 1) = behind t (d - 1) e by rw [again_snoc, ha]; rfl)
          have HC := Lib.hid (fun (W : World) (kp : Keep w0 W) => HIH.out (d - 1) (by omega) (by omega) e W kp hen)
          have hdc : (d : Int) - 1 = ((d - 1 : Nat) : Int) := by omega
          simp only [bR_some]
          clear ha
          go_wp2_with (go_at_call 107; refine (HC.out _ (HKP.out.trans (Keep.of HB.out))).mono ?_; rintro e w2 ⟨rfl, hb2⟩)
          go_roundw
          case rel => exact ⟨q + 1, by go_num, by omega, by rw [HA.out], HB.out.trans (hb2.mono HB.out.size)⟩
          case measure => simp [intOf]; omega
      · have hqm : many.toNat = q := by omega
        have HN := Lib.hid (show bR (behind t d i) = bR (again (behind t (d - 1)) q (i + 1)) by rw [HALL.out]; show bR (again _ many.toNat _) = _; rw [hqm])
        generalize bR (again (behind t (d - 1)) q (i + 1)) = r at *
        go_wp2
        go_ret
        exact ⟨ret_int HN.out.symm, HB.out⟩

end Go.Proofs.YtilhicefhhgecaaGreatDoor
