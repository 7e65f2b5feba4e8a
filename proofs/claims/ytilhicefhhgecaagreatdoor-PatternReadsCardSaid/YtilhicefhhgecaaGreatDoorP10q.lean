/- Walks: slices.SortFunc at ranges: the row is sorted by its beginnings. PUT1 -/
import Derived.Test.YtilhicefhhgecaaGreatDoorP8q
import Derived.Test.YtilhicefhhgecaaGreatDoorRcq
import Derived.Shelf.SlSortCmp.NoneTotal
namespace Pv
open Go Go.RowKit
instance : Inhabited Rng := ⟨⟨0, 0⟩⟩
def encR (x : Rng) : List Value := [.int .i64 x.lo, .int .i64 x.hi]
end Pv
namespace Go.Proofs.YtilhicefhhgecaaGreatDoor
open Go.RowKit Go.Shelf Go.Lib Go.Sort Pv

set_option maxHeartbeats 1000000 in
theorem cmp_nan (x : Int) (w : World) : Calls Tryz.prog 173 #[.int .i64 x] w fun e w' => e = .returned (.bool false) ∧ w = w' := by
  go_enter Tryz.func173, Tryz.ntmps173
  go_wp2
  go_ret
  exact ⟨rfl, rfl⟩
set_option maxHeartbeats 1000000 in
set_option maxRecDepth 100000 in
theorem cmp_int (x y : Int) (w : World) : Calls Tryz.prog 220 #[.int .i64 x, .int .i64 y] w fun e w' => e = .returned (.int .i64 (Lib.compareInt x y)) ∧ w = w' := by
  have HX := Lib.hid (cmp_nan x w); have HY := Lib.hid (cmp_nan y w)
  have HR := Lib.hid (show (if x < y then -1 else if y < x then 1 else 0) = Lib.compareInt x y by unfold Lib.compareInt; rfl)
  generalize Lib.compareInt x y = r at *
  by_cases h1 : x < y
  · have HR2 : Hid (-1 = r) := Lib.hid (by rw [← HR.out, if_pos h1])
    clear HR
    go_enter Tryz.func220, Tryz.ntmps220
    go_wp2_with fail
    refine HX.out.mono ?_
    rintro e w' ⟨rfl, rfl⟩
    go_wp2_with fail
    refine HY.out.mono ?_
    rintro e w' ⟨rfl, rfl⟩
    go_wp2
    go_ret
    exact ⟨ret_int HR2.out, rfl⟩
  · by_cases h2 : y < x
    · have HR2 : Hid (1 = r) := Lib.hid (by rw [← HR.out, if_neg h1, if_pos h2])
      clear HR
      go_enter Tryz.func220, Tryz.ntmps220
      go_wp2_with fail
      refine HX.out.mono ?_
      rintro e w' ⟨rfl, rfl⟩
      go_wp2_with fail
      refine HY.out.mono ?_
      rintro e w' ⟨rfl, rfl⟩
      go_wp2
      go_ret
      exact ⟨ret_int HR2.out, rfl⟩
    · have HR2 : Hid (0 = r) := Lib.hid (by rw [← HR.out, if_neg h1, if_neg h2])
      clear HR
      go_enter Tryz.func220, Tryz.ntmps220
      go_wp2_with fail
      refine HX.out.mono ?_
      rintro e w' ⟨rfl, rfl⟩
      go_wp2_with fail
      refine HY.out.mono ?_
      rintro e w' ⟨rfl, rfl⟩
      go_wp2
      go_ret
      exact ⟨ret_int HR2.out, rfl⟩
set_option maxHeartbeats 1000000 in
set_option maxRecDepth 100000 in
/-- The closure: two boxes are laid. -/
theorem join_cmp (x y : Rng) (W : World) : Calls Tryz.prog 219 #[.agg #[.int .i64 x.lo, .int .i64 x.hi], .agg #[.int .i64 y.lo, .int .i64 y.hi]] W fun e w' => e = .returned (.int .i64 (Lib.compareInt x.lo y.lo)) ∧ ∃ q os', w' = grow (W.drewN q) os' := by
  have hcon := fun W' => cmp_int x.lo y.lo W'
  generalize Lib.compareInt x.lo y.lo = r at hcon ⊢
  go_enter Tryz.func219, Tryz.ntmps219
  go_wp2_with fail
  refine (hcon _).mono ?_
  rintro e w' ⟨rfl, rfl⟩
  go_wp2
  go_ret
  exact ⟨rfl, 0, _, by rw [alloc_eq_grow, alloc_eq_grow, grow_grow]; rfl⟩
theorem cmpLaysR (blk off size : Nat) (w : World) : CmpLays Tryz.prog 219 #[] encR 2 (fun x y => Lib.compareInt x.lo y.lo) blk off size w :=
  fun _ _ _ _ x y => join_cmp x y _
theorem ltR (x y : Rng) : ltOf (fun x y : Rng => Lib.compareInt x.lo y.lo) x y = decide (x.lo < y.lo) := by
  unfold ltOf Lib.compareInt
  by_cases h1 : x.lo < y.lo
  · simp [h1]
  · by_cases h2 : y.lo < x.lo <;> simp [h1, h2]
theorem swoR : SWO (ltOf fun x y : Rng => Lib.compareInt x.lo y.lo) where
  irrefl x := by rw [ltR]; simp
  trans x y z h1 h2 := by rw [ltR] at *; simp at *; omega
  ntrans x y z h1 h2 := by rw [ltR] at *; simp at *; omega
theorem flat_get (d : Array Rng) {i j : Nat} (hi : i < d.size) (hj : j < 2) : (flatK encR 2 d)[i * 2 + j]? = some ((encR d[i]!)[j]!) := by
  have h : i * 2 + j < d.size * 2 := by omega
  have h1 : (i * 2 + j) / 2 = i := by omega
  have h2 : (i * 2 + j) % 2 = j := by omega
  simp [flatK, h, h1, h2]
theorem encR_get (x : Rng) : ∀ j, j < 2 → (encR x)[j]! = (match j with | 0 => Value.int .i64 x.lo | _ => Value.int .i64 x.hi)
  | 0, _ => rfl
  | 1, _ => rfl
/-- The row as the sort asks for it. -/
theorem sort_holds {w : World} {b n c g : Nat} {us : List Value} {l : List Rng} (h : w.ownsRow b TRg 2 (.slice (some ⟨g, 0, none⟩) n c) n us) (hr : RelK 2 RRng us l) (hl : l.length = n) : HoldsK encR 2 w g 0 l.toArray ∧ g < w.heap.size ∧ b ≤ g := by
  rcases h.2 with ⟨hv, _⟩ | ⟨g', cap, cur, hv, hg, hh, hnc, hcm, hcs, htk⟩
  · cases hv
  injection hv with e1 e2 e3
  injection e1 with e1
  injection e1 with e1
  subst e1
  have hlt : g < w.heap.size := by
    rcases Nat.lt_or_ge g w.heap.size with hlt | hge
    · exact hlt
    · rw [Array.getElem?_eq_none hge] at hh; cases hh
  refine ⟨fun j hj => ?_, hlt, hg⟩
  rw [size_flatK] at hj
  simp only [List.size_toArray] at hj
  obtain ⟨i, q, rfl, hq⟩ : ∃ i q, j = i * 2 + q ∧ q < 2 := ⟨j / 2, j % 2, by omega, by omega⟩
  have hi : i < l.length := by omega
  obtain ⟨f, hf, ⟨h0, h1⟩⟩ := hr.2 i l[i] (List.getElem?_eq_getElem hi)
  have hf2 := hf q hq
  have hcur : cur[i * 2 + q]? = some (f q) := by
    rw [← htk, List.getElem?_take] at hf2
    split at hf2
    · simpa using hf2
    · cases hf2
  have e2 := flat_get l.toArray (i := i) (j := q) (by simpa using hi) hq
  have e3 : (l.toArray)[i]! = l[i] := by simp [hi]
  rw [e3] at e2
  have e4 : (flatK encR 2 l.toArray)[i * 2 + q]! = f q := by
    rw [getElem!_def, e2]
    simp only
    rw [encR_get _ q hq]
    match q, hq with
    | 0, _ => exact h0.1.symm
    | 1, _ => exact h1.1.symm
  constructor
  · rw [e4]
    simp [World.cell?, hh, hcur]
  · simp [World.frozen?, hh]
/-- .. and as it leaves it. -/
theorem own_sorted {w : World} {b n c g : Nat} {us : List Value} (h : w.ownsRow b TRg 2 (.slice (some ⟨g, 0, none⟩) n c) n us) (d : Array Rng) (hs : d.size = n) (m : Nat) (os : Array Obj) :
    (sortWorldK encR 2 w g 0 m d os).ownsRow b TRg 2 (.slice (some ⟨g, 0, none⟩) n c) n (flatK encR 2 d).toList ∧ Below b w (sortWorldK encR 2 w g 0 m d os) := by
  rcases h.2 with ⟨hv, _⟩ | ⟨g', cap, cur, hv, hg, hh, hnc, hcm, hcs, htk⟩
  · cases hv
  injection hv with e1 e2 e3
  injection e1 with e1
  injection e1 with e1
  subst e1; subst e3
  have hlt : g < w.heap.size := by
    rcases Nat.lt_or_ge g w.heap.size with hlt | hge
    · exact hlt
    · rw [Array.getElem?_eq_none hge] at hh; cases hh
  have hheap : ∀ k, k < w.heap.size → (sortWorldK encR 2 w g 0 m d os).heap[k]? = (w.heap.modify g (onCells (putCells id 0 (flatK encR 2 d))))[k]? := by
    intro k hk
    show (_ ++ os)[k]? = _
    rw [Array.getElem?_append_left (by show k < (w.heap.modify g _).size; simpa using hk)]
    rfl
  refine ⟨⟨by rw [Array.length_toList, size_flatK, hs], .inr ⟨g, c, putCells id 0 (flatK encR 2 d) cur, rfl, hg, ?_, hnc, hcm, ?_, ?_⟩⟩, rfl, rfl, rfl, ?_, fun k hk => ?_⟩
  · rw [hheap g hlt, Array.getElem?_modify, if_pos rfl, hh]
    rfl
  · rw [← hcs]; simp [putCells]
  · apply List.ext_getElem?
    intro j
    rw [List.getElem?_take]
    by_cases hj : j < n * 2
    · rw [if_pos hj]
      have hjc : j < cur.size := by rw [hcs]; have := Nat.mul_le_mul_right 2 hnc; omega
      have hjf : j < (flatK encR 2 d).size := by rw [size_flatK, hs]; exact hj
      rw [Array.getElem?_toList, Array.getElem?_toList]
      simp [putCells, hjc]
      rw [if_pos (by omega), getElem!_pos _ j hjf, Array.getElem?_eq_getElem hjf]
    · rw [if_neg hj, Array.getElem?_toList, Array.getElem?_eq_none (by rw [size_flatK, hs]; omega)]
  · show w.heap.size ≤ (_ ++ os).size
    rw [Array.size_append]
    show w.heap.size ≤ (w.heap.modify g _).size + _
    simp
  · rw [hheap k (by omega), Array.getElem?_modify, if_neg (by omega)]
theorem flat_rel (d : Array Rng) (hd : ∀ x, x ∈ d.toList → (-9223372036854775808 ≤ x.lo ∧ x.lo ≤ 9223372036854775807) ∧ (-9223372036854775808 ≤ x.hi ∧ x.hi ≤ 9223372036854775807)) : RelK 2 RRng (flatK encR 2 d).toList d.toList := by
  refine ⟨by rw [Array.length_toList, size_flatK, Array.length_toList], fun i x hx => ?_⟩
  have hi : i < d.size := by have := lt_of_get hx; rwa [Array.length_toList] at this
  have e : d[i]! = x := by
    rw [getElem!_def, ← Array.getElem?_toList, hx]
  have hb := hd x (mem_of_get hx)
  refine ⟨fun j => (encR x)[j]!, fun j hj => ?_, ⟨rfl, hb.1⟩, ⟨rfl, hb.2⟩⟩
  rw [Array.getElem?_toList, flat_get d hi hj, e]

theorem isAggR : ∀ w, (isAgg (Tryz.sortR_ren.t 24)).run Tryz.prog w = .ok true w := fun w => by kernel_rfl
theorem sizeOfR : ∀ w, (Go.sizeOf (Tryz.sortR_ren.t 24)).run Tryz.prog w = .ok 2 w := fun w => by kernel_rfl

/-- A set of the call's own, sorted. -/
theorem sort_set (A : Option Addr) (n c b : Nat) (l : List Rng) (w : World) (h : OwnSet w b (.slice A n c) l) (hlim : n ≤ 100000) :
    Calls Tryz.prog 218 #[.slice A n c, .func (.func 219) #[] #[]] w fun e w' => e = .returned (.tuple #[]) ∧ ∃ m, m.Perm l ∧ UpR m ∧ OwnSet w' b (.slice A n c) m ∧ Below b w w' := by
  by_cases h0 : n = 0
  · subst h0
    have hl : l = [] := by
      obtain ⟨_, _, _, hv, _⟩ := h
      injection hv with _ e2 _
      exact List.eq_nil_of_length_eq_zero e2.symm
    subst hl
    exact (AnyF.slices_SortFunc_none Tryz.sortR A c _ w).mono fun e w' ⟨he, hw⟩ => ⟨he, [], List.Perm.refl _, by simp [UpR], by rw [hw]; exact h, by rw [hw]; exact Below.refl _ _⟩
  have hn : 0 < n := by omega
  obtain ⟨A', c', us, hv, ho, hr⟩ := h
  injection hv with e1 e2 e3
  subst e1; subst e3
  obtain ⟨g, rfl⟩ : ∃ g, A = some ⟨g, 0, none⟩ := by
    rcases ho.2 with ⟨hv, h0⟩ | ⟨g, cap, cur, hv, _⟩
    · omega
    · injection hv with e; exact ⟨g, e⟩
  rw [← e2] at ho
  obtain ⟨hH, hblk, _⟩ := sort_holds ho hr e2.symm
  have eg : ∀ args w, (callFunc 219 args).run Tryz.prog w = .ok (.enter 219 args) w := enters_of Tryz.func219 (by kernel_rfl) rfl
  have hsz : l.toArray.size = n := by rw [List.size_toArray]; exact e2.symm
  have hcon := AnyQ.slices_SortFunc Tryz.sortR 2 isAggR sizeOfR encR (fun _ => rfl) (fun x v hv => by simp [encR] at hv; rcases hv with rfl | rfl <;> rfl) (fun x y => Lib.compareInt x.lo y.lo) swoR 219 #[] g 0 c l.toArray w eg (cmpLaysR g 0 _ w) hH hblk (by rw [hsz]; omega)
  rw [hsz] at hcon
  refine hcon.mono ?_
  rintro e w' ⟨rfl, d', q, os, ⟨p1, _, p3⟩, hso, rfl⟩
  have hs' : d'.size = n := by rw [p1]; exact hsz
  have e4 : (d'.extract 0 n).toList = d'.toList := by rw [← hs', Array.extract_size]
  have e5 : (l.toArray.extract 0 n).toList = l := by rw [← hsz, Array.extract_size]
  rw [e4, e5] at p3
  obtain ⟨k1, k2⟩ := own_sorted ho d' hs' q os
  have hbd : ∀ x, x ∈ l → (-9223372036854775808 ≤ x.lo ∧ x.lo ≤ 9223372036854775807) ∧ (-9223372036854775808 ≤ x.hi ∧ x.hi ≤ 9223372036854775807) := fun x hx => by
    obtain ⟨i, hi⟩ := List.getElem?_of_mem hx
    obtain ⟨f, _, ⟨h0, h1⟩⟩ := hr.2 i x hi
    exact ⟨h0.2, h1.2⟩
  refine ⟨rfl, d'.toList, p3, ?_, ⟨_, c, _, by rw [Array.length_toList, hs'], by rw [Array.length_toList, hs']; exact k1, flat_rel d' fun x hx => hbd x (p3.mem_iff.1 hx)⟩, k2⟩
  refine List.pairwise_iff_getElem.2 fun i j hi hj hij => ?_
  rw [Array.length_toList] at hi hj
  have h1 := hso i j (Nat.zero_le _) hij (by omega)
  rw [ltR] at h1
  have h2 := of_decide_eq_false h1
  rw [getElem!_pos d' i hi, getElem!_pos d' j hj] at h2
  simp only [Array.getElem_toList]
  omega
end Go.Proofs.YtilhicefhhgecaaGreatDoor
