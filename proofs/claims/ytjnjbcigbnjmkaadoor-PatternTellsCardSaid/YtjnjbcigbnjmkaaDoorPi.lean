/- Walks: a pattern's twin in new memory. -/
import Derived.Test.YtjnjbcigbnjmkaaDoorPh
namespace Go.Proofs.YtjnjbcigbnjmkaaDoor
open Go.RowKit Pv

theorem info_rx : (Tryd.prog.info? 40).map (fun i => (i.zero, i.size, i.bytes)) = some (some (.agg #[.int .u8 0, .slice none 0 0, .int .i64 0, .int .i64 0, .int .i64 0]), 5, 56) := by kernel_rfl
/-- A node of the call's own: its set too. -/
structure ORx (w : World) (base : Nat) (f : Nat → Value) (x : Rx) : Prop where
  kind : RU (f 0) x.kind
  set : OwnSet w base (f 1) x.set
  many : RI (f 2) x.many
  least : RI (f 3) x.least
  most : RI (f 4) x.most
theorem ORx.up {w w' : World} {base : Nat} {f : Nat → Value} {x : Rx} (h : ORx w base f x) (hu : ∀ v l, OwnSet w base v l → OwnSet w' base v l) : ORx w' base f x := ⟨h.1, hu _ _ h.2, h.3, h.4, h.5⟩
theorem ORx.rx {w : World} {base : Nat} {f : Nat → Value} {x : Rx} (h : ORx w base f x) (hl : x.set.length ≤ 140737488355328) : RRx w f x := ⟨h.1, OwnK.sl h.2 hl, h.3, h.4, h.5⟩
abbrev OwnRx (w : World) (base : Nat) (v : Value) (t : List Rx) : Prop := OwnK w base 40 5 (ORx w base) v t
theorem ownsRow_setNe {w : World} {b : Nat} {e : TypeId} {s n : Nat} {v : Value} {us : List Value} (h : w.ownsRow b e s v n us) {g : Nat} (hne : v.ownBlock ≠ some g) (i : Nat) (u : Value) :
    (w.setCell ⟨g, i, none⟩ u).ownsRow b e s v n us := by
  refine ⟨h.1, ?_⟩
  rcases h.2 with h2 | ⟨g', cap, cur, rfl, hg, hh, r⟩
  · exact .inl h2
  · have hgg : g' ≠ g := fun he => hne (by subst he; rfl)
    exact .inr ⟨g', cap, cur, rfl, hg, by rw [Below.heap_setCell _ _ _ _ (by simpa using hgg)]; exact hh, r⟩
theorem Src.many {w : World} {arr : Array Value} {t : TypeId} {size : Nat} (h : ∀ u ∈ arr.toList, u.oneCell' = true) (hs : arr.size = size) : Src (w.alloc (.cells arr t)) (some ⟨w.heap.size, 0, none⟩) size 1 arr.toList := by
  refine ⟨by simp [hs], h, fun _ => ⟨w.heap.size, 0, rfl, by simp, fun j u hu => ?_⟩⟩
  have := (Blk.new w t arr).cell (0 + j)
  rw [this, Nat.zero_add]
  simpa using hu

/-- What a round of the twin does to what the call owns. -/
theorem twin_step {w wr w1 w4 : World} {t : List Rx} {k : Nat} {A A' : Option Addr} {c c' : Nat} {us : List Value} {x : Rx} {B B' : Option Addr} {m s s' : Nat} {bx : List Value}
    (hbx : bx = [.int .u8 x.kind, .slice B' m s', .int .i64 x.many, .int .i64 x.least, .int .i64 x.most])
    (hx : t[k]? = some x) (hlen : (t.take k).length = k) (hbel : Below w.heap.size w wr) (hown : wr.ownsRow w.heap.size 40 5 (.slice A k c) k us) (hrel : RelK 5 (ORx wr w.heap.size) us (t.take k))
    (hb1 : Below (wr.alloc (.cells #[.int .u8 x.kind, .slice B m s, .int .i64 x.many, .int .i64 x.least, .int .i64 x.most] 40)).heap.size (wr.alloc (.cells #[.int .u8 x.kind, .slice B m s, .int .i64 x.many, .int .i64 x.least, .int .i64 x.most] 40)) w1)
    (hset : OwnSet w1 (wr.alloc (.cells #[.int .u8 x.kind, .slice B m s, .int .i64 x.many, .int .i64 x.least, .int .i64 x.most] 40)).heap.size (.slice B' m s') x.set)
    (hk : 0 ≤ x.kind ∧ x.kind ≤ 255) (hm : -9223372036854775808 ≤ x.many ∧ x.many ≤ 9223372036854775807) (hl : -9223372036854775808 ≤ x.least ∧ x.least ≤ 9223372036854775807) (ht : -9223372036854775808 ≤ x.most ∧ x.most ≤ 9223372036854775807)
    (own4 : w4.ownsRow w.heap.size 40 5 (.slice A' (k + 1) c') (k + 1) (us ++ bx))
    (gr4 : ((w1.setCell ⟨wr.heap.size, 1, none⟩ (.slice B' m s')).alloc (.cells #[.int .u8 x.kind, .slice B' m s', .int .i64 x.many, .int .i64 x.least, .int .i64 x.most] 40)).grownBy w4 (Value.slice A k c).ownBlock) :
    OwnRx w4 w.heap.size (.slice A' (k + 1) c') (t.take (k + 1)) ∧ Below w.heap.size w w4 := by
  subst hbx
  have hb0 : Below wr.heap.size wr w1 := ((Below.refl _ _).alloc (Nat.le_refl _) _).trans (hb1.mono (by simp))
  have b1 : Blk w1 wr.heap.size 40 #[.int .u8 x.kind, .slice B m s, .int .i64 x.many, .int .i64 x.least, .int .i64 x.most] := (Blk.new _ _ _).below hb1 (by simp)
  have hne : (Value.slice A k c).ownBlock ≠ some wr.heap.size := fun h => by have := (hown.lt _ h).2; omega
  have o1 : (w1.setCell ⟨wr.heap.size, 1, none⟩ (.slice B' m s')).ownsRow w.heap.size 40 5 (.slice A k c) k us := ownsRow_setNe (ownsRow_below hown hb0) hne 1 _
  have o3 := o1.alloc (.cells #[.int .u8 x.kind, .slice B' m s', .int .i64 x.many, .int .i64 x.least, .int .i64 x.most] 40)
  have up : ∀ v l, OwnSet wr w.heap.size v l → OwnSet w4 w.heap.size v l := fun v l h => (((h.below hb0).setFar b1 (by decide) 1 _).alloc _).grown o3 (by decide) gr4
  have new : OwnSet w4 w.heap.size (.slice B' m s') x.set := (((OwnK.lower hset (by simp; have := hbel.size; omega)).setFar b1 (by decide) 1 _).alloc _).grown o3 (by decide) gr4
  have hlen' : (t.take (k + 1)).length = k + 1 := by rw [take_snoc hx, List.length_append, hlen]; rfl
  refine ⟨⟨A', c', us ++ _, by rw [hlen'], by rw [hlen']; exact own4, ?_⟩, ?_⟩
  · rw [take_snoc hx]
    refine (hrel.mono fun f y _ h => h.up up).app (RelK.one (f := fun j => [Value.int .u8 x.kind, .slice B' m s', .int .i64 x.many, .int .i64 x.least, .int .i64 x.most].getD j undef) rfl ?_ ⟨⟨rfl, hk⟩, new, ⟨rfl, hm⟩, ⟨rfl, hl⟩, ⟨rfl, ht⟩⟩)
    intro j hj
    match j, hj with
    | 0, _ => rfl
    | 1, _ => rfl
    | 2, _ => rfl
    | 3, _ => rfl
    | 4, _ => rfl
  · have h1 : Below w.heap.size w (w1.setCell ⟨wr.heap.size, 1, none⟩ (.slice B' m s')) := (hbel.trans (hb0.mono hbel.size)).setCell (by simp only; exact hbel.size) _
    exact (h1.alloc h1.size _).grown gr4 (by simp; have := h1.size; simp at this; omega) (fun g hg => (o3.lt g hg).1)

set_option maxHeartbeats 2000000 in
set_option maxRecDepth 100000 in
theorem ref07_Twin (A : Option Addr) (c n : Nat) (t : List Rx) (w : World) (h : AtRx w A t) (HL : Hid (t.length = n)) (hn : n ≤ 1000) (HS : Hid (∀ (i : Nat) x, t[i]? = some x → x.set.length ≤ 60)) :
    Calls Tryd.prog 5 #[.slice A n c] w fun e w' => ∃ B c', e = .returned (.slice B n c') ∧ OwnRx w' w.heap.size (.slice B n c') t ∧ Below w.heap.size w w' := by
  obtain ⟨i0, hi0, hz0, hs0, hb0⟩ := info_parts info_rx
  go_enter Tryd.func5, Tryd.ntmps5
  go_wp2
  go_loopw [3, 4] (fun v i wr => ∃ k : Nat, i = .int .i64 k ∧ k ≤ n ∧ OwnRx wr w.heap.size v (t.take k) ∧ Below w.heap.size w wr) (fun _ i _ => n - (intOf i).toNat)
  case atStart => exact ⟨0, rfl, by omega, OwnK.nil, (by repeat (first | exact Below.refl _ _ | exact (Below.refl _ _).alloc (Nat.le_refl _) _ | apply below_drewN))⟩
  case round =>
    obtain ⟨k, rfl, hk, hown, hbel⟩ := hrel
    obtain ⟨A1, c1, us, rfl, hown, hrel⟩ := hown
    have hlk : (t.take k).length = k := by rw [List.length_take, HL.out]; omega
    rw [hlk] at hown ⊢
    have HO := Lib.hid hown; have HR := Lib.hid hrel; have HB := Lib.hid hbel; have HLK := Lib.hid hlk
    clear hown hrel hbel hlk
    by_cases hlt : k < n
    · obtain ⟨b, off, kd, B, cs, m, l, many, least, most, rfl, H5, hs, HM, hm, hkd, hma, hle, hmo, HX⟩ := h.g5 HL hlt
      obtain ⟨y0, y1, y2, y3, y4, y5⟩ := H5.next (Keep.of HB.out)
      have hm60 : m ≤ 60 := by have := HS.out k _ HX.out; simp only [HM.out] at this; exact this
      have HC := Lib.hid (fun (W : World) (kp : Keep w W) => ref06_Twin B cs m l W (hs.keep kp) HM (by omega))
      have HKA := Lib.hid ((Keep.of HB.out).trans (Keep.alloc wr (.cells #[.int .u8 kd, .slice B m cs, .int .i64 many, .int .i64 least, .int .i64 most] 40)))
      clear h hs H5
      go_wp2_with fail
      refine (HC.out _ HKA.out).mono ?_
      rintro e w1 ⟨B', s', rfl, hset, hb1⟩
      obtain ⟨z0, z1, z2, z3, z4, z5, _⟩ := box5 hb1
      have BK := Lib.hid (Blk.below (Blk.new wr 40 #[.int .u8 kd, .slice B m cs, .int .i64 many, .int .i64 least, .int .i64 most]) hb1 (by simp))
      have fz := BK.out.frozen 1
      have HB1 := Lib.hid hb1
      have HSET := Lib.hid hset
      clear hb1 hset
      have OW := Lib.hid ((ownsRow_setNe (ownsRow_below HO.out (((Below.refl _ _).alloc (Nat.le_refl _) _).trans (HB1.out.mono (by simp)))) (g := wr.heap.size) (fun h => by have := (HO.out.lt _ h).2; omega) 1 (.slice B' m s')).alloc (.cells #[.int .u8 kd, .slice B' m s', .int .i64 many, .int .i64 least, .int .i64 most] 40))
      have Q1 : Hid (k + 1 ≤ maxLen) := Lib.hid (by simp only [maxLen]; omega)
      have Q2 : Hid ((k + 1) * 56 ≤ 140737488355328) := Lib.hid (by omega)
      have Q3 : Hid (w.heap.size ≤ ((w1.setCell ⟨wr.heap.size, 1, none⟩ (.slice B' m s')).alloc (.cells #[.int .u8 kd, .slice B' m s', .int .i64 many, .int .i64 least, .int .i64 most] 40)).heap.size) := Lib.hid (by have h1 := HB.out.size; have h2 := HB1.out.size; simp at h2; simp; omega)
      have SRC0 := (Src.many (w := w1.setCell ⟨wr.heap.size, 1, none⟩ (.slice B' m s')) (arr := #[.int .u8 kd, .slice B' m s', .int .i64 many, .int .i64 least, .int .i64 most]) (t := 40) (size := 5) (by simp [Value.oneCell']) rfl)
      rw [show (w1.setCell ⟨wr.heap.size, 1, none⟩ (.slice B' m s')).heap.size = w1.heap.size by simp] at SRC0
      have SRC := Lib.hid SRC0
      clear SRC0
      go_wp2_with (at_builtin
                   go_must (refine wpList_append_src _ rfl (.tmp 20) (.tmp 22) 22 rfl w.heap.size 40 i0 (.agg #[.int .u8 0, .slice none 0 0, .int .i64 0, .int .i64 0, .int .i64 0]) 5 56 Tryd.underlying22 hi0 hz0 hs0 hb0 rfl (by decide) A1 c1 k us rfl OW.out _ 1 1 _ rfl SRC.out Q1.out Q2.out Q3.out ?_)
                   intro A4 c4 w4 own4 gr4 _
                   have G4 := Lib.hid gr4; have O4 := Lib.hid own4
                   clear gr4 own4)
      go_roundw
      case rel =>
        obtain ⟨r1, r2⟩ := twin_step (x := ⟨kd, l, many, least, most⟩) rfl HX.out HLK.out HB.out HO.out HR.out HB1.out HSET.out hkd hma hle hmo O4.out G4.out
        exact ⟨k + 1, by go_num, by omega, r1, r2⟩
      case measure => simp [intOf]; omega
    · have : k = n := by omega
      subst this
      have ht : t.take k = t := List.take_of_length_le (by rw [HL.out]; omega)
      have HT := Lib.hid ht
      clear ht h
      go_wp2
      go_ret
      exact ⟨A1, c1, rfl, by rw [← HT.out]; exact ⟨A1, c1, us, by rw [HLK.out], by rw [HLK.out]; exact HO.out, HR.out⟩, HB.out⟩

end Go.Proofs.YtjnjbcigbnjmkaaDoor
