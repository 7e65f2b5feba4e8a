/- Walks: which pairs of states are not alike (the document's); the first state alike to one. PUT1 -/
import Derived.Test.YtjnjbcigbnjmkaaGiy
namespace Go.Proofs.Ytjnjbcigbnjmkaa
open Go.RowKit Pv

/-- What a pass has looked at. -/
def Dm (n n1 i k m s t c : Nat) : Prop := (s < i ∧ t < n ∧ c < n1) ∨ (s = i ∧ t < k ∧ c < n1) ∨ (s = i ∧ t = k ∧ c < m)
/-- The table of what is not alike. -/
def UnlikePost (d : Dfa) (n : Nat) (w : World) (e : Ending) (w' : World) : Prop :=
  ∃ g, e = .returned (.slice (some ⟨g, 0, none⟩) n n) ∧ w.heap.size ≤ g ∧ TbN w' g n n (fun s t => ¬ Lks d s t) ∧ Below w.heap.size w w'
/-- What is under way: the automaton's box, the table. -/
structure UnI (w wr : World) (n i : Nat) (v1 v2 v3 : Value) (R : Nat → Nat → Prop) : Prop where
  t : TbN wr (w.heap.size + 1) n i R
  d : Blk wr w.heap.size TDfa #[v1, v2, v3]
  b : Below w.heap.size w wr
section
variable {w wr w' : World} {n i : Nat} {v1 v2 v3 : Value} {R R' : Nat → Nat → Prop}
theorem UnI.next (h : UnI w wr n i v1 v2 v3 R) (hb : Below wr.heap.size wr w') : UnI w w' n i v1 v2 v3 R := ⟨h.t.next hb, h.d.below hb h.d.lt, h.b.trans (hb.mono h.b.size)⟩
theorem UnI.congr (h : UnI w wr n i v1 v2 v3 R) (e : ∀ a b, a < i → b < n → (R a b ↔ R' a b)) : UnI w wr n i v1 v2 v3 R' := ⟨h.t.congr e, h.d, h.b⟩
theorem UnI.set {k j : Nat} {b : Bool} (h : UnI w wr n i v1 v2 v3 R) (hk : k < i) (h1 : R' k j ↔ b = true) (h2 : ∀ a c, a < i → c < n → ¬ (a = k ∧ c = j) → (R a c ↔ R' a c)) : UnI w (wr.setCell ⟨w.heap.size + 1 + 1 + k, j, none⟩ (.bool b)) n i v1 v2 v3 R' :=
  ⟨h.t.set hk h1 h2, h.d.far (p := ⟨w.heap.size + 1 + 1 + k, j, none⟩) (by simp only; omega) _, h.b.setCell (p := ⟨w.heap.size + 1 + 1 + k, j, none⟩) (by simp only; omega) _⟩
end
/-- The passes. -/
def UnR (w : World) (d : Dfa) (n : Nat) (v1 v2 v3 : Value) (N : Nat) (gv : Value) (wr : World) : Prop :=
  ∃ (gb : Bool) (U : Nat → Nat → Prop), gv = .bool gb ∧ UnI w wr n n v1 v2 v3 U ∧ UnOk d U ∧ (gb = false → ∀ s t c, s < n → t < n → c < d.cuts.length → U (d.go s c) (d.go t c) → U s t) ∧ N = (if gb = true then n * n + 2 - cntU n U else 0)

set_option maxHeartbeats 4000000 in
set_option maxRecDepth 100000 in
theorem ref11_unlike (A1 A2 A3 : Option Addr) (c1 c2 c3 n1 n n3 : Nat) (d : Dfa) (w : World) (H : DfaAt w A1 A2 A3 n1 n n3 d) (hok : d.Ok) :
    Calls Try.prog 141 #[.agg #[.slice A1 n1 c1, .slice A2 n c2, .slice A3 n3 c3]] w (UnlikePost d n w) := by
  obtain ⟨b2, o2, b3, o3, e2, e3, hb2, hb3, e4, hrow, hacc⟩ := H.rows hok
  subst e2; subst e3
  obtain rfl := e4.symm
  have hn : n ≤ 64 := by have := hok.n2; have := H.hn.out; omega
  have hc : n1 ≤ 256 := by have := hok.c2; have := H.hc.out; omega
  have HNN := H.hn; have HNC := H.hc
  have HOK := Lib.hid hok; have HR := Lib.hid hrow; have HA := Lib.hid hacc
  have hm1 := fun W : World => run_make_row' (P := Try.prog) 119 24 (.slice none 0 0) 24 Try.underlying119 info_boolsG rfl .i64 .i64 n (by omega) (by omega) W
  have hm2 := fun W : World => run_make_row' (P := Try.prog) 24 4 (.bool false) 1 Try.underlying24 info_boolG rfl .i64 .i64 n (by omega) (by omega) W
  have HB0 := Lib.hid (((Below.refl w.heap.size w).alloc (Nat.le_refl _) (.cells #[.slice A1 n1 c1, .slice (some ⟨b2, o2, none⟩) n c2, .slice (some ⟨b3, o3, none⟩) n c3] TDfa)).alloc (by simp) (.cells (madeCells #[.slice none 0 0] n) TB2))
  have K0 := Lib.hid ((Blk.new w TDfa #[.slice A1 n1 c1, .slice (some ⟨b2, o2, none⟩) n c2, .slice (some ⟨b3, o3, none⟩) n c3]).alloc (.cells (madeCells #[.slice none 0 0] n) TB2))
  have T0 := TbN.made (R := fun a b => d.acc a ≠ d.acc b) (w.alloc (.cells #[.slice A1 n1 c1, .slice (some ⟨b2, o2, none⟩) n c2, .slice (some ⟨b3, o3, none⟩) n c3] TDfa)) n
  rw [show (w.alloc (.cells #[.slice A1 n1 c1, .slice (some ⟨b2, o2, none⟩) n c2, .slice (some ⟨b3, o3, none⟩) n c3] TDfa)).heap.size = w.heap.size + 1 by simp] at T0
  have I0 := Lib.hid (show UnI w _ n 0 _ _ _ _ from ⟨T0, K0.out, HB0.out⟩)
  clear hrow hacc H hok T0 HB0 K0
  go_enter Try.func141, Try.ntmps141
  go_wp2
  go_loopw [5] (fun iv wr => ∃ i : Nat, iv = .int .i64 i ∧ i ≤ n ∧ Hid (wr.heap.size = w.heap.size + 1 + 1 + i) ∧ Hid (UnI w wr n i (.slice A1 n1 c1) (.slice (some ⟨b2, o2, none⟩) n c2) (.slice (some ⟨b3, o3, none⟩) n c3) (fun a b => d.acc a ≠ d.acc b))) (fun iv _ => n - (intOf iv).toNat)
  case atStart => exact ⟨0, rfl, by omega, Lib.hid (by simp), I0⟩
  case round =>
    clear I0
    obtain ⟨i, rfl, hi, HSZ, HI⟩ := hrel
    have i1 : (0 : Int) ≤ (i : Int) := by omega
    by_cases hlt : i < n
    · have i2 : (i : Int) < (n : Int) := by omega
      have e0 : wr.cell? ⟨w.heap.size + 1, i, none⟩ = some (.slice none 0 0) := by have := HI.out.t.out.cell (i := i) hlt; simpa using this
      have f0 := HI.out.t.out.frozen i
      have hsz := HI.out.t.out.lt
      have hsz2 := HI.out.d.lt
      have ST := HI.out.t.step (R' := fun a b => d.acc a ≠ d.acc b ∧ (a < i ∨ b < 0)) (by rw [HSZ.out]) (by intro j h; omega) (fun a b ha _ => by constructor; exact fun h => ⟨h, .inl ha⟩; exact fun h => h.1)
      rw [World.setCell_alloc_past _ _ _ _ (by have := HSZ.out; omega)] at ST
      have IS := Lib.hid (show UnI w _ n (i + 1) _ _ _ _ from ⟨ST, (HI.out.d.far (p := ⟨w.heap.size + 1, i, none⟩) (by simp) _).alloc _, (HI.out.b.setCell (p := ⟨w.heap.size + 1, i, none⟩) (by simp) _).alloc (by have := HSZ.out; simp; omega) _⟩)
      have HS2 := Lib.hid (show ((wr.setCell ⟨w.heap.size + 1, i, none⟩ (.slice (some ⟨wr.heap.size, 0, none⟩) n n)).alloc (.cells (madeCells #[.bool false] n) TB1)).heap.size = w.heap.size + 1 + 1 + (i + 1) by have := HSZ.out; simp [World.setCell]; omega)
      have e1 := (HI.out.t.out.alloc (.cells (madeCells #[.bool false] n) TB1)).cell (i := i) hlt
      have f1 := (HI.out.t.out.alloc (.cells (madeCells #[.bool false] n) TB1)).frozen i
      simp only [Nat.lt_irrefl, if_false] at e1
      clear ST
      go_wp2
      go_loopw [6] (fun kv wr => ∃ k : Nat, kv = .int .i64 k ∧ k ≤ n ∧ Hid (wr.heap.size = w.heap.size + 1 + 1 + (i + 1)) ∧ Hid (UnI w wr n (i + 1) (.slice A1 n1 c1) (.slice (some ⟨b2, o2, none⟩) n c2) (.slice (some ⟨b3, o3, none⟩) n c3) (fun a b => d.acc a ≠ d.acc b ∧ (a < i ∨ b < k)))) (fun kv _ => n - (intOf kv).toNat)
      case atStart => exact ⟨0, rfl, by omega, HS2, IS⟩
      case round =>
        clear IS HS2 HI HSZ e0 f0 e1 f1 hsz hsz2
        obtain ⟨k, rfl, hk, HSZ, HI⟩ := hrel
        have i3 : (0 : Int) ≤ (k : Int) := by omega
        by_cases hkn : k < n
        · have i4 : (k : Int) < (n : Int) := by omega
          have r0 := HI.out.t.rowCell (by omega) (Nat.lt_succ_self i)
          have x0 := HI.out.t.cell (Nat.lt_succ_self i) hkn
          have fx := (HI.out.t.row i (Nat.lt_succ_self i)).frozen k
          obtain ⟨d0, d1, d2, _, _, _⟩ := Blk.three HI.out.d
          have kp := Keep.of HI.out.b
          have a0 := (kp.cell b3 (o3 + i) hb3).trans (HA.out i hlt)
          have a1 := (kp.cell b3 (o3 + k) hb3).trans (HA.out k hkn)
          have HNX := Lib.hid (fun (b : Bool) (hb : d.acc i ≠ d.acc k ↔ b = true) => show UnI w (wr.setCell ⟨w.heap.size + 1 + 1 + i, k, none⟩ (.bool b)).drew n (i + 1) _ _ _ (fun a c => d.acc a ≠ d.acc c ∧ (a < i ∨ c < k + 1)) from
            (HI.out.set (b := b) (Nat.lt_succ_self i) (by rw [← hb]; exact ⟨fun h => h.1, fun h => ⟨h, .inr (Nat.lt_succ_self k)⟩⟩) (fun a c ha hcn hne => by
              refine and_congr_right fun _ => ⟨fun h => by omega, fun h => ?_⟩
              rcases h with h | h
              · exact .inl h
              · rcases Nat.lt_or_ge c k with h2 | h2
                · exact .inr h2
                · exact .inl (by have : c = k := by omega
                                 have : a ≠ i := fun e => hne ⟨e, this⟩
                                 omega))).next (Below.refl _ _).drew)
          have HXC := Lib.hid x0
          obtain ⟨ai, hai⟩ : ∃ b, d.acc i = b := ⟨_, rfl⟩
          obtain ⟨ak, hak⟩ : ∃ b, d.acc k = b := ⟨_, rfl⟩
          rw [hai] at a0 HNX
          rw [hak] at a1 HNX
          have HS : Hid (wr.drew.cell? ⟨w.heap.size + 1, i, none⟩ = some (.slice (some ⟨w.heap.size + 1 + 1 + i, 0, none⟩) n n) ∧ wr.drew.cell? ⟨w.heap.size, 2, none⟩ = some (.slice (some ⟨b3, o3, none⟩) n c3) ∧ wr.drew.cell? ⟨b3, o3 + i, none⟩ = some (.bool ai) ∧ wr.drew.cell? ⟨b3, o3 + k, none⟩ = some (.bool ak)) := Lib.hid ⟨r0, d2, a0, a1⟩
          clear hai hak
          go_wp2
          refine wp_region_T 17 (fun W => W.cell? ⟨w.heap.size + 1, i, none⟩ = some (.slice (some ⟨w.heap.size + 1 + 1 + i, 0, none⟩) n n) ∧ W.cell? ⟨w.heap.size, 2, none⟩ = some (.slice (some ⟨b3, o3, none⟩) n c3) ∧ W.cell? ⟨b3, o3 + i, none⟩ = some (.bool ai) ∧ W.cell? ⟨b3, o3 + k, none⟩ = some (.bool ak)) (by kernel_rfl) ?_
          refine wpAnyT_take (i := 0) (v := ?_) rfl (by kernel_rfl) (by kernel_rfl) (by kernel_rfl) (by kernel_rfl) (by kernel_rfl) (fun _ _ _ h => h) (.inl ⟨rfl, ?_⟩) HS.out ?_
          rotate_left
          · intro W__ hW__
            obtain ⟨h1, h2, h3, h4⟩ := hW__
            go_simp
            (try with_reducible rfl)
          try simp only [Act.put]
          refine wpAnyT_take (i := 1) (v := ?_) rfl (by kernel_rfl) (by kernel_rfl) (by kernel_rfl) (by kernel_rfl) (by kernel_rfl) (fun _ _ _ h => h) (.inl ⟨rfl, ?_⟩) HS.out ?_
          rotate_left
          · intro W__ hW__
            obtain ⟨h1, h2, h3, h4⟩ := hW__
            go_simp
            (try with_reducible rfl)
          try simp only [Act.put]
          refine wpAnyT_take (i := 4) (v := ?_) rfl (by kernel_rfl) (by kernel_rfl) (by kernel_rfl) (by kernel_rfl) (by kernel_rfl) (fun _ _ _ h => h) (.inl ⟨rfl, ?_⟩) HS.out ?_
          rotate_left
          · intro W__ hW__
            obtain ⟨h1, h2, h3, h4⟩ := hW__
            go_simp
            (try with_reducible rfl)
          try simp only [Act.put]
          refine wpAnyT_take (i := 5) (v := ?_) rfl (by kernel_rfl) (by kernel_rfl) (by kernel_rfl) (by kernel_rfl) (by kernel_rfl) (fun _ _ _ h => h) (.inl ⟨rfl, ?_⟩) HS.out ?_
          rotate_left
          · intro W__ hW__
            obtain ⟨h1, h2, h3, h4⟩ := hW__
            go_simp
            (try with_reducible rfl)
          try simp only [Act.put]
          refine wpAnyT_take (i := 7) (v := ?_) rfl (by kernel_rfl) (by kernel_rfl) (by kernel_rfl) (by kernel_rfl) (by kernel_rfl) (fun _ _ _ h => h) (.inl ⟨rfl, ?_⟩) HS.out ?_
          rotate_left
          · intro W__ hW__
            obtain ⟨h1, h2, h3, h4⟩ := hW__
            go_simp
            (try with_reducible rfl)
          try simp only [Act.put]
          refine wpAnyT_take (i := 10) (v := ?_) rfl (by kernel_rfl) (by kernel_rfl) (by kernel_rfl) (by kernel_rfl) (by kernel_rfl) (fun _ _ _ h => h) (.inl ⟨rfl, ?_⟩) HS.out ?_
          rotate_left
          · intro W__ hW__
            obtain ⟨h1, h2, h3, h4⟩ := hW__
            go_simp
            (try with_reducible rfl)
          try simp only [Act.put]
          refine wpAnyT_take (i := 12) (v := ?_) rfl (by kernel_rfl) (by kernel_rfl) (by kernel_rfl) (by kernel_rfl) (by kernel_rfl) (fun _ _ _ h => h) (.inl ⟨rfl, ?_⟩) HS.out ?_
          rotate_left
          · intro W__ hW__
            obtain ⟨h1, h2, h3, h4⟩ := hW__
            go_simp
            (try with_reducible rfl)
          try simp only [Act.put]
          refine wpAnyT_take (i := 2) (v := ?_) rfl (by kernel_rfl) (by kernel_rfl) (by kernel_rfl) (by kernel_rfl) (by kernel_rfl) (fun _ _ _ h => h) (.inl ⟨rfl, ?_⟩) HS.out ?_
          rotate_left
          · intro W__ hW__
            obtain ⟨h1, h2, h3, h4⟩ := hW__
            go_simp
            (try with_reducible rfl)
          try simp only [Act.put]
          refine wpAnyT_take (i := 6) (v := ?_) rfl (by kernel_rfl) (by kernel_rfl) (by kernel_rfl) (by kernel_rfl) (by kernel_rfl) (fun _ _ _ h => h) (.inl ⟨rfl, ?_⟩) HS.out ?_
          rotate_left
          · intro W__ hW__
            obtain ⟨h1, h2, h3, h4⟩ := hW__
            go_simp
            (try with_reducible rfl)
          try simp only [Act.put]
          refine wpAnyT_take (i := 11) (v := ?_) rfl (by kernel_rfl) (by kernel_rfl) (by kernel_rfl) (by kernel_rfl) (by kernel_rfl) (fun _ _ _ h => h) (.inl ⟨rfl, ?_⟩) HS.out ?_
          rotate_left
          · intro W__ hW__
            obtain ⟨h1, h2, h3, h4⟩ := hW__
            go_simp
            (try with_reducible rfl)
          try simp only [Act.put]
          refine wpAnyT_take (i := 3) (v := ?_) rfl (by kernel_rfl) (by kernel_rfl) (by kernel_rfl) (by kernel_rfl) (by kernel_rfl) (fun _ _ _ h => h) (.inl ⟨rfl, ?_⟩) HS.out ?_
          rotate_left
          · intro W__ hW__
            obtain ⟨h1, h2, h3, h4⟩ := hW__
            go_simp
            (try with_reducible rfl)
          try simp only [Act.put]
          refine wpAnyT_take (i := 8) (v := ?_) rfl (by kernel_rfl) (by kernel_rfl) (by kernel_rfl) (by kernel_rfl) (by kernel_rfl) (fun _ _ _ h => h) (.inl ⟨rfl, ?_⟩) HS.out ?_
          rotate_left
          · intro W__ hW__
            obtain ⟨h1, h2, h3, h4⟩ := hW__
            go_simp
            (try with_reducible rfl)
          try simp only [Act.put]
          refine wpAnyT_take (i := 13) (v := ?_) rfl (by kernel_rfl) (by kernel_rfl) (by kernel_rfl) (by kernel_rfl) (by kernel_rfl) (fun _ _ _ h => h) (.inl ⟨rfl, ?_⟩) HS.out ?_
          rotate_left
          · intro W__ hW__
            obtain ⟨h1, h2, h3, h4⟩ := hW__
            go_simp
            (try with_reducible rfl)
          try simp only [Act.put]
          refine wpAnyT_take (i := 9) (v := ?_) rfl (by kernel_rfl) (by kernel_rfl) (by kernel_rfl) (by kernel_rfl) (by kernel_rfl) (fun _ _ _ h => h) (.inl ⟨rfl, ?_⟩) HS.out ?_
          rotate_left
          · intro W__ hW__
            obtain ⟨h1, h2, h3, h4⟩ := hW__
            go_simp
            (try with_reducible rfl)
          try simp only [Act.put]
          refine wpAnyT_take (i := 14) (v := ?_) rfl (by kernel_rfl) (by kernel_rfl) (by kernel_rfl) (by kernel_rfl) (by kernel_rfl) (fun _ _ _ h => h) (.inl ⟨rfl, ?_⟩) HS.out ?_
          rotate_left
          · intro W__ hW__
            obtain ⟨h1, h2, h3, h4⟩ := hW__
            go_simp
            (try with_reducible rfl)
          try simp only [Act.put]
          refine wpAnyT_take (i := 15) (v := ?_) rfl (by kernel_rfl) (by kernel_rfl) (by kernel_rfl) (by kernel_rfl) (by kernel_rfl) (fun _ _ _ h => h) (.inl ⟨rfl, ?_⟩) HS.out ?_
          rotate_left
          · intro W__ hW__
            obtain ⟨h1, h2, h3, h4⟩ := hW__
            go_simp
            (try with_reducible rfl)
          try simp only [Act.put]
          refine wpAnyT_take (i := 16) (v := ?_) rfl (by kernel_rfl) (by kernel_rfl) (by kernel_rfl) (by kernel_rfl) (by kernel_rfl) (fun _ _ _ h => h) (.inl ⟨rfl, ?_⟩) HS.out ?_
          rotate_left
          · intro W__ hW__
            obtain ⟨h1, h2, h3, h4⟩ := hW__
            go_simp
            (try with_reducible rfl)
          try simp only [Act.put]
          refine wpAnyT_end (i := 17) rfl (by kernel_rfl) rfl (by kernel_rfl) fun K__ hK__ => ?_
          unfold Oper.wp
          go_simp
          refine hK__ _ _ ?_
          clear hK__
          refine wpAnyT_done (by kernel_rfl) ?_ _
          go_wp2
          go_roundw
          case rel => exact ⟨k + 1, by go_num, by omega, Lib.hid (by have := HSZ.out; simp [World.setCell]; omega), Lib.hid (HNX.out _ (by cases ai <;> cases ak <;> simp))⟩
          case measure => simp [intOf]; omega
        · obtain rfl : n = k := by omega
          have HI2 := Lib.hid (HI.out.congr (R' := fun a b => d.acc a ≠ d.acc b) (fun a b _ hb => ⟨fun h => h.1, fun h => ⟨h, .inr hb⟩⟩))
          go_wp2
          go_roundw
          case rel => exact ⟨i + 1, by go_num, by omega, HSZ, HI2⟩
          case measure => simp [intOf]; omega
    · obtain rfl : n = i := by omega
      have HU0 : Hid (UnR w d n (.slice A1 n1 c1) (.slice (some ⟨b2, o2, none⟩) n c2) (.slice (some ⟨b3, o3, none⟩) n c3) (n * n + 2 - cntU n (fun a b => d.acc a ≠ d.acc b)) (.bool true) wr) := Lib.hid ⟨true, _, rfl, HI.out, UnOk.first d, (fun h => by cases h), (by rw [if_pos rfl])⟩
      clear HI HSZ
      go_wp2
      go_loopw [7] (fun gv wr => ∃ N, UnR w d n (.slice A1 n1 c1) (.slice (some ⟨b2, o2, none⟩) n c2) (.slice (some ⟨b3, o3, none⟩) n c3) N gv wr) (fun gv wr => leastN fun N => UnR w d n (.slice A1 n1 c1) (.slice (some ⟨b2, o2, none⟩) n c2) (.slice (some ⟨b3, o3, none⟩) n c3) N gv wr)
      case atStart => exact ⟨_, HU0.out⟩
      case round =>
        clear HU0 hlt hi
        obtain ⟨N0, hN0⟩ : ∃ N0, N0 = leastN fun N => UnR w d n (.slice A1 n1 c1) (.slice (some ⟨b2, o2, none⟩) n c2) (.slice (some ⟨b3, o3, none⟩) n c3) N u7 wr := ⟨_, rfl⟩
        have hR := leastN_spec hrel
        rw [← hN0] at hR
        have HN0 := Lib.hid hN0
        clear hrel hN0
        obtain ⟨gb, U, rfl, hi, hu, hcl, hN⟩ := hR
        cases gb
        case false =>
          have HFI := Lib.hid (hi.congr (R' := fun s t => ¬ Lks d s t) (fun a b ha hb => hu.all HOK.out (fun s t c hs ht hcc => hcl rfl s t c (by rw [← HNN.out]; exact hs) (by rw [← HNN.out]; exact ht) hcc) (by rw [HNN.out]; exact ha) (by rw [HNN.out]; exact hb)))
          clear hi hu hcl hN
          go_wp2
          go_ret
          exact ⟨w.heap.size + 1, rfl, Nat.le_succ _, HFI.out.t, HFI.out.b⟩
        case true =>
          have HP0 := Lib.hid (PassU.start (D := Dm n n1 0 0 0) hu (fun s t c h => by unfold Dm at h; omega))
          have HI0 := Lib.hid hi
          have HNU : Hid (N0 = n * n + 2 - cntU n U) := Lib.hid (by rw [hN, if_pos rfl])
          clear hi hu hcl hN
          go_wp2
          go_loopw [8, 7] (fun iv gv wr => ∃ (i : Nat) (gb : Bool) (V : Nat → Nat → Prop), iv = .int .i64 i ∧ gv = .bool gb ∧ i ≤ n ∧ Hid (UnI w wr n n (.slice A1 n1 c1) (.slice (some ⟨b2, o2, none⟩) n c2) (.slice (some ⟨b3, o3, none⟩) n c3) V) ∧ Hid (PassU d U V gb (Dm n n1 i 0 0))) (fun iv _ _ => n - (intOf iv).toNat)
          case atStart => exact ⟨0, false, U, rfl, rfl, by omega, HI0, HP0⟩
          case round =>
            clear HI0 HP0
            obtain ⟨i, gb, V, rfl, rfl, hi, HI, HP⟩ := hrel
            have i1 : (0 : Int) ≤ (i : Int) := by omega
            by_cases hlt : i < n
            · have i2 : (i : Int) < (n : Int) := by omega
              go_wp2
              go_loopw [9, 7] (fun kv gv wr => ∃ (k : Nat) (gb : Bool) (V : Nat → Nat → Prop), kv = .int .i64 k ∧ gv = .bool gb ∧ k ≤ n ∧ Hid (UnI w wr n n (.slice A1 n1 c1) (.slice (some ⟨b2, o2, none⟩) n c2) (.slice (some ⟨b3, o3, none⟩) n c3) V) ∧ Hid (PassU d U V gb (Dm n n1 i k 0))) (fun kv _ _ => n - (intOf kv).toNat)
              case atStart => exact ⟨0, gb, V, rfl, rfl, by omega, HI, HP⟩
              case round =>
                clear HI HP
                obtain ⟨k, gb, V, rfl, rfl, hk, HI, HP⟩ := hrel
                have i3 : (0 : Int) ≤ (k : Int) := by omega
                by_cases hkn : k < n
                · have i4 : (k : Int) < (n : Int) := by omega
                  go_wp2
                  go_loopw [10, 7] (fun mv gv wr => ∃ (m : Nat) (gb : Bool) (V : Nat → Nat → Prop), mv = .int .i64 m ∧ gv = .bool gb ∧ m ≤ n1 ∧ Hid (UnI w wr n n (.slice A1 n1 c1) (.slice (some ⟨b2, o2, none⟩) n c2) (.slice (some ⟨b3, o3, none⟩) n c3) V) ∧ Hid (PassU d U V gb (Dm n n1 i k m))) (fun mv _ _ => n1 - (intOf mv).toNat)
                  case atStart => exact ⟨0, gb, V, rfl, rfl, by omega, HI, HP⟩
                  case round =>
                    clear HI HP
                    obtain ⟨m, gb, V, rfl, rfl, hm, HI, HP⟩ := hrel
                    have i5 : (0 : Int) ≤ (m : Int) := by omega
                    obtain ⟨d0, d1, d2, _, _, _⟩ := Blk.three HI.out.d
                    by_cases hmn : m < n1
                    · have i6 : (m : Int) < (n1 : Int) := by omega
                      have r0 := HI.out.t.rowCell (Nat.le_refl _) hlt
                      have x0 := HI.out.t.cell hlt hkn
                      have fx := (HI.out.t.row i hlt).frozen k
                      by_cases hv : V i k
                      · rw [yes_t (p := V i k) hv] at x0
                        have HPN := Lib.hid (HP.out.more (D' := Dm n n1 i (k + 1) 0) (fun s t c h => by
                          by_cases e : s = i ∧ t = k
                          · obtain ⟨rfl, rfl⟩ := e; exact .inr fun _ => hv
                          · refine .inl ?_
                            unfold Dm at h ⊢
                            omega))
                        clear hv
                        go_wp2
                        go_roundw
                        case rel => exact ⟨k + 1, gb, V, by go_num, rfl, by omega, HI, HPN⟩
                        case measure => simp [intOf]; omega
                      · rw [yes_f (p := V i k) hv] at x0
                        obtain ⟨rb, ro, rc, hrb, k1, k2⟩ := HR.out i hlt
                        obtain ⟨sb, so, sc, hsb, l1, l2⟩ := HR.out k hkn
                        obtain ⟨k3, k4⟩ := k2 m hmn
                        obtain ⟨l3, l4⟩ := l2 m hmn
                        have kp := Keep.of HI.out.b
                        have k1 := (kp.cell _ _ hb2).trans k1
                        have k3 := (kp.cell _ _ hrb).trans k3
                        have l1 := (kp.cell _ _ hb2).trans l1
                        have l3 := (kp.cell _ _ hsb).trans l3
                        have HAD := Lib.hid (fun hvv => HP.out.add (D' := Dm n n1 i k (m + 1)) HOK.out (show i < d.next.length by rw [HNN.out]; exact hlt) (show k < d.next.length by rw [HNN.out]; exact hkn) (show m < d.cuts.length by rw [HNC.out]; exact hmn) (by rw [HNN.out]; exact k4) (by rw [HNN.out]; exact l4) hvv hv)
                        have HNV := Lib.hid (fun (hnv : ¬ V (d.go i m) (d.go k m)) => HP.out.more (D' := Dm n n1 i k (m + 1)) (fun s t c h => by
                          by_cases e : s = i ∧ t = k ∧ c = m
                          · obtain ⟨rfl, rfl, rfl⟩ := e; exact .inr fun h2 => absurd h2 hnv
                          · refine .inl ?_
                            unfold Dm at h ⊢
                            omega))
                        have y0 := HI.out.t.rowCell (Nat.le_refl _) k4
                        have z0 := HI.out.t.cell k4 l4
                        have HVV := Lib.hid (show V (d.go i m) (d.go k m) ∨ ¬ V (d.go i m) (d.go k m) from Classical.em _)
                        have HSET := Lib.hid (HI.out.set (b := true) (R' := fun a b => V a b ∨ (a = i ∧ b = k)) hlt (by simp) (fun a c _ _ hne => ⟨fun h => .inl h, fun h => h.elim id fun h => absurd h hne⟩))
                        obtain ⟨p, hp⟩ : ∃ p, d.go i m = p := ⟨_, rfl⟩
                        obtain ⟨q, hq⟩ : ∃ q, d.go k m = q := ⟨_, rfl⟩
                        rw [hp] at k3 k4 y0 z0 HVV HAD HNV
                        rw [hq] at l3 l4 z0 HVV HAD HNV
                        have j1 : (0 : Int) ≤ (p : Int) := by omega
                        have j2 : (p : Int) < (n : Int) := by omega
                        have j3 : (0 : Int) ≤ (q : Int) := by omega
                        have j4 : (q : Int) < (n : Int) := by omega
                        clear hv hp hq k2 l2
                        rcases HVV.out with hvv | hvv
                        · rw [yes_t (p := V p q) hvv] at z0
                          have HPN := Lib.hid (HAD.out hvv)
                          clear hvv HAD HNV HVV
                          go_wp2
                          go_quiet (fail)
                          rename_i nq
                          go_wp2
                          go_roundw
                          case rel => exact ⟨m + 1, true, _, by go_num, rfl, by omega, Lib.hid (HSET.out.next (below_drewN (Below.refl _ _) _)), HPN⟩
                          case measure => simp [intOf]; omega
                        · rw [yes_f (p := V p q) hvv] at z0
                          have HPN := Lib.hid (HNV.out hvv)
                          clear hvv HAD HNV HVV
                          go_wp2
                          go_quiet (fail)
                          rename_i nq
                          go_wp2
                          go_roundw
                          case rel => exact ⟨m + 1, gb, V, by go_num, rfl, by omega, Lib.hid (HI.out.next (below_drewN (Below.refl _ _) _)), HPN⟩
                          case measure => simp [intOf]; omega
                    · obtain rfl : n1 = m := by omega
                      have HPN := Lib.hid (HP.out.more (D' := Dm n n1 i (k + 1) 0) (fun s t c h => .inl (by unfold Dm at h ⊢; omega)))
                      go_wp2
                      go_roundw
                      case rel => exact ⟨k + 1, gb, V, by go_num, rfl, by omega, HI, HPN⟩
                      case measure => simp [intOf]; omega
                · obtain rfl : n = k := by omega
                  have HPN := Lib.hid (HP.out.more (D' := Dm n n1 (i + 1) 0 0) (fun s t c h => .inl (by unfold Dm at h ⊢; omega)))
                  go_wp2
                  go_roundw
                  case rel => exact ⟨i + 1, gb, V, by go_num, rfl, by omega, HI, HPN⟩
                  case measure => simp [intOf]; omega
            · obtain rfl : n = i := by omega
              have HFN : Hid (UnR w d n (.slice A1 n1 c1) (.slice (some ⟨b2, o2, none⟩) n c2) (.slice (some ⟨b3, o3, none⟩) n c3) (if gb = true then n * n + 2 - cntU n V else 0) (.bool gb) wr) := Lib.hid ⟨gb, V, rfl, HI.out, HP.out.ok, (fun hg s t c hs ht hcc => (HP.out.cl hg).2 s t c (by unfold Dm; rw [HNC.out] at hcc; omega)), rfl⟩
              have HLT := Lib.hid (show (if gb = true then n * n + 2 - cntU n V else 0) < N0 by
                have h1 := HNU.out
                have h2 := cntU_le n V
                have h3 := cntU_le n U
                cases gb with
                | true =>
                  have h4 := HP.out.up rfl
                  rw [HNN.out] at h4
                  rw [if_pos rfl]; omega
                | false => rw [if_neg (by simp)]; omega)
              generalize (if gb = true then n * n + 2 - cntU n V else 0) = N1 at *
              go_wp2
              go_roundw
              case rel => exact ⟨_, HFN.out⟩
              case measure => exact Nat.lt_of_le_of_lt (leastN_le HFN.out) (Nat.lt_of_lt_of_eq HLT.out HN0.out)
end Go.Proofs.Ytjnjbcigbnjmkaa
