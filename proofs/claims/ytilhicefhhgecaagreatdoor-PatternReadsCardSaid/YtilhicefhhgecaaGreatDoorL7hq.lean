/- Walks: does a text tell that; is that the error? (laws of the patterns' chapter). PUT1 -/
import Derived.Test.YtilhicefhhgecaaGreatDoorP25q
import Derived.Test.YtilhicefhhgecaaGreatDoorP21q
import Derived.Test.YtilhicefhhgecaaGreatDoorYeq
import Derived.Test.YtilhicefhhgecaaGreatDoorQgq
import Derived.Test.YtilhicefhhgecaaGreatDoorTaq
import Derived.Lib.Join
import Derived.Test.YtilhicefhhgecaaGreatDoorPjq
import Derived.Lib.AppendIntMem
import Derived.Laws.StructEq
import Derived.Deep.RegionHeld3
import Derived.Deep.RegionLaw
import Derived.Test.YtilhicefhhgecaaGreatDoorPgq
import Derived.Test.YtilhicefhhgecaaGreatDoorHsq
import Derived.Test.YtilhicefhhgecaaGreatDoorP17q
import Derived.Test.YtilhicefhhgecaaGreatDoorP7q
import Derived.Test.YtilhicefhhgecaaGreatDoorRcq
import Derived.Test.YtilhicefhhgecaaGreatDoorL9aq
import Derived.Test.YtilhicefhhgecaaGreatDoorQ17q
import Derived.Test.YtilhicefhhgecaaGreatDoorUeq
namespace Go.Proofs.YtilhicefhhgecaaGreatDoor
open Go.RowKit Pv
/-- What the library has laid: what reading asks, what writing asks. -/
structure T7 (B : Nat) (w : World) : Prop where
  v : TabV B w
  p : TabsP B w
/-- Parse, opened: how many nodes. -/
theorem parse7 (s : ByteArray) (x : List Rx × Int) (w : World) (B : Nat) (hs : s.size ≤ 20000) (hx : parseB (bsl s) = x) (hT : T7 B w) (hB : B ≤ w.heap.size) :
    Calls Tryz.prog 12 #[.string s] w fun e w' => ∃ A c, e = .returned (.tuple #[.slice A x.1.length c, .int .i64 x.2]) ∧ OwnRx w' w.heap.size (.slice A x.1.length c) x.1 ∧ Below w.heap.size w w' := by
  refine (pattern_ParseG s w B hs (fun R _ => esc_ok R B) hT.v hB).mono ?_
  rw [hx]
  rintro e w' ⟨A, n, c, rfl, h1, h2⟩
  obtain ⟨A', c', us, hv, _⟩ := id h1
  injection hv with e1 e2 e3
  subst e2
  exact ⟨A, c, rfl, h1, h2⟩

end Go.Proofs.YtilhicefhhgecaaGreatDoor

namespace Go.Proofs.YtilhicefhhgecaaGreatDoor
open Go.RowKit Pv
theorem same7 (A C : Option Addr) (c d n : Nat) (t : List Rx) (w : World) (ha : AtRx w A t) (hb : AtRx w C t) (HL : Hid (t.length = n)) :
    Calls Tryz.prog 30 #[.slice A n c, .slice C n d] w fun e w' => e = .returned (.bool true) ∧ Below w.heap.size w w' := by
  have h := ref07_Same A C c d n n t t w ha hb HL HL
  rw [decide_eq_true rfl] at h
  exact h
end Go.Proofs.YtilhicefhhgecaaGreatDoor

namespace Pv
open Go Go.RowKit
theorem sumB_le {q : List Int} {i n : Nat} (h : sumB (q.drop i) = n) : (n = 0 → q.length ≤ i) ∧ (n ≠ 0 → i < q.length) := by
  by_cases hi : i < q.length
  · rw [List.drop_eq_getElem_cons hi] at h
    have : 1 ≤ n := by
      rw [← h]
      unfold sumB
      have : 1 ≤ (bytesP q[i].toNat).length := by unfold bytesP; (repeat' split) <;> simp
      omega
    exact ⟨fun _ => by omega, fun _ => hi⟩
  · rw [List.drop_eq_nil_of_le (by omega)] at h
    have : n = 0 := h.symm
    exact ⟨fun _ => by omega, fun h => absurd this h⟩
end Pv
namespace Go.Proofs.YtilhicefhhgecaaGreatDoor
open Go.RowKit Pv
/-- Code points in memory of the call's own. -/
def PtsO (w : World) (b : Nat) (v : Value) (q : List Int) : Prop := ∃ A c, v = .slice A q.length c ∧ w.ownsRow b 3 1 (.slice A q.length c) q.length (q.map (Value.int .i64))
set_option maxHeartbeats 1000000 in
set_option maxRecDepth 100000 in
theorem ref01_PointsV (s : ByteArray) (w : World) (hs : s.size ≤ 20000) :
    Calls Tryz.prog 65 #[.string s] w fun e w' => Below w.heap.size w w' ∧ ∃ v, e = .returned (.tuple #[v, .bool (Lib.validD (bsl s))]) ∧ (Lib.validD (bsl s) = true → ∃ q, ptsZ (bsl s) = some q ∧ q.length ≤ s.size ∧ (∀ x, x ∈ q → 0 ≤ x ∧ x ≤ 1114111) ∧ PtsO w' w.heap.size v q) := by
  obtain ⟨i0, hi0, hz0, hs0, hb0⟩ := info_parts info_intU
  have HNX := Lib.hid (fun (k : Nat) (W : World) (h : k < s.size) => ref01_Next s k W (by omega) h)
  obtain ⟨l, HL⟩ : ∃ l, Hid (bsl s = l) := ⟨_, Lib.hid rfl⟩
  have HLen : Hid (l.length = s.size) := Lib.hid (by rw [← HL.out, bsl_len])
  rw [HL.out] at HNX ⊢
  obtain ⟨ans, HA⟩ : ∃ ans, Hid (Lib.validD l = ans) := ⟨_, Lib.hid rfl⟩
  rw [HA.out]
  go_enter Tryz.func65, Tryz.ntmps65
  go_wp2
  go_loopw [4, 5] (fun o i wr => ∃ (k : Nat) (A : Option Addr) (c : Nat) (acc : List Int), i = .int .i64 k ∧ k ≤ s.size ∧ acc.length ≤ k ∧ o = .slice A acc.length c ∧ wr.ownsRow w.heap.size 3 1 (.slice A acc.length c) acc.length (acc.map (Value.int .i64)) ∧ Lib.validD (l.drop k) = ans ∧ Below w.heap.size w wr ∧ Hid ((∀ q, ptsZ (l.drop k) = some q → ptsZ l = some (acc ++ q)) ∧ ∀ x, x ∈ acc → 0 ≤ x ∧ x ≤ 1114111)) (fun _ i _ => s.size - (intOf i).toNat)
  case atStart => exact ⟨0, none, 0, [], rfl, by omega, by simp, rfl, World.ownsRow_nil _ _ _ _, by simpa using HA.out, Below.refl _ _, Lib.hid ⟨fun q h => by simpa using h, by simp⟩⟩
  case round =>
    obtain ⟨k, A, c, acc, rfl, hk, hacc, rfl, hown, hval, hb, HQ⟩ := hrel
    have HO := Lib.hid hown; have HB := Lib.hid hb; have HV := Lib.hid hval
    clear hown hb hval
    by_cases hlt : k < s.size
    · have H1 := HNX.out k wr hlt
      have hne : l.drop k ≠ [] := by
        intro h; have := congrArg List.length h; rw [List.length_drop, HLen.out] at this; simp at this; omega
      have HST := ptsL_step hne
      have HVV := ptsL_valid _ (l.drop k) (Nat.le_refl _)
      cases hx : nextP (l.drop k) with
      | none =>
        rw [hx] at H1 HST
        have HF := Lib.hid (show false = ans by rw [← HV.out, ← HVV, HST]; rfl)
        have HC := Lib.hid H1
        clear H1 HST HVV hx hne
        go_wp2_with fail
        refine HC.out.mono ?_
        rintro e w1 ⟨hb1, rfl⟩
        have B1 := Lib.hid (HB.out.trans (hb1.mono HB.out.size))
        clear hb1
        go_wp2
        go_ret2
        exact ⟨B1.out, _, ret_vb HF.out, fun h => by rw [← HF.out] at h; cases h⟩
      | some p =>
        obtain ⟨n, q⟩ := p
        have hsz := nextP_size hx
        rw [List.length_drop, HLen.out] at hsz
        obtain ⟨q1, q4, qk, hn⟩ := hsz
        rw [hx] at H1 HST
        have HV2 := Lib.hid (show Lib.validD (l.drop (k + q)) = ans by
          rw [← ptsL_valid _ _ (Nat.le_refl _), ← HV.out, ← HVV, HST]
          simp [List.drop_drop])
        have HC := Lib.hid H1
        have Q1 : Hid (acc.length + 1 ≤ maxLen) := Lib.hid (by simp only [maxLen]; omega)
        have Q2 : Hid ((acc.length + 1) * 8 ≤ 140737488355328) := Lib.hid (by omega)
        obtain ⟨m, hm⟩ : ∃ m : Int, (n : Int) = m := ⟨_, rfl⟩
        have m0 : 0 ≤ m := by omega
        have m1 : m ≤ 1114111 := by omega
        have HQ2 : Hid ((∀ u, ptsZ (l.drop (k + q)) = some u → ptsZ l = some ((acc ++ [m]) ++ u)) ∧ ∀ x, x ∈ acc ++ [m] → 0 ≤ x ∧ x ≤ 1114111) := Lib.hid (by
          refine ⟨fun u hu => ?_, fun x hx => ?_⟩
          · rw [List.append_assoc]
            refine HQ.out.1 _ ?_
            unfold ptsZ at hu ⊢
            rw [HST]
            simp only [List.drop_drop]
            cases hp : ptsL (l.drop (k + q)) with
            | none => rw [hp] at hu; cases hu
            | some z =>
              rw [hp] at hu
              obtain rfl := Option.some.inj hu
              simp [hm]
          · rcases List.mem_append.1 hx with hx | hx
            · exact HQ.out.2 x hx
            · obtain rfl := List.mem_singleton.1 hx; exact ⟨m0, m1⟩)
        simp only [hm] at HC
        clear H1 HST HVV hx hne hn hm
        go_wp2_with fail
        refine HC.out.mono ?_
        rintro e w1 ⟨hb1, rfl⟩
        have B1 := Lib.hid (HB.out.trans (hb1.mono HB.out.size))
        have OW1 := Lib.hid ((ownsRow_below HO.out hb1).alloc (.cells #[.int .i64 m] 3))
        have SR1 := Lib.hid (Pv.Src.one (w := w1) (x := .int .i64 m) (t := 3) rfl)
        have Q3 : Hid (w.heap.size ≤ (w1.alloc (.cells #[.int .i64 m] 3)).heap.size) := Lib.hid (by have := B1.out.size; simp; omega)
        clear hb1
        go_wp2_with (at_builtin
                     go_must (refine wpList_append_src _ rfl (.tmp 22) (.tmp 24) 22 rfl w.heap.size 3 i0 (.int .i64 0) 1 8 Tryz.underlying22 hi0 hz0 hs0 hb0 rfl (by decide) A c acc.length (acc.map (Value.int .i64)) rfl OW1.out (some ⟨w1.heap.size, 0, none⟩) 1 1 [.int .i64 m] rfl SR1.out Q1.out Q2.out Q3.out ?_)
                     intro A' c' w2 own' gr' _
                     have OW2 := Lib.hid own'
                     have B2 := Lib.hid ((B1.out.alloc B1.out.size (.cells #[.int .i64 m] 3)).grown gr' (by have := B1.out.size; simp; omega) (fun k hk => (OW1.out.lt k hk).1))
                     clear own' gr')
        go_roundw
        case rel =>
          exact ⟨k + q, A', c', acc ++ [m], by go_num, by omega, by simp; omega, by simp, by simpa using OW2.out, HV2.out, B2.out, HQ2⟩
        case measure => simp [intOf]; omega
    · have HF := Lib.hid (show true = ans by
        rw [← HV.out, List.drop_eq_nil_of_le (by rw [HLen.out]; omega)]; rfl)
      have HEQ := Lib.hid (HQ.out.1 [] (by rw [List.drop_eq_nil_of_le (by rw [HLen.out]; omega)]; rfl))
      go_wp2
      go_ret2
      exact ⟨HB.out, _, ret_vb HF.out, fun _ => ⟨acc, by simpa using HEQ.out, by omega, HQ.out.2, A, c, rfl, HO.out⟩⟩
set_option maxHeartbeats 1000000 in
set_option maxRecDepth 100000 in
theorem ref01_CheckV (s : ByteArray) (w : World) (hs : s.size ≤ 20000) :
    Calls Tryz.prog 64 #[.string s] w fun e w' => e = .returned (.int .i64 (chkV (bsl s))) ∧ Below w.heap.size w w' := by
  by_cases h1 : 16384 < s.size
  · have HC : Hid (chkV (bsl s) = 4) := Lib.hid (by unfold chkV; rw [if_pos (by rw [bsl_len]; exact h1)])
    have i1 : (16384 : Int) < (s.size : Int) := by omega
    rw [HC.out]
    go_enter Tryz.func64, Tryz.ntmps64
    go_wp2
    go_ret
    exact ⟨rfl, Below.refl _ _⟩
  · have i1 : ¬ (16384 : Int) < (s.size : Int) := by omega
    have HC : Hid (chkV (bsl s) = if Lib.validD (bsl s) then 0 else 10) := Lib.hid (by unfold chkV; rw [if_neg (by rw [bsl_len]; exact h1)])
    rw [HC.out]
    have HP := ref01_Points s w (by omega)
    obtain ⟨b, hb⟩ : ∃ b, Lib.validD (bsl s) = b := ⟨_, rfl⟩
    rw [hb] at HP ⊢
    have HP := Lib.hid HP
    clear hb
    cases b
    all_goals
      go_enter Tryz.func64, Tryz.ntmps64
      go_wp2_with fail
      refine HP.out.mono ?_
      rintro e w1 ⟨hb1, v, rfl⟩
      have HB := Lib.hid hb1
      clear hb1
      go_wp2
      go_ret
      exact ⟨rfl, HB.out⟩
/-- What is parsed, of the document's. -/
def ParseD (w : World) (x : List Rx × Int) (e : Ending) (w' : World) : Prop := ∃ A c, e = .returned (.tuple #[.slice A x.1.length c, .int .i64 x.2]) ∧ OwnRx w' w.heap.size (.slice A x.1.length c) x.1 ∧ Below w.heap.size w w'
theorem ParseD.nil {w w' : World} {z : Int} (k : Below w.heap.size w w') : ParseD w ([], z) (.returned (.tuple #[.slice none 0 0, .int .i64 z])) w' := ⟨Option.none, 0, rfl, OwnK.nil, k⟩
theorem ParseD.one {w w' : World} {t : List Rx} {A : Option Addr} {n c b : Nat} (k : Below w.heap.size w w') (h : OwnRx w' b (.slice A n c) t) (hb : w.heap.size ≤ b) : ParseD w (t, 0) (.returned (.tuple #[.slice A n c, .int .i64 0])) w' := by
  obtain ⟨A', c', us, hv, ho, hr⟩ := id h
  injection hv with e1 e2 e3
  subst e2
  exact ⟨A, c, rfl, rx_lower h hb, k⟩
set_option maxHeartbeats 1000000 in
set_option maxRecDepth 100000 in
theorem ref07_ParseBad (s : ByteArray) (w : World) (z : Int) (hs : s.size ≤ 20000) (hz : chkV (bsl s) = z) (h0 : z ≠ 0) :
    Calls Tryz.prog 29 #[.string s] w (ParseD w ([], z)) := by
  have HC := ref01_CheckV s w hs
  rw [hz] at HC
  have HC := Lib.hid HC
  have e0 : (z != 0) = true := by simpa using h0
  clear hz h0
  go_enter Tryz.func29, Tryz.ntmps29
  go_wp2_with fail
  refine HC.out.mono ?_
  rintro e w1 ⟨rfl, k⟩
  have HB := Lib.hid k
  clear k
  go_wp2
  go_ret2
  exact ParseD.nil HB.out
theorem own_low {w : World} {b k n : Nat} {e : TypeId} {v : Value} {us : List Value} (h : w.ownsRow b e k v n us) : w.ownsRow 0 e k v n us := by
  obtain ⟨h0, h1⟩ := h
  refine ⟨h0, ?_⟩
  rcases h1 with h1 | ⟨g, cap, cur, hv, hg, r⟩
  · exact .inl h1
  · exact .inr ⟨g, cap, cur, hv, Nat.zero_le _, r⟩
set_option maxHeartbeats 4000000 in
set_option maxRecDepth 100000 in
theorem ref07_ParseOk (s : ByteArray) (w : World) (hs : s.size ≤ 1000) (hz : chkV (bsl s) = 0) :
    Calls Tryz.prog 29 #[.string s] w (ParseD w (endP (rowsB ((bsl s).length + 1) (bsl s) false))) := by
  have HC := ref01_CheckV s w (by omega)
  rw [hz] at HC
  have HC := Lib.hid HC
  have HP := Lib.hid (fun W => ref01_PointsV s W (by omega))
  have HVD : Hid (Lib.validD (bsl s) = true) := Lib.hid (by
    unfold chkV at hz
    rw [if_neg (by rw [bsl_len]; omega)] at hz
    cases h : Lib.validD (bsl s) with
    | true => rfl
    | false => rw [h] at hz; simp at hz)
  obtain ⟨l, hl⟩ : ∃ l, bsl s = l := ⟨_, rfl⟩
  have hll : l.length ≤ 1000 := by rw [← hl, bsl_len]; exact hs
  rw [hl] at HP HVD ⊢
  obtain ⟨X, hX⟩ : ∃ X, rowsB (l.length + 1) l false = X := ⟨_, rfl⟩
  rw [hX]
  have HX := Lib.hid hX
  clear hz hl hX
  go_enter Tryz.func29, Tryz.ntmps29
  go_wp2_with fail
  refine HC.out.mono ?_
  rintro e w1 ⟨rfl, k⟩
  have HB1 := Lib.hid k
  clear k
  go_wp2_with fail
  refine (HP.out _).mono ?_
  rintro e w2 ⟨k, v, rfl, hq⟩
  rw [HVD.out]
  obtain ⟨q, hq1, hq2, hq3, A, c, rfl, hq4⟩ := hq HVD.out
  have HB2 := Lib.hid (HB1.out.trans (k.mono HB1.out.size))
  have HB3 := Lib.hid (HB2.out.alloc HB2.out.size (.cells #[.slice A q.length c, .int .i64 0, .bool false, .bool false] TRw))
  have hRw : w.heap.size ≤ w2.heap.size := HB2.out.size
  have HRD : Hid (RdD (w2.alloc (.cells #[.slice A q.length c, .int .i64 0, .bool false, .bool false] TRw)) w2.heap.size ⟨A, q.length, c, q⟩ l false) := Lib.hid (by
    exact ⟨⟨(own_low hq4).alloc _, by simp only; omega, hq3⟩, 0, Blk.new _ _ _, Nat.zero_le _, by rw [List.drop_zero]; exact hq1⟩)
  have HRW := rows_okD w2.heap.size ⟨A, q.length, c, q⟩ (l.length + 1) l false _ (Nat.lt_succ_self _) hll HRD.out
  rw [HX.out] at HRW
  have HRW := Lib.hid HRW
  have hq2' : q.length ≤ 20000 := by omega
  clear k hq hq1 hq2 hq3 hq4
  go_wp2_with fail
  refine HRW.out.mono ?_
  rintro e w3 ⟨B, n, d, t, rfl, k1, k2, k3, k4⟩
  have HT := Lib.hid k1
  have HB4 := Lib.hid (HB3.out.trans (k2.below (B := w.heap.size) hRw (by simp; omega)))
  clear k1 k2
  match X, HX, k4 with
  | none, HX, ⟨k5, k6⟩ =>
    obtain ⟨_, _, _, hR, c2, f2, _⟩ := k5.cells
    have HS : Hid (w3.drew.cell? ⟨w2.heap.size, 2, none⟩ = some (.bool true) ∧ True) := Lib.hid ⟨c2, trivial⟩
    clear k3 k4 k5 k6 c2 f2
    go_wp2
    refine wp_region_T 15 (fun W => W.cell? ⟨w2.heap.size, 2, none⟩ = some (.bool true) ∧ True) (by kernel_rfl) ?_
    refine wpAnyT_takeC (i := 0) [15, 4, 3, 2, 1] (v := ?_) rfl (by kernel_rfl) (by kernel_rfl) (by kernel_rfl) (by kernel_rfl) (by kernel_rfl) (by kernel_rfl) (fun _ _ _ h => h) (.inl ⟨rfl, ?_⟩) HS.out ?_
    rotate_left
    · intro W__ hW__
      obtain ⟨h1, h2⟩ := hW__
      go_simp
      (try with_reducible rfl)
    try simp only [Act.put]
    refine wpAnyT_takeC (i := 1) [15, 4, 3, 2] (v := ?_) rfl (by kernel_rfl) (by kernel_rfl) (by kernel_rfl) (by kernel_rfl) (by kernel_rfl) (by kernel_rfl) (fun _ _ _ h => h) (.inl ⟨rfl, ?_⟩) HS.out ?_
    rotate_left
    · intro W__ hW__
      obtain ⟨h1, h2⟩ := hW__
      go_simp
      (try with_reducible rfl)
    try simp only [Act.put]
    refine wpAnyT_takeC (i := 2) [15, 4, 3] (v := ?_) rfl (by kernel_rfl) (by kernel_rfl) (by kernel_rfl) (by kernel_rfl) (by kernel_rfl) (by kernel_rfl) (fun _ _ _ h => h) (.inl ⟨rfl, ?_⟩) HS.out ?_
    rotate_left
    · intro W__ hW__
      obtain ⟨h1, h2⟩ := hW__
      go_simp
      (try with_reducible rfl)
    try simp only [Act.put]
    refine wpAnyT_takeC (i := 3) [15, 4] (v := ?_) rfl (by kernel_rfl) (by kernel_rfl) (by kernel_rfl) (by kernel_rfl) (by kernel_rfl) (by kernel_rfl) (fun _ _ _ h => h) (.inl ⟨rfl, ?_⟩) HS.out ?_
    rotate_left
    · intro W__ hW__
      obtain ⟨h1, h2⟩ := hW__
      go_simp
      (try with_reducible rfl)
    try simp only [Act.put]
    refine wpAnyT_takeC (i := 4) [15] (v := ?_) rfl (by kernel_rfl) (by kernel_rfl) (by kernel_rfl) (by kernel_rfl) (by kernel_rfl) (by kernel_rfl) (fun _ _ _ h => h) (.inl ⟨rfl, ?_⟩) HS.out ?_
    rotate_left
    · intro W__ hW__
      obtain ⟨h1, h2⟩ := hW__
      go_simp
      (try with_reducible rfl)
    try simp only [Act.put]
    refine wpAnyT_takeW (i := 5) (v := undef) rfl (by decide) (by kernel_rfl) (by kernel_rfl) (by kernel_rfl) (fun _ _ _ h => h) (.inr ⟨by kernel_rfl, rfl⟩) (fun _ => HS.out) ?_
    try simp only [Act.put]
    refine wpAnyT_takeW (i := 6) (v := undef) rfl (by decide) (by kernel_rfl) (by kernel_rfl) (by kernel_rfl) (fun _ _ _ h => h) (.inr ⟨by kernel_rfl, rfl⟩) (fun _ => HS.out) ?_
    try simp only [Act.put]
    refine wpAnyT_takeW (i := 7) (v := undef) rfl (by decide) (by kernel_rfl) (by kernel_rfl) (by kernel_rfl) (fun _ _ _ h => h) (.inr ⟨by kernel_rfl, rfl⟩) (fun _ => HS.out) ?_
    try simp only [Act.put]
    refine wpAnyT_takeW (i := 8) (v := undef) rfl (by decide) (by kernel_rfl) (by kernel_rfl) (by kernel_rfl) (fun _ _ _ h => h) (.inr ⟨by kernel_rfl, rfl⟩) (fun _ => HS.out) ?_
    try simp only [Act.put]
    refine wpAnyT_takeW (i := 9) (v := undef) rfl (by decide) (by kernel_rfl) (by kernel_rfl) (by kernel_rfl) (fun _ _ _ h => h) (.inr ⟨by kernel_rfl, rfl⟩) (fun _ => HS.out) ?_
    try simp only [Act.put]
    refine wpAnyT_takeW (i := 10) (v := undef) rfl (by decide) (by kernel_rfl) (by kernel_rfl) (by kernel_rfl) (fun _ _ _ h => h) (.inr ⟨by kernel_rfl, rfl⟩) (fun _ => HS.out) ?_
    try simp only [Act.put]
    refine wpAnyT_takeW (i := 11) (v := undef) rfl (by decide) (by kernel_rfl) (by kernel_rfl) (by kernel_rfl) (fun _ _ _ h => h) (.inr ⟨by kernel_rfl, rfl⟩) (fun _ => HS.out) ?_
    try simp only [Act.put]
    refine wpAnyT_takeW (i := 12) (v := undef) rfl (by decide) (by kernel_rfl) (by kernel_rfl) (by kernel_rfl) (fun _ _ _ h => h) (.inr ⟨by kernel_rfl, rfl⟩) (fun _ => HS.out) ?_
    try simp only [Act.put]
    refine wpAnyT_takeW (i := 13) (v := undef) rfl (by decide) (by kernel_rfl) (by kernel_rfl) (by kernel_rfl) (fun _ _ _ h => h) (.inr ⟨by kernel_rfl, rfl⟩) (fun _ => HS.out) ?_
    try simp only [Act.put]
    refine wpAnyT_takeW (i := 14) (v := undef) rfl (by decide) (by kernel_rfl) (by kernel_rfl) (by kernel_rfl) (fun _ _ _ h => h) (.inr ⟨by kernel_rfl, rfl⟩) (fun _ => HS.out) ?_
    try simp only [Act.put]
    refine wpAnyT_end (i := 15) rfl (by kernel_rfl) rfl (by kernel_rfl) fun K__ hK__ => ?_
    unfold Oper.wp
    go_simp
    refine hK__ _ _ ?_
    clear hK__
    refine wpAnyT_done (by kernel_rfl) ?_ _
    go_wp2
    go_ret2
    exact ParseD.nil HB4.out.drew
  | some (t', r, wd), HX, ⟨k5, k6⟩ =>
    subst k5
    obtain ⟨i, hb, hi, hp⟩ := k6.2
    have c0 := hb.cell 0
    have c1 := hb.cell 1
    have c2 := hb.cell 2
    have c3 := hb.cell 3
    have hR := hb.lt
    have HNAR := Lib.hid (rowsG_nar _ _ _ _ _ _ HX.out).2
    have HN : Hid (t'.length = n) := Lib.hid (by obtain ⟨_, _, _, hv, _⟩ := HT.out; injection hv with _ e2 _; exact e2.symm)
    have HS : Hid (w3.drew.cell? ⟨w2.heap.size, 0, none⟩ = some (.slice A q.length c) ∧ w3.drew.cell? ⟨w2.heap.size, 1, none⟩ = some (.int .i64 i) ∧ w3.drew.cell? ⟨w2.heap.size, 2, none⟩ = some (.bool false)) := Lib.hid ⟨c0, c1, c2⟩
    have HC3 : Hid (w3.drew.cell? ⟨w2.heap.size, 3, none⟩ = some (.bool wd)) := Lib.hid c3
    have hRq := sumB_le (show sumB (q.drop i) = r.length from ptsZ_len _ (Nat.lt_succ_self _) hp)
    have HFEW := Lib.hid (rowsG_few _ _ _ _ _ _ HX.out)
    have hnl : n ≤ 4000 := by have := HFEW.out; have := HN.out; omega
    simp only at hi
    clear k3 k4 k6 hb hp c0 c1 c2 c3
    by_cases hr : r = []
    · subst hr
      have hin : ¬ (i : Int) < (q.length : Int) := by
        have : q.length ≤ i := hRq.1 rfl
        omega
      clear hRq
      go_wp2
      refine wp_region_T 15 (fun W => W.cell? ⟨w2.heap.size, 0, none⟩ = some (.slice A q.length c) ∧ W.cell? ⟨w2.heap.size, 1, none⟩ = some (.int .i64 i) ∧ W.cell? ⟨w2.heap.size, 2, none⟩ = some (.bool false)) (by kernel_rfl) ?_
      refine wpAnyT_takeC (i := 0) [15, 4, 3, 2, 1] (v := ?_) rfl (by kernel_rfl) (by kernel_rfl) (by kernel_rfl) (by kernel_rfl) (by kernel_rfl) (by kernel_rfl) (fun _ _ _ h => h) (.inl ⟨rfl, ?_⟩) HS.out ?_
      rotate_left
      · intro W__ hW__
        obtain ⟨h1, h2, h3⟩ := hW__
        go_simp
        (try with_reducible rfl)
      try simp only [Act.put]
      refine wpAnyT_takeC (i := 1) [15, 4, 3, 2] (v := ?_) rfl (by kernel_rfl) (by kernel_rfl) (by kernel_rfl) (by kernel_rfl) (by kernel_rfl) (by kernel_rfl) (fun _ _ _ h => h) (.inl ⟨rfl, ?_⟩) HS.out ?_
      rotate_left
      · intro W__ hW__
        obtain ⟨h1, h2, h3⟩ := hW__
        go_simp
        (try with_reducible rfl)
      try simp only [Act.put]
      refine wpAnyT_takeC (i := 2) [15, 4, 3] (v := ?_) rfl (by kernel_rfl) (by kernel_rfl) (by kernel_rfl) (by kernel_rfl) (by kernel_rfl) (by kernel_rfl) (fun _ _ _ h => h) (.inl ⟨rfl, ?_⟩) HS.out ?_
      rotate_left
      · intro W__ hW__
        obtain ⟨h1, h2, h3⟩ := hW__
        go_simp
        (try with_reducible rfl)
      try simp only [Act.put]
      refine wpAnyT_takeC (i := 3) [15, 4] (v := ?_) rfl (by kernel_rfl) (by kernel_rfl) (by kernel_rfl) (by kernel_rfl) (by kernel_rfl) (by kernel_rfl) (fun _ _ _ h => h) (.inl ⟨rfl, ?_⟩) HS.out ?_
      rotate_left
      · intro W__ hW__
        obtain ⟨h1, h2, h3⟩ := hW__
        go_simp
        (try with_reducible rfl)
      try simp only [Act.put]
      refine wpAnyT_takeC (i := 4) [15] (v := ?_) rfl (by kernel_rfl) (by kernel_rfl) (by kernel_rfl) (by kernel_rfl) (by kernel_rfl) (by kernel_rfl) (fun _ _ _ h => h) (.inl ⟨rfl, ?_⟩) HS.out ?_
      rotate_left
      · intro W__ hW__
        obtain ⟨h1, h2, h3⟩ := hW__
        go_simp
        (try with_reducible rfl)
      try simp only [Act.put]
      refine wpAnyT_takeC (i := 5) [15, 14, 8, 7, 6] (v := ?_) rfl (by kernel_rfl) (by kernel_rfl) (by kernel_rfl) (by kernel_rfl) (by kernel_rfl) (by kernel_rfl) (fun _ _ _ h => h) (.inl ⟨by kernel_rfl, ?_⟩) HS.out ?_
      rotate_left
      · intro W__ hW__
        obtain ⟨h1, h2, h3⟩ := hW__
        go_simp
        (try with_reducible rfl)
      try simp only [Act.put]
      refine wpAnyT_takeC (i := 9) [15, 14, 13, 12, 11, 10] (v := ?_) rfl (by kernel_rfl) (by kernel_rfl) (by kernel_rfl) (by kernel_rfl) (by kernel_rfl) (by kernel_rfl) (fun _ _ _ h => h) (.inl ⟨by kernel_rfl, ?_⟩) HS.out ?_
      rotate_left
      · intro W__ hW__
        obtain ⟨h1, h2, h3⟩ := hW__
        go_simp
        (try with_reducible rfl)
      try simp only [Act.put]
      refine wpAnyT_takeC (i := 6) [15, 14, 8, 7] (v := ?_) rfl (by kernel_rfl) (by kernel_rfl) (by kernel_rfl) (by kernel_rfl) (by kernel_rfl) (by kernel_rfl) (fun _ _ _ h => h) (.inl ⟨by kernel_rfl, ?_⟩) HS.out ?_
      rotate_left
      · intro W__ hW__
        obtain ⟨h1, h2, h3⟩ := hW__
        go_simp
        (try with_reducible rfl)
      try simp only [Act.put]
      refine wpAnyT_takeC (i := 10) [15, 14, 13, 12, 11] (v := ?_) rfl (by kernel_rfl) (by kernel_rfl) (by kernel_rfl) (by kernel_rfl) (by kernel_rfl) (by kernel_rfl) (fun _ _ _ h => h) (.inl ⟨by kernel_rfl, ?_⟩) HS.out ?_
      rotate_left
      · intro W__ hW__
        obtain ⟨h1, h2, h3⟩ := hW__
        go_simp
        (try with_reducible rfl)
      try simp only [Act.put]
      refine wpAnyT_takeC (i := 7) [15, 14, 8] (v := ?_) rfl (by kernel_rfl) (by kernel_rfl) (by kernel_rfl) (by kernel_rfl) (by kernel_rfl) (by kernel_rfl) (fun _ _ _ h => h) (.inl ⟨by kernel_rfl, ?_⟩) HS.out ?_
      rotate_left
      · intro W__ hW__
        obtain ⟨h1, h2, h3⟩ := hW__
        go_simp
        (try with_reducible rfl)
      try simp only [Act.put]
      refine wpAnyT_takeC (i := 11) [15, 14, 13, 12] (v := ?_) rfl (by kernel_rfl) (by kernel_rfl) (by kernel_rfl) (by kernel_rfl) (by kernel_rfl) (by kernel_rfl) (fun _ _ _ h => h) (.inl ⟨by kernel_rfl, ?_⟩) HS.out ?_
      rotate_left
      · intro W__ hW__
        obtain ⟨h1, h2, h3⟩ := hW__
        go_simp
        (try with_reducible rfl)
      try simp only [Act.put]
      refine wpAnyT_takeC (i := 8) [15, 14] (v := ?_) rfl (by kernel_rfl) (by kernel_rfl) (by kernel_rfl) (by kernel_rfl) (by kernel_rfl) (by kernel_rfl) (fun _ _ _ h => h) (.inl ⟨by kernel_rfl, ?_⟩) HS.out ?_
      rotate_left
      · intro W__ hW__
        obtain ⟨h1, h2, h3⟩ := hW__
        go_simp
        (try with_reducible rfl)
      try simp only [Act.put]
      refine wpAnyT_takeC (i := 12) [15, 14, 13] (v := ?_) rfl (by kernel_rfl) (by kernel_rfl) (by kernel_rfl) (by kernel_rfl) (by kernel_rfl) (by kernel_rfl) (fun _ _ _ h => h) (.inl ⟨by kernel_rfl, ?_⟩) HS.out ?_
      rotate_left
      · intro W__ hW__
        obtain ⟨h1, h2, h3⟩ := hW__
        go_simp
        (try with_reducible rfl)
      try simp only [Act.put]
      refine wpAnyT_takeC (i := 13) [15, 14] (v := ?_) rfl (by kernel_rfl) (by kernel_rfl) (by kernel_rfl) (by kernel_rfl) (by kernel_rfl) (by kernel_rfl) (fun _ _ _ h => h) (.inl ⟨by kernel_rfl, ?_⟩) HS.out ?_
      rotate_left
      · intro W__ hW__
        obtain ⟨h1, h2, h3⟩ := hW__
        go_simp
        (try with_reducible rfl)
      try simp only [Act.put]
      refine wpAnyT_takeC (i := 14) [15] (v := ?_) rfl (by kernel_rfl) (by kernel_rfl) (by kernel_rfl) (by kernel_rfl) (by kernel_rfl) (by kernel_rfl) (fun _ _ _ h => h) (.inl ⟨by kernel_rfl, ?_⟩) HS.out ?_
      rotate_left
      · intro W__ hW__
        obtain ⟨h1, h2, h3⟩ := hW__
        go_simp
        (try with_reducible rfl)
      try simp only [Act.put]
      refine wpAnyT_end (i := 15) rfl (by kernel_rfl) rfl (by kernel_rfl) fun K__ hK__ => ?_
      unfold Oper.wp
      go_simp
      refine hK__ _ _ ?_
      clear hK__
      refine wpAnyT_done (by kernel_rfl) ?_ _
      have c3 := HC3.out
      by_cases h64 : 64 < n
      · have h64' : (64 : Int) < (n : Int) := by omega
        have HE : Hid (endP (some (t', [], wd)) = ([], 4)) := Lib.hid (by unfold endP; simp [HN.out, h64])
        go_wp2
        go_ret2
        rw [HE.out]
        exact ParseD.nil HB4.out.drew
      · have h64' : ¬ (64 : Int) < (n : Int) := by omega
        cases wd with
        | true =>
          have HE : Hid (endP (some (t', [], true)) = ([], 4)) := Lib.hid (by unfold endP; simp)
          go_wp2
          go_ret2
          rw [HE.out]
          exact ParseD.nil HB4.out.drew
        | false =>
          have HT4 := Lib.hid (rx_drew HT.out)
          have HM := ref07_May B d n t' w3.drew (rx_atG HT4.out (by rw [HN.out]; omega) (HNAR.out rfl).2) HN
          obtain ⟨p, hp⟩ : ∃ p, patB t' = p := ⟨_, rfl⟩
          rw [hp] at HM
          have HM := Lib.hid HM
          have HE : Hid (endP (some (t', [], false)) = if p = true then (t', 0) else ([], 30)) := Lib.hid (by unfold endP; simp [HN.out, h64, hp])
          clear hp
          cases p with
          | true =>
            go_wp2_with fail
            refine HM.out.mono ?_
            rintro e w5 ⟨rfl, k⟩
            have HB5 := Lib.hid (HB4.out.drew.trans (k.mono HB4.out.size))
            have HT5 := Lib.hid (rx_below HT4.out k)
            clear k
            go_wp2
            go_ret2
            rw [HE.out, if_pos trivial]
            exact ParseD.one HB5.out HT5.out (by omega)
          | false =>
            go_wp2_with fail
            refine HM.out.mono ?_
            rintro e w5 ⟨rfl, k⟩
            have HB5 := Lib.hid (HB4.out.drew.trans (k.mono HB4.out.size))
            clear k
            go_wp2
            go_ret2
            rw [HE.out, if_neg (by simp)]
            exact ParseD.nil HB5.out
    · have hin : (i : Int) < (q.length : Int) := by
        have := hRq.2 (fun e => hr (List.eq_nil_of_length_eq_zero e))
        omega
      have HE : Hid (endP (some (t', r, wd)) = ([], 70)) := Lib.hid (by
        unfold endP
        simp only
        rw [if_pos]
        cases r with
        | nil => exact absurd rfl hr
        | cons b r => rfl)
      clear hRq
      go_wp2
      refine wp_region_T 15 (fun W => W.cell? ⟨w2.heap.size, 0, none⟩ = some (.slice A q.length c) ∧ W.cell? ⟨w2.heap.size, 1, none⟩ = some (.int .i64 i) ∧ W.cell? ⟨w2.heap.size, 2, none⟩ = some (.bool false)) (by kernel_rfl) ?_
      refine wpAnyT_takeC (i := 0) [15, 4, 3, 2, 1] (v := ?_) rfl (by kernel_rfl) (by kernel_rfl) (by kernel_rfl) (by kernel_rfl) (by kernel_rfl) (by kernel_rfl) (fun _ _ _ h => h) (.inl ⟨rfl, ?_⟩) HS.out ?_
      rotate_left
      · intro W__ hW__
        obtain ⟨h1, h2, h3⟩ := hW__
        go_simp
        (try with_reducible rfl)
      try simp only [Act.put]
      refine wpAnyT_takeC (i := 1) [15, 4, 3, 2] (v := ?_) rfl (by kernel_rfl) (by kernel_rfl) (by kernel_rfl) (by kernel_rfl) (by kernel_rfl) (by kernel_rfl) (fun _ _ _ h => h) (.inl ⟨rfl, ?_⟩) HS.out ?_
      rotate_left
      · intro W__ hW__
        obtain ⟨h1, h2, h3⟩ := hW__
        go_simp
        (try with_reducible rfl)
      try simp only [Act.put]
      refine wpAnyT_takeC (i := 2) [15, 4, 3] (v := ?_) rfl (by kernel_rfl) (by kernel_rfl) (by kernel_rfl) (by kernel_rfl) (by kernel_rfl) (by kernel_rfl) (fun _ _ _ h => h) (.inl ⟨rfl, ?_⟩) HS.out ?_
      rotate_left
      · intro W__ hW__
        obtain ⟨h1, h2, h3⟩ := hW__
        go_simp
        (try with_reducible rfl)
      try simp only [Act.put]
      refine wpAnyT_takeC (i := 3) [15, 4] (v := ?_) rfl (by kernel_rfl) (by kernel_rfl) (by kernel_rfl) (by kernel_rfl) (by kernel_rfl) (by kernel_rfl) (fun _ _ _ h => h) (.inl ⟨rfl, ?_⟩) HS.out ?_
      rotate_left
      · intro W__ hW__
        obtain ⟨h1, h2, h3⟩ := hW__
        go_simp
        (try with_reducible rfl)
      try simp only [Act.put]
      refine wpAnyT_takeC (i := 4) [15] (v := ?_) rfl (by kernel_rfl) (by kernel_rfl) (by kernel_rfl) (by kernel_rfl) (by kernel_rfl) (by kernel_rfl) (fun _ _ _ h => h) (.inl ⟨rfl, ?_⟩) HS.out ?_
      rotate_left
      · intro W__ hW__
        obtain ⟨h1, h2, h3⟩ := hW__
        go_simp
        (try with_reducible rfl)
      try simp only [Act.put]
      refine wpAnyT_takeC (i := 5) [15, 14, 8, 7, 6] (v := ?_) rfl (by kernel_rfl) (by kernel_rfl) (by kernel_rfl) (by kernel_rfl) (by kernel_rfl) (by kernel_rfl) (fun _ _ _ h => h) (.inl ⟨by kernel_rfl, ?_⟩) HS.out ?_
      rotate_left
      · intro W__ hW__
        obtain ⟨h1, h2, h3⟩ := hW__
        go_simp
        (try with_reducible rfl)
      try simp only [Act.put]
      refine wpAnyT_takeC (i := 9) [15, 14, 13, 12, 11, 10] (v := ?_) rfl (by kernel_rfl) (by kernel_rfl) (by kernel_rfl) (by kernel_rfl) (by kernel_rfl) (by kernel_rfl) (fun _ _ _ h => h) (.inl ⟨by kernel_rfl, ?_⟩) HS.out ?_
      rotate_left
      · intro W__ hW__
        obtain ⟨h1, h2, h3⟩ := hW__
        go_simp
        (try with_reducible rfl)
      try simp only [Act.put]
      refine wpAnyT_takeC (i := 6) [15, 14, 8, 7] (v := ?_) rfl (by kernel_rfl) (by kernel_rfl) (by kernel_rfl) (by kernel_rfl) (by kernel_rfl) (by kernel_rfl) (fun _ _ _ h => h) (.inl ⟨by kernel_rfl, ?_⟩) HS.out ?_
      rotate_left
      · intro W__ hW__
        obtain ⟨h1, h2, h3⟩ := hW__
        go_simp
        (try with_reducible rfl)
      try simp only [Act.put]
      refine wpAnyT_takeC (i := 10) [15, 14, 13, 12, 11] (v := ?_) rfl (by kernel_rfl) (by kernel_rfl) (by kernel_rfl) (by kernel_rfl) (by kernel_rfl) (by kernel_rfl) (fun _ _ _ h => h) (.inl ⟨by kernel_rfl, ?_⟩) HS.out ?_
      rotate_left
      · intro W__ hW__
        obtain ⟨h1, h2, h3⟩ := hW__
        go_simp
        (try with_reducible rfl)
      try simp only [Act.put]
      refine wpAnyT_takeC (i := 7) [15, 14, 8] (v := ?_) rfl (by kernel_rfl) (by kernel_rfl) (by kernel_rfl) (by kernel_rfl) (by kernel_rfl) (by kernel_rfl) (fun _ _ _ h => h) (.inl ⟨by kernel_rfl, ?_⟩) HS.out ?_
      rotate_left
      · intro W__ hW__
        obtain ⟨h1, h2, h3⟩ := hW__
        go_simp
        (try with_reducible rfl)
      try simp only [Act.put]
      refine wpAnyT_takeC (i := 11) [15, 14, 13, 12] (v := ?_) rfl (by kernel_rfl) (by kernel_rfl) (by kernel_rfl) (by kernel_rfl) (by kernel_rfl) (by kernel_rfl) (fun _ _ _ h => h) (.inl ⟨by kernel_rfl, ?_⟩) HS.out ?_
      rotate_left
      · intro W__ hW__
        obtain ⟨h1, h2, h3⟩ := hW__
        go_simp
        (try with_reducible rfl)
      try simp only [Act.put]
      refine wpAnyT_takeC (i := 8) [15, 14] (v := ?_) rfl (by kernel_rfl) (by kernel_rfl) (by kernel_rfl) (by kernel_rfl) (by kernel_rfl) (by kernel_rfl) (fun _ _ _ h => h) (.inl ⟨by kernel_rfl, ?_⟩) HS.out ?_
      rotate_left
      · intro W__ hW__
        obtain ⟨h1, h2, h3⟩ := hW__
        go_simp
        (try with_reducible rfl)
      try simp only [Act.put]
      refine wpAnyT_takeC (i := 12) [15, 14, 13] (v := ?_) rfl (by kernel_rfl) (by kernel_rfl) (by kernel_rfl) (by kernel_rfl) (by kernel_rfl) (by kernel_rfl) (fun _ _ _ h => h) (.inl ⟨by kernel_rfl, ?_⟩) HS.out ?_
      rotate_left
      · intro W__ hW__
        obtain ⟨h1, h2, h3⟩ := hW__
        go_simp
        (try with_reducible rfl)
      try simp only [Act.put]
      refine wpAnyT_takeC (i := 13) [15, 14] (v := ?_) rfl (by kernel_rfl) (by kernel_rfl) (by kernel_rfl) (by kernel_rfl) (by kernel_rfl) (by kernel_rfl) (fun _ _ _ h => h) (.inl ⟨by kernel_rfl, ?_⟩) HS.out ?_
      rotate_left
      · intro W__ hW__
        obtain ⟨h1, h2, h3⟩ := hW__
        go_simp
        (try with_reducible rfl)
      try simp only [Act.put]
      refine wpAnyT_takeC (i := 14) [15] (v := ?_) rfl (by kernel_rfl) (by kernel_rfl) (by kernel_rfl) (by kernel_rfl) (by kernel_rfl) (by kernel_rfl) (fun _ _ _ h => h) (.inl ⟨by kernel_rfl, ?_⟩) HS.out ?_
      rotate_left
      · intro W__ hW__
        obtain ⟨h1, h2, h3⟩ := hW__
        go_simp
        (try with_reducible rfl)
      try simp only [Act.put]
      refine wpAnyT_end (i := 15) rfl (by kernel_rfl) rfl (by kernel_rfl) fun K__ hK__ => ?_
      unfold Oper.wp
      go_simp
      refine hK__ _ _ ?_
      clear hK__
      refine wpAnyT_done (by kernel_rfl) ?_ _
      go_wp2
      go_ret2
      rw [HE.out]
      exact ParseD.nil HB4.out.drew
/-- The document's Parse, as a function. -/
theorem ref07_Parse (s : ByteArray) (x : List Rx × Int) (w : World) (hs : s.size ≤ 1000 ∨ 16384 < s.size) (hs2 : s.size ≤ 20000) (hx : parseB (bsl s) = x) :
    Calls Tryz.prog 29 #[.string s] w (ParseD w x) := by
  obtain ⟨z, hz⟩ : ∃ z, chkV (bsl s) = z := ⟨_, rfl⟩
  by_cases h0 : z = 0
  · subst h0
    rw [← hx, parseB_ok hz]
    refine ref07_ParseOk s w ?_ hz
    rcases hs with hs | hs
    · exact hs
    · unfold chkV at hz
      rw [if_pos (by rw [bsl_len]; exact hs)] at hz
      cases hz
  · rw [← hx, parseB_bad hz h0]
    exact ref07_ParseBad s w z hs2 hz h0
end Go.Proofs.YtilhicefhhgecaaGreatDoor

namespace Pv
open Go Go.RowKit
/-- What is read is a pattern, of few ranges. -/
theorem parse_is {l : Bs} {t : List Rx} {c : Int} (h : parseB l = (t, c)) : (c ≠ 0 ∧ t = []) ∨ (c = 0 ∧ Pat t ∧ NarX t ∧ sumS t ≤ 2 * l.length) := by
  obtain ⟨d, hd⟩ : ∃ d, (if 16384 < l.length then (4 : Int) else if Lib.validD l then 0 else 10) = d := ⟨_, rfl⟩
  by_cases h0 : d = 0
  · rw [h0] at hd
    rw [parseB_ok hd] at h
    cases hr : rowsB (l.length + 1) l false with
    | none =>
      rw [hr] at h
      obtain ⟨rfl, rfl⟩ := Prod.mk.inj h
      exact .inl ⟨by decide, rfl⟩
    | some p =>
      obtain ⟨u, r, w⟩ := p
      have hn := rowsG_nar _ _ _ _ _ _ hr
      rw [hr] at h
      unfold endP at h
      simp only at h
      split at h
      · obtain ⟨rfl, rfl⟩ := Prod.mk.inj h
        exact .inl ⟨by decide, rfl⟩
      · split at h
        · obtain ⟨rfl, rfl⟩ := Prod.mk.inj h
          exact .inl ⟨by decide, rfl⟩
        · rename_i hw
          split at h
          · rename_i hp
            obtain ⟨rfl, rfl⟩ := Prod.mk.inj h
            simp only [Bool.or_eq_true, not_or, Bool.not_eq_true] at hw
            exact .inr ⟨rfl, Pat.of hp, (hn.2 hw.2).2, by omega⟩
          · obtain ⟨rfl, rfl⟩ := Prod.mk.inj h
            exact .inl ⟨by decide, rfl⟩
  · rw [parseB_bad hd h0] at h
    obtain ⟨rfl, rfl⟩ := Prod.mk.inj h
    exact .inl ⟨h0, rfl⟩
end Pv
namespace Go.Proofs.YtilhicefhhgecaaGreatDoor
open Go.RowKit Pv
end Go.Proofs.YtilhicefhhgecaaGreatDoor

namespace Pv
open Go Go.RowKit
theorem parse_code {l : Bs} {t : List Rx} {c : Int} (h : parseB l = (t, c)) : 0 ≤ c ∧ c ≤ 70 := by
  obtain ⟨d, hd⟩ : ∃ d, (if 16384 < l.length then (4 : Int) else if Lib.validD l then 0 else 10) = d := ⟨_, rfl⟩
  have hdb : 0 ≤ d ∧ d ≤ 70 := by rw [← hd]; (repeat' split) <;> omega
  by_cases h0 : d = 0
  · rw [h0] at hd
    rw [parseB_ok hd] at h
    have : (endP (rowsB (l.length + 1) l false)).2 = c := by rw [h]
    rw [← this]
    unfold endP
    (repeat' split) <;> simp
  · rw [parseB_bad hd h0] at h
    obtain ⟨_, rfl⟩ := Prod.mk.inj h
    exact hdb
end Pv
namespace Go.Proofs.YtilhicefhhgecaaGreatDoor
open Go.RowKit Pv
set_option maxHeartbeats 4000000 in
set_option maxRecDepth 100000 in
theorem law_PatternReads (s : ByteArray) (w : World) (B0 : Nat) (hT : T7 B0 w) (hB : B0 ≤ w.heap.size) :
    Calls Tryz.prog 6 #[.string s] w fun e w' => e = .returned (.bool true) ∧ Below w.heap.size w w' := by
  by_cases h1 : 400 < s.size ∧ s.size ≤ 16384
  · have i1 : (400 : Int) < (s.size : Int) := by omega
    have i2 : (s.size : Int) ≤ 16384 := by omega
    clear hT hB h1
    go_enter Tryz.func6, Tryz.ntmps6
    go_wp2
    go_ret
    exact ⟨rfl, (by repeat (first | exact Below.refl _ _ | exact (Below.refl _ _).alloc (Nat.le_refl _) _ | apply below_drewN))⟩
  by_cases h2 : 17000 < s.size
  · have i1 : (400 : Int) < (s.size : Int) := by omega
    have i2 : ¬ (s.size : Int) ≤ 16384 := by omega
    have i3 : (17000 : Int) < (s.size : Int) := by omega
    clear hT hB h1 h2
    go_enter Tryz.func6, Tryz.ntmps6
    go_wp2
    go_ret
    exact ⟨rfl, (by repeat (first | exact Below.refl _ _ | exact (Below.refl _ _).alloc (Nat.le_refl _) _ | apply below_drewN))⟩
  obtain ⟨⟨t, c⟩, hx⟩ : ∃ x, parseB (bsl s) = x := ⟨_, rfl⟩
  have HP := Lib.hid (parse7 s _ w B0 (by omega) hx hT hB)
  have HD := Lib.hid (fun W => ref07_Parse s _ W (by omega) (by omega) hx)
  obtain ⟨n, hn⟩ : ∃ n, t.length = n := ⟨_, rfl⟩
  have HL := Lib.hid hn
  have hnar : NarX t ∧ n ≤ 64 := by
    rcases parse_is hx with ⟨_, rfl⟩ | ⟨_, hp, h3, _⟩
    · exact ⟨fun x hx => by simp at hx, by rw [← hn]; simp⟩
    · exact ⟨h3, by rw [← hn]; exact hp.2.1⟩
  have HN := Lib.hid hnar.1
  have hn64 := hnar.2
  have hcb : -9223372036854775808 ≤ c ∧ c ≤ 9223372036854775807 := by
    have := parse_code hx
    omega
  simp only [hn] at HP HD
  clear hT hB hx hn hnar
  by_cases h4 : 400 < s.size
  · have i1 : (400 : Int) < (s.size : Int) := by omega
    have i2 : ¬ (s.size : Int) ≤ 16384 := by omega
    have i3 : ¬ (17000 : Int) < (s.size : Int) := by omega
    clear h1 h2 h4
    go_enter Tryz.func6, Tryz.ntmps6
    go_wp2_with fail
    refine HP.out.mono ?_
    rintro e w1 ⟨A1, d1, rfl, h1, k⟩
    have HB1 := Lib.hid k
    have HA1 := Lib.hid (rx_atG h1 (by rw [HL.out]; omega) HN.out)
    clear h1 k
    go_wp2_with fail
    refine (HD.out _).mono ?_
    rintro e w2 ⟨A2, d2, rfl, h1, k⟩
    simp only [HL.out] at h1 ⊢
    have HB2 := Lib.hid (HB1.out.trans (k.mono HB1.out.size))
    have HA1 := Lib.hid (AtRx.keep HA1.out (Keep.of k))
    have HA2 := Lib.hid (rx_atG h1 (by rw [HL.out]; omega) HN.out)
    have HSM := Lib.hid (same7 A1 A2 d1 d2 n t w2 HA1.out HA2.out HL)
    clear h1 k
    go_wp2_with fail
    refine HSM.out.mono ?_
    rintro e w3 ⟨rfl, k⟩
    have HB3 := Lib.hid (HB2.out.trans (k.mono HB2.out.size))
    clear k
    go_wp2
    go_ret
    exact ⟨by simp, HB3.out⟩
  · have i1 : ¬ (400 : Int) < (s.size : Int) := by omega
    have i3 : ¬ (17000 : Int) < (s.size : Int) := by omega
    clear h1 h2 h4
    go_enter Tryz.func6, Tryz.ntmps6
    go_wp2_with fail
    refine HP.out.mono ?_
    rintro e w1 ⟨A1, d1, rfl, h1, k⟩
    have HB1 := Lib.hid k
    have HA1 := Lib.hid (rx_atG h1 (by rw [HL.out]; omega) HN.out)
    clear h1 k
    go_wp2_with fail
    refine (HD.out _).mono ?_
    rintro e w2 ⟨A2, d2, rfl, h1, k⟩
    simp only [HL.out] at h1 ⊢
    have HB2 := Lib.hid (HB1.out.trans (k.mono HB1.out.size))
    have HA1 := Lib.hid (AtRx.keep HA1.out (Keep.of k))
    have HA2 := Lib.hid (rx_atG h1 (by rw [HL.out]; omega) HN.out)
    have HSM := Lib.hid (same7 A1 A2 d1 d2 n t w2 HA1.out HA2.out HL)
    clear h1 k
    go_wp2_with fail
    refine HSM.out.mono ?_
    rintro e w3 ⟨rfl, k⟩
    have HB3 := Lib.hid (HB2.out.trans (k.mono HB2.out.size))
    clear k
    go_wp2
    go_ret
    exact ⟨by simp, HB3.out⟩
end Go.Proofs.YtilhicefhhgecaaGreatDoor
