/- Walks: the document's Twin, with rows of the call's own. PUT1 -/
import Derived.Test.YtjnjbcigbnjmkaaWky
namespace Go.Proofs.Ytjnjbcigbnjmkaa
open Go.RowKit Pv

/-- A twin: rows of the call's own. -/
structure TwO (w : World) (base : Nat) (v1 v2 v3 : Value) (d : Dfa) : Prop where
  c : Own w base 3 RI v1 d.cuts
  n : Own w base 22 (fun u l => Own w base 3 RI u l ∧ l.length ≤ 1000000) v2 d.next
  a : Own w base 4 RB v3 d.accept
section
variable {w w' : World} {base : Nat} {v1 v2 v3 : Value} {d : Dfa}
theorem TwO.below (h : TwO w base v1 v2 v3 d) (hb : Below w.heap.size w w') : TwO w' base v1 v2 v3 d :=
  ⟨h.c.below hb, (h.n.below hb).monoR fun _ _ h => ⟨h.1.below hb, h.2⟩, h.a.below hb⟩
theorem TwO.far {g i : Nat} {cs : Array Value} {u : Value} (h : TwO w base v1 v2 v3 d) (hb : Blk w g 26 cs) : TwO (w.setCell ⟨g, i, none⟩ u) base v1 v2 v3 d :=
  ⟨h.c.setFar hb (by decide) i u, (h.n.setFar hb (by decide) i u).monoR fun _ _ h => ⟨h.1.setFar hb (by decide) i u, h.2⟩, h.a.setFar hb (by decide) i u⟩
theorem TwO.is (h : TwO w base v1 v2 v3 d) (h1 : d.cuts.length ≤ 1000000) (h2 : d.next.length ≤ 1000000) (h3 : d.accept.length ≤ 1000000) : IsDfa w v1 v2 v3 d :=
  ⟨h.c.sl (by omega), (h.n.sl (by omega)).keepR (Keep.refl _) fun _ _ h => h.1.sl (by have := h.2; omega), h.a.sl (by omega)⟩
end
/-- What a twin is: new memory that reads alike. -/
def TwinPostO (d : Dfa) (w : World) (e : Ending) (w' : World) : Prop :=
  ∃ v1 v2 v3, e = .returned (.agg #[v1, v2, v3]) ∧ TwO w' w.heap.size v1 v2 v3 d ∧ Below w.heap.size w w'

set_option maxHeartbeats 2000000 in
set_option maxRecDepth 100000 in
theorem ref10_TwinO (A1 A2 A3 : Option Addr) (c1 c2 c3 n1 n2 n3 : Nat) (d : Dfa) (w : World) (H : DfaAt w A1 A2 A3 n1 n2 n3 d) (hs : n1 ≤ 1000000 ∧ n2 ≤ 1000000 ∧ n3 ≤ 1000000 ∧ ∀ (i : Nat) r, d.next[i]? = some r → r.length ≤ 1000000) :
    Calls Try.prog 10 #[.agg #[.slice A1 n1 c1, .slice A2 n2 c2, .slice A3 n3 c3]] w (TwinPostO d w) := by
  obtain ⟨i0, hi0, hz0, hs0, hb0⟩ := info_parts info_int
  obtain ⟨i1, hi1, hz1, hs1, hb1⟩ := info_parts info_bool
  obtain ⟨i2, hi2, hz2, hs2, hb2⟩ := info_parts info_ints
  obtain ⟨m1, m2, m3, m4⟩ := hs
  have HM4 := Lib.hid m4; clear m4
  obtain ⟨us1, hr1, src1⟩ := H.c.src (fun _ _ h => h.one)
  obtain ⟨us3, hr3, src3⟩ := H.a.src (fun _ _ h => RB.one h)
  rw [H.hc.out] at src1
  rw [H.ha.out] at src3
  have S1 := Lib.hid src1; have S3 := Lib.hid src3
  have R1 := Lib.hid hr1; have R3 := Lib.hid hr3
  clear src1 src3 hr1 hr3
  have HH := Lib.hid H
  clear H
  have K3 := Lib.hid (show Keep w (((w.alloc (.cells #[.slice A1 n1 c1, .slice A2 n2 c2, .slice A3 n3 c3] 26)).alloc (.cells #[.slice none 0 0, .slice none 0 0, .slice none 0 0] 26)).alloc (.cells #[.slice none 0 0, .slice none 0 0, .slice none 0 0] 26)) from (Keep.alloc _ _).trans ((Keep.alloc _ _).trans (Keep.alloc _ _)))
  have KB := Lib.hid (show Below w.heap.size w (((w.alloc (.cells #[.slice A1 n1 c1, .slice A2 n2 c2, .slice A3 n3 c3] 26)).alloc (.cells #[.slice none 0 0, .slice none 0 0, .slice none 0 0] 26)).alloc (.cells #[.slice none 0 0, .slice none 0 0, .slice none 0 0] 26)) from (((Below.refl _ _).alloc (Nat.le_refl _) _).alloc (by simp) _).alloc (by simp; omega) _)
  have B3 := Lib.hid (blk3 w #[.slice A1 n1 c1, .slice A2 n2 c2, .slice A3 n3 c3] #[.slice none 0 0, .slice none 0 0, .slice none 0 0] #[.slice none 0 0, .slice none 0 0, .slice none 0 0] 26 26 26)
  go_enter Try.func10, Try.ntmps10
  go_wp2_with (first
    | (at_builtin
       refine wpList_append_src _ rfl (.tmp 6) (.tmp 8) 22 rfl w.heap.size 3 i0 (.int .i64 0) 1 8 Try.underlying22 hi0 hz0 hs0 hb0 rfl (by decide) none 0 0 [] rfl (World.ownsRow_nil _ _ _ _) A1 n1 c1 us1 rfl (S1.out.keep K3.out) (by simp only [maxLen]; omega) (by omega) K3.out.size ?_
       intro A1' c1' w1 own1 gr1 _
       simp only [List.nil_append, Nat.zero_add] at own1
       have N1 := Lib.hid (B3.out.1.grown gr1 (by simp [Value.ownBlock]))
       have N2 := Lib.hid (B3.out.2.1.grown gr1 (by simp [Value.ownBlock]))
       have N3 := Lib.hid (B3.out.2.2.grown gr1 (by simp [Value.ownBlock]))
       obtain ⟨f0, f1, f2, _, _, _⟩ := N1.out.three
       obtain ⟨g0, g1, g2, z0, z1, z2⟩ := N3.out.three
       have KB1 := Lib.hid ((KB.out.grown gr1 K3.out.size (by simp [Value.ownBlock])).setCell (p := ⟨w.heap.size + 1 + 1, 0, none⟩) (by simp; omega) (.slice A1' n1 c1'))
       have O1 := Lib.hid own1
       clear gr1 own1)
    | (at_builtin
       go_must (refine wpList_append_src _ rfl (.tmp 12) (.tmp 14) 24 rfl w.heap.size 4 i1 (.bool false) 1 1 Try.underlying24 hi1 hz1 hs1 hb1 rfl (by decide) none 0 0 [] rfl (World.ownsRow_nil _ _ _ _) A3 n3 c3 us3 rfl (S3.out.keep (Keep.of KB1.out)) (by simp only [maxLen]; omega) (by omega) KB1.out.size ?_)
       intro A3' c3' w3 own3 gr3 _
       simp only [List.nil_append, Nat.zero_add] at own3
       have M1 := Lib.hid ((N1.out.far (p := ⟨w.heap.size + 1 + 1, 0, none⟩) (by simp; omega) (.slice A1' n1 c1')).grown gr3 (by simp [Value.ownBlock]))
       have M2 := Lib.hid ((N2.out.far (p := ⟨w.heap.size + 1 + 1, 0, none⟩) (by simp) (.slice A1' n1 c1')).grown gr3 (by simp [Value.ownBlock]))
       have M3 : Hid (Blk w3 (w.heap.size + 1 + 1) 26 #[.slice A1' n1 c1', .slice none 0 0, .slice none 0 0]) := Lib.hid ((N3.out.set 0 (.slice A1' n1 c1')).grown gr3 (by simp [Value.ownBlock]))
       have P1 := Lib.hid ((ownsRow_setFar O1.out N3.out (by decide) 0 (.slice A1' n1 c1')).kept gr3 (by first | exact .inl rfl | (cases A1' <;> simp [Value.ownBlock])))
       have P3 := Lib.hid own3
       have KB3 := Lib.hid ((KB1.out.grown gr3 KB1.out.size (by simp [Value.ownBlock])).setCell (p := ⟨w.heap.size + 1 + 1, 2, none⟩) (by simp; omega) (.slice A3' n3 c3'))
       clear f0 f1 f2 g0 g1 g2 z0 z1 z2
       obtain ⟨f0, f1, f2, _, _, _⟩ := M1.out.three
       obtain ⟨g0, g1, g2, z0, z1, z2⟩ := M3.out.three
       clear gr3 own3))
  go_loopw [4] (fun i wr => ∃ k : Nat, i = .int .i64 k ∧ k ≤ n2 ∧ TwinInv d w wr (.slice A1 n1 c1) (.slice A2 n2 c2) (.slice A3 n3 c3) 26 3 4 22 k) (fun i _ => n2 - (intOf i).toNat)
  case atStart =>
    refine ⟨0, rfl, by omega, .slice A1' n1 c1', none, 0, .slice A3' n3 c3', M1.out.far (by simp; omega) _, M2.out.far (by simp) _, M3.out.set 2 _, ?_, ?_, ?_, KB3.out⟩
    · exact Own.setFar ⟨A1', c1', us1, by rw [HH.out.hc.out], by rw [HH.out.hc.out]; exact P1.out, R1.out⟩ M3.out (by decide) 2 _
    · exact Own.setFar ⟨A3', c3', us3, by rw [HH.out.ha.out], by rw [HH.out.ha.out]; exact P3.out, R3.out⟩ M3.out (by decide) 2 _
    · exact Own.nil
  case round =>
    obtain ⟨k, rfl, hk, hinv⟩ := hrel
    have HI := Lib.hid hinv; clear hinv
    clear f0 f1 f2 g0 g1 g2 z0 z1 z2
    obtain ⟨s1, A, c, s3, b1, b2, b3, o1, o3, o2, hbel⟩ := HI.out
    have C1 := Lib.hid b1; have C2 := Lib.hid b2; have C3 := Lib.hid b3
    have O1 := Lib.hid o1; have O2 := Lib.hid o2; have O3 := Lib.hid o3; have BE := Lib.hid hbel
    obtain ⟨f0, f1, f2, _, _, _⟩ := b1.three
    obtain ⟨g0, g1, g2, z0, z1, z2⟩ := b3.three
    clear b1 b2 b3 o1 o2 o3 hbel
    by_cases hlt : k < n2
    · obtain ⟨ab, ao, A', c', n', r, rfl, hab, hr, hA', HN', _, hn', HR⟩ := HH.out.n.gtS HH.out.hn hlt
      have g4 := (BE.out.cell (p := ⟨ab, ao + k, none⟩) hab).trans hr
      clear hr
      obtain ⟨us, hrr, srcr⟩ := hA'.src (fun _ _ h => RI.one h)
      rw [HN'.out] at srcr
      have SR := Lib.hid (srcr.keep ((Keep.of BE.out).trans (Keep.drew _)))
      have RR := Lib.hid hrr
      obtain ⟨A0, c0, us2, hv, hown2, hrel2⟩ := O2.out
      have hlk : (d.next.take k).length = k := by rw [List.length_take, HH.out.hn.out]; omega
      rw [hlk] at hv hown2
      simp only [Value.slice.injEq, true_and] at hv
      obtain ⟨rfl, rfl⟩ := hv
      have OW2 := Lib.hid (show wr.drew.ownsRow w.heap.size 22 1 (.slice A k c) k us2 from hown2); have RL2 := Lib.hid hrel2
      have hn'1 : n' ≤ 1000000 := by have := HM4.out k r HR.out; rwa [HN'.out] at this
      have HLK := Lib.hid hlk
      have D1 : Hid (Blk wr.drew w.heap.size 26 #[.slice A1 n1 c1, .slice (some ⟨ab, ao, none⟩) n2 c2, .slice A3 n3 c3]) := C1
      have D2 : Hid (Blk wr.drew (w.heap.size + 1) 26 #[.slice none 0 0, .slice none 0 0, .slice none 0 0]) := C2
      have D3 : Hid (Blk wr.drew (w.heap.size + 1 + 1) 26 #[s1, .slice A k c, s3]) := C3
      clear hA' srcr hrr hown2 hrel2 hlk
      go_wp2
      go_region_law (first
        | (refine step_append_src _ rfl (.const (.slice none 0 0)) (.tmp 30) 22 rfl w.heap.size 3 i0 (.int .i64 0) 1 8 Try.underlying22 hi0 hz0 hs0 hb0 rfl (by decide) none 0 0 [] rfl (World.ownsRow_nil _ _ _ _) A' n' c' us (by simp [Act.eval]) SR.out (by simp only [maxLen]; omega) (by omega) BE.out.size ?_
           intro A7 c7 w7 own7 gr7 _
           change wr.drew.grownBy w7 none at gr7
           simp only [List.nil_append, Nat.zero_add] at own7
           have N1 := Lib.hid (D1.out.grown0 gr7)
           have N2 := Lib.hid (D2.out.grown0 gr7)
           have N3 := Lib.hid (D3.out.grown0 gr7)
           have P2 := Lib.hid ((ownsRow_grown0 OW2.out gr7).alloc (.cells #[.slice A7 n' c7] 22))
           have O7 := Lib.hid own7
           have G7 := Lib.hid gr7
           have BE7 := Lib.hid ((below_grown0 BE.out.drew gr7 BE.out.size).alloc (Nat.le_trans BE.out.size gr7.size) (.cells #[.slice A7 n' c7] 22))
           clear f0 f1 f2 g0 g1 g2 z0 z1 z2
           obtain ⟨f0, f1, f2, _, _, _⟩ := N1.out.three
           obtain ⟨g0, g1, g2, z0, z1, z2⟩ := N3.out.three
           have hz7 := N3.out.lt
           clear own7 gr7)
        | (refine step_append_src _ rfl (.tmp 25) (.tmp 32) 23 rfl w.heap.size 22 i2 (.slice none 0 0) 1 24 Try.underlying23 hi2 hz2 hs2 hb2 rfl (by decide) A c k us2 (by simp [Act.eval]) P2.out _ 1 1 _ (by simp [Act.eval]) (Src.one rfl) (by simp only [maxLen]; omega) (by omega) BE7.out.size ?_
           intro A9 c9 w9 own9 gr9 _
           have Q1 := Lib.hid ((N1.out.alloc (.cells #[.slice A7 n' c7] 22)).grown gr9 (own_blk_ne P2.out (N1.out.alloc (.cells #[.slice A7 n' c7] 22)) (by decide)))
           have Q2 := Lib.hid ((N2.out.alloc (.cells #[.slice A7 n' c7] 22)).grown gr9 (own_blk_ne P2.out (N2.out.alloc (.cells #[.slice A7 n' c7] 22)) (by decide)))
           have Q3 := Lib.hid ((N3.out.alloc (.cells #[.slice A7 n' c7] 22)).grown gr9 (own_blk_ne P2.out (N3.out.alloc (.cells #[.slice A7 n' c7] 22)) (by decide)))
           have O9 := Lib.hid own9
           have G9 := Lib.hid gr9
           clear f0 f1 f2 g0 g1 g2 z0 z1 z2
           obtain ⟨f0, f1, f2, _, _, _⟩ := Q1.out.three
           obtain ⟨g0, g1, g2, z0, z1, z2⟩ := Q3.out.three
           clear own9 gr9))
      all_goals
        go_wp2
        go_roundw
        case rel =>
          have hsz2 : w.heap.size < w.heap.size + 1 + 1 := by omega
          have up : ∀ {α : Type} (e : TypeId) (R : Value → α → Prop) (u : Value) (x : List α), e ≠ 22 → e ≠ 26 → Own wr w.heap.size e R u x → Own (w9.setCell ⟨w.heap.size + 1 + 1, 1, none⟩ (.slice A9 (k + 1) c9)) w.heap.size e R u x :=
            fun e R u x h1 h2 h => (((Own.grown0 (w := wr.drew) h.drew G7.out).alloc (.cells #[.slice A7 n' c7] 22)).grown P2.out h1 G9.out).setFar Q3.out h2 1 _
          have new : Own (w9.setCell ⟨w.heap.size + 1 + 1, 1, none⟩ (.slice A9 (k + 1) c9)) w.heap.size 3 RI (.slice A7 n' c7) r :=
            ((Own.alloc ⟨A7, c7, us, by rw [HN'.out], by rw [HN'.out]; exact O7.out, RR.out⟩ (.cells #[.slice A7 n' c7] 22)).grown P2.out (by decide) G9.out).setFar Q3.out (by decide) 1 _
          have hlen : (d.next.take (k + 1)).length = k + 1 := by rw [take_snoc HR.out, List.length_append, HLK.out]; rfl
          refine ⟨k + 1, by go_num, by omega, s1, A9, c9, s3, Q1.out.far (by simp; omega) _, Q2.out.far (by simp) _, Q3.out.set 1 _, up _ _ _ _ (by decide) (by decide) O1.out, up _ _ _ _ (by decide) (by decide) O3.out, ?_, ?_⟩
          · refine ⟨A9, c9, us2 ++ [.slice A7 n' c7], by rw [hlen], by rw [hlen]; exact ownsRow_setFar O9.out Q3.out (by decide) 1 _, ?_⟩
            rw [take_snoc HR.out]
            exact (RL2.out.mono fun u x h => up _ _ _ _ (by decide) (by decide) h).app (Rel.one new)
          · exact (BE7.out.grown G9.out BE7.out.size (fun g hg => own_ge P2.out g hg)).setCell (by simp; omega) _
        case measure => simp [intOf]; omega
    · have : k = n2 := by omega
      subst this
      obtain ⟨a1, e1, x1, rfl, ow1, rl1⟩ := O1.out
      obtain ⟨a3, e3, x3, rfl, ow3, rl3⟩ := O3.out
      obtain ⟨h0, h1, h2, y0, y1, y2⟩ := C2.out.three
      clear ow1 rl1 ow3 rl3
      go_wp2
      refine bodyPost_ret (v := .agg #[.slice a1 d.cuts.length e1, .slice A k c, .slice a3 d.accept.length e3]) (by simp [results, Try.results10, go_sem, h0, h1, h2]) rfl ⟨_, _, _, rfl, ?_, ?_⟩
      · have up : ∀ {α : Type} (e : TypeId) (R : Value → α → Prop) (u : Value) (x : List α), e ≠ 26 → Own wr w.heap.size e R u x →
            Own (((wr.setCell ⟨w.heap.size + 1, 0, none⟩ (.slice a1 d.cuts.length e1)).setCell ⟨w.heap.size + 1, 1, none⟩ (.slice A k c)).setCell ⟨w.heap.size + 1, 2, none⟩ (.slice a3 d.accept.length e3)) w.heap.size e R u x :=
          fun e R u x h1 h => ((h.setFar C2.out h1 0 _).setFar (C2.out.set 0 _) h1 1 _).setFar ((C2.out.set 0 _).set 1 _) h1 2 _
        have ht : d.next.take k = d.next := List.take_of_length_le (by rw [HH.out.hn.out]; omega)
        have o2 := O2.out
        rw [ht] at o2
        have o3 := up _ _ _ _ (by decide) O1.out
        have o4 := up _ _ _ _ (by decide) O3.out
        have o5 := up _ _ _ _ (by decide) o2
        refine ⟨o3, ?_, o4⟩
        exact (o5.andP (p := fun x => x.length ≤ 1000000) fun x hx => by
          obtain ⟨j, hj⟩ := List.getElem?_of_mem hx
          exact HM4.out j x hj).monoR fun u x h => ⟨up _ _ _ _ (by decide) h.1, h.2⟩
      · exact ((BE.out.setCell (by simp) _).setCell (by simp) _).setCell (by simp) _

end Go.Proofs.Ytjnjbcigbnjmkaa
