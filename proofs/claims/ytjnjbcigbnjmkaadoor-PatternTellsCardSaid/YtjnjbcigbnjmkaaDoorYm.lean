/- Walks: the program's text of any tree, and of a pattern. PUT1 -/
import Derived.Test.YtjnjbcigbnjmkaaDoorYl
namespace Go.Proofs.YtjnjbcigbnjmkaaDoor
open Go.RowKit Pv

set_option maxHeartbeats 1000000 in
set_option maxRecDepth 100000 in
theorem tell_leaf (w0 : World) (tA : Option Addr) (nt ct i pt pe pl pi eb : Nat) (t : List Rx) (x : Rx) (ks : List Tr) (hE : TellE w0 tA nt ct t pt pe pl pi eb) (HT : Hid (t.length = nt)) (hnt : nt ≤ 64) (hx : x.One) (hk : x.kind = 0 ∨ x.kind = 1) (HX : Hid (t[i]? = some x)) (HBH : Hid (behind t 16 i = some (i + 1))) : TellC w0 pt pe pl pi (.mk x ks) i := by
  intro w hbw
  have hin : i < nt := by have := lt_of_get HX.out; rwa [HT.out] at this
  obtain ⟨b, off, kd, B, m, cs, l, many, least', most', rfl, H5, hs, HM, hm, hkd, hma, hle, hmo, HX'⟩ := (hE.at_.keep (Keep.of hbw)).g5 HT hin
  obtain rfl := Option.some.inj (HX'.out.symm.trans HX.out)
  obtain ⟨y0, y1, y2, y3, y4, y5⟩ := H5
  simp only at hk
  obtain ⟨c1, c2, c3, c4⟩ := hE.cells hbw
  have c5 := hE.end_ hbw HBH.out (by rw [HT.out]; exact hin)
  rcases hk with rfl | rfl
  · have HTX := Lib.hid (congrArg mkS (txt_empty (x := ⟨0, l, many, least', most'⟩) (ks := ks) rfl))
    have HJ := Lib.hid (fun W => Tryd.strings_Join_none none 0 ⟨#[]⟩ W)
    rw [show ((i + 1 : Nat) : Int) = (i : Int) + 1 by omega] at c5
    have l2 := World.block_lt_of_cell? _ _ c2; have l5 := World.block_lt_of_cell? _ _ c5
    simp only at l2 l5
    have i1 : (0 : Int) ≤ (i : Int) := by omega
    have i2 : (i : Int) < (nt : Int) := by omega
    clear hx hs HX' HX hE hbw
    go_enter Tryd.func17, Tryd.ntmps17
    go_wp2
    go_loopw [9, 8] (fun kv lv wr => kv = .int .i64 (i + 1) ∧ lv = .slice none 0 0 ∧ wr = w.alloc (.cells #[.int .u8 0, .slice B cs m, .int .i64 many, .int .i64 least', .int .i64 most'] 40)) (fun _ _ _ => 0)
    case atStart => exact ⟨rfl, rfl, rfl⟩
    case round =>
      obtain ⟨rfl, rfl, rfl⟩ := hrel
      have z1 : decide ((i : Int) + 1 < (i : Int) + 1) = false := by simp
      go_wp2_with (go_at_call 19; refine (HJ.out _).mono ?_; rintro e w1 ⟨rfl, rfl⟩)
      go_ret
      exact ⟨by rw [HTX.out]; rfl, (by repeat (first | exact Below.refl _ _ | exact (Below.refl _ _).alloc (Nat.le_refl _) _ | apply below_drewN))⟩
  · have HTX := Lib.hid (congrArg mkS (txt_set (x := ⟨1, l, many, least', most'⟩) (ks := ks) rfl))
    have HOK : SetOk l := by rcases hx with h | h | h | h <;> first | exact h.2.1 | (simp only at h; omega)
    have HS := Lib.hid (fun W (k : Below w.heap.size w W) => pattern_set B m cs l W (hs.keep (Keep.of k)) HM HOK ((hE.tabs.next (hbw.trans (k.mono hbw.size))).up (by have h1 := hbw.size; have h2 := k.size; omega)))
    clear hx hs HX' HX HOK hE hbw
    go_enter Tryd.func17, Tryd.ntmps17
    go_wp2_with (go_at_call 18; refine (HS.out _ ((Below.refl _ w).alloc (Nat.le_refl _) _)).mono ?_; rintro e w1 ⟨rfl, hb1⟩; have HB1 := Lib.hid (((Below.refl _ w).alloc (Nat.le_refl _) _).trans (hb1.mono (by simp))); clear hb1)
    go_ret
    exact ⟨by show Ending.returned (.string (mkS (setL l))) = _; rw [HTX.out], HB1.out⟩

theorem sizes_succ {ks : List Tr} {j : Nat} {K : Tr} (h : ks[j]? = some K) : sizes (ks.take (j + 1)) = sizes (ks.take j) + K.size := by
  show (flats (ks.take (j + 1))).length = (flats (ks.take j)).length + K.flat.length
  rw [take_snoc h, flats_app, List.length_append]
  simp only [flats, List.append_nil]

theorem tell_all (w0 : World) (tA : Option Addr) (nt ct pt pe pl pi eb : Nat) (t : List Rx) (hE : TellE w0 tA nt ct t pt pe pl pi eb) (HT : Hid (t.length = nt)) (hnt : nt ≤ 64) : ∀ (d : Nat), d ≤ 16 → ∀ (T : Tr) (i : Nat) (r : List Rx), T.Ok d → t.drop i = T.flat ++ r → TellC w0 pt pe pl pi T i := by
  intro d
  induction d with
  | zero =>
    intro _ T i r h hd
    have hb := tree_behind (h.up (Nat.zero_le 16)) hd
    obtain ⟨x, ks⟩ := T
    obtain ⟨h1, h2, rfl⟩ := h
    refine tell_leaf w0 tA nt ct i pt pe pl pi eb t x [] hE HT hnt h1 ?_ (Lib.hid (drop_head hd).1) (Lib.hid hb)
    rcases h1 with h | h | h | h <;> omega
  | succ d ih =>
    intro hd16 T i r h hd
    have hb := tree_behind (h.up hd16) hd
    obtain ⟨x, ks⟩ := T
    have hx := h.1
    have hlen := h.2.1
    by_cases hk : x.kind = 0 ∨ x.kind = 1
    · have hm := Rx.many0 hx (by omega)
      have : ks = [] := List.eq_nil_of_length_eq_zero (by omega)
      subst this
      exact tell_leaf w0 tA nt ct i pt pe pl pi eb t x [] hE HT hnt hx hk (Lib.hid (drop_head hd).1) (Lib.hid hb)
    · obtain ⟨hg, hd2, hat, hz, hq, hr⟩ := kids_all hd h.2.2 (by omega) HT.out hnt
      have HR : ∀ j K, ks[j]? = some K → i + 1 + sizes (ks.take (j + 1)) ≤ i + 1 + sizes ks ∧ t[i + 1 + sizes (ks.take j)]? = some K.root ∧ behind t 16 (i + 1 + sizes (ks.take j)) = some (i + 1 + sizes (ks.take (j + 1))) ∧ i + 1 + sizes (ks.take j) < i + 1 + sizes (ks.take (j + 1)) ∧ TellC w0 pt pe pl pi K (i + 1 + sizes (ks.take j)) := fun j K hK => by
        obtain ⟨r', hr'⟩ := hr j K hK
        have hkk := h.2.2 K (mem_of_get hK)
        have h1 := tree_behind (hkk.up (show d ≤ 16 by omega)) hr'
        have h2 := sizes_succ hK
        have h3 := K.size_pos
        have h4 := sizes_take_le (ks := ks) (j + 1)
        exact ⟨by omega, root_at hr', by rw [h1, h2, Nat.add_assoc], by omega, ih (by omega) K _ r' hkk hr'⟩
      rw [Tr.size_mk] at hb
      have HB : Hid (behind t 16 i = some (i + 1 + sizes ks)) := Lib.hid (by rw [hb]; congr 1; omega)
      have HIN : Hid (i + 1 + sizes ks ≤ nt) := Lib.hid (by have h1 := (hat ks.length (Nat.le_refl _)).2; rwa [List.take_length] at h1)
      obtain ⟨kd, l, many, least, most⟩ := x
      simp only at hlen hk
      rcases hx with ⟨h1, _⟩ | ⟨h1, _⟩ | ⟨h1, h2, h3, h4, h5⟩ | ⟨h1, h2, h3, h4, h5, h6⟩
      · exact absurd (.inl h1) hk
      · exact absurd (.inr h1) hk
      · simp only at h1 h2 h5
        subst h2
        obtain rfl := hlen
        have h0 : 0 < ks.length := by omega
        rcases h1 with rfl | rfl
        · exact tell_cat w0 tA nt ct i ks.length d pt pe pl pi eb t least most ks hE HT hnt (Lib.hid hg) (Lib.hid rfl) hq h0 HB HIN (Lib.hid h.2.2) (Lib.hid hz) (Lib.hid HR)
        · exact tell_alt w0 tA nt ct i ks.length d pt pe pl pi eb t least most ks hE HT hnt (Lib.hid hg) (Lib.hid rfl) hq h0 HB HIN (Lib.hid h.2.2) (Lib.hid hz) (Lib.hid HR)
      · simp only at h1 h2 h3 h4 h5 h6
        subst h2; subst h1
        have h0 : ks.length = 1 := by omega
        obtain rfl := hlen
        exact tell_rep w0 tA nt ct i ks.length d pt pe pl pi eb t least most ks hE HT hnt (Lib.hid hg) (Lib.hid rfl) hq (by omega) HB HIN (Lib.hid h.2.2) (Lib.hid hz) (Lib.hid HR) h0 ⟨h4, h5, h6⟩

set_option maxHeartbeats 1000000 in
set_option maxRecDepth 100000 in
theorem pattern_Text (A : Option Addr) (c n : Nat) (t : List Rx) (w : World) (h : AtRx w A t) (HL : Hid (t.length = n)) (hT : TabsP w.heap.size w) :
    Calls Tryd.prog 6 #[.slice A n c] w fun e w' => e = .returned (.tuple #[.string (mkS (textL t)), .int .i64 (patE t)]) ∧ Below w.heap.size w w' := by
  have hl : n ≤ 140737488355328 := by have := h.1; rwa [HL.out] at this
  have hnil := fun (W : World) (a : Option Addr) (n c : Nat) => Lib.run_eql_slice_nil (P := Tryd.prog) W 42 3 a n c 0 0 Tryd.underlying42
  have HB0 := Lib.hid ((Below.refl _ w).alloc (Nat.le_refl _) (.cells #[.slice A n c] 22))
  by_cases hp : Pat t
  · have HE := Lib.hid (patE_yes hp)
    have HTX := Lib.hid (textL_yes hp)
    have hq := hp.2.1
    rw [HL.out] at hq
    obtain ⟨hk, hf⟩ := patT_is hp
    have HC := Lib.hid (pattern_behind_yes A c n t _ (h.keep (Keep.of HB0.out)) HL (Lib.hid hp))
    have HO := Lib.hid (fun (w0 : World) (pt pe pl pi eb : Nat) (hE : TellE w0 A n c t pt pe pl pi eb) => tell_all w0 A n c pt pe pl pi eb t hE HL hq 16 (Nat.le_refl _) (patT t) 0 [] hk (by rw [← hf]; simp))
    have HT := Lib.hid hT
    have HA := Lib.hid h
    clear h hp hk hf hT
    go_enter Tryd.func6, Tryd.ntmps6
    go_wp2_with (go_at_call 15; refine HC.out.mono ?_; rintro e w1 ⟨eb, rfl, hat, hb1⟩; have HAT := Lib.hid hat; have HB1 := Lib.hid (HB0.out.trans (hb1.mono HB0.out.size)); have HBX := Lib.hid hb1; clear hat hb1)
    have e1 : (w1.alloc (.cells #[.slice (some ⟨eb, 0, none⟩) n n] 42)).heap.size = w1.heap.size + 1 := by simp
    have e2 : ((w1.alloc (.cells #[.slice (some ⟨eb, 0, none⟩) n n] 42)).alloc (.cells #[.func (.func 16) #[] #[]] 44)).heap.size = w1.heap.size + 1 + 1 := by simp
    have HTE : Hid (TellE (((w1.alloc (.cells #[.slice (some ⟨eb, 0, none⟩) n n] 42)).alloc (.cells #[.func (.func 16) #[] #[]] 44)).alloc (.cells #[.func (.func 17) #[] #[.pointer (some ⟨w.heap.size, 0, none⟩), .pointer (some ⟨w1.heap.size, 0, none⟩), .pointer (some ⟨w1.heap.size + 1 + 1, 0, none⟩), .pointer (some ⟨w1.heap.size + 1, 0, none⟩)]] 45)) A n c t w.heap.size w1.heap.size (w1.heap.size + 1 + 1) (w1.heap.size + 1) eb) := Lib.hid (by
      have b1 := ((Blk.new w1 42 #[.slice (some ⟨eb, 0, none⟩) n n]).alloc (.cells #[.func (.func 16) #[] #[]] 44)).alloc (.cells #[.func (.func 17) #[] #[.pointer (some ⟨w.heap.size, 0, none⟩), .pointer (some ⟨w1.heap.size, 0, none⟩), .pointer (some ⟨w1.heap.size + 1 + 1, 0, none⟩), .pointer (some ⟨w1.heap.size + 1, 0, none⟩)]] 45)
      have b2 := (Blk.new (w1.alloc (.cells #[.slice (some ⟨eb, 0, none⟩) n n] 42)) 44 #[.func (.func 16) #[] #[]]).alloc (.cells #[.func (.func 17) #[] #[.pointer (some ⟨w.heap.size, 0, none⟩), .pointer (some ⟨w1.heap.size, 0, none⟩), .pointer (some ⟨w1.heap.size + 1 + 1, 0, none⟩), .pointer (some ⟨w1.heap.size + 1, 0, none⟩)]] 45)
      have b3 := Blk.new ((w1.alloc (.cells #[.slice (some ⟨eb, 0, none⟩) n n] 42)).alloc (.cells #[.func (.func 16) #[] #[]] 44)) 45 #[.func (.func 17) #[] #[.pointer (some ⟨w.heap.size, 0, none⟩), .pointer (some ⟨w1.heap.size, 0, none⟩), .pointer (some ⟨w1.heap.size + 1 + 1, 0, none⟩), .pointer (some ⟨w1.heap.size + 1, 0, none⟩)]]
      rw [e1] at b2
      rw [e2] at b3
      have K3 : Below w1.heap.size w1 _ := (((Below.refl w1.heap.size w1).alloc (Nat.le_refl _) (.cells #[.slice (some ⟨eb, 0, none⟩) n n] 42)).alloc (by simp) (.cells #[.func (.func 16) #[] #[]] 44)).alloc (by simp; omega) (.cells #[.func (.func 17) #[] #[.pointer (some ⟨w.heap.size, 0, none⟩), .pointer (some ⟨w1.heap.size, 0, none⟩), .pointer (some ⟨w1.heap.size + 1 + 1, 0, none⟩), .pointer (some ⟨w1.heap.size + 1, 0, none⟩)]] 45)
      have K4 := HB1.out.trans (K3.mono HB1.out.size)
      refine ⟨HA.out.keep (Keep.of K4), (HT.out.next K4).up K4.size, ?_, b1.cell 0, b3.cell 0, b2.cell 0, HAT.out.keep (Keep.of K3)⟩
      refine ((K3.cell (p := ⟨w.heap.size, 0, none⟩) (by have := HBX.out.size; simp at this ⊢; omega))).trans ((HBX.out.cell (p := ⟨w.heap.size, 0, none⟩) (by simp)).trans (World.cell?_alloc_new ..)))
    have HK4 : Hid (Below w.heap.size w (((w1.alloc (.cells #[.slice (some ⟨eb, 0, none⟩) n n] 42)).alloc (.cells #[.func (.func 16) #[] #[]] 44)).alloc (.cells #[.func (.func 17) #[] #[.pointer (some ⟨w.heap.size, 0, none⟩), .pointer (some ⟨w1.heap.size, 0, none⟩), .pointer (some ⟨w1.heap.size + 1 + 1, 0, none⟩), .pointer (some ⟨w1.heap.size + 1, 0, none⟩)]] 45))) := Lib.hid (HB1.out.trans (((((Below.refl w1.heap.size w1).alloc (Nat.le_refl _) (.cells #[.slice (some ⟨eb, 0, none⟩) n n] 42)).alloc (by simp) (.cells #[.func (.func 16) #[] #[]] 44)).alloc (by simp; omega) _).mono HB1.out.size))
    have HCALL := Lib.hid (HO.out _ _ _ _ _ _ HTE.out _ (Below.refl _ _))
    clear e1 e2 HTE
    refine HCALL.out.mono ?_
    rintro e w2 ⟨rfl, hb2⟩
    have HB2 := Lib.hid (HK4.out.trans (hb2.mono HK4.out.size))
    clear hb2
    go_wp2
    go_ret2
    exact ⟨by show Ending.returned (.tuple #[.string (mkS (patT t).txt), .int .i64 0]) = _; rw [HE.out, HTX.out], HB2.out⟩
  · have HE := Lib.hid (patE_no hp)
    have HTX := Lib.hid (textL_no hp)
    have HC := Lib.hid (pattern_behind_no A c n t _ (h.keep (Keep.of HB0.out)) HL (Lib.hid hp))
    clear h hp hT
    go_enter Tryd.func6, Tryd.ntmps6
    go_wp2_with (go_at_call 15; refine HC.out.mono ?_; rintro e w1 ⟨rfl, hb1⟩; have HB1 := Lib.hid (HB0.out.trans (hb1.mono HB0.out.size)); clear hb1)
    go_ret2
    exact ⟨by rw [HE.out, HTX.out]; rfl, HB1.out.alloc HB1.out.size _⟩
end Go.Proofs.YtjnjbcigbnjmkaaDoor
