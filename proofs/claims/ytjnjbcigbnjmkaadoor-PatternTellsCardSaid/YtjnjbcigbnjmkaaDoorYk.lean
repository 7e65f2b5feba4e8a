/- Walks: the document's text of any tree, and of a pattern. PUT1 -/
import Derived.Test.YtjnjbcigbnjmkaaDoorYj
namespace Go.Proofs.YtjnjbcigbnjmkaaDoor
open Go.RowKit Pv

set_option maxHeartbeats 1000000 in
set_option maxRecDepth 100000 in
theorem of_leaf (w0 : World) (tA : Option Addr) (nt ct i : Nat) (t : List Rx) (x : Rx) (ks : List Tr) (ht : AtRx w0 tA t) (HT : Hid (t.length = nt)) (hx : x.One) (hk : x.kind = 0 ∨ x.kind = 1) (HX : Hid (t[i]? = some x)) : OfC w0 tA nt ct (.mk x ks) i := by
  intro w kp
  have hin : i < nt := by have := lt_of_get HX.out; rwa [HT.out] at this
  obtain ⟨b, off, kd, B, m, cs, l, many, least', most', rfl, H5, hs, HM, hm, hkd, hma, hle, hmo, HX'⟩ := (ht.keep kp).g5 HT hin
  obtain rfl := Option.some.inj (HX'.out.symm.trans HX.out)
  obtain ⟨y0, y1, y2, y3, y4, y5⟩ := H5
  clear ht kp
  simp only at hk
  rcases hk with rfl | rfl
  · have HTX := Lib.hid (congrArg mkS (txt_empty (x := ⟨0, l, many, least', most'⟩) (ks := ks) rfl))
    clear hx hs HX' HX
    go_enter Tryd.func22, Tryd.ntmps22
    go_wp2
    go_ret
    exact ⟨by rw [HTX.out]; rfl, (by repeat (first | exact Below.refl _ _ | exact (Below.refl _ _).alloc (Nat.le_refl _) _ | apply below_drewN))⟩
  · have HTX := Lib.hid (congrArg mkS (txt_set (x := ⟨1, l, many, least', most'⟩) (ks := ks) rfl))
    have HOK : SetOk l := by rcases hx with h | h | h | h <;> first | exact h.2.1 | (simp only at h; omega)
    have HS := Lib.hid (fun W (k : Keep w W) => ref07_set B m cs l W (hs.keep k) HM HOK)
    clear hx hs HX' HX HOK
    go_enter Tryd.func22, Tryd.ntmps22
    go_wp2_with (go_at_call 35; refine (HS.out _ (Keep.alloc _ _)).mono ?_; rintro e w1 ⟨rfl, hb1⟩; have HB1 := Lib.hid (((Below.refl _ w).alloc (Nat.le_refl _) _).trans (hb1.mono (by simp))); clear hb1)
    go_ret
    exact ⟨by show Ending.returned (.string (mkS (setL l))) = _; rw [HTX.out], HB1.out⟩

/-- What a node of nodes has, by its tree. -/
theorem kids_all {t : List Rx} {x : Rx} {ks : List Tr} {i d n : Nat} {r : List Rx} (hd : t.drop i = (Tr.mk x ks).flat ++ r) (hk : ∀ k, k ∈ ks → k.Ok d) (hd16 : d ≤ 16) (hn : t.length = n) (h64 : n ≤ 64) :
    t[i]? = some x ∧ t.drop (i + 1) = flats ks ++ r ∧ (∀ j, j ≤ ks.length → again (behind t 16) j (i + 1) = some (i + 1 + sizes (ks.take j)) ∧ i + 1 + sizes (ks.take j) ≤ n) ∧ sizes ks ≤ 64 ∧ ks.length ≤ 64 ∧
      ∀ j K, ks[j]? = some K → ∃ r', t.drop (i + 1 + sizes (ks.take j)) = K.flat ++ r' := by
  simp only [Tr.flat, List.cons_append] at hd
  obtain ⟨hg, hd2⟩ := drop_head hd
  have hi := lt_of_get hg
  have hka := kids_at hd2 (fun k h => (hk k h).up hd16)
  have hz : sizes ks ≤ 64 := by
    have h1 := congrArg List.length hd2
    simp only [List.length_drop, List.length_append] at h1
    have h3 : sizes ks = (flats ks).length := rfl
    omega
  refine ⟨hg, hd2, fun j hj => ⟨(hka j hj).1, ?_⟩, hz, by have := length_sizes ks; omega, fun j K hK => ?_⟩
  · rw [← hn]; exact sizes_le hd2 j hi
  · have h1 := (hka j (Nat.le_of_lt (lt_of_get hK))).2
    rw [drop_cons hK] at h1
    simp only [flats, List.append_assoc] at h1
    exact ⟨_, h1⟩

theorem of_all (w0 : World) (tA : Option Addr) (nt ct : Nat) (t : List Rx) (ht : AtRx w0 tA t) (HT : Hid (t.length = nt)) (hnt : nt ≤ 64) : ∀ (d : Nat), d ≤ 16 → ∀ (T : Tr) (i : Nat) (r : List Rx), T.Ok d → t.drop i = T.flat ++ r → OfC w0 tA nt ct T i := by
  intro d
  induction d with
  | zero =>
    intro _ T i r h hd
    obtain ⟨x, ks⟩ := T
    obtain ⟨h1, h2, rfl⟩ := h
    refine of_leaf w0 tA nt ct i t x [] ht HT h1 ?_ (Lib.hid (drop_head hd).1)
    rcases h1 with h | h | h | h <;> omega
  | succ d ih =>
    intro hd16 T i r h hd
    obtain ⟨x, ks⟩ := T
    have hx := h.1
    by_cases hk : x.kind = 0 ∨ x.kind = 1
    · exact of_leaf w0 tA nt ct i t x ks ht HT hx hk (Lib.hid (drop_head hd).1)
    · obtain ⟨hg, hd2, hat, hz, hq, hr⟩ := kids_all hd h.2.2 (by omega) HT.out hnt
      have HR : ∀ j K, ks[j]? = some K → t[i + 1 + sizes (ks.take j)]? = some K.root ∧ OfC w0 tA nt ct K (i + 1 + sizes (ks.take j)) := fun j K hK => by
        obtain ⟨r', hr'⟩ := hr j K hK
        exact ⟨root_at hr', ih (by omega) K _ r' (h.2.2 K (mem_of_get hK)) hr'⟩
      have hlen := h.2.1
      obtain ⟨kd, l, many, least, most⟩ := x
      simp only at hlen hk
      rcases hx with ⟨h1, _⟩ | ⟨h1, _⟩ | ⟨h1, h2, h3, h4, h5⟩ | ⟨h1, h2, h3, h4, h5, h6⟩
      · exact absurd (.inl h1) hk
      · exact absurd (.inr h1) hk
      · simp only at h1 h2
        subst h2
        obtain rfl := hlen
        rcases h1 with rfl | rfl
        · exact of_cat w0 tA nt ct i ks.length d t least most ks ht HT hnt (Lib.hid hg) (Lib.hid rfl) hq (Lib.hid hat) (Lib.hid h.2.2) (Lib.hid hz) (Lib.hid HR)
        · exact of_alt w0 tA nt ct i ks.length d t least most ks ht HT hnt (Lib.hid hg) (Lib.hid rfl) hq (Lib.hid hat) (Lib.hid h.2.2) (Lib.hid hz) (Lib.hid HR)
      · simp only at h1 h2 h4 h5 h6
        subst h2; subst h1
        obtain rfl := hlen
        exact of_rep w0 tA nt ct i ks.length d t least most ks ht HT hnt (Lib.hid hg) (Lib.hid rfl) hq (Lib.hid hat) (Lib.hid h.2.2) (Lib.hid hz) (Lib.hid HR) ⟨h4, h5, h6⟩

/-- A pattern's tree, its text. -/
noncomputable def patT (t : List Rx) : Tr := open Classical in if h : Pat t then Classical.choose h.tree else .mk ⟨0, [], 0, 0, 0⟩ []
theorem patT_is {t : List Rx} (h : Pat t) : (patT t).Ok 16 ∧ t = (patT t).flat := by
  unfold patT
  rw [dif_pos h]
  exact Classical.choose_spec h.tree
noncomputable def textL (t : List Rx) : List UInt8 := if patB t = true then (patT t).txt else []
theorem textL_yes {t : List Rx} (h : Pat t) : textL t = (patT t).txt := by unfold textL; rw [if_pos (patB_yes h)]
theorem textL_no {t : List Rx} (h : ¬ Pat t) : textL t = [] := by unfold textL; rw [if_neg (by rw [patB_no h]; simp)]

set_option maxHeartbeats 1000000 in
set_option maxRecDepth 100000 in
theorem ref07_Text (A : Option Addr) (c n : Nat) (t : List Rx) (w : World) (h : AtRx w A t) (HL : Hid (t.length = n)) :
    Calls Tryd.prog 7 #[.slice A n c] w fun e w' => e = .returned (.tuple #[.string (mkS (textL t)), .int .i64 (patE t)]) ∧ Below w.heap.size w w' := by
  by_cases hp : Pat t
  · have HE := Lib.hid (patE_yes hp)
    have HTX := Lib.hid (textL_yes hp)
    have HM := Lib.hid (ref07_May A c n t w h HL)
    rw [patB_yes hp] at HM
    have hq := hp.2.1
    rw [HL.out] at hq
    obtain ⟨hk, hf⟩ := patT_is hp
    have HO := Lib.hid (of_all w A n c t h HL hq 16 (Nat.le_refl _) (patT t) 0 [] hk (by rw [← hf]; simp))
    clear h hp hk hf
    go_enter Tryd.func7, Tryd.ntmps7
    go_wp2_with (first | (go_at_call 21; refine HM.out.mono ?_; rintro e w1 ⟨rfl, hb1⟩; have HB1 := Lib.hid hb1; clear hb1) | (go_at_call 22; refine (HO.out _ (Keep.of HB1.out)).mono ?_; rintro e w2 ⟨rfl, hb2⟩; have HB2 := Lib.hid hb2; clear hb2))
    go_ret2
    exact ⟨by show Ending.returned (.tuple #[.string (mkS (patT t).txt), .int .i64 0]) = _; rw [HE.out, HTX.out], HB1.out.trans (HB2.out.mono HB1.out.size)⟩
  · have HE := Lib.hid (patE_no hp)
    have HTX := Lib.hid (textL_no hp)
    have HM := Lib.hid (ref07_May A c n t w h HL)
    rw [patB_no hp] at HM
    clear h hp
    go_enter Tryd.func7, Tryd.ntmps7
    go_wp2_with (first | (go_at_call 21; refine HM.out.mono ?_; rintro e w1 ⟨rfl, hb1⟩))
    go_ret2
    exact ⟨by rw [HE.out, HTX.out]; rfl, hb1⟩
end Go.Proofs.YtjnjbcigbnjmkaaDoor
