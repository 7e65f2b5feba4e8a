/- Walks: the program's leading through any tree. -/
import Derived.Test.YtjnjbcigbnjmkaaBm
namespace Go.Proofs.Ytjnjbcigbnjmkaa
open Go.RowKit Pv

set_option maxHeartbeats 1000000 in
set_option maxRecDepth 100000 in
theorem maker_lead_rep (w0 W : World) (base pm e0 : Nat) (acc : Int) (tA EA : Option Addr) (nt ct ec : Nat) (t : List Rx) (A : Option Addr) (n c : Nat) (a : Au) (s i k : Nat) (l : List Rng) (most : Int) (K : Tr)
    (ht : AtRx w0 tA t) (hbs : w0.heap.size ≤ base) (HT : Hid (t.length = nt)) (HX : Hid (t[i]? = some ⟨4, l, 1, k, most⟩)) (h : MkE w0 W base pm e0 acc tA EA nt ct ec t A n c a) (hs : s < n) (hk : k ≤ 16) (hm : most = -1 ∨ ((k : Int) ≤ most ∧ most ≤ 16))
    (HN : Hid (n + (statesT K * timesOf ⟨4, l, 1, k, most⟩ + 1) ≤ 256)) (hi : i + 1 ≤ 64) (HI : Hid (∀ q a' s', s' < a'.length → a'.length + statesT K * q ≤ 256 → (iter (leadT K) q a' s').1.length = a'.length + statesT K * q ∧ (iter (leadT K) q a' s').2 < (iter (leadT K) q a' s').1.length ∧ EL a' (iter (leadT K) q a' s').1))
    (HIH : Hid (PLead w0 base pm e0 acc tA EA nt ct ec t K (i + 1))) (he : edgesN a ≤ 65 * n) :
    Calls Try.prog 63 #[.pointer (some ⟨pm, 0, none⟩), .int .i64 i, .int .i64 s] W (MkLead w0 W base pm e0 acc tA EA nt ct ec t (leadT (.mk ⟨4, l, 1, k, most⟩ [K]) a s)) := by
  have hin : i < nt := by have := lt_of_get HX.out; rwa [HT.out] at this
  obtain ⟨b, off, kd, B, cs, m, l', many', least', most', rfl, H5, hset, HM, hmc, hkd, hma, hle, hmo, HX'⟩ := ht.g5 HT hin
  obtain ⟨rfl, rfl, rfl, rfl, rfl⟩ := Rx.mk.inj (Option.some.inj (HX'.out.symm.trans HX.out))
  obtain ⟨y0, y1, y2, y3, y4, y5⟩ := H5.next h.kp
  obtain ⟨hpm, q2, q3⟩ := h.cells
  have hW1 : Below W.heap.size W (W.alloc (.cells #[.int .u8 4, .slice B m cs, .int .i64 1, .int .i64 k, .int .i64 most'] TRx)) := (Below.refl _ _).alloc (Nat.le_refl _) _
  have HJ := Lib.hid (maker_repeat w0 _ base pm e0 acc _ EA nt ct ec t A n c a s i k most' l' B m cs K hbs (h.next hW1) hs hk hm HN.out hi HI HIH he)
  have HW := Lib.hid hW1
  generalize leadT (.mk ⟨4, l', 1, k, most'⟩ [K]) a s = R at *
  clear h hW1 H5 ht hset HX' hm
  go_enter Try.func63, Try.ntmps63
  go_wp2_with fail
  refine HJ.out.mono ?_
  rintro e w1 ⟨A1, c1, rfl, mk1, ch1⟩
  have M1 := Lib.hid mk1
  have CH := Lib.hid ((Chg.of_below HW.out).trans ch1)
  clear mk1 ch1
  go_wp2
  go_ret
  exact ⟨A1, c1, rfl, M1.out, CH.out⟩

theorem maker_lead_all (w0 : World) (base pm e0 : Nat) (acc : Int) (tA EA : Option Addr) (nt ct ec : Nat) (t : List Rx) (hbs : w0.heap.size ≤ base) (ht : AtRx w0 tA t) (HT : Hid (t.length = nt)) (hnt : nt ≤ 64) :
    ∀ (d : Nat), d ≤ 16 → ∀ (T : Tr) (i : Nat) (r : List Rx), T.Ok d → T.size ≤ 64 → t.drop i = T.flat ++ r → PLead w0 base pm e0 acc tA EA nt ct ec t T i := by
  intro d
  induction d using Nat.strongRecOn with
  | _ d ih =>
  intro hd T i r hT hz hdr W A n c a s hmk hs hn he
  have hbT := tree_behind (hT.up hd) hdr
  obtain ⟨x, ks⟩ := T
  have hone := hT.one
  have hlen := hT.len
  have hkid : ∀ k, k ∈ ks → k.Ok (d - 1) := fun k hk => hT.kid hk
  simp only [Tr.flat, List.cons_append] at hdr
  obtain ⟨hx, hdr2⟩ := drop_head hdr
  have hil := lt_of_get hx
  have hin : i < nt := by rwa [HT.out] at hil
  rw [Tr.size_mk] at hz
  have hk64 : ks.length ≤ 63 := by have := length_sizes ks; omega
  have hk16 : ∀ k, k ∈ ks → k.Ok 16 := fun k hk => (hkid k hk).up (by omega)
  have hat := fun j hj => kids_at hdr2 hk16 j hj
  have hle := fun j => sizes_le hdr2 j (by omega)
  have hZ : (endsL t)[i]? = some ((i + 1 + sizes ks : Nat) : Int) := by
    simp only [endsL, HT.out, List.getElem?_map, List.getElem?_range hin, Option.map_some, hbT, bR_some, Tr.size_mk]
    congr 2; omega
  have hend : ∀ (j : Nat) (k : Tr), ks[j]? = some k → (endsL t)[i + 1 + sizes (ks.take j)]? = some ((i + 1 + sizes (ks.take (j + 1)) : Nat) : Int) ∧ i + 1 + sizes (ks.take j) < nt := fun j k hj => by
    have hjl := lt_of_get hj
    have h5 := (hat j (by omega)).2
    rw [drop_cons hj] at h5
    simp only [flats, List.append_assoc] at h5
    have h6 := tree_behind ((hkid k (mem_of_get hj)).up (show d - 1 ≤ 16 by omega)) h5
    have h7 := behind_lt h6
    rw [HT.out] at h7
    have h8 : sizes (ks.take (j + 1)) = sizes (ks.take j) + k.size := by
      rw [take_snoc hj]
      show (flats (ks.take j ++ [k])).length = _
      rw [flats_app, List.length_append]; simp [flats, sizes, Tr.size]
    refine ⟨?_, by omega⟩
    have h9 : i + 1 + sizes (ks.take j) < nt := by omega
    simp only [endsL, HT.out, List.getElem?_map, List.getElem?_range h9, Option.map_some, h6, bR_some, h8]
    congr 2; omega
  have hd1 : 1 < x.kind → 0 < d := fun hk => by
    cases d with
    | zero => obtain ⟨_, hm, _⟩ := hT; rcases hone with h | h | h | h <;> omega
    | succ d => omega
  have HIH : 1 < x.kind → ∀ j k, ks[j]? = some k → PLead w0 base pm e0 acc tA EA nt ct ec t k (i + 1 + sizes (ks.take j)) := fun hk j k hj => by
    have hjl := lt_of_get hj
    have h5 := (hat j (by omega)).2
    rw [drop_cons hj] at h5
    simp only [flats, List.append_assoc] at h5
    exact ih (d - 1) (by have := hd1 hk; omega) (by omega) k _ _ (hkid k (mem_of_get hj)) (by have := sizes_mem (mem_of_get hj); omega) h5
  have hsz : ∀ j, sizes (ks.take j) ≤ 64 := fun j => by have := sizes_take_le (ks := ks) j; omega
  have htk : ∀ j k, k ∈ ks.take j → k.Ok 16 := fun j k hk => hk16 k (List.mem_of_mem_take hk)
  have hnl := hmk.len
  obtain ⟨kind, set, many, least, most⟩ := x
  simp only at hone hlen hd1 HIH
  by_cases h0 : kind = 0
  · subst h0
    have h1 : statesT (.mk ⟨0, set, many, least, most⟩ ks) = 1 := by rw [statesT, if_pos rfl]
    exact maker_lead_empty w0 W base pm e0 acc tA EA nt ct ec t A n c a s i set many least most ks ht hbs HT (Lib.hid hx) hmk hs (by omega) he
  by_cases h1 : kind = 1
  · subst h1
    have h1 : statesT (.mk ⟨1, set, many, least, most⟩ ks) = 1 := by rw [statesT, if_neg (by simp), if_pos rfl]
    have hset : set.length ≤ 256 := by rcases hone with h | h | h | h <;> first | exact h.2.1.few | (simp only at h; omega)
    exact maker_lead_set w0 W base pm e0 acc tA EA nt ct ec t A n c a s i set many least most ks ht hbs HT (Lib.hid hx) hset hmk hs (by omega) he
  have hk2 : 1 < kind := by rcases hone with h | h | h | h <;> simp only at h <;> omega
  have hWG : ∀ cat j, n + statesL ks ≤ 256 → WG a (statesL (ks.take j)) (ks.take j).length (walkG cat (ks.take j) a s) := fun cat j hc => walkG_ok cat (htk j) (hsz j) (by omega) (by have := statesL_take ks j; omega)
  by_cases h2k : kind = 2
  · subst h2k
    have h1 : statesT (.mk ⟨2, set, many, least, most⟩ ks) = statesL ks := by rw [statesT, if_neg (by simp), if_neg (by simp), if_pos rfl]
    exact maker_lead_walk w0 W base pm e0 acc tA EA nt ct ec t A n c a s i true set many least most ks ht hbs HT hnt (Lib.hid hx) hmk hs (Lib.hid (by simp; omega)) (Lib.hid hZ) (Lib.hid hend) (Lib.hid fun j => hWG true j (by omega)) (Lib.hid (HIH hk2)) (by have := hle ks.length; rw [List.take_of_length_le (Nat.le_refl _)] at this; have := HT.out; omega) (by omega) he
  by_cases h3k : kind = 3
  · subst h3k
    have h1 : statesT (.mk ⟨3, set, many, least, most⟩ ks) = statesL ks + 1 := by rw [statesT, if_neg (by simp), if_neg (by simp), if_neg (by simp), if_pos rfl]
    exact maker_lead_walk w0 W base pm e0 acc tA EA nt ct ec t A n c a s i false set many least most ks ht hbs HT hnt (Lib.hid hx) hmk hs (Lib.hid (by simp; omega)) (Lib.hid hZ) (Lib.hid hend) (Lib.hid fun j => hWG false j (by omega)) (Lib.hid (HIH hk2)) (by have := hle ks.length; rw [List.take_of_length_le (Nat.le_refl _)] at this; have := HT.out; omega) (by omega) he
  have hr : kind = 4 ∧ set = [] ∧ many = 1 ∧ 0 ≤ least ∧ least ≤ 16 ∧ (most = -1 ∨ (least ≤ most ∧ most ≤ 16)) := by rcases hone with h | h | h | h <;> simp only at h <;> first | omega | exact h
  obtain ⟨rfl, rfl, rfl, hl0, hl1, hm⟩ := hr
  obtain ⟨lz, rfl⟩ := Int.eq_ofNat_of_zero_le hl0
  match ks, hlen with
  | [K], _ =>
    have hK := hk16 K (by simp)
    have hKz : K.size ≤ 64 := by have := hsz 1; simpa [sizes, flats, Tr.size] using this
    have h1 : statesT (.mk ⟨4, [], 1, lz, most⟩ [K]) = statesT K * timesOf ⟨4, [], 1, lz, most⟩ + 1 := by rw [statesT, if_neg (by simp), if_neg (by simp), if_neg (by simp), if_neg (by simp), statesH]
    refine maker_lead_rep w0 W base pm e0 acc tA EA nt ct ec t A n c a s i lz [] most K ht hbs HT (Lib.hid hx) hmk hs (by omega) hm (Lib.hid (by omega)) (by omega) (Lib.hid fun q a' s' h1 h2 => iter_ok hK hKz h1 h2) (Lib.hid ?_) he
    have := HIH hk2 0 K rfl
    simpa [sizes, flats] using this

end Go.Proofs.Ytjnjbcigbnjmkaa
