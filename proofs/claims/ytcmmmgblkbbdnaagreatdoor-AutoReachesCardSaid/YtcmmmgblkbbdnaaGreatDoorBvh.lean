/- Walks: the program's leading through any tree. -/
import Derived.Test.YtcmmmgblkbbdnaaGreatDoorBmh
import Derived.Test.YtcmmmgblkbbdnaaGreatDoorTi0h
import Derived.Test.YtcmmmgblkbbdnaaGreatDoorBch
namespace Go.Proofs.YtcmmmgblkbbdnaaGreatDoor
open Go.RowKit Pv

set_option maxHeartbeats 1000000 in
set_option maxRecDepth 100000 in
theorem maker_lead_rep (w0 W : World) (base pm e0 : Nat) (acc : Int) (tA EA : Option Addr) (nt ct ec : Nat) (t : List Rx) (A : Option Addr) (n c : Nat) (a : Au) (s i k : Nat) (l : List Rng) (most : Int) (K : Tr)
    (ht : AtRx w0 tA t) (hbs : w0.heap.size ≤ base) (HT : Hid (t.length = nt)) (HX : Hid (t[i]? = some ⟨4, l, 1, k, most⟩)) (h : MkE w0 W base pm e0 acc tA EA nt ct ec t A n c a) (hs : s < n) (hk : k ≤ 16) (hm : most = -1 ∨ ((k : Int) ≤ most ∧ most ≤ 16))
    (HN : Hid (n + (statesT K * timesOf ⟨4, l, 1, k, most⟩ + 1) ≤ 256)) (hi : i + 1 ≤ 64) (HI : Hid (∀ q a' s', s' < a'.length → a'.length + statesT K * q ≤ 256 → (iter (leadT K) q a' s').1.length = a'.length + statesT K * q ∧ (iter (leadT K) q a' s').2 < (iter (leadT K) q a' s').1.length ∧ EL a' (iter (leadT K) q a' s').1))
    (HIH : Hid (PLead w0 base pm e0 acc tA EA nt ct ec t K (i + 1))) (he : edgesN a ≤ 65 * n) :
    Calls Tryz.prog 59 #[.pointer (some ⟨pm, 0, none⟩), .int .i64 i, .int .i64 s] W (MkLead w0 W base pm e0 acc tA EA nt ct ec t (leadT (.mk ⟨4, l, 1, k, most⟩ [K]) a s)) := by
  have hin : i < nt := by have := lt_of_get HX.out; rwa [HT.out] at this
  obtain ⟨b, off, kd, B, cs, m, l', many', least', most', rfl, H5, hset, HM, hmc, hkd, hma, hle, hmo, HX'⟩ := ht.g5 HT hin
  obtain ⟨rfl, rfl, rfl, rfl, rfl⟩ := Rx.mk.inj (Option.some.inj (HX'.out.symm.trans HX.out))
  obtain ⟨y0, y1, y2, y3, y4, y5⟩ := H5.next h.kp
  obtain ⟨hpm, q2, q3⟩ := h.cells
  have hW1 : Below W.heap.size W (W.alloc (.cells #[.int .u8 4, .slice B m cs, .int .i64 1, .int .i64 k, .int .i64 most'] TRx)) := (Below.refl _ _).alloc (Nat.le_refl _) _
  have HJ := Lib.hid (maker_repeat w0 _ base pm e0 acc _ EA nt ct ec t A n c a s i k most' l' B m cs K hbs (h.next hW1) hs hk hm HN.out hi HI HIH he)
  have HW := Lib.hid hW1
  generalize leadT (.mk ⟨4, l', 1, k, most'⟩ [K]) a s = R at *
  clear h hW1 H5 ht hset HX' hm
  go_enter Tryz.func59, Tryz.ntmps59
  go_wp2_with fail
  refine HJ.out.mono ?_
  rintro e w1 ⟨A1, c1, rfl, mk1, ch1⟩
  have M1 := Lib.hid mk1
  have CH := Lib.hid ((Chg.of_below HW.out).trans ch1)
  clear mk1 ch1
  go_wp2
  go_ret
  exact ⟨A1, c1, rfl, M1.out, CH.out⟩

theorem maker_lead_all (w0 : World) (base pm e0 : Nat) (acc : Int) (tA EA : Option Addr) (nt ct ec : Nat) (t : List Rx) (hbs : w0.heap.size ≤ base) (ht : AtRx w0 tA t) (HT : Hid (t.length = nt)) (hnt : nt ≤ 64) :
    ∀ (d : Nat), d ≤ 16 → ∀ (T : Tr) (i : Nat) (r : List Rx), T.Ok d → T.size ≤ 64 → t.drop i = T.flat ++ r → PLead w0 base pm e0 acc tA EA nt ct ec t T i := by
  intro d
  induction d using Nat.strongRecOn with
  | _ d ih =>
  intro hd T i r hT hz hdr W A n c a s hmk hs hn he
  have hbT := tree_behind (hT.up hd) hdr
  obtain ⟨x, ks⟩ := T
  have hone := hT.one
  have hlen := hT.len
  have hkid : ∀ k, k ∈ ks → k.Ok (d - 1) := fun k hk => hT.kid hk
  simp only [Tr.flat, List.cons_append] at hdr
  obtain ⟨hx, hdr2⟩ := drop_head hdr
  have hil := lt_of_get hx
  have hin : i < nt := by rwa [HT.out] at hil
  rw [Tr.size_mk] at hz
  have hk64 : ks.length ≤ 63 := by have := length_sizes ks; omega
  have hk16 : ∀ k, k ∈ ks → k.Ok 16 := fun k hk => (hkid k hk).up (by omega)
  have hat := fun j hj => kids_at hdr2 hk16 j hj
  have hle := fun j => sizes_le hdr2 j (by omega)
  have hZ : (endsL t)[i]? = some ((i + 1 + sizes ks : Nat) : Int) := by
    simp only [endsL, HT.out, List.getElem?_map, List.getElem?_range hin, Option.map_some, hbT, bR_some, Tr.size_mk]
    congr 2; omega
  have hend : ∀ (j : Nat) (k : Tr), ks[j]? = some k → (endsL t)[i + 1 + sizes (ks.take j)]? = some ((i + 1 + sizes (ks.take (j + 1)) : Nat) : Int) ∧ i + 1 + sizes (ks.take j) < nt := fun j k hj => by
    have hjl := lt_of_get hj
    have h5 := (hat j (by omega)).2
    rw [drop_cons hj] at h5
    simp only [flats, List.append_assoc] at h5
    have h6 := tree_behind ((hkid k (mem_of_get hj)).up (show d - 1 ≤ 16 by omega)) h5
    have h7 := behind_lt h6
    rw [HT.out] at h7
    have h8 : sizes (ks.take (j + 1)) = sizes (ks.take j) + k.size := by
      rw [take_snoc hj]
      show (flats (ks.take j ++ [k])).length = _
      rw [flats_app, List.length_append]; simp [flats, sizes, Tr.size]
    refine ⟨?_, by omega⟩
    have h9 : i + 1 + sizes (ks.take j) < nt := by omega
    simp only [endsL, HT.out, List.getElem?_map, List.getElem?_range h9, Option.map_some, h6, bR_some, h8]
    congr 2; omega
  have hd1 : 1 < x.kind → 0 < d := fun hk => by
    cases d with
    | zero => obtain ⟨_, hm, _⟩ := hT; rcases hone with h | h | h | h <;> omega
    | succ d => omega
  have HIH : 1 < x.kind → ∀ j k, ks[j]? = some k → PLead w0 base pm e0 acc tA EA nt ct ec t k (i + 1 + sizes (ks.take j)) := fun hk j k hj => by
    have hjl := lt_of_get hj
    have h5 := (hat j (by omega)).2
    rw [drop_cons hj] at h5
    simp only [flats, List.append_assoc] at h5
    exact ih (d - 1) (by have := hd1 hk; omega) (by omega) k _ _ (hkid k (mem_of_get hj)) (by have := sizes_mem (mem_of_get hj); omega) h5
  have hsz : ∀ j, sizes (ks.take j) ≤ 64 := fun j => by have := sizes_take_le (ks := ks) j; omega
  have htk : ∀ j k, k ∈ ks.take j → k.Ok 16 := fun j k hk => hk16 k (List.mem_of_mem_take hk)
  have hnl := hmk.len
  obtain ⟨kind, set, many, least, most⟩ := x
  simp only at hone hlen hd1 HIH
  by_cases h0 : kind = 0
  · subst h0
    have h1 : statesT (.mk ⟨0, set, many, least, most⟩ ks) = 1 := by rw [statesT, if_pos rfl]
    exact maker_lead_empty w0 W base pm e0 acc tA EA nt ct ec t A n c a s i set many least most ks ht hbs HT (Lib.hid hx) hmk hs (by omega) he
  by_cases h1 : kind = 1
  · subst h1
    have h1 : statesT (.mk ⟨1, set, many, least, most⟩ ks) = 1 := by rw [statesT, if_neg (by simp), if_pos rfl]
    have hset : set.length ≤ 256 := by rcases hone with h | h | h | h <;> first | exact h.2.1.few | (simp only at h; omega)
    exact maker_lead_set w0 W base pm e0 acc tA EA nt ct ec t A n c a s i set many least most ks ht hbs HT (Lib.hid hx) hset hmk hs (by omega) he
  have hk2 : 1 < kind := by rcases hone with h | h | h | h <;> simp only at h <;> omega
  have hWG : ∀ cat j, n + statesL ks ≤ 256 → WG a (statesL (ks.take j)) (ks.take j).length (walkG cat (ks.take j) a s) := fun cat j hc => walkG_ok cat (htk j) (hsz j) (by omega) (by have := statesL_take ks j; omega)
  by_cases h2k : kind = 2
  · subst h2k
    have h1 : statesT (.mk ⟨2, set, many, least, most⟩ ks) = statesL ks := by rw [statesT, if_neg (by simp), if_neg (by simp), if_pos rfl]
    exact maker_lead_walk w0 W base pm e0 acc tA EA nt ct ec t A n c a s i true set many least most ks ht hbs HT hnt (Lib.hid hx) hmk hs (Lib.hid (by simp; omega)) (Lib.hid hZ) (Lib.hid hend) (Lib.hid fun j => hWG true j (by omega)) (Lib.hid (HIH hk2)) (by have := hle ks.length; rw [List.take_of_length_le (Nat.le_refl _)] at this; have := HT.out; omega) (by omega) he
  by_cases h3k : kind = 3
  · subst h3k
    have h1 : statesT (.mk ⟨3, set, many, least, most⟩ ks) = statesL ks + 1 := by rw [statesT, if_neg (by simp), if_neg (by simp), if_neg (by simp), if_pos rfl]
    exact maker_lead_walk w0 W base pm e0 acc tA EA nt ct ec t A n c a s i false set many least most ks ht hbs HT hnt (Lib.hid hx) hmk hs (Lib.hid (by simp; omega)) (Lib.hid hZ) (Lib.hid hend) (Lib.hid fun j => hWG false j (by omega)) (Lib.hid (HIH hk2)) (by have := hle ks.length; rw [List.take_of_length_le (Nat.le_refl _)] at this; have := HT.out; omega) (by omega) he
  have hr : kind = 4 ∧ set = [] ∧ many = 1 ∧ 0 ≤ least ∧ least ≤ 16 ∧ (most = -1 ∨ (least ≤ most ∧ most ≤ 16)) := by rcases hone with h | h | h | h <;> simp only at h <;> first | omega | exact h
  obtain ⟨rfl, rfl, rfl, hl0, hl1, hm⟩ := hr
  obtain ⟨lz, rfl⟩ := Int.eq_ofNat_of_zero_le hl0
  match ks, hlen with
  | [K], _ =>
    have hK := hk16 K (by simp)
    have hKz : K.size ≤ 64 := by have := hsz 1; simpa [sizes, flats, Tr.size] using this
    have h1 : statesT (.mk ⟨4, [], 1, lz, most⟩ [K]) = statesT K * timesOf ⟨4, [], 1, lz, most⟩ + 1 := by rw [statesT, if_neg (by simp), if_neg (by simp), if_neg (by simp), if_neg (by simp), statesH]
    refine maker_lead_rep w0 W base pm e0 acc tA EA nt ct ec t A n c a s i lz [] most K ht hbs HT (Lib.hid hx) hmk hs (by omega) hm (Lib.hid (by omega)) (by omega) (Lib.hid fun q a' s' h1 h2 => iter_ok hK hKz h1 h2) (Lib.hid ?_) he
    have := HIH hk2 0 K rfl
    simpa [sizes, flats] using this

end Go.Proofs.YtcmmmgblkbbdnaaGreatDoor

namespace Go.Proofs.YtcmmmgblkbbdnaaGreatDoor
open Go.RowKit Pv

/-- What the program's Build leaves. -/
def PBuild (t : List Rx) (w : World) (e : Ending) (w' : World) : Prop :=
  Below w.heap.size w w' ∧ ((¬ Pat t ∧ e = .returned (.tuple #[.agg #[.slice none 0 0, .int .i64 0], .int .i64 8])) ∨ (Pat t ∧ ∃ T : Tr, T.Ok 16 ∧ t = T.flat ∧
    ((¬ Few T ∧ e = .returned (.tuple #[.agg #[.slice none 0 0, .int .i64 0], .int .i64 90])) ∨ (Few T ∧ ∃ A' n' c', e = .returned (.tuple #[.agg #[.slice A' n' c', .int .i64 (leadT T [[]] 0).2], .int .i64 0]) ∧ AuQ w' w.heap.size A' n' c' (leadT T [[]] 0).1))))
theorem AuQ.nil (w : World) (base : Nat) : AuQ w base none 0 0 [] := ⟨[], World.ownsRow_nil _ _ _ _, rfl, rfl, fun i es h => by simp at h, fun i j r r' _ h => by simp at h⟩
theorem TB_auto : ∀ e, e ∈ TB → e ≠ TAuto := by decide
theorem ends_rel {t : List Rx} (h : t.length ≤ 64) : Rel RI ((endsL t).map (Value.int .i64)) (endsL t) := ⟨by simp, fun i u x hu hx => by
  rw [List.getElem?_map, hx] at hu
  obtain rfl := Option.some.inj hu
  have hi : i < t.length := by have := lt_of_get hx; simpa [endsL] using this
  simp only [endsL, List.getElem?_map, List.getElem?_range hi, Option.map_some, Option.some.injEq] at hx
  subst hx
  refine ⟨rfl, ?_⟩
  cases hb : behind t 16 i with
  | none => rw [bR_none]; omega
  | some e => rw [bR_some]; have := behind_lt hb; omega⟩
/-- The maker, its ends under way. -/
structure PE (w wr : World) (pm : Nat) (tA : Option Addr) (nt ct : Nat) (EA : Option Addr) (k ec : Nat) (l : List Int) : Prop where
  be : Below w.heap.size w wr
  r : Blk wr w.heap.size TAuto #[.slice none 0 0, .int .i64 0]
  b : Blk wr pm TMk #[.slice none 0 0, .int .i64 0, .slice tA nt ct, .slice EA k ec]
  oe : wr.ownsRow (pm + 1) TInt 1 (.slice EA k ec) k (l.map (Value.int .i64))
section
variable {w wr w' : World} {pm nt ct k ec : Nat} {tA EA : Option Addr} {l : List Int}
theorem PE.next (h : PE w wr pm tA nt ct EA k ec l) (hb : Below wr.heap.size wr w') : PE w w' pm tA nt ct EA k ec l := ⟨h.be.trans (hb.mono h.be.size), h.r.below hb h.r.lt, h.b.below hb h.b.lt, ownsRow_below h.oe hb⟩
theorem PE.push {EA' : Option Addr} {ec' : Nat} {z : Int} (h : PE w wr pm tA nt ct EA k ec l) (hp : w.heap.size ≤ pm) (g : wr.grownBy w' (Value.slice EA k ec).ownBlock) (own : w'.ownsRow (pm + 1) TInt 1 (.slice EA' (k + 1) ec') (k + 1) (l.map (Value.int .i64) ++ [.int .i64 z])) :
    PE w (w'.setCell ⟨pm, 3, none⟩ (.slice EA' (k + 1) ec')) pm tA nt ct EA' (k + 1) ec' (l ++ [z]) := by
  have hb := h.b.grown g (own_blk_ne h.oe h.b (by decide))
  refine ⟨(h.be.grown g h.be.size (fun q hq => by have := (h.oe.lt q hq).1; omega)).setCell hp _, ?_, hb.set 3 _, ownsRow_setFar (by simpa using own) hb (by decide) 3 _⟩
  have hr := h.r.grown g (own_blk_ne h.oe h.r (by decide))
  exact hr.far (fun e => hr.ne hb (by decide) e) _
end

set_option maxHeartbeats 4000000 in
set_option maxRecDepth 100000 in
theorem auto_Build (tA : Option Addr) (nt ct : Nat) (t : List Rx) (w : World) (ht : AtRx w tA t) (HT : Hid (t.length = nt)) :
    Calls Tryz.prog 25 #[.slice tA nt ct] w (PBuild t w) := by
  obtain ⟨i0, hi0, hz0, hs0, hb0⟩ := info_parts info_int
  have hWB : Below w.heap.size w (w.alloc (.cells #[.slice none 0 0, .int .i64 0] TAuto)) := (Below.refl _ _).alloc (Nat.le_refl _) _
  have HC := Lib.hid (pattern_Check tA ct nt t _ (AtRx.keep ht (Keep.of hWB)) HT)
  have HW := Lib.hid hWB
  have HR0 := Lib.hid (Blk.new w TAuto #[.slice none 0 0, .int .i64 0])
  by_cases hp : Pat t
  case neg =>
    have HN := Lib.hid hp
    rw [patE_no hp] at HC
    clear hp ht hWB
    go_enter Tryz.func25, Tryz.ntmps25
    go_wp2_with fail
    refine HC.out.mono ?_
    rintro e w1 ⟨rfl, hb1⟩
    have R1 := Lib.hid (HR0.out.below hb1 (by simp))
    have hN := R1.out.lt
    have B1 := Lib.hid (HW.out.trans (hb1.mono HW.out.size))
    obtain ⟨v0, v1, v2, v3⟩ := Blk.two R1.out
    obtain ⟨z0, z1, _, _⟩ := Blk.two ((R1.out.set 0 (.slice none 0 0)).set 1 (.int .i64 0))
    clear hb1
    go_wp2
    refine bodyPost_ret (v := .tuple #[.agg #[.slice none 0 0, .int .i64 0], .int .i64 8]) (by simp [results, Tryz.results25, go_sem, z0, z1]) rfl ⟨(B1.out.setCell (Nat.le_refl _) _).setCell (Nat.le_refl _) _, .inl ⟨HN.out, rfl⟩⟩
  have hnt : nt ≤ 64 := by have := hp.2.1; rwa [HT.out] at this
  obtain ⟨T, hT, hfl⟩ := hp.tree
  rw [patE_yes hp] at HC
  have HTT := Lib.hid hT; have HFL := Lib.hid hfl; have HPT := Lib.hid hp
  have HPE := Lib.hid (fun (W : World) (kp : Keep w W) (i : Nat) (hi : i < nt) => pattern_End_yes tA ct nt i t W (AtRx.keep ht kp) HT (Lib.hid hp) hi)
  have HAT := Lib.hid ht
  have HGET := Lib.hid (fun i (hi : i < nt) => (show (endsL t)[i]? = some (bR (behind t 16 i)) by simp [endsL, HT.out, hi]))
  have HLE : Hid ((endsL t).length = nt) := Lib.hid (by simp [endsL, HT.out])
  clear hp ht hWB hT hfl
  go_enter Tryz.func25, Tryz.ntmps25
  go_wp2_with fail
  refine HC.out.mono ?_
  rintro e w1 ⟨rfl, hb1⟩
  have R1 := Lib.hid (HR0.out.below hb1 (by simp))
  have B1 := Lib.hid (HW.out.trans (hb1.mono HW.out.size))
  have hM : Below w1.heap.size w1 (w1.alloc (.cells #[.slice none 0 0, .int .i64 0, .slice tA nt ct, .slice none 0 0] TMk)) := (Below.refl _ _).alloc (Nat.le_refl _) _
  have P0 : Hid (PE w (w1.alloc (.cells #[.slice none 0 0, .int .i64 0, .slice tA nt ct, .slice none 0 0] TMk)) w1.heap.size tA nt ct none 0 0 []) := Lib.hid ⟨B1.out.trans (hM.mono B1.out.size), R1.out.below hM R1.out.lt, Blk.new _ _ _, World.ownsRow_nil _ _ _ _⟩
  have hp1 : w.heap.size ≤ w1.heap.size := B1.out.size
  clear hb1 hM
  go_wp2
  go_loopw [20] (fun iv wr => ∃ (k : Nat) (EA : Option Addr) (ec : Nat), iv = .int .i64 k ∧ k ≤ nt ∧ PE w wr w1.heap.size tA nt ct EA k ec ((endsL t).take k)) (fun iv _ => nt - (intOf iv).toNat)
  case atStart => exact ⟨0, none, 0, rfl, by omega, by simpa using P0.out⟩
  case round =>
    obtain ⟨k, EA, ec, rfl, hk, hpe⟩ := hrel
    have PP := Lib.hid hpe
    clear hpe
    by_cases hlt : k < nt
    · have HE1 := Lib.hid (HPE.out wr (Keep.of PP.out.be) k hlt)
      have HTK := Lib.hid (take_snoc (HGET.out k hlt))
      go_wp2_with fail
      refine HE1.out.mono ?_
      rintro e w2 ⟨rfl, hb2⟩
      have P2 := PP.out.next hb2
      have hal : Below w2.heap.size w2 (w2.alloc (.cells #[.int .i64 (bR (behind t 16 k))] TInt)) := (Below.refl _ _).alloc (Nat.le_refl _) _
      have PB := Lib.hid (P2.next hal)
      generalize bR (behind t 16 k) = z at *
      have SRC := Lib.hid (Pv.Src.one (w := w2) (x := .int .i64 z) (t := TInt) rfl)
      have Q1 : Hid (k + 1 ≤ maxLen) := Lib.hid (by simp only [maxLen]; omega)
      have Q2 : Hid ((k + 1) * 8 ≤ 140737488355328) := Lib.hid (by omega)
      have Q3 : Hid (w1.heap.size + 1 ≤ (w2.alloc (.cells #[.int .i64 z] TInt)).heap.size) := Lib.hid (by have := P2.b.lt; simp; omega)
      have m3 := PB.out.b.cell 3
      have m30 := P2.b.cell 3
      clear hb2 hal P2 PP
      go_wp2_with (at_builtin
                   go_must (refine wpList_append_src _ rfl (.tmp 33) (.tmp 35) 27 rfl (w1.heap.size + 1) TInt i0 (.int .i64 0) 1 8 Tryz.underlying27 hi0 hz0 hs0 hb0 rfl (by decide) EA ec k _ rfl PB.out.oe _ 1 1 _ rfl SRC.out Q1.out Q2.out Q3.out ?_)
                   intro A8 c8 w8 own8 gr8 _
                   have P8 := Lib.hid (PB.out.push hp1 gr8 own8)
                   have b8 := PB.out.b.grown gr8 (own_blk_ne PB.out.oe PB.out.b (by decide))
                   have f8 := b8.frozen 3
                   have c8' := b8.cell 3
                   clear gr8 own8 b8 m3 m30)
      go_roundw
      case rel => exact ⟨k + 1, A8, c8, by go_num, by omega, by rw [HTK.out]; exact P8.out⟩
      case measure => simp [intOf]; omega
    have hkn : k = nt := by omega
    subst hkn
    rw [List.take_of_length_le (by rw [HLE.out]; exact Nat.le_refl _)] at PP
    have HMN := Lib.hid (maker_many wr w1.heap.size tA EA k ct ec t T HTT.out HFL.out HT hnt PP.out.b.lt (PP.out.b.cell 2) (PP.out.b.cell 3) (AtRx.keep HAT.out (Keep.of PP.out.be)) (At.of_own PP.out.oe (ends_rel (by rw [HT.out]; exact hnt)) (by rw [HLE.out]; omega)).2.2)
    have hct := countT_eq T 16 HTT.out
    have hc256 : countT T ≤ 256 := by omega
    have HCT := Lib.hid hct
    clear hct
    by_cases hf : Few T
    · have hle : ¬ (256 : Int) < ((1 + countT T : Nat) : Int) := by have := HCT.out; unfold Few at hf; omega
      have HF := Lib.hid hf
      clear hf
      go_wp2_with fail
      refine HMN.out.mono ?_
      rintro e w3 ⟨rfl, hb3⟩
      have P3 := Lib.hid (PP.out.next hb3)
      have MK3 : Hid (MkAt w3 w.heap.size w1.heap.size none 0 0 0 (.slice tA k ct) (.slice EA k ec) []) := Lib.hid ⟨P3.out.b, AuQ.nil _ _, hp1⟩
      have HST := Lib.hid (maker_state none 0 0 w.heap.size w1.heap.size 0 _ _ [] w3 MK3.out P3.out.be.size (by omega))
      clear hb3
      go_wp2_with fail
      refine HST.out.mono ?_
      rintro e w4 ⟨A4, c4, rfl, mk4, ch4⟩
      have R4 := Lib.hid (ch4.blk P3.out.r TB_auto)
      have E4 : Hid (MkE w w4 w.heap.size w1.heap.size (w1.heap.size + 1) 0 tA EA k ct ec t A4 1 c4 [[]]) := Lib.hid ⟨mk4, ch4.keep (Keep.of P3.out.be) (Nat.le_refl _) P3.out.be.size, ownsRow_chg P3.out.oe ch4 TB_int, Nat.le_trans P3.out.be.size ch4.size⟩
      have HL := Lib.hid (maker_lead_all w w.heap.size w1.heap.size (w1.heap.size + 1) 0 tA EA k ct ec t (Nat.le_refl _) HAT.out HT hnt 16 (Nat.le_refl _) T 0 [] HTT.out (by show T.flat.length ≤ 64; rw [← HFL.out, HT.out]; exact hnt) (by simp [HFL.out]) w4 A4 1 c4 [[]] 0 E4.out (by omega) HF.out (by simp [edgesN]))
      have CH4 := Lib.hid ch4
      obtain ⟨r, hr⟩ : ∃ r, leadT T [[]] 0 = r := ⟨_, rfl⟩
      rw [hr] at HL
      have HR := Lib.hid hr
      clear mk4 ch4 hr
      go_wp2_with fail
      refine HL.out.mono ?_
      rintro e w5 ⟨A5, c5, rfl, mk5, ch5⟩
      have B5 := Lib.hid mk5.ma.b
      have R5 := Lib.hid (ch5.blk R4.out TB_auto)
      have AU5 := mk5.ma.au
      have B5s := B5.out.set 1 (.int .i64 r.2)
      have AU6 := AU5.setFar (i := 1) (u := .int .i64 r.2) B5.out TA_mk (by decide) hp1
      have R6 := R5.out.far (p := ⟨w1.heap.size, 1, none⟩) (fun e => R5.out.ne B5.out (by decide) e) (.int .i64 r.2)
      have BE := (P3.out.be.trans ((CH4.out.trans ch5).below P3.out.be.size)).setCell (p := ⟨w1.heap.size, 1, none⟩) hp1 (.int .i64 r.2)
      have AU7 := (AU6.setFar (i := 0) (u := .slice A5 r.1.length c5) R6 TA_auto (by decide) (Nat.le_refl _)).setFar (i := 1) (u := .int .i64 r.2) (R6.set 0 _) TA_auto (by decide) (Nat.le_refl _)
      have FIN := Lib.hid (And.intro AU7 ((BE.setCell (p := ⟨w.heap.size, 0, none⟩) (Nat.le_refl _) (.slice A5 r.1.length c5)).setCell (p := ⟨w.heap.size, 1, none⟩) (Nat.le_refl _) (.int .i64 r.2)))
      have B5S := Lib.hid B5s; have R6S := Lib.hid R6
      have p1 := B5.out.cell 1
      have p1f := B5.out.frozen 1
      have s0 := B5s.cell 0
      have s1 := B5s.cell 1
      obtain ⟨r0, r1, r2, r3⟩ := Blk.two R6
      obtain ⟨z0, z1, _, _⟩ := Blk.two ((R6.set 0 (.slice A5 r.1.length c5)).set 1 (.int .i64 r.2))
      clear mk5 ch5 AU5 B5s AU6 R6 BE AU7
      go_wp2
      refine bodyPost_ret (v := .tuple #[.agg #[.slice A5 r.1.length c5, .int .i64 r.2], .int .i64 0]) (by simp [results, Tryz.results25, go_sem, z0, z1]) rfl ⟨FIN.out.2, .inr ⟨HPT.out, T, HTT.out, HFL.out, .inr ⟨HF.out, A5, r.1.length, c5, by rw [HR.out], by rw [HR.out]; exact FIN.out.1⟩⟩⟩
    · have hle : (256 : Int) < ((1 + countT T : Nat) : Int) := by have := HCT.out; unfold Few at hf; omega
      have HF := Lib.hid hf
      clear hf
      go_wp2_with fail
      refine HMN.out.mono ?_
      rintro e w3 ⟨rfl, hb3⟩
      have P3 := Lib.hid (PP.out.next hb3)
      obtain ⟨v0, v1, v2, v3⟩ := Blk.two P3.out.r
      obtain ⟨z0, z1, _, _⟩ := Blk.two ((P3.out.r.set 0 (.slice none 0 0)).set 1 (.int .i64 0))
      clear hb3
      go_wp2
      refine bodyPost_ret (v := .tuple #[.agg #[.slice none 0 0, .int .i64 0], .int .i64 90]) (by simp [results, Tryz.results25, go_sem, z0, z1]) rfl ⟨(P3.out.be.setCell (Nat.le_refl _) _).setCell (Nat.le_refl _) _, .inr ⟨HPT.out, T, HTT.out, HFL.out, .inl ⟨HF.out, rfl⟩⟩⟩

end Go.Proofs.YtcmmmgblkbbdnaaGreatDoor

namespace Go.Proofs.YtcmmmgblkbbdnaaGreatDoor
open Go.RowKit Pv

/-- What comes of a pattern: its automaton, or the error. -/
def BR (t : List Rx) (r : Au × Int × Int) : Prop :=
  (¬ Pat t ∧ r = ([], 0, 8)) ∨ (Pat t ∧ ∃ T : Tr, T.Ok 16 ∧ t = T.flat ∧ ((¬ Few T ∧ r = ([], 0, 90)) ∨ (Few T ∧ r = ((leadT T [[]] 0).1, (((leadT T [[]] 0).2 : Nat) : Int), 0))))
theorem BR.one {t : List Rx} {r r' : Au × Int × Int} (h : BR t r) (h' : BR t r') : r = r' := by
  rcases h with ⟨h1, rfl⟩ | ⟨h1, T, hT, hfl, h⟩
  · rcases h' with ⟨_, rfl⟩ | ⟨h2, _⟩
    · rfl
    · exact absurd h2 h1
  · rcases h' with ⟨h2, _⟩ | ⟨_, T', hT', hfl', h'⟩
    · exact absurd h1 h2
    · obtain rfl := flat_inj hT hT' (hfl.symm.trans hfl')
      rcases h with ⟨hf, rfl⟩ | ⟨hf, rfl⟩ <;> rcases h' with ⟨hf', rfl⟩ | ⟨hf', rfl⟩ <;> first | rfl | exact absurd hf hf' | exact absurd hf' hf
theorem BR.few {t : List Rx} {r : Au × Int × Int} (h : BR t r) : r.1.length ≤ 256 ∧ edgesN r.1 ≤ 20000 := by
  rcases h with ⟨h1, rfl⟩ | ⟨h1, T, hT, hfl, ⟨hf, rfl⟩ | ⟨hf, rfl⟩⟩
  · simp [edgesN]
  · simp [edgesN]
  · have hz : T.size ≤ 64 := by show T.flat.length ≤ 64; rw [← hfl]; exact h1.2.1
    have h2 := (leadT_leads T [[]] 0 (by simp)).1
    have h3 := (leadT_el hT hz (a := [[]]) (s := 0) (by simp) (by simpa [Few] using hf)).e
    unfold Few at hf
    simp only [List.length_cons, List.length_nil, Nat.zero_add] at h2 h3
    have h4 : edgesN [[]] = 0 := by simp [edgesN]
    exact ⟨by simp only; omega, by simp only; omega⟩
theorem PBuild.one {t : List Rx} {w w' : World} {e : Ending} (h : PBuild t w e w') : Below w.heap.size w w' ∧ ∃ r : Au × Int × Int, BR t r ∧ ∃ A' n' c', e = .returned (.tuple #[.agg #[.slice A' n' c', .int .i64 r.2.1], .int .i64 r.2.2]) ∧ AuQ w' w.heap.size A' n' c' r.1 := by
  obtain ⟨hb, h⟩ := h
  refine ⟨hb, ?_⟩
  rcases h with ⟨h1, rfl⟩ | ⟨h1, T, hT, hfl, ⟨hf, rfl⟩ | ⟨hf, A', n', c', rfl, au⟩⟩
  · exact ⟨([], 0, 8), .inl ⟨h1, rfl⟩, none, 0, 0, rfl, AuQ.nil _ _⟩
  · exact ⟨([], 0, 90), .inr ⟨h1, T, hT, hfl, .inl ⟨hf, rfl⟩⟩, none, 0, 0, rfl, AuQ.nil _ _⟩
  · exact ⟨((leadT T [[]] 0).1, (((leadT T [[]] 0).2 : Nat) : Int), 0), .inr ⟨h1, T, hT, hfl, .inr ⟨hf, rfl⟩⟩, A', n', c', rfl, au⟩
end Go.Proofs.YtcmmmgblkbbdnaaGreatDoor
