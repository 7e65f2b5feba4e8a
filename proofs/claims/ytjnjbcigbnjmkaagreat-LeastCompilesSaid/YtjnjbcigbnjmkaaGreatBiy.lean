/- Walks: the document's leading through any node. -/
import Derived.Test.YtjnjbcigbnjmkaaGreatAwy
import Derived.Test.YtjnjbcigbnjmkaaGreatBay
import Derived.Test.YtjnjbcigbnjmkaaGreatBfy
import Derived.Laws.EntriesVeiled
namespace Go.Proofs.YtjnjbcigbnjmkaaGreat
open Go.RowKit Pv

theorem lead_all (w0 : World) (base : Nat) (acc : Int) (tA : Option Addr) (nt ct : Nat) (t : List Rx) (hbs : w0.heap.size ≤ base) (ht : AtRx w0 tA t) (HT : Hid (t.length = nt)) (hnt : nt ≤ 64) :
    ∀ (d : Nat), d ≤ 16 → ∀ (T : Tr) (i : Nat) (r : List Rx), T.Ok d → T.size ≤ 64 → t.drop i = T.flat ++ r → LeadC w0 base acc tA nt ct T i := by
  intro d
  induction d using Nat.strongRecOn with
  | _ d ih =>
  intro hd T i r hT hz hdr W A n c a s kp hbW au h1 h2 h3 h4
  by_cases hst : s < 0 ∨ 256 < n
  · exact lead_stop W base acc tA nt ct T i A n c a s hbW au h3 hst
  obtain ⟨s, rfl⟩ := Int.eq_ofNat_of_zero_le (show 0 ≤ s by omega)
  obtain ⟨x, ks⟩ := T
  have hone := hT.one
  have hlen := hT.len
  have hkid : ∀ k, k ∈ ks → k.Ok (d - 1) := fun k hk => hT.kid hk
  simp only [Tr.flat, List.cons_append] at hdr
  obtain ⟨hx, hdr2⟩ := drop_head hdr
  have hil := lt_of_get hx
  rw [Tr.size_mk] at hz
  have hk64 : ks.length ≤ 63 := by have := length_sizes ks; omega
  have hk16 : ∀ k, k ∈ ks → k.Ok 16 := fun k hk => (hkid k hk).up (by omega)
  have hat := fun j hj => kids_at hdr2 hk16 j hj
  have hle := fun j => sizes_le hdr2 j (by omega)
  have hd1 : 1 < x.kind → 0 < d := fun hk => by
    cases d with
    | zero => obtain ⟨_, hm, _⟩ := hT; rcases hone with h | h | h | h <;> omega
    | succ d => omega
  have HIH : 1 < x.kind → ∀ j k, ks[j]? = some k → LeadC w0 base acc tA nt ct k (i + 1 + sizes (ks.take j)) := fun hk j k hj => by
    have hjl := lt_of_get hj
    have h5 := (hat j (by omega)).2
    rw [drop_cons hj] at h5
    simp only [flats, List.append_assoc] at h5
    exact ih (d - 1) (by have := hd1 hk; omega) (by omega) k _ _ (hkid k (mem_of_get hj)) (by have := sizes_mem (mem_of_get hj); omega) h5
  have hsz : ∀ j, sizes (ks.take j) ≤ 64 := fun j => by have := sizes_take_le (ks := ks) j; omega
  have htk : ∀ j k, k ∈ ks.take j → k.Ok 16 := fun j k hk => hk16 k (List.mem_of_mem_take hk)
  obtain ⟨kind, set, many, least, most⟩ := x
  simp only at hone hlen hd1 HIH
  have hs : s < n := by omega
  have hnl := au.len
  have hn : n ≤ 256 := by omega
  by_cases hk01 : kind = 0 ∨ kind = 1
  · have hm : many = 0 := by rcases hone with h | h | h | h <;> first | exact h.2.2.2.2 | (simp only at h; omega)
    subst hm
    exact lead_leaf W w0 base acc tA nt ct t i kind (kind == 0) set A n c a s least most ks hbs hbW kp au hn hs h4 ht HT hnt (Lib.hid hx) (by rcases hk01 with h | h <;> simp [h])
  have hk2 : 1 < kind := by rcases hone with h | h | h | h <;> simp only at h <;> omega
  by_cases h2k : kind = 2
  · subst h2k
    have hq : many = (ks.length : Nat) := by omega
    subst hq
    refine lead_cat W w0 base acc tA nt ct t i ks.length least most set A n c a s ks hbs hbW kp au hn hs h4 ht HT hnt (Lib.hid hx) rfl (by omega) (Lib.hid fun j hj => ⟨(hat j hj).1, by have := hle j; have := HT.out; omega⟩) (Lib.hid fun j => ?_) (Lib.hid (HIH hk2))
    exact catR_ok (ks.take j) 16 (htk j) (hsz j) a s (by omega) (by omega)
  by_cases h3k : kind = 3
  · subst h3k
    have hq : many = (ks.length : Nat) := by omega
    subst hq
    refine lead_alt W w0 base acc tA nt ct t i ks.length least most set A n c a s ks hbs hbW kp au hn hs h4 ht HT hnt (Lib.hid hx) rfl (by omega) (Lib.hid fun j hj => ⟨(hat j hj).1, by have := hle j; have := HT.out; omega⟩) (Lib.hid fun j => ?_) (Lib.hid (HIH hk2))
    have := altR_ok (ks.take j) 16 (htk j) (hsz j) a s (by omega) (by omega)
    exact this.up (by rw [List.length_take]; omega) (Nat.le_refl _)
  have hr : kind = 4 ∧ set = [] ∧ many = 1 ∧ 0 ≤ least ∧ least ≤ 16 ∧ (most = -1 ∨ (least ≤ most ∧ most ≤ 16)) := by rcases hone with h | h | h | h <;> simp only at h <;> first | omega | exact h
  obtain ⟨rfl, rfl, rfl, hl0, hl1, hm⟩ := hr
  obtain ⟨lz, rfl⟩ := Int.eq_ofNat_of_zero_le hl0
  match ks, hlen with
  | [K], _ =>
    have hF : leadHd [K] = leadT K := by funext a s; rw [leadHd]
    have hS : statesH [K] = statesT K := by rw [statesH]
    have hhd := hdR_ok [K] 16 (fun k hk => hk16 k hk) (by omega)
    have hLd := leadHd_leads [K]
    rw [hF, hS] at hhd hLd
    refine lead_rep W w0 base acc tA nt ct t i lz most [] A n c a s K hbs hbW kp au hn hs h4 ht HT hnt (Lib.hid hx) (by omega) (by omega) (Lib.hid fun j hj => ⟨_, by have := hle j; have := HT.out; omega, (hat j (by simpa using hj)).1⟩) (Lib.hid fun k a' s' h1 h2 => RLeads.iterN hLd hhd k a' s' h1 h2) (Lib.hid ?_) (Lib.hid ?_)
    · have := rep_ok hLd hhd lz (most - lz).toNat a s (by omega) (by omega)
      simpa using this
    · have := HIH hk2 0 K rfl
      simpa [sizes, flats] using this
end Go.Proofs.YtjnjbcigbnjmkaaGreat

namespace Go.Proofs.YtjnjbcigbnjmkaaGreat
open Go.RowKit Pv

/-- Not too many states? -/
def Few (T : Tr) : Prop := 1 + statesT T ≤ 256
theorem made_r {T : Tr} {d : Nat} (hT : T.Ok d) (hd : d ≤ 16) (hz : T.size ≤ 64) :
    (Few T → leadR T [[]] 0 = ((leadT T [[]] 0).1, ((leadT T [[]] 0).2 : Int)) ∧ (leadT T [[]] 0).1.length = 1 + statesT T) ∧ (¬ Few T → (leadR T [[]] 0).2 < 0 ∨ 256 < (leadR T [[]] 0).1.length) ∧ (leadR T [[]] 0).1.length ≤ 300 ∧ (leadR T [[]] 0).2 < (leadR T [[]] 0).1.length ∧ -1 ≤ (leadR T [[]] 0).2 := by
  have h := leadR_ok T d hT hz [[]] 0 (by omega) (by simp)
  have hl := (leadT_leads T [[]] 0 (by simp)).1
  simp only [List.length_cons, List.length_nil, Nat.zero_add] at hl
  refine ⟨fun hf => ?_, fun hf => ?_, by have := h.len; simp at this; omega, h.lt, h.ge⟩
  · unfold Few at hf
    rcases Int.lt_or_le (leadR T [[]] 0).2 0 with g | g
    · rcases (h.no g).2 with g' | g'
      · omega
      · simp at g'; omega
    · obtain ⟨_, y1, y2⟩ := h.yes g
      exact ⟨Prod.ext y1 y2, hl⟩
  · unfold Few at hf
    rcases Int.lt_or_le (leadR T [[]] 0).2 0 with g | g
    · exact .inl g
    · obtain ⟨_, y1, _⟩ := h.yes g
      refine .inr ?_
      rw [y1]
      simp only [Int.toNat_zero]
      rw [hl]; omega

theorem AuAt.start (w : World) (base : Nat) (h : base ≤ w.heap.size) : AuAt (w.alloc (.cells #[.slice none 0 0] TRow)) base (some ⟨w.heap.size, 0, none⟩) 1 1 [[]] := by
  refine ⟨[.slice none 0 0], ⟨rfl, .inr ⟨w.heap.size, 1, #[.slice none 0 0], rfl, h, Blk.new w TRow #[.slice none 0 0], by omega, by simp only [maxLen]; omega, rfl, rfl⟩⟩, rfl, rfl, fun i es he => ?_, fun i j r r' hij hr hr' => ?_⟩
  · match i with
    | 0 => simp at he; subst he; exact ⟨_, rfl, OwnK.nil⟩
    | i + 1 => simp at he
  · match i, hr with
    | 0, hr => simp at hr; subst hr; exact .inl rfl

/-- What comes of a pattern's automaton. -/
def MadeYes (T : Tr) (base : Nat) (w : World) (e : Ending) (w' : World) : Prop :=
  ∃ A' n' c', e = .returned (.tuple #[.agg #[.slice A' n' c', .int .i64 (leadT T [[]] 0).2], .bool true]) ∧ AuAt w' base A' n' c' (leadT T [[]] 0).1 ∧ Chg TA base w w'

def MadePost (T : Tr) (base : Nat) (w : World) (e : Ending) (w' : World) : Prop :=
  (Few T ∧ MadeYes T base w e w') ∨ (¬ Few T ∧ e = .returned (.tuple #[.agg #[.slice none 0 0, .int .i64 0], .bool false]) ∧ Chg TA base w w')
set_option maxHeartbeats 2000000 in
set_option maxRecDepth 100000 in
theorem ref09_Made (tA : Option Addr) (nt ct : Nat) (t : List Rx) (T : Tr) (w0 w : World) (base : Nat) (hkp : Keep w0 w) (hbs : w0.heap.size ≤ base) (hb : base ≤ w.heap.size) (ht : AtRx w0 tA t) (HT : Hid (t.length = nt)) (hnt : nt ≤ 64) (hT : T.Ok 16) (hfl : t = T.flat) :
    Calls Tryz.prog 33 #[.slice tA nt ct] w (MadePost T base w) := by
  have hz : T.size ≤ 64 := by show T.flat.length ≤ 64; rw [← hfl, HT.out]; exact hnt
  have MR := Lib.hid (made_r hT (Nat.le_refl _) hz)
  have HLD := Lib.hid (lead_all w0 base 0 tA nt ct t hbs ht HT hnt 16 (Nat.le_refl _) T 0 [] hT hz (by simp [hfl]))
  have hmk : ∀ W : World, (Instr.makeSlice 38 (.int .i64 1) (.int .i64 1)).run Tryz.prog W = .ok (.slice (some ⟨W.heap.size, 0, none⟩) 1 1) (W.alloc (.cells #[.slice none 0 0] TRow)) := fun _ => by kernel_rfl
  have hWB : Below w.heap.size w (w.alloc (.cells #[.slice none 0 0, .int .i64 0] TAuto)) := (Below.refl _ _).alloc (Nat.le_refl _) _
  have hWB2 : Below w.heap.size w ((w.alloc (.cells #[.slice none 0 0, .int .i64 0] TAuto)).alloc (.cells #[.slice none 0 0] TRow)) := hWB.alloc hWB.size _
  have HC := Lib.hid (HLD.out ((w.alloc (.cells #[.slice none 0 0, .int .i64 0] TAuto)).alloc (.cells #[.slice none 0 0] TRow)) (some ⟨w.heap.size + 1, 0, none⟩) 1 1 [[]] 0 (hkp.trans (Keep.of hWB2)) (Nat.le_trans hb hWB2.size) (by
    have := AuAt.start (w.alloc (.cells #[.slice none 0 0, .int .i64 0] TAuto)) base (Nat.le_trans hb hWB.size)
    rwa [show (w.alloc (.cells #[.slice none 0 0, .int .i64 0] TAuto)).heap.size = w.heap.size + 1 by simp] at this) (by omega) (by omega) (by omega) (by simp [edgesN]))
  have HB2 := Lib.hid hWB2
  have HR0 := Lib.hid ((Blk.new w TAuto #[.slice none 0 0, .int .i64 0]).alloc (.cells #[.slice none 0 0] TRow))
  obtain ⟨r, hr⟩ : ∃ r, leadR T [[]] 0 = r := ⟨_, rfl⟩
  rw [hr] at MR HC
  clear hWB hWB2 ht hr HLD hT hfl hz
  go_enter Tryz.func33, Tryz.ntmps33
  go_wp2_with fail
  refine HC.out.mono ?_
  rintro e w5 ⟨A5, c5, rfl, au5, ch5⟩
  have AU := Lib.hid au5
  have CH := Lib.hid ((Chg.of_below (T := TA) (base := base) HB2.out).trans ch5)
  have R5 := Lib.hid (ch5.blk HR0.out TA_auto)
  obtain ⟨v0, v1, v2, v3⟩ := Blk.two R5.out
  have h3 := MR.out.2.2.1
  have hN := R5.out.lt
  clear au5 ch5
  have S20 := fun (u0 u1 : Value) => store2 u0 u1 R5.out AU.out CH.out TA_auto (by decide) hb (Nat.le_refl _)
  have hbz : ∀ (W : World) (o : Obj), Below W.heap.size W (W.alloc o) := fun W o => (Below.refl _ _).alloc (Nat.le_refl _) _
  have no : ∀ (u0 u1 : Value), Chg TA base w (((w5.setCell ⟨w.heap.size, 0, none⟩ (.slice none 0 0)).setCell ⟨w.heap.size, 1, none⟩ (.int .i64 0)).alloc (.cells #[u0, u1] TAuto)) := fun u0 u1 => ((S20 (.slice none 0 0) (.int .i64 0)).2.2.then (hbz _ _))
  have NO := Lib.hid no
  have CR := Lib.hid (fun (u0 u1 : Value) => (S20 (.slice none 0 0) (.int .i64 0)).1.alloc (.cells #[u0, u1] TAuto))
  by_cases hneg : r.2 < 0
  · have HF : Hid (¬ Few T) := Lib.hid fun hf => by
      have h1 := (MR.out.1 hf).1
      rw [h1] at hneg; simp only at hneg; omega
    obtain ⟨z0, z1, _, _⟩ := Blk.two (CR.out (.slice A5 r.1.length c5) (.int .i64 0))
    clear S20 hbz no
    go_wp2
    refine bodyPost_ret (v := .tuple #[.agg #[.slice none 0 0, .int .i64 0], .bool false]) (by simp [results, Tryz.results33, go_sem, z0, z1]) rfl (.inr ⟨HF.out, rfl, NO.out _ _⟩)
  by_cases hbig : 256 < r.1.length
  · have HF : Hid (¬ Few T) := Lib.hid fun hf => by
      have h1 := MR.out.1 hf
      rw [h1.1] at hbig; simp only at hbig; have := h1.2; unfold Few at hf; omega
    obtain ⟨z0, z1, _, _⟩ := Blk.two (CR.out (.slice A5 r.1.length c5) (.int .i64 0))
    clear S20 hbz no
    go_wp2
    refine bodyPost_ret (v := .tuple #[.agg #[.slice none 0 0, .int .i64 0], .bool false]) (by simp [results, Tryz.results33, go_sem, z0, z1]) rfl (.inr ⟨HF.out, rfl, NO.out _ _⟩)
  have hf : Few T := by
    by_cases h : Few T
    · exact h
    · rcases MR.out.2.1 h with g | g <;> omega
  have HF := Lib.hid hf
  have HE := Lib.hid (MR.out.1 hf).1
  have S2 := Lib.hid (S20 (.slice A5 r.1.length c5) (.int .i64 r.2))
  have HB := Lib.hid (hbz ((w5.setCell ⟨w.heap.size, 0, none⟩ (.slice A5 r.1.length c5)).setCell ⟨w.heap.size, 1, none⟩ (.int .i64 r.2)) (.cells #[.slice A5 r.1.length c5, .int .i64 r.2] TAuto))
  obtain ⟨z0, z1, _, _⟩ := Blk.two (S2.out.1.alloc (.cells #[.slice A5 r.1.length c5, .int .i64 r.2] TAuto))
  clear S20 hbz no hf
  go_wp2
  refine bodyPost_ret (v := .tuple #[.agg #[.slice A5 r.1.length c5, .int .i64 r.2], .bool true]) (by simp [results, Tryz.results33, go_sem, z0, z1]) rfl (.inl ⟨HF.out, A5, r.1.length, c5, by rw [HE.out], ?_, S2.out.2.2.then HB.out⟩)
  have h6 := S2.out.2.1.next HB.out
  have h7 : r.1 = (leadT T [[]] 0).1 := by rw [HE.out]
  rw [← h7]
  exact h6

/-- Whether there is an automaton, and which, or the error. -/
def BuildPost (t : List Rx) (w : World) (e : Ending) (w' : World) : Prop :=
  Below w.heap.size w w' ∧ ((¬ Pat t ∧ e = .returned (.tuple #[.agg #[.slice none 0 0, .int .i64 0], .int .i64 8])) ∨
    (Pat t ∧ ∃ T : Tr, T.Ok 16 ∧ t = T.flat ∧ ((¬ Few T ∧ e = .returned (.tuple #[.agg #[.slice none 0 0, .int .i64 0], .int .i64 90])) ∨
      (Few T ∧ ∃ A' n' c', e = .returned (.tuple #[.agg #[.slice A' n' c', .int .i64 (leadT T [[]] 0).2], .int .i64 0]) ∧ AuAt w' w.heap.size A' n' c' (leadT T [[]] 0).1))))

end Go.Proofs.YtjnjbcigbnjmkaaGreat

namespace Go.Proofs.YtjnjbcigbnjmkaaGreat
open Go.RowKit Pv

set_option maxHeartbeats 2000000 in
set_option maxRecDepth 100000 in
theorem ref09_Build (tA : Option Addr) (nt ct : Nat) (t : List Rx) (w : World) (ht : AtRx w tA t) (HT : Hid (t.length = nt)) :
    Calls Tryz.prog 11 #[.slice tA nt ct] w (BuildPost t w) := by
  have hWB : Below w.heap.size w (w.alloc (.cells #[.slice none 0 0, .int .i64 0] TAuto)) := (Below.refl _ _).alloc (Nat.le_refl _) _
  have HM := Lib.hid (fun (b : Bool) (e : patB t = b) => show Calls Tryz.prog 7 #[.slice tA nt ct] (w.alloc (.cells #[.slice none 0 0, .int .i64 0] TAuto)) fun e w' => e = .returned (.bool b) ∧ Below (w.alloc (.cells #[.slice none 0 0, .int .i64 0] TAuto)).heap.size (w.alloc (.cells #[.slice none 0 0, .int .i64 0] TAuto)) w' from e ▸ ref07_May tA ct nt t _ (AtRx.keep ht (Keep.of hWB)) HT)
  have HW := Lib.hid hWB
  have HR0 := Lib.hid (Blk.new w TAuto #[.slice none 0 0, .int .i64 0])
  by_cases hp : Pat t
  case neg =>
    have HN := Lib.hid hp
    have HB := Lib.hid (patB_no hp)
    clear hp ht hWB
    go_enter Tryz.func11, Tryz.ntmps11
    go_wp2_with fail
    refine (HM.out false HB.out).mono ?_
    rintro e w1 ⟨rfl, hb1⟩
    have R1 := Lib.hid (HR0.out.below hb1 (by simp))
    have hN := R1.out.lt
    have B1 := Lib.hid (HW.out.trans (hb1.mono HW.out.size))
    obtain ⟨v0, v1, v2, v3⟩ := Blk.two R1.out
    obtain ⟨z0, z1, _, _⟩ := Blk.two ((R1.out.set 0 (.slice none 0 0)).set 1 (.int .i64 0))
    clear hb1
    go_wp2
    refine bodyPost_ret (v := .tuple #[.agg #[.slice none 0 0, .int .i64 0], .int .i64 8]) (by simp [results, Tryz.results11, go_sem, z0, z1]) rfl ⟨(B1.out.setCell (Nat.le_refl _) _).setCell (Nat.le_refl _) _, .inl ⟨HN.out, rfl⟩⟩
  have hnt : nt ≤ 64 := by have := hp.2.1; rwa [HT.out] at this
  obtain ⟨T, hT, hfl⟩ := hp.tree
  have HB := Lib.hid (patB_yes hp)
  have HTT := Lib.hid hT; have HFL := Lib.hid hfl; have HPT := Lib.hid hp
  have HMD := Lib.hid (fun (W : World) (kp : Keep w W) => ref09_Made tA nt ct t T w W w.heap.size kp (Nat.le_refl _) kp.size ht HT hnt hT hfl)
  clear hp ht hWB hT hfl
  go_enter Tryz.func11, Tryz.ntmps11
  go_wp2_with fail
  refine (HM.out true HB.out).mono ?_
  rintro e w1 ⟨rfl, hb1⟩
  have R1 := Lib.hid (HR0.out.below hb1 (by simp))
  have B1 := Lib.hid (HW.out.trans (hb1.mono HW.out.size))
  clear hb1
  go_wp2_with fail
  refine (HMD.out w1 (Keep.of B1.out)).mono ?_
  rintro e w2 (⟨hf, A', n', c', rfl, au, hb2⟩ | ⟨hf, rfl, hb2⟩)
  · have R2 := Lib.hid (hb2.blk R1.out TA_auto)
    have hN := R2.out.lt
    have B2 := Lib.hid ((Chg.of_below (T := TA) (base := w.heap.size) B1.out).trans hb2)
    have HF := Lib.hid hf
    have S2 := Lib.hid (store2 (.slice A' n' c') (.int .i64 (leadT T [[]] 0).2) R2.out au B2.out TA_auto (by decide) (Nat.le_refl _) (Nat.le_refl _))
    have hbz : Below ((w2.setCell ⟨w.heap.size, 0, none⟩ (.slice A' n' c')).setCell ⟨w.heap.size, 1, none⟩ (.int .i64 (leadT T [[]] 0).2)).heap.size ((w2.setCell ⟨w.heap.size, 0, none⟩ (.slice A' n' c')).setCell ⟨w.heap.size, 1, none⟩ (.int .i64 (leadT T [[]] 0).2)) (((w2.setCell ⟨w.heap.size, 0, none⟩ (.slice A' n' c')).setCell ⟨w.heap.size, 1, none⟩ (.int .i64 (leadT T [[]] 0).2)).alloc (.cells #[.slice A' n' c', .int .i64 (leadT T [[]] 0).2] TAuto)) := (Below.refl _ _).alloc (Nat.le_refl _) _
    have S3 := Lib.hid (And.intro (S2.out.2.1.next hbz) (S2.out.2.2.then hbz))
    obtain ⟨v0, v1, v2, v3⟩ := Blk.two R2.out
    obtain ⟨z0, z1, _, _⟩ := Blk.two (S2.out.1.alloc (.cells #[.slice A' n' c', .int .i64 (leadT T [[]] 0).2] TAuto))
    clear hb2 hf au hbz
    go_wp2
    refine bodyPost_ret (v := .tuple #[.agg #[.slice A' n' c', .int .i64 (leadT T [[]] 0).2], .int .i64 0]) (by simp [results, Tryz.results11, go_sem, z0, z1]) rfl ⟨S3.out.2.below (Nat.le_refl _), .inr ⟨HPT.out, T, HTT.out, HFL.out, .inr ⟨HF.out, A', n', c', rfl, S3.out.1⟩⟩⟩
  · have R2 := Lib.hid (hb2.blk R1.out TA_auto)
    have hN := R2.out.lt
    have B2 := Lib.hid (((Chg.of_below (T := TA) (base := w.heap.size) B1.out).trans hb2).below (Nat.le_refl _))
    have HF := Lib.hid hf
    obtain ⟨v0, v1, v2, v3⟩ := Blk.two R2.out
    obtain ⟨z0, z1, _, _⟩ := Blk.two (((R2.out.set 0 (.slice none 0 0)).set 1 (.int .i64 0)).alloc (.cells #[.slice none 0 0, .int .i64 0] TAuto))
    clear hb2 hf
    go_wp2
    refine bodyPost_ret (v := .tuple #[.agg #[.slice none 0 0, .int .i64 0], .int .i64 90]) (by simp [results, Tryz.results11, go_sem, z0, z1]) rfl ⟨((B2.out.setCell (Nat.le_refl _) _).setCell (Nat.le_refl _) _).alloc (by simpa using B2.out.size) _, .inr ⟨HPT.out, T, HTT.out, HFL.out, .inl ⟨HF.out, rfl⟩⟩⟩

end Go.Proofs.YtjnjbcigbnjmkaaGreat

namespace Go.Proofs.YtjnjbcigbnjmkaaGreat
open Go.RowKit Pv

theorem SetIn.setFar {w : World} {base g i : Nat} {t : TypeId} {cs : Array Value} {u : Value} (hb : Blk w g t cs) (ht2 : t ≠ TRng) (hg : base ≤ g) : ∀ v l, SetIn w base v l → SetIn (w.setCell ⟨g, i, none⟩ u) base v l := by
  have hold : ∀ b, b ≠ g → (w.setCell ⟨g, i, none⟩ u).heap[b]? = w.heap[b]? := fun b hb => Below.heap_setCell w ⟨g, i, none⟩ u b hb
  rintro v l ⟨A, c, e, hs, hc, hh⟩
  have key : ∀ b o, A = some ⟨b, o, none⟩ → 0 < l.length → b ≠ g := fun b o e hp hbg => by
    rcases hh hp b o e with h | ⟨cs', hcs'⟩
    · omega
    · subst hbg
      unfold Blk at hb
      rw [hb] at hcs'
      injection hcs' with hcs'
      injection hcs' with _ h1
      exact ht2 h1
  refine ⟨A, c, e, AtK.chg hs (by simp) fun b o e hp _ => hold b (key b o e hp), hc, fun hp b o e => ?_⟩
  rcases hh hp b o e with h | ⟨cs', hcs'⟩
  · exact .inl h
  · exact .inr ⟨cs', (hold b (key b o e hp)).trans hcs'⟩

/-- A set of the call's own. -/
def SetQ (w : World) (base : Nat) (v : Value) (l : List Rng) : Prop := SetIn w base v l ∧ ∀ b o n c, v = .slice (some ⟨b, o, none⟩) n c → 0 < n → base ≤ b
theorem SetQ.set {w : World} {base : Nat} {v : Value} {l : List Rng} (h : SetQ w base v l) : IsSet w v l := h.1.set
theorem SetQ.one {w : World} {base : Nat} {v : Value} {l : List Rng} (h : SetQ w base v l) : v.oneCell' = true := h.1.one
theorem SetQ.chg {T : List TypeId} {w w' : World} {base : Nat} {v : Value} {l : List Rng} (h : SetQ w base v l) (hc : Chg T base w w') (hT : ∀ e, e ∈ T → e ≠ TRng) : SetQ w' base v l := ⟨h.1.chg hc hT, h.2⟩
theorem SetQ.nil (w : World) (base : Nat) : SetQ w base (.slice none 0 0) [] := ⟨SetIn.nil w base, fun b o n c e => by injection e with e; cases e⟩
theorem SetQ.next {w w' : World} {base : Nat} {v : Value} {l : List Rng} (h : SetQ w base v l) (hb : Below w.heap.size w w') : SetQ w' base v l := h.chg (Chg.of_below (T := TA) hb) TA_ne
/-- An edge's three cells. -/
structure REdgeQ (w : World) (base : Nat) (f : Nat → Value) (x : Ed) : Prop where
  to : RI (f 0) x.to
  free : f 1 = .bool x.free
  set : SetQ w base (f 2) x.set
/-- A row of edges of the call's own. -/
abbrev OwnRowQ (w : World) (base : Nat) (v : Value) (es : List Ed) : Prop := OwnK w base TEdge 3 (REdgeQ w base) v es

/-- The rows of an automaton under way. -/
structure RowsQ (w : World) (base n : Nat) (rows : List Value) (a : Au) : Prop where
  len : rows.length = n
  n : n = a.length
  row : ∀ (i : Nat) es, a[i]? = some es → ∃ r, rows[i]? = some r ∧ OwnRowQ w base r es
  ne : ∀ (i j : Nat) r r', i ≠ j → rows[i]? = some r → rows[j]? = some r' → r.ownBlock = none ∨ r.ownBlock ≠ r'.ownBlock
/-- An automaton under way: its slice of rows. -/
def AuQ (w : World) (base : Nat) (A : Option Addr) (n c : Nat) (a : Au) : Prop :=
  ∃ rows, w.ownsRow base TRow 1 (.slice A n c) n rows ∧ RowsQ w base n rows a

theorem OwnRowQ.chg {w w' : World} {base : Nat} {v : Value} {es : List Ed} (h : OwnRowQ w base v es) (hc : Chg TA base w w') (hb : ∀ g, v.ownBlock = some g → w'.heap[g]? = w.heap[g]?) : OwnRowQ w' base v es := by
  obtain ⟨A, c, us, rfl, ⟨h0, h1⟩, k⟩ := h
  refine ⟨A, c, us, rfl, ⟨h0, ?_⟩, k.mono fun f x _ h => ⟨h.1, h.2, h.3.chg hc TA_ne⟩⟩
  rcases h1 with h1 | ⟨g, cap, cur, hv, hg, hh, r⟩
  · exact .inl h1
  · exact .inr ⟨g, cap, cur, hv, hg, (hb g (by rw [hv]; rfl)).trans hh, r⟩
theorem RowsQ.below {w w' : World} {base n : Nat} {rows : List Value} {a : Au} (h : RowsQ w base n rows a) (hb : Below w.heap.size w w') : RowsQ w' base n rows a :=
  ⟨h.1, h.2, fun i es he => by
    obtain ⟨r, hr, ho⟩ := h.3 i es he
    obtain ⟨A, c, us, rfl, ow, _⟩ := id ho
    exact ⟨_, hr, ho.chg (Chg.of_below hb) fun g hg => hb.block g (ow.lt g hg).2⟩, h.4⟩
theorem AuQ.next {w w' : World} {base n c : Nat} {A : Option Addr} {a : Au} (h : AuQ w base A n c a) (hb : Below w.heap.size w w') : AuQ w' base A n c a := by
  obtain ⟨rows, h1, h2⟩ := h
  exact ⟨rows, ownsRow_below h1 hb, h2.below hb⟩
theorem AuQ.len {w : World} {base n c : Nat} {A : Option Addr} {a : Au} (h : AuQ w base A n c a) : n = a.length := by obtain ⟨rows, _, h2⟩ := h; exact h2.n

/-- One state more. -/
theorem RowsQ.state {w w2 : World} {base n c c' : Nat} {A A' : Option Addr} {rows : List Value} {a : Au} (h1 : w.ownsRow base TRow 1 (.slice A n c) n rows) (h : RowsQ w base n rows a)
    (gr : (w.alloc (.cells #[.slice none 0 0] TRow)).grownBy w2 (Value.slice A n c).ownBlock) (own : w2.ownsRow base TRow 1 (.slice A' (n + 1) c') (n + 1) (rows ++ [.slice none 0 0])) :
    AuQ w2 base A' (n + 1) c' (a ++ [[]]) ∧ Chg TA base w w2 := by
  have hchg : Chg TA base w w2 := ⟨gr.os, gr.tape, gr.output, Nat.le_trans (by simp) gr.size, fun b hb hc => by
    refine (gr.block b (by simp; omega) fun e => ?_).trans (Below.heap_alloc w _ b hb)
    obtain ⟨hlt, _⟩ := h1.lt b e.symm
    rcases hc with hc | hc
    · omega
    · refine hc TRow (by simp) ?_
      rcases h1.2 with ⟨hv, _⟩ | ⟨g, cap, cur, hv, _, hh, _⟩
      · rw [hv] at e; simp [Value.ownBlock] at e
      · rw [hv] at e
        have : b = g := by simpa [Value.ownBlock] using e
        subst this
        exact ⟨cur, hh⟩⟩
  refine ⟨⟨_, own, by simp [h.len], by simp [h.n], fun i es he => ?_, fun i j r r' hij hr hr' => ?_⟩, hchg⟩
  · by_cases hi : i < a.length
    · rw [List.getElem?_append_left hi] at he
      obtain ⟨r, hr, ho⟩ := h.row i es he
      refine ⟨r, by rw [List.getElem?_append_left (by rw [h.len, h.n]; exact hi)]; exact hr, ho.chg hchg fun g hg => ?_⟩
      obtain ⟨B, cc, us, rfl, ow, _⟩ := id ho
      have hlt := (ow.lt g hg).2
      refine (gr.block g (by simp; omega) fun e => ?_).trans (Below.heap_alloc w _ g hlt)
      rcases own_ne ow h1 (by decide) with hh | hh
      · rw [hh] at hg; cases hg
      · exact hh (by rw [hg, e])
    · rw [List.getElem?_append_right (by omega)] at he
      have hi' : i - a.length = 0 := by
        have := lt_of_get he; simp at this; omega
      rw [hi'] at he
      simp at he; subst he
      refine ⟨.slice none 0 0, ?_, OwnK.nil⟩
      rw [List.getElem?_append_right (by rw [h.len, h.n]; omega), h.len, h.n, hi']
      rfl
  · have far : ∀ {i : Nat} {r : Value}, (rows ++ [Value.slice none 0 0])[i]? = some r → ¬ i < rows.length → r = .slice none 0 0 := fun {i r} hr hi => by
      rw [List.getElem?_append_right (by omega)] at hr
      have : i - rows.length = 0 := by have := lt_of_get hr; simp at this; omega
      rw [this] at hr; simpa using hr.symm
    by_cases hi : i < rows.length
    · by_cases hj : j < rows.length
      · rw [List.getElem?_append_left hi] at hr
        rw [List.getElem?_append_left hj] at hr'
        exact h.ne i j r r' hij hr hr'
      · rw [far hr' hj]
        cases hb : r.ownBlock with
        | none => exact .inl rfl
        | some g => exact .inr (by simp [Value.ownBlock])
    · rw [far hr hi]; exact .inl rfl

/-- What there is to know of a row, ahead of an edge. -/
theorem RowsQ.get {w : World} {base n c : Nat} {A : Option Addr} {rows : List Value} {a : Au} (h1 : w.ownsRow base TRow 1 (.slice A n c) n rows) (h : RowsQ w base n rows a) {s : Nat} (hs : s < n) :
    ∃ g B m cc us es, A = some ⟨g, 0, none⟩ ∧ base ≤ g ∧ g < w.heap.size ∧ w.cell? ⟨g, s, none⟩ = some (.slice B m cc) ∧ w.frozen? ⟨g, s, none⟩ = false ∧ a[s]? = some es ∧ m = es.length ∧
      rows[s]? = some (.slice B m cc) ∧ w.ownsRow base TEdge 3 (.slice B m cc) m us ∧ RelK 3 (REdgeQ w base) us es := by
  have hes : a[s]? = some (a[s]'(by rw [← h.n]; exact hs)) := List.getElem?_eq_getElem _
  obtain ⟨r, hr, B, cc, us, rfl, ow, hk⟩ := h.row s _ hes
  rcases h1.2 with ⟨hv, h0⟩ | ⟨g, cap, cur, hv, hg, hh, hnc, hcm, hcs, htk⟩
  · omega
  · injection hv with e1 _ e3
    subst e1; subst e3
    have hlt : g < w.heap.size := by
      rcases Nat.lt_or_ge g w.heap.size with hlt | hge
      · exact hlt
      · rw [Array.getElem?_eq_none hge] at hh; cases hh
    have hcur : cur[s]? = some (.slice B (a[s]'(by rw [← h.n]; exact hs)).length cc) := by
      have h2 : (cur.toList.take (n * 1))[s]? = some (.slice B (a[s]'(by rw [← h.n]; exact hs)).length cc) := by rw [htk]; exact hr
      rw [List.getElem?_take] at h2
      split at h2
      · simpa using h2
      · cases h2
    exact ⟨g, B, _, cc, us, _, rfl, hg, hlt, by simp [World.cell?, hh, hcur], by simp [World.frozen?, hh], hes, rfl, hr, ow, hk⟩

/-- One edge more. -/
theorem RowsQ.edge {w w1 w2 : World} {base n c s g m cc cc' : Nat} {B B' : Option Addr} {rows us : List Value} {a : Au} {es : List Ed} {x : Ed} {sv : Value} (h1 : w.ownsRow base TRow 1 (.slice (some ⟨g, 0, none⟩) n c) n rows) (h : RowsQ w base n rows a)
    (hs : s < n) (hes : a[s]? = some es) (hm : m = es.length) (hrow : rows[s]? = some (.slice B m cc)) (ow : w.ownsRow base TEdge 3 (.slice B m cc) m us) (hk : RelK 3 (REdgeQ w base) us es)
    (hx : SetQ w base sv x.set) (hto : -9223372036854775808 ≤ x.to ∧ x.to ≤ 9223372036854775807) (hw1 : w1 = w.alloc (.cells #[.int .i64 x.to, .bool x.free, sv] TEdge))
    (gr : w1.grownBy w2 (Value.slice B m cc).ownBlock) (own : w2.ownsRow base TEdge 3 (.slice B' (m + 1) cc') (m + 1) (us ++ [.int .i64 x.to, .bool x.free, sv]))
    (hnew : (Value.slice B' (m + 1) cc').ownBlock = (Value.slice B m cc).ownBlock ∨ (Value.slice B' (m + 1) cc').ownBlock = some w1.heap.size) :
    AuQ (w2.setCell ⟨g, s, none⟩ (.slice B' (m + 1) cc')) base (some ⟨g, 0, none⟩) n c (auEdge a s x) ∧ Chg TA base w (w2.setCell ⟨g, s, none⟩ (.slice B' (m + 1) cc')) := by
  subst hw1
  have hal : ∀ b, b < w.heap.size → (w.alloc (.cells #[.int .i64 x.to, .bool x.free, sv] TEdge)).heap[b]? = w.heap[b]? := fun b hb => Below.heap_alloc w _ b hb
  have hg0 : w.heap.size ≤ (w.alloc (.cells #[.int .i64 x.to, .bool x.free, sv] TEdge)).heap.size := by simp
  obtain ⟨cap, cur, hb, hh, hnc, hcm, hcs, htk, rfl⟩ : ∃ cap cur, base ≤ g ∧ w.heap[g]? = some (.cells cur TRow (0, 0)) ∧ n ≤ cap ∧ cap ≤ maxLen ∧ cur.size = cap * 1 ∧ cur.toList.take (n * 1) = rows ∧ c = cap := by
    rcases h1.2 with ⟨hv, h0⟩ | ⟨g', cap, cur, hv, hg, hh, hnc, hcm, hcs, htk⟩
    · injection hv with e; cases e
    · injection hv with e1 _ e3
      injection e1 with e1
      injection e1 with e1 _
      subst e1; subst e3
      exact ⟨c, cur, hg, hh, hnc, hcm, hcs, htk, rfl⟩
  have hglt : g < w.heap.size := by
    rcases Nat.lt_or_ge g w.heap.size with hlt | hge
    · exact hlt
    · rw [Array.getElem?_eq_none hge] at hh; cases hh
  have hgne : (Value.slice B m cc).ownBlock ≠ some g := fun e => by
    rcases own_ne ow h1 (by decide) with h' | h'
    · rw [h'] at e; cases e
    · exact h' (by rw [e]; rfl)
  have hg2 : w2.heap[g]? = some (.cells cur TRow (0, 0)) := ((gr.block g (by omega) (fun e => hgne e.symm)).trans (hal g hglt)).trans hh
  have hblk : Blk w2 g TRow cur := hg2
  have hold : ∀ b, b < w.heap.size → b ≠ g → some b ≠ (Value.slice B m cc).ownBlock → (w2.setCell ⟨g, s, none⟩ (.slice B' (m + 1) cc')).heap[b]? = w.heap[b]? := fun b hb h1 h2 =>
    ((Below.heap_setCell w2 ⟨g, s, none⟩ (.slice B' (m + 1) cc') b h1).trans (gr.block b (by omega) h2)).trans (hal b hb)
  have hchg : Chg TA base w (w2.setCell ⟨g, s, none⟩ (.slice B' (m + 1) cc')) := ⟨gr.os, gr.tape, gr.output, by have := gr.size; simp at this; simp; omega, fun b hb' hc => by
    refine hold b hb' (fun e => ?_) (fun e => ?_)
    · subst e
      rcases hc with hc | hc
      · omega
      · exact hc TRow (by simp) ⟨cur, hh⟩
    · rcases hc with hc | hc
      · have := (ow.lt b e.symm).1; omega
      · refine hc TEdge (by simp) ?_
        rcases ow.2 with ⟨hv, _⟩ | ⟨g', cap', cur', hv, _, hh', _⟩
        · rw [hv] at e; simp [Value.ownBlock] at e
        · rw [hv] at e
          have : b = g' := by simpa [Value.ownBlock] using e
          subst this
          exact ⟨cur', hh'⟩⟩
  have hlen : rows.length = n := h.len
  refine ⟨⟨rows.set s (.slice B' (m + 1) cc'), ⟨by simp [hlen], .inr ⟨g, c, cur.setIfInBounds s (.slice B' (m + 1) cc'), rfl, hb, hblk.set s _, hnc, hcm, by simpa using hcs, ?_⟩⟩, by simp [hlen], by rw [auEdge_length]; exact h.n, fun i e he => ?_, fun i j r r' hij hr hr' => ?_⟩, hchg⟩
  · rw [← htk]
    simp [List.take_set]
  · simp only [auEdge, List.getElem?_modify] at he
    by_cases hi : s = i
    · subst hi
      rw [hes] at he
      simp at he
      subst he
      refine ⟨.slice B' (m + 1) cc', by rw [List.getElem?_set_self (by rw [hlen]; exact hs)], B', cc', us ++ [.int .i64 x.to, .bool x.free, sv], by simp [hm], ?_, ?_⟩
      · rw [show (es ++ [x]).length = m + 1 by simp [hm]]
        exact ownsRow_setFar own hblk (by decide) s _
      · refine (hk.mono fun f y _ h => ⟨h.1, h.2, h.3.chg hchg TA_ne⟩).app (RelK.one (f := fun j => [Value.int .i64 x.to, .bool x.free, sv].getD j undef) rfl ?_ ⟨⟨rfl, hto⟩, rfl, hx.chg hchg TA_ne⟩)
        intro j hj
        match j, hj with
        | 0, _ => rfl
        | 1, _ => rfl
        | 2, _ => rfl
    · simp [hi] at he
      obtain ⟨r, hr, ho⟩ := h.row i e he
      refine ⟨r, by rw [List.getElem?_set_ne hi]; exact hr, ho.chg hchg fun q hq => ?_⟩
      obtain ⟨C, c2, us2, rfl, ow2, _⟩ := id ho
      have hlt := (ow2.lt q hq).2
      refine hold q hlt (fun e => ?_) (fun e => ?_)
      · subst e
        rcases own_ne ow2 h1 (by decide) with h' | h'
        · rw [h'] at hq; cases hq
        · exact h' (by rw [hq]; rfl)
      · rcases h.ne i s _ _ (fun e => hi e.symm) hr hrow with h' | h'
        · rw [h'] at hq; cases hq
        · exact h' (by rw [hq, e])
  · have old : ∀ {i : Nat} {r : Value}, (rows.set s (.slice B' (m + 1) cc'))[i]? = some r → i ≠ s → rows[i]? = some r := fun {i r} hr hi => by
      rw [List.getElem?_set_ne (fun e => hi e.symm)] at hr; exact hr
    have at' : ∀ {r : Value}, (rows.set s (.slice B' (m + 1) cc'))[s]? = some r → r = .slice B' (m + 1) cc' := fun {r} hr => by
      rw [List.getElem?_set_self (by rw [hlen]; exact hs)] at hr; exact (Option.some.inj hr).symm
    have low : ∀ {i : Nat} {r : Value} {q : Nat}, rows[i]? = some r → r.ownBlock = some q → q < w.heap.size := fun {i r q} hr hq => by
      have hi : i < a.length := by have := lt_of_get hr; rw [hlen, h.n] at this; exact this
      obtain ⟨r2, hr2, C, c2, us2, rfl, ow2, _⟩ := h.row i _ (List.getElem?_eq_getElem hi)
      obtain rfl := Option.some.inj (hr2.symm.trans hr)
      exact (ow2.lt q hq).2
    have apart : ∀ {i : Nat} {r : Value}, i ≠ s → rows[i]? = some r → r.ownBlock = none ∨ r.ownBlock ≠ (Value.slice B' (m + 1) cc').ownBlock := fun {i r} hi hr => by
      cases hq : r.ownBlock with
      | none => exact .inl rfl
      | some q =>
        refine .inr fun e => ?_
        rcases hnew with hn | hn
        · rcases h.ne i s _ _ hi hr hrow with h' | h'
          · rw [h'] at hq; cases hq
          · exact h' (by rw [hq, e, hn])
        · rw [hn] at e
          injection e with e
          have := low hr hq
          omega
    by_cases hi : i = s
    · subst hi
      rw [at' hr]
      have hj := old hr' (fun e => hij e.symm)
      rcases apart (fun e => hij e.symm) hj with h' | h'
      · cases hq : (Value.slice B' (m + 1) cc').ownBlock with
        | none => exact .inl rfl
        | some q => exact .inr (by rw [h']; simp)
      · exact .inr fun e => h' e.symm
    · by_cases hj : j = s
      · subst hj
        rw [at' hr']
        exact apart hi (old hr hi)
      · exact h.ne i j r r' hij (old hr hi) (old hr' hj)


theorem AuQ.setFar {w : World} {base n c g i : Nat} {A : Option Addr} {a : Au} {t : TypeId} {cs : Array Value} {u : Value} (h : AuQ w base A n c a) (hb : Blk w g t cs) (ht : ∀ e, e ∈ TA → e ≠ t) (ht2 : t ≠ TRng) (hg : base ≤ g) : AuQ (w.setCell ⟨g, i, none⟩ u) base A n c a := by
  obtain ⟨rows, h1, h2⟩ := h
  have hold : ∀ b, b ≠ g → (w.setCell ⟨g, i, none⟩ u).heap[b]? = w.heap[b]? := fun b hb => Below.heap_setCell w ⟨g, i, none⟩ u b hb
  have hs : ∀ v l, SetQ w base v l → SetQ (w.setCell ⟨g, i, none⟩ u) base v l := fun v l h => ⟨SetIn.setFar hb ht2 hg v l h.1, h.2⟩
  refine ⟨rows, ownsRow_setFar h1 hb (ht TRow (by simp)) i u, h2.len, h2.n, fun j es he => ?_, h2.ne⟩
  obtain ⟨r, hr, A', c', us, rfl, ow, hk⟩ := h2.row j es he
  exact ⟨_, hr, A', c', us, rfl, ownsRow_setFar ow hb (ht TEdge (by simp)) i u, hk.mono fun f x _ h => ⟨h.1, h.2, hs _ _ h.3⟩⟩

end Go.Proofs.YtjnjbcigbnjmkaaGreat

namespace Go.Proofs.YtjnjbcigbnjmkaaGreat
open Go.RowKit Pv

abbrev TMk : TypeId := 53
/-- .. what the program's maker turns besides. -/
abbrev TB : List TypeId := [TRow, TEdge, TMk]
theorem TA_TB : ∀ e, e ∈ TA → e ∈ TB := by decide
theorem TA_mk : ∀ e, e ∈ TA → e ≠ TMk := by decide
/-- The maker: its automaton, what it reads. -/
structure MkAt (w : World) (base pm : Nat) (A : Option Addr) (n c : Nat) (acc : Int) (x2 x3 : Value) (a : Au) : Prop where
  b : Blk w pm TMk #[.slice A n c, .int .i64 acc, x2, x3]
  au : AuQ w base A n c a
  ge : base ≤ pm
theorem MkAt.next {w w' : World} {base pm n c : Nat} {A : Option Addr} {acc : Int} {x2 x3 : Value} {a : Au} (h : MkAt w base pm A n c acc x2 x3 a) (hb : Below w.heap.size w w') : MkAt w' base pm A n c acc x2 x3 a := ⟨h.b.below hb h.b.lt, h.au.next hb, h.ge⟩
theorem Chg.setT {T : List TypeId} {base g i : Nat} {w w' : World} {t : TypeId} {cs : Array Value} {u : Value} (h : Chg T base w w') (hb : Blk w g t cs) (ht : t ∈ T) (hg : base ≤ g) : Chg T base w (w'.setCell ⟨g, i, none⟩ u) :=
  ⟨h.os, h.tape, h.output, by simpa using h.size, fun b hbb hc => (Below.heap_setCell w' ⟨g, i, none⟩ u b (fun e => by
    simp only at e
    subst e
    rcases hc with hc | hc
    · omega
    · exact hc t ht ⟨cs, hb⟩)).trans (h.block b hbb hc)⟩
/-- What the maker's new state leaves. -/
def MkState (w : World) (base pm n : Nat) (acc : Int) (x2 x3 : Value) (a : Au) (e : Ending) (w' : World) : Prop :=
  ∃ A' c', e = .returned (.int .i64 n) ∧ MkAt w' base pm A' (n + 1) c' acc x2 x3 (a ++ [[]]) ∧ Chg TB base w w'

set_option maxHeartbeats 1000000 in
set_option maxRecDepth 100000 in
theorem maker_state (A : Option Addr) (n c base pm : Nat) (acc : Int) (x2 x3 : Value) (a : Au) (w : World) (h : MkAt w base pm A n c acc x2 x3 a) (hb : base ≤ w.heap.size) (hn : n ≤ 1000) :
    Calls Tryz.prog 20 #[.pointer (some ⟨pm, 0, none⟩)] w (MkState w base pm n acc x2 x3 a) := by
  obtain ⟨i0, hi0, hz0, hs0, hb0⟩ := info_parts info_row
  obtain ⟨rows, ow, hr⟩ := h.au
  have OW := Lib.hid (ow.alloc (.cells #[.slice none 0 0] TRow)); have OW0 := Lib.hid ow; have HR := Lib.hid hr
  have SRC := Lib.hid (Src.one (w := w) (x := .slice none 0 0) (t := TRow) rfl)
  have Q1 : Hid (n + 1 ≤ maxLen) := Lib.hid (by simp only [maxLen]; omega)
  have Q2 : Hid ((n + 1) * 24 ≤ 140737488355328) := Lib.hid (by omega)
  have Q3 : Hid (base ≤ (w.alloc (.cells #[.slice none 0 0] TRow)).heap.size) := Lib.hid (by simp; omega)
  have BK := Lib.hid h.b
  have HGE := Lib.hid h.ge
  have m0 := h.b.cell 0
  have m1 := h.b.frozen 0
  clear h ow hr
  go_enter Tryz.func20, Tryz.ntmps20
  go_wp2_with (at_builtin
               go_must (refine wpList_append_src _ rfl (.tmp 8) (.tmp 9) 38 rfl base TRow i0 (.slice none 0 0) 1 24 Tryz.underlying38 hi0 hz0 hs0 hb0 rfl (by decide) A c n rows rfl OW.out _ 1 1 _ rfl SRC.out Q1.out Q2.out Q3.out ?_)
               intro A4 c4 w4 own4 gr4 _
               have ST := Lib.hid (RowsQ.state OW0.out HR.out gr4 own4)
               have B1 := Lib.hid (ST.out.2.blk BK.out TA_mk)
               have f0 := B1.out.cell 0
               have f1 := B1.out.frozen 0
               clear gr4 own4 m0 m1)
  go_ret
  have B2 : Blk (w4.setCell ⟨pm, 0, none⟩ (.slice A4 (n + 1) c4)) pm TMk #[.slice A4 (n + 1) c4, .int .i64 acc, x2, x3] := B1.out.set 0 (.slice A4 (n + 1) c4)
  exact ⟨A4, c4, by simp, ⟨B2, ST.out.1.setFar (i := 0) (u := .slice A4 (n + 1) c4) B1.out TA_mk (by decide) HGE.out, HGE.out⟩, (ST.out.2.sub TA_TB).setT BK.out (by decide) HGE.out⟩

end Go.Proofs.YtjnjbcigbnjmkaaGreat

namespace Go.Proofs.YtjnjbcigbnjmkaaGreat
open Go.RowKit Pv

/-- What the maker's new edge leaves. -/
def MkEdge (w : World) (base pm n c : Nat) (A : Option Addr) (acc : Int) (x2 x3 : Value) (a : Au) (s : Nat) (x : Ed) (e : Ending) (w' : World) : Prop :=
  e = .returned (.int .i64 x.to) ∧ MkAt w' base pm A n c acc x2 x3 (auEdge a s x) ∧ Chg TB base w w'

set_option maxHeartbeats 2000000 in
set_option maxRecDepth 100000 in
theorem maker_edge (A : Option Addr) (n c base pm s : Nat) (acc : Int) (x2 x3 : Value) (a : Au) (x : Ed) (sA : Option Addr) (sn sc : Nat) (w : World) (h : MkAt w base pm A n c acc x2 x3 a) (hb : base ≤ w.heap.size) (hs : s < n) (hto : -9223372036854775808 ≤ x.to ∧ x.to ≤ 9223372036854775807) (he : edgesN a ≤ 1000000) (hset : SetQ w base (.slice sA sn sc) x.set) :
    Calls Tryz.prog 46 #[.pointer (some ⟨pm, 0, none⟩), .int .i64 s, .agg #[.int .i64 x.to, .bool x.free, .slice sA sn sc]] w (MkEdge w base pm n c A acc x2 x3 a s x) := by
  obtain ⟨i0, hi0, hz0, hs0', hb0⟩ := info_parts info_edge
  have hW : Below w.heap.size w (w.alloc (.cells #[.int .i64 x.to, .bool x.free, .slice sA sn sc] TEdge)) := (Below.refl _ _).alloc (Nat.le_refl _) _
  obtain ⟨rows, ow, hr⟩ := h.au
  obtain ⟨g, B, m, cc, us, es, rfl, hbg, hgl, hcell, hfz, hes, hm, hrow, owr, hk⟩ := hr.get ow hs
  have hme : m ≤ 1000000 := by have := le_edgesN hes; omega
  have hbx := Blk.new w TEdge #[.int .i64 x.to, .bool x.free, .slice sA sn sc]
  have OW0 := Lib.hid (ow.alloc (.cells #[.int .i64 x.to, .bool x.free, .slice sA sn sc] TEdge)); have HR := Lib.hid (hr.below hW); have HES := Lib.hid hes; have HM := Lib.hid hm; have HROW := Lib.hid hrow
  have OWR := Lib.hid (owr.alloc (.cells #[.int .i64 x.to, .bool x.free, .slice sA sn sc] TEdge))
  have HK := Lib.hid (hk.mono fun f y _ h => (⟨h.1, h.2, h.3.next hW⟩ : REdgeQ (w.alloc (.cells #[.int .i64 x.to, .bool x.free, .slice sA sn sc] TEdge)) base f y))
  have SI := Lib.hid (hset.next hW)
  have HNB := Lib.hid (fun q (hq : (Value.slice B m cc).ownBlock = some q) => (owr.lt q hq).2)
  have OW : Hid ((((w.alloc (.cells #[.int .i64 x.to, .bool x.free, .slice sA sn sc] TEdge)).alloc (.cells #[.int .i64 x.to, .bool x.free, .slice sA sn sc] TEdge)).drew).ownsRow base TEdge 3 (.slice B m cc) m us) := Lib.hid (OWR.out.alloc (.cells #[.int .i64 x.to, .bool x.free, .slice sA sn sc] TEdge))
  have SRC0 := (Src.many (w := w.alloc (.cells #[.int .i64 x.to, .bool x.free, .slice sA sn sc] TEdge)) (arr := #[.int .i64 x.to, .bool x.free, .slice sA sn sc]) (t := TEdge) (size := 3) (by simp [Value.oneCell']) rfl).keep (Keep.drew _)
  rw [show (w.alloc (.cells #[.int .i64 x.to, .bool x.free, .slice sA sn sc] TEdge)).heap.size = w.heap.size + 1 by simp] at SRC0
  have SRC := Lib.hid SRC0
  have Q1 : Hid (m + 1 ≤ maxLen) := Lib.hid (by simp only [maxLen]; omega)
  have Q2 : Hid ((m + 1) * 40 ≤ 140737488355328) := Lib.hid (by omega)
  have Q3 : Hid (base ≤ (((w.alloc (.cells #[.int .i64 x.to, .bool x.free, .slice sA sn sc] TEdge)).alloc (.cells #[.int .i64 x.to, .bool x.free, .slice sA sn sc] TEdge)).drew).heap.size) := Lib.hid (by simp; omega)
  have hbm := h.b.alloc (.cells #[.int .i64 x.to, .bool x.free, .slice sA sn sc] TEdge)
  have hcell1 := ((Keep.alloc w (.cells #[.int .i64 x.to, .bool x.free, .slice sA sn sc] TEdge)).cell g s hgl).trans hcell
  have hgl1 : g < (w.alloc (.cells #[.int .i64 x.to, .bool x.free, .slice sA sn sc] TEdge)).heap.size := by simp; omega
  have K1 : Hid ((w.alloc (.cells #[.int .i64 x.to, .bool x.free, .slice sA sn sc] TEdge)).drew.cell? ⟨pm, 0, none⟩ = some (.slice (some ⟨g, 0, none⟩) n c) ∧ (w.alloc (.cells #[.int .i64 x.to, .bool x.free, .slice sA sn sc] TEdge)).drew.cell? ⟨g, s, none⟩ = some (.slice B m cc) ∧ (w.alloc (.cells #[.int .i64 x.to, .bool x.free, .slice sA sn sc] TEdge)).drew.cell? ⟨w.heap.size, 0, none⟩ = some (.int .i64 x.to) ∧ (w.alloc (.cells #[.int .i64 x.to, .bool x.free, .slice sA sn sc] TEdge)).drew.cell? ⟨w.heap.size, 1, none⟩ = some (.bool x.free) ∧ (w.alloc (.cells #[.int .i64 x.to, .bool x.free, .slice sA sn sc] TEdge)).drew.cell? ⟨w.heap.size, 2, none⟩ = some (.slice sA sn sc)) := Lib.hid ⟨hbm.cell 0, hcell1, hbx.cell 0, hbx.cell 1, hbx.cell 2⟩
  have BM2 := Lib.hid (hbm.alloc (.cells #[.int .i64 x.to, .bool x.free, .slice sA sn sc] TEdge))
  have BX2 := Lib.hid (hbx.alloc (.cells #[.int .i64 x.to, .bool x.free, .slice sA sn sc] TEdge))
  have HC2 := Lib.hid (((Keep.alloc (w.alloc (.cells #[.int .i64 x.to, .bool x.free, .slice sA sn sc] TEdge)) (.cells #[.int .i64 x.to, .bool x.free, .slice sA sn sc] TEdge)).cell g s hgl1).trans hcell1)
  have HF2 := Lib.hid ((World.frozen?_of_block (a := ⟨g, s, none⟩) (Below.heap_alloc (w.alloc (.cells #[.int .i64 x.to, .bool x.free, .slice sA sn sc] TEdge)) (.cells #[.int .i64 x.to, .bool x.free, .slice sA sn sc] TEdge) g hgl1)).trans ((World.frozen?_of_block (a := ⟨g, s, none⟩) (Below.heap_alloc w (.cells #[.int .i64 x.to, .bool x.free, .slice sA sn sc] TEdge) g hgl)).trans hfz))
  have K2 : Hid (((w.alloc (.cells #[.int .i64 x.to, .bool x.free, .slice sA sn sc] TEdge)).alloc (.cells #[.int .i64 x.to, .bool x.free, .slice sA sn sc] TEdge)).drew.cell? ⟨pm, 0, none⟩ = some (.slice (some ⟨g, 0, none⟩) n c) ∧ ((w.alloc (.cells #[.int .i64 x.to, .bool x.free, .slice sA sn sc] TEdge)).alloc (.cells #[.int .i64 x.to, .bool x.free, .slice sA sn sc] TEdge)).drew.cell? ⟨g, s, none⟩ = some (.slice B m cc) ∧ ((w.alloc (.cells #[.int .i64 x.to, .bool x.free, .slice sA sn sc] TEdge)).alloc (.cells #[.int .i64 x.to, .bool x.free, .slice sA sn sc] TEdge)).drew.cell? ⟨w.heap.size, 0, none⟩ = some (.int .i64 x.to) ∧ ((w.alloc (.cells #[.int .i64 x.to, .bool x.free, .slice sA sn sc] TEdge)).alloc (.cells #[.int .i64 x.to, .bool x.free, .slice sA sn sc] TEdge)).drew.cell? ⟨w.heap.size, 1, none⟩ = some (.bool x.free) ∧ ((w.alloc (.cells #[.int .i64 x.to, .bool x.free, .slice sA sn sc] TEdge)).alloc (.cells #[.int .i64 x.to, .bool x.free, .slice sA sn sc] TEdge)).drew.cell? ⟨w.heap.size, 2, none⟩ = some (.slice sA sn sc)) := Lib.hid ⟨BM2.out.cell 0, HC2.out, BX2.out.cell 0, BX2.out.cell 1, BX2.out.cell 2⟩
  have HGE := Lib.hid h.ge
  have HBK := Lib.hid h.b
  have HW := Lib.hid hW
  have hs0 : (0 : Int) ≤ (s : Int) := by omega
  clear h hW ow hr hes hm hrow owr hk SRC0 hset hbm hbx hcell1 hcell hfz
  go_enter Tryz.func46, Tryz.ntmps46
  go_wp2
  refine wp_region_T 18 (fun W => W.cell? ⟨pm, 0, none⟩ = some (.slice (some ⟨g, 0, none⟩) n c) ∧ W.cell? ⟨g, s, none⟩ = some (.slice B m cc) ∧ W.cell? ⟨w.heap.size, 0, none⟩ = some (.int .i64 x.to) ∧ W.cell? ⟨w.heap.size, 1, none⟩ = some (.bool x.free) ∧ W.cell? ⟨w.heap.size, 2, none⟩ = some (.slice sA sn sc)) (by kernel_rfl) ?_
  refine wpAnyT_take (i := 0) (v := ?_) rfl (by kernel_rfl) (by kernel_rfl) (by kernel_rfl) (by kernel_rfl) (by kernel_rfl) (fun _ _ _ h => h) (.inl ⟨rfl, ?_⟩) K1.out ?_
  rotate_left
  · intro W__ hW__
    obtain ⟨h1, h2, h3, h4, h5⟩ := hW__
    go_simp
    (try with_reducible rfl)
  simp only [Act.put, List.setIfInBounds_toArray, List.set_cons_zero, List.set_cons_succ]
  refine wpAnyT_take (i := 1) (v := ?_) rfl (by kernel_rfl) (by kernel_rfl) (by kernel_rfl) (by kernel_rfl) (by kernel_rfl) (fun _ _ _ h => h) (.inl ⟨rfl, ?_⟩) K1.out ?_
  rotate_left
  · intro W__ hW__
    obtain ⟨h1, h2, h3, h4, h5⟩ := hW__
    go_simp
    (try with_reducible rfl)
  simp only [Act.put, List.setIfInBounds_toArray, List.set_cons_zero, List.set_cons_succ]
  refine wpAnyT_take (i := 2) (v := ?_) rfl (by kernel_rfl) (by kernel_rfl) (by kernel_rfl) (by kernel_rfl) (by kernel_rfl) (fun _ _ _ h => h) (.inl ⟨rfl, ?_⟩) K1.out ?_
  rotate_left
  · intro W__ hW__
    obtain ⟨h1, h2, h3, h4, h5⟩ := hW__
    go_simp
    (try with_reducible rfl)
  simp only [Act.put, List.setIfInBounds_toArray, List.set_cons_zero, List.set_cons_succ]
  refine wpAnyT_take (i := 3) (v := ?_) rfl (by kernel_rfl) (by kernel_rfl) (by kernel_rfl) (by kernel_rfl) (by kernel_rfl) (fun _ _ _ h => h) (.inl ⟨rfl, ?_⟩) K1.out ?_
  rotate_left
  · intro W__ hW__
    obtain ⟨h1, h2, h3, h4, h5⟩ := hW__
    go_simp
    (try with_reducible rfl)
  simp only [Act.put, List.setIfInBounds_toArray, List.set_cons_zero, List.set_cons_succ]
  refine wpAnyT_take (i := 4) (v := ?_) rfl (by kernel_rfl) (by kernel_rfl) (by kernel_rfl) (by kernel_rfl) (by kernel_rfl) (fun _ _ _ h => h) (.inl ⟨rfl, ?_⟩) K1.out ?_
  rotate_left
  · intro W__ hW__
    obtain ⟨h1, h2, h3, h4, h5⟩ := hW__
    go_simp
    (try with_reducible rfl)
  simp only [Act.put, List.setIfInBounds_toArray, List.set_cons_zero, List.set_cons_succ]
  refine wpAnyT_take (i := 5) (v := ?_) rfl (by kernel_rfl) (by kernel_rfl) (by kernel_rfl) (by kernel_rfl) (by kernel_rfl) (fun _ _ _ h => h) (.inl ⟨rfl, ?_⟩) K1.out ?_
  rotate_left
  · intro W__ hW__
    obtain ⟨h1, h2, h3, h4, h5⟩ := hW__
    go_simp
    (try with_reducible rfl)
  simp only [Act.put, List.setIfInBounds_toArray, List.set_cons_zero, List.set_cons_succ]
  refine wpAnyT_take (i := 6) (v := ?_) rfl (by kernel_rfl) (by kernel_rfl) (by kernel_rfl) (by kernel_rfl) (by kernel_rfl) (fun _ _ _ h => h) (.inl ⟨rfl, ?_⟩) K1.out ?_
  rotate_left
  · intro W__ hW__
    obtain ⟨h1, h2, h3, h4, h5⟩ := hW__
    go_simp
    (try with_reducible rfl)
  simp only [Act.put, List.setIfInBounds_toArray, List.set_cons_zero, List.set_cons_succ]
  refine wpAnyT_take (i := 7) (v := ?_) rfl (by kernel_rfl) (by kernel_rfl) (by kernel_rfl) (by kernel_rfl) (by kernel_rfl) (fun _ _ _ h => h) (.inl ⟨rfl, ?_⟩) K1.out ?_
  rotate_left
  · intro W__ hW__
    obtain ⟨h1, h2, h3, h4, h5⟩ := hW__
    go_simp
    (try with_reducible rfl)
  simp only [Act.put, List.setIfInBounds_toArray, List.set_cons_zero, List.set_cons_succ]
  refine wpAnyT_take (i := 8) (v := ?_) rfl (by kernel_rfl) (by kernel_rfl) (by kernel_rfl) (by kernel_rfl) (by kernel_rfl) (fun _ _ _ h => h) (.inl ⟨rfl, ?_⟩) K1.out ?_
  rotate_left
  · intro W__ hW__
    obtain ⟨h1, h2, h3, h4, h5⟩ := hW__
    go_simp
    (try with_reducible rfl)
  simp only [Act.put, List.setIfInBounds_toArray, List.set_cons_zero, List.set_cons_succ]
  refine wpAnyT_take (i := 9) (v := ?_) rfl (by kernel_rfl) (by kernel_rfl) (by kernel_rfl) (by kernel_rfl) (by kernel_rfl) (fun _ _ _ h => h) (.inl ⟨rfl, ?_⟩) K1.out ?_
  rotate_left
  · intro W__ hW__
    obtain ⟨h1, h2, h3, h4, h5⟩ := hW__
    go_simp
    (try with_reducible rfl)
  simp only [Act.put, List.setIfInBounds_toArray, List.set_cons_zero, List.set_cons_succ]
  refine wpAnyT_take (i := 10) (v := ?_) rfl (by kernel_rfl) (by kernel_rfl) (by kernel_rfl) (by kernel_rfl) (by kernel_rfl) (fun _ _ _ h => h) (.inl ⟨rfl, ?_⟩) K1.out ?_
  rotate_left
  · intro W__ hW__
    obtain ⟨h1, h2, h3, h4, h5⟩ := hW__
    go_simp
    (try with_reducible rfl)
  simp only [Act.put, List.setIfInBounds_toArray, List.set_cons_zero, List.set_cons_succ]
  refine wpAnyT_take (i := 11) (v := ?_) rfl (by kernel_rfl) (by kernel_rfl) (by kernel_rfl) (by kernel_rfl) (by kernel_rfl) (fun _ _ _ h => h) (.inl ⟨rfl, ?_⟩) K1.out ?_
  rotate_left
  · intro W__ hW__
    obtain ⟨h1, h2, h3, h4, h5⟩ := hW__
    go_simp
    (try with_reducible rfl)
  simp only [Act.put, List.setIfInBounds_toArray, List.set_cons_zero, List.set_cons_succ]
  refine wpAnyT_take (i := 12) (v := ?_) rfl (by kernel_rfl) (by kernel_rfl) (by kernel_rfl) (by kernel_rfl) (by kernel_rfl) (fun _ _ _ h => h) (.inl ⟨rfl, ?_⟩) K1.out ?_
  rotate_left
  · intro W__ hW__
    obtain ⟨h1, h2, h3, h4, h5⟩ := hW__
    go_simp
    (try with_reducible rfl)
  simp only [Act.put, List.setIfInBounds_toArray, List.set_cons_zero, List.set_cons_succ]
  refine wpAnyT_take (i := 13) (v := ?_) rfl (by kernel_rfl) (by kernel_rfl) (by kernel_rfl) (by kernel_rfl) (by kernel_rfl) (fun _ _ _ h => h) (.inl ⟨rfl, ?_⟩) K1.out ?_
  rotate_left
  · intro W__ hW__
    obtain ⟨h1, h2, h3, h4, h5⟩ := hW__
    go_simp
    (try with_reducible rfl)
  simp only [Act.put, List.setIfInBounds_toArray, List.set_cons_zero, List.set_cons_succ]
  refine wpAnyT_take (i := 14) (v := ?_) rfl (by kernel_rfl) (by kernel_rfl) (by kernel_rfl) (by kernel_rfl) (by kernel_rfl) (fun _ _ _ h => h) (.inl ⟨rfl, ?_⟩) K1.out ?_
  rotate_left
  · intro W__ hW__
    obtain ⟨h1, h2, h3, h4, h5⟩ := hW__
    go_simp
    (try with_reducible rfl)
  simp only [Act.put, List.setIfInBounds_toArray, List.set_cons_zero, List.set_cons_succ]
  refine wpAnyT_one (i := 15) rfl (by kernel_rfl) rfl fun K__ hK__ => ?_
  unfold Oper.wp
  go_simp
  refine hK__ _ _ (K2.out) ?_
  clear hK__
  refine wpAnyT_one (i := 16) rfl (by kernel_rfl) rfl fun K hK => ?_
  refine wp_append_src _ (.tmp 20) (.tmp 22) 101 rfl base TEdge i0 (.agg #[.int .i64 0, .bool false, .slice none 0 0]) 3 40 Tryz.underlying101 hi0 hz0 hs0' hb0 rfl (by decide) B cc m us (by simp [Act.eval]) OW.out _ 1 1 _ (by simp [Act.eval]) SRC.out Q1.out Q2.out Q3.out ?_
  intro B4 c4 w4 own4 gr4 hnew4
  have ED := Lib.hid (RowsQ.edge (x := x) OW0.out HR.out hs HES.out HM.out HROW.out OWR.out HK.out SI.out hto rfl ⟨gr4.os, gr4.tape, gr4.output, gr4.size, gr4.block⟩ own4 hnew4)
  have hne : some g ≠ (Value.slice B m cc).ownBlock := fun e => by
    rcases own_ne OWR.out OW0.out (by decide) with h' | h'
    · rw [h'] at e; cases e
    · exact h' e.symm
  have hgk := gr4.block g (by simp; omega) hne
  have c4' : w4.cell? ⟨g, s, none⟩ = some (.slice B m cc) := (World.cell?_of_block (a := ⟨g, s, none⟩) hgk).trans HC2.out
  have f4' : w4.frozen? ⟨g, s, none⟩ = false := (World.frozen?_of_block (a := ⟨g, s, none⟩) hgk).trans HF2.out
  have BM4 := BM2.out.grown (w' := w4) ⟨gr4.os, gr4.tape, gr4.output, gr4.size, gr4.block⟩ (own_blk_ne OW.out BM2.out (by decide))
  have BX4 := BX2.out.grown (w' := w4) ⟨gr4.os, gr4.tape, gr4.output, gr4.size, gr4.block⟩ (fun e => by have := HNB.out _ e.symm; omega)
  have K3 := Lib.hid (And.intro (BM4.cell 0) (And.intro c4' (And.intro (BX4.cell 0) (And.intro (BX4.cell 1) (BX4.cell 2)))))
  have BX5 := Lib.hid (BX4.far (p := ⟨g, s, none⟩) (by simp; omega) (.slice B4 (m + 1) c4))
  refine hK _ _ K3.out ?_
  clear gr4 own4 hnew4 hne hgk BM4 BX4 hK
  simp only [Act.put, List.setIfInBounds_toArray, List.set_cons_zero, List.set_cons_succ]
  refine wpAnyT_take (i := 17) (v := ?_) rfl (by kernel_rfl) (by kernel_rfl) (by kernel_rfl) (by kernel_rfl) (by kernel_rfl) (fun _ _ _ h => h) (.inl ⟨rfl, ?_⟩) K3.out ?_
  rotate_left
  · intro W__ hW__
    obtain ⟨h1, h2, h3, h4, h5⟩ := hW__
    go_simp
    (try with_reducible rfl)
  simp only [Act.put, List.setIfInBounds_toArray, List.set_cons_zero, List.set_cons_succ]
  refine wpAnyT_end (i := 18) rfl (by kernel_rfl) rfl (by kernel_rfl) fun K__ hK__ => ?_
  unfold Oper.wp
  go_simp
  refine hK__ _ _ ?_
  clear hK__
  refine wpAnyT_done (by kernel_rfl) ?_ _
  have b0 := BX5.out.cell 0
  go_wp2
  go_ret
  exact ⟨rfl, ⟨ED.out.2.blk (HBK.out.alloc _) TA_mk, ED.out.1, HGE.out⟩, (Chg.of_below HW.out).trans (ED.out.2.sub TA_TB)⟩

end Go.Proofs.YtjnjbcigbnjmkaaGreat

namespace Go.Proofs.YtjnjbcigbnjmkaaGreat
open Go.RowKit Pv

theorem TB_int : ∀ e, e ∈ TB → e ≠ TInt := by decide
theorem TB_mk' : TMk ∈ TB := by decide
theorem frees_snoc (m : Nat) : ∀ (l : List Nat) (a : Au) (s : Nat), auFrees m a (l ++ [s]) = auEdge (auFrees m a l) s ⟨m, true, []⟩
  | [], a, s => rfl
  | e :: l, a, s => by rw [List.cons_append, auFrees, auFrees, frees_snoc m l]
theorem frees_edges (m : Nat) : ∀ (l : List Nat) (a : Au), (∀ e, e ∈ l → e < a.length) → edgesN (auFrees m a l) = edgesN a + l.length
  | [], a, _ => rfl
  | e :: l, a, h => by
    rw [auFrees, frees_edges m l _ (fun e he => by rw [auEdge_length]; exact h e (by simp [he])), edgesN_edge _ _ _ (h e (by simp))]
    simp only [List.length_cons]; omega
/-- What joining leaves. -/
def MkJoin (w : World) (base pm n : Nat) (acc : Int) (x2 x3 : Value) (a : Au) (l : List Nat) (e : Ending) (w' : World) : Prop :=
  ∃ A' c', e = .returned (.int .i64 n) ∧ MkAt w' base pm A' (n + 1) c' acc x2 x3 (auJoin a l) ∧ Chg TB base w w'

set_option maxHeartbeats 2000000 in
set_option maxRecDepth 100000 in
theorem maker_join (A : Option Addr) (n c base pm : Nat) (acc : Int) (x2 x3 : Value) (a : Au) (LA : Option Addr) (ln lc e0 : Nat) (l : List Nat) (w : World) (h : MkAt w base pm A n c acc x2 x3 a) (hb : base ≤ w.heap.size) (hn : n ≤ 900) (he : edgesN a ≤ 900000)
    (hl : w.ownsRow e0 TInt 1 (.slice LA ln lc) ln (l.map fun (z : Nat) => Value.int .i64 (z : Int))) (hll : ∀ z, z ∈ l → z < n) (hln : l.length ≤ 1000) :
    Calls Tryz.prog 45 #[.pointer (some ⟨pm, 0, none⟩), .slice LA ln lc] w (MkJoin w base pm n acc x2 x3 a l) := by
  have hnl := h.au.len
  have hlen : l.length = ln := by have := hl.1; simpa using this
  have HST := Lib.hid (maker_state A n c base pm acc x2 x3 a w h hb (by omega))
  have HL := Lib.hid hl
  have HNL := Lib.hid hnl; have HLN := Lib.hid hlen; have HLL := Lib.hid hll; have HE := Lib.hid he
  have hln2 : ln ≤ 1000 := by omega
  clear h hl hnl hlen hll he
  go_enter Tryz.func45, Tryz.ntmps45
  go_wp2_with fail
  refine HST.out.mono ?_
  rintro e w1 ⟨A1, c1, rfl, mk1, ch1⟩
  have MK1 := Lib.hid mk1
  have CH1 := Lib.hid ch1
  have OL1 := Lib.hid (ownsRow_chg HL.out ch1 TB_int)
  clear mk1 ch1
  go_wp2
  go_loopw [12] (fun iv wr => ∃ k : Nat, iv = .int .i64 k ∧ k ≤ ln ∧ MkAt wr base pm A1 (n + 1) c1 acc x2 x3 (auFrees n (a ++ [[]]) (l.take k)) ∧ wr.ownsRow e0 TInt 1 (.slice LA ln lc) ln (l.map fun (z : Nat) => Value.int .i64 (z : Int)) ∧ Chg TB base w wr) (fun iv _ => ln - (intOf iv).toNat)
  case atStart => exact ⟨0, rfl, by omega, MK1.out, OL1.out, CH1.out⟩
  case round =>
    obtain ⟨k, rfl, hk, hmk, hol, hch⟩ := hrel
    have MK := Lib.hid hmk; have OL := Lib.hid hol; have CH := Lib.hid hch
    clear hmk hol hch
    by_cases hlt : k < ln
    · have hg : l[k]? = some (l[k]'(by rw [HLN.out]; exact hlt)) := List.getElem?_eq_getElem _
      generalize l[k]'(by rw [HLN.out]; exact hlt) = z at hg
      have HG := Lib.hid hg
      have hz := HLL.out z (mem_of_get hg)
      obtain ⟨g, rfl, hgl, hgc⟩ := own_get (k := k) (u := .int .i64 (z : Int)) OL.out (by rw [List.getElem?_map, hg]; rfl)
      have HED := Lib.hid (maker_edge A1 (n + 1) c1 base pm z acc x2 x3 (auFrees n (a ++ [[]]) (l.take k)) ⟨n, true, []⟩ none 0 0 wr MK.out (Nat.le_trans hb CH.out.size) (by omega) (by simp only; omega) (by
        have h1 := HE.out
        rw [frees_edges _ _ _ (fun e he => by have := HLL.out e (List.mem_of_mem_take he); have := HNL.out; simp; omega), edgesN_state, List.length_take]
        omega) (SetQ.nil _ _))
      clear hg
      go_wp2_with fail
      refine HED.out.mono ?_
      rintro e w2 ⟨rfl, mk2, ch2⟩
      have MK2 := Lib.hid mk2; have CH2 := Lib.hid (CH.out.trans ch2); have OL2 := Lib.hid (ownsRow_chg OL.out ch2 TB_int)
      clear mk2 ch2 hgc
      go_wp2
      go_roundw
      case rel => exact ⟨k + 1, by go_num, by omega, by rw [take_snoc HG.out, frees_snoc]; exact MK2.out, OL2.out, CH2.out⟩
      case measure => simp [intOf]; omega
    · have : k = ln := by omega
      subst this
      have ht : l.take k = l := List.take_of_length_le (by rw [HLN.out]; omega)
      have HT := Lib.hid ht
      clear ht
      go_wp2
      go_ret
      exact ⟨A1, c1, rfl, by have h1 := MK.out; rw [HT.out] at h1; unfold auJoin; rw [← HNL.out]; exact h1, CH.out⟩

end Go.Proofs.YtjnjbcigbnjmkaaGreat

namespace Go.Proofs.YtjnjbcigbnjmkaaGreat
open Go.RowKit Pv

theorem AuAt.reads {w : World} {base n c : Nat} {A : Option Addr} {a : Au} (h : AuAt w base A n c a) (hn : n ≤ 1000000) (he : edgesN a ≤ 1000000) : AtAu w A a := by
  obtain ⟨rows, h1, h2⟩ := h
  have hr : Rel (IsRow w) rows a := ⟨by rw [h2.len, h2.n], fun i u x hu hx => by
    obtain ⟨r, hr, ho⟩ := h2.row i x hx
    obtain rfl := Option.some.inj (hu.symm.trans hr)
    have hl := le_edgesN hx
    refine (OwnK.sl ho (by omega)).keepR (Keep.refl _) fun f y hy => ⟨hy.1, hy.2, hy.3.set⟩⟩
  exact (At.of_own h1 hr (by rw [← h2.n]; omega)).2.2
theorem AuQ.reads {w : World} {base n c : Nat} {A : Option Addr} {a : Au} (h : AuQ w base A n c a) (hn : n ≤ 1000000) (he : edgesN a ≤ 1000000) : AtAu w A a := by
  obtain ⟨rows, h1, h2⟩ := h
  have hr : Rel (IsRow w) rows a := ⟨by rw [h2.len, h2.n], fun i u x hu hx => by
    obtain ⟨r, hr, ho⟩ := h2.row i x hx
    obtain rfl := Option.some.inj (hu.symm.trans hr)
    have hl := le_edgesN hx
    refine (OwnK.sl ho (by omega)).keepR (Keep.refl _) fun f y hy => ⟨hy.1, hy.2, hy.3.set⟩⟩
  exact (At.of_own h1 hr (by rw [← h2.n]; omega)).2.2

end Go.Proofs.YtjnjbcigbnjmkaaGreat

namespace Go.Proofs.YtjnjbcigbnjmkaaGreat
open Go.RowKit Pv

/-- What the count reads: the maker, its nodes and the places behind them, the closure. -/
structure CEnv (w0 : World) (pm b1 b2 : Nat) (tA EA : Option Addr) (nt ct ec : Nat) (t : List Rx) : Prop where
  l1 : b1 < w0.heap.size
  l2 : b2 < w0.heap.size
  lm : pm < w0.heap.size
  c1 : w0.cell? ⟨b1, 0, none⟩ = some (.pointer (some ⟨pm, 0, none⟩))
  c2 : w0.cell? ⟨b2, 0, none⟩ = some (.func (.func 44) #[] #[.pointer (some ⟨b1, 0, none⟩), .pointer (some ⟨b2, 0, none⟩)])
  m2 : w0.cell? ⟨pm, 2, none⟩ = some (.slice tA nt ct)
  m3 : w0.cell? ⟨pm, 3, none⟩ = some (.slice EA nt ec)
  at' : AtRx w0 tA t
  ae : At w0 EA RI (endsL t)

theorem sizes_take_lt {ks : List Tr} {j : Nat} (hj : j < ks.length) : sizes (ks.take j) < sizes ks := by
  have h2 : sizes (ks.take j) + sizes (ks.drop j) = sizes ks := by
    rw [sizes, sizes, sizes, ← List.length_append, ← flats_app, List.take_append_drop]
  have h3 : ks.drop j = ks[j] :: ks.drop (j + 1) := List.drop_eq_getElem_cons hj
  rw [h3, sizes_cons] at h2
  have := ks[j].size_pos
  omega
theorem countL_snoc (k : Tr) : ∀ ks : List Tr, countL (ks ++ [k]) = countL ks + countT k
  | [] => by simp [countL]
  | j :: ks => by simp only [List.cons_append, countL]; rw [countL_snoc k ks]; omega

set_option maxHeartbeats 2000000 in
set_option maxRecDepth 100000 in
theorem maker_count (w0 : World) (pm b1 b2 : Nat) (tA EA : Option Addr) (nt ct ec : Nat) (t : List Rx) (HE : Hid (CEnv w0 pm b1 b2 tA EA nt ct ec t)) (HT : Hid (t.length = nt)) (hnt : nt ≤ 64) :
    ∀ (d : Nat), d ≤ 16 → ∀ (T : Tr) (i : Nat) (r : List Rx), T.Ok d → t.drop i = T.flat ++ r → ∀ W, Keep w0 W →
    Calls Tryz.prog 44 #[.int .i64 i, .pointer (some ⟨b1, 0, none⟩), .pointer (some ⟨b2, 0, none⟩)] W fun e w' => e = .returned (.int .i64 (countT T)) ∧ Below W.heap.size W w' := by
  intro d
  induction d using Nat.strongRecOn with
  | _ d ih =>
  intro hd T i r hT hdr W kp
  have hbT := tree_behind (hT.up hd) hdr
  obtain ⟨x, ks⟩ := T
  have hone := hT.one
  have hkid : ∀ k, k ∈ ks → k.Ok (d - 1) := fun k hk => hT.kid hk
  simp only [Tr.flat, List.cons_append] at hdr
  obtain ⟨hx, hdr2⟩ := drop_head hdr
  have hin : i < nt := by have := lt_of_get hx; rwa [HT.out] at this
  have HX := Lib.hid hx
  have HHE := HE.out
  obtain ⟨b, off, kd, B, cs, m, l, many, least, most, hA, H5, hs, HM, hm, ⟨hk0, hk1⟩, _, _, _, HX'⟩ := HHE.at'.g5 HT hin
  subst hA
  obtain rfl := Option.some.inj (HX'.out.symm.trans HX.out)
  have ⟨y0, y1, y2, y3, y4, y5⟩ := H5.next kp
  have q1 := (kp.cell _ 0 HHE.l1).trans HHE.c1
  have q2 := (kp.cell _ 2 HHE.lm).trans HHE.m2
  by_cases hk : kd ≤ 1
  · have HC := Lib.hid (show countT (.mk ⟨kd, l, many, least, most⟩ ks) = 1 by rw [countT, if_pos hk])
    clear ih hT hbT hone hkid hdr hdr2 hx HHE H5 hs
    go_enter Tryz.func44, Tryz.ntmps44
    go_wp2
    go_ret
    exact ⟨ret_int (by rw [HC.out]; rfl), (by repeat (first | exact Below.refl _ _ | exact (Below.refl _ _).alloc (Nat.le_refl _) _ | apply below_drewN))⟩
  have hd0 : 0 < d := by
    cases d with
    | zero => obtain ⟨_, hm0, _⟩ := hT; rcases hone with h | h | h | h <;> simp only at h hm0 <;> omega
    | succ d => omega
  have hlen := hT.len
  simp only at hlen
  have hk16 : ∀ k, k ∈ ks → k.Ok 16 := fun k hk => (hkid k hk).up (by omega)
  have HLE : Hid ((endsL t).length = nt) := Lib.hid (by simp [endsL, HT.out])
  obtain ⟨eb, eo, u, z, hEA, hel, hec, ⟨hu, _, _⟩, hz⟩ := HHE.ae.gt HLE hin
  subst hu
  have hzz : z = ((i + 1 + sizes ks : Nat) : Int) := by
    have := hz.out
    simp [endsL, HT.out, hin] at this
    rw [← this, hbT, bR_some, Tr.size_mk]; omega
  subst hzz
  have q3 := (kp.cell _ 3 HHE.lm).trans HHE.m3
  have HEA := Lib.hid hEA
  have HATK := Lib.hid (fun j (hj : j < ks.length) => (show again (behind t 16) j (i + 1) = some (i + 1 + sizes (ks.take j)) ∧ t.drop (i + 1 + sizes (ks.take j)) = flats (ks.drop j) ++ r from kids_at hdr2 hk16 j (by omega)))
  have HIH := Lib.hid (fun (j : Nat) (k : Tr) (hj : ks[j]? = some k) (W' : World) (kp' : Keep w0 W') => by
    have hjl := lt_of_get hj
    have h5 := (HATK.out j hjl).2
    rw [drop_cons hj] at h5
    simp only [flats, List.append_assoc] at h5
    exact ih (d - 1) (by omega) (by omega) k _ _ (hkid k (mem_of_get hj)) h5 W' kp')
  have HEND := Lib.hid (fun (j : Nat) (k : Tr) (hj : ks[j]? = some k) => (show (endsL t)[i + 1 + sizes (ks.take j)]? = some ((i + 1 + sizes (ks.take (j + 1)) : Nat) : Int) ∧ i + 1 + sizes (ks.take j) < nt from by
    have hjl := lt_of_get hj
    have h5 := (HATK.out j hjl).2
    rw [drop_cons hj] at h5
    simp only [flats, List.append_assoc] at h5
    have h6 := tree_behind ((hkid k (mem_of_get hj)).up (show d - 1 ≤ 16 by omega)) h5
    have h7 := behind_lt h6
    rw [HT.out] at h7
    have h8 : sizes (ks.take (j + 1)) = sizes (ks.take j) + k.size := by
      rw [take_snoc hj]
      show (flats (ks.take j ++ [k])).length = _
      rw [flats_app, List.length_append]; simp [flats, sizes, Tr.size]
    refine ⟨?_, by omega⟩
    have h9 : i + 1 + sizes (ks.take j) < nt := by omega
    simp only [endsL, HT.out, List.getElem?_map, List.getElem?_range h9, Option.map_some, h6, bR_some, h8]
    congr 2; omega))
  have hks64 : sizes ks ≤ 64 := by
    have := sizes_le hdr2 ks.length (by have := HT.out; omega)
    rw [List.take_of_length_le (Nat.le_refl _)] at this
    have := HT.out; omega
  have HH := Lib.hid HHE
  have HZI := Lib.hid (fun z2 (hz2 : (endsL t)[i]? = some z2) => (show z2 = ((i + 1 + sizes ks : Nat) : Int) from Option.some.inj (hz2.symm.trans hz.out)))
  have hW1 : Below W.heap.size W (W.alloc (.cells #[.int .u8 kd, .slice B m cs, .int .i64 many, .int .i64 least, .int .i64 most] 25)) := (Below.refl _ _).alloc (Nat.le_refl _) _
  have BX0 := Lib.hid (Blk.new W 25 #[.int .u8 kd, .slice B m cs, .int .i64 many, .int .i64 least, .int .i64 most])
  have HW1 := Lib.hid hW1
  have HKP := Lib.hid kp
  have HONE := Lib.hid hone
  have HCB := Lib.hid (fun j => (show countL (ks.take j) ≤ 64 * 256 from by
    have h1 : ∀ l : List Tr, (∀ k, k ∈ l → k.Ok 16) → countL l ≤ l.length * 256 := fun l => by
      induction l with
      | nil => intro _; simp [countL]
      | cons k l ihl =>
        intro h
        have h2 := countT_eq k 16 (h k (by simp))
        have h3 := ihl (fun k hk => h k (by simp [hk]))
        simp only [countL, List.length_cons, Nat.add_mul]; omega
    have h2 := h1 (ks.take j) (fun k hk => hk16 k (List.mem_of_mem_take hk))
    have h3 := length_sizes ks
    have h4 : (ks.take j).length ≤ 64 := by rw [List.length_take]; omega
    omega))
  clear ih hT hbT hkid hdr hdr2 hx HHE H5 hs hEA hz hec kp hW1 hone hk16
  have hkd : decide (kd ≤ 1) = false := decide_eq_false (by omega)
  go_enter Tryz.func44, Tryz.ntmps44
  go_wp2
  go_loopw [6, 7] (fun nv kv wr => ∃ j : Nat, j ≤ ks.length ∧ kv = .int .i64 ((i + 1 + sizes (ks.take j) : Nat) : Int) ∧ nv = .int .i64 ((countL (ks.take j) : Nat) : Int) ∧ Below W.heap.size W wr ∧ Blk wr W.heap.size 25 #[.int .u8 kd, .slice B m cs, .int .i64 many, .int .i64 least, .int .i64 most]) (fun _ kv _ => (i + 1 + sizes ks) - (intOf kv).toNat)
  case atStart => exact ⟨0, by omega, by simp [sizes, flats], by simp [countL], HW1.out, BX0.out⟩
  case round =>
    clear y0 y1 y2 y3 y4 y5 q1 q2 q3
    obtain ⟨j, hj, rfl, rfl, hbel, hbx⟩ := hrel
    have HB := Lib.hid hbel; have HBX := Lib.hid hbx
    have KP := Lib.hid (HKP.out.trans (Keep.of hbel))
    clear hbel hbx
    obtain ⟨eb2, eo2, u2, z2, hEA2, hel2, hec2, ⟨hu2, _, _⟩, hz2⟩ := HH.out.ae.gt HLE hin
    subst hu2
    have hzz2 : z2 = ((i + 1 + sizes ks : Nat) : Int) := HZI.out z2 hz2.out
    subst hzz2
    subst hEA2
    have p1 := (KP.out.cell _ 0 HH.out.l1).trans HH.out.c1
    have p2 := (KP.out.cell _ 0 HH.out.l2).trans HH.out.c2
    have p3 := (KP.out.cell _ 3 HH.out.lm).trans HH.out.m3
    have p4 := (KP.out.cell _ (eo2 + i) hel2).trans hec2
    obtain ⟨ze, hze⟩ : ∃ ze, i + 1 + sizes ks = ze := ⟨_, rfl⟩
    rw [hze] at p4
    obtain ⟨x0, x1, x2, x3, x4⟩ := Blk.five HBX.out
    have hcb := HCB.out j
    by_cases hlt : j < ks.length
    · have hkk : ks[j]? = some (ks[j]) := List.getElem?_eq_getElem hlt
      have hps := sizes_take_lt hlt
      generalize ks[j] = k0 at hkk
      obtain ⟨hen1, hen2⟩ := HEND.out j k0 hkk
      have hst : sizes (ks.take j) < sizes (ks.take (j + 1)) := by
        rw [take_snoc hkk]
        show _ < (flats (ks.take j ++ [k0])).length
        rw [flats_app, List.length_append]
        have := k0.size_pos
        simp only [flats, List.append_nil, sizes]
        simp only [Tr.size] at this
        omega
      have hst2 := sizes_take_le (ks := ks) (j + 1)
      have HKK := Lib.hid hkk
      have HEN1 := Lib.hid hen1
      have hcs := HCB.out (j + 1)
      have HCS := Lib.hid (show countL (ks.take (j + 1)) = countL (ks.take j) + countT k0 by rw [take_snoc hkk, countL_snoc])
      rw [HCS.out] at hcs
      have HC := Lib.hid (fun (W' : World) (kp' : Keep w0 W') => HIH.out j k0 hkk W' kp')
      generalize hp : i + 1 + sizes (ks.take j) = p at *
      have HP := Lib.hid hp
      have hpz : p < ze := by omega
      have HZE := Lib.hid hze
      clear hkk hen1 hp hze
      go_wp2_with fail
      refine (HC.out wr KP.out).mono ?_
      rintro e w5 ⟨rfl, hb5⟩
      have KP5 := Lib.hid (KP.out.trans (Keep.of hb5))
      have BX5 := Lib.hid (HBX.out.below hb5 HBX.out.lt)
      have HB5 := Lib.hid (HB.out.trans (hb5.mono HB.out.size))
      clear p1 p2 p3 p4 hb5 x0 x1 x2 x3 x4
      have p1 := (KP5.out.cell _ 0 HH.out.l1).trans HH.out.c1
      have p3 := (KP5.out.cell _ 3 HH.out.lm).trans HH.out.m3
      obtain ⟨u3, z3, _, hec3, ⟨hu3, _, _⟩, hz3⟩ := HH.out.ae.gt2 HLE hen2
      subst hu3
      obtain rfl := Option.some.inj (hz3.out.symm.trans HEN1.out)
      have p5 := (KP5.out.cell _ (eo2 + p) hel2).trans hec3
      clear hec3 hec2
      go_wp2
      go_roundw
      case rel => exact ⟨j + 1, by omega, rfl, by rw [HCS.out]; go_num, HB5.out, BX5.out⟩
      case measure => have := HZE.out; have h2 := HP.out; simp [intOf]; omega
    · have hjl : j = ks.length := by omega
      have htk : ks.take j = ks := List.take_of_length_le (by omega)
      rw [htk]
      rw [htk] at hcb
      have hdz : ¬ ((i + 1 + sizes ks : Nat) : Int) < (ze : Int) := by omega
      rw [hze]
      have HTK := Lib.hid htk
      clear htk hec2
      have HC1 := Lib.hid (fun (h : kd = 3) => (show countT (.mk ⟨kd, l, many, least, most⟩ ks) = min (countL ks + 1) 256 by rw [countT, if_neg (by simp only; omega), if_pos h]))
      have HC2 := Lib.hid (fun (h : kd = 2) => (show countT (.mk ⟨kd, l, many, least, most⟩ ks) = min (countL ks) 256 by rw [countT, if_neg (by simp only; omega), if_neg (by simp only; omega), if_neg (by simp only; omega)]))
      by_cases hk2 : kd = 2
      · have HC := Lib.hid (HC2.out hk2)
        subst hk2
        go_wp2
        all_goals
          go_ret
          exact ⟨ret_int (by rw [HC.out]; omega), HB.out⟩
      by_cases hk3 : kd = 3
      · have HC := Lib.hid (HC1.out hk3)
        subst hk3
        go_wp2
        all_goals
          go_ret
          exact ⟨ret_int (by rw [HC.out]; omega), HB.out⟩
      have h4 : kd = 4 ∧ many = 1 ∧ 0 ≤ least ∧ least ≤ 16 ∧ (most = -1 ∨ (least ≤ most ∧ most ≤ 16)) := by
        rcases HONE.out with h | h | h | h <;> simp only at h <;> first | omega | exact ⟨h.1, h.2.2.1, h.2.2.2.1, h.2.2.2.2.1, h.2.2.2.2.2⟩
      obtain ⟨rfl, rfl, hl0, hl1, hms⟩ := h4
      have hk1' : ks.length = 1 := by omega
      have hc256 : countL ks ≤ 256 := by
        match ks, hk1' with
        | [K], _ =>
          simp only [countL, Nat.add_zero]
          obtain ⟨y, ls⟩ := K
          rw [countT]; split <;> omega
      by_cases hm : most < 0
      · obtain ⟨P, hP⟩ : ∃ P, countL ks * (least.toNat + 1) = P := ⟨_, rfl⟩
        have hPb : P ≤ 256 * 17 := by rw [← hP]; exact Nat.mul_le_mul hc256 (by omega)
        have hmul : (countL ks : Int) * (least + 1) = (P : Int) := by
          rw [← hP, Int.natCast_mul, Int.natCast_add, Int.toNat_of_nonneg hl0]; rfl
        have HC := Lib.hid (show countT (.mk ⟨4, l, 1, least, most⟩ ks) = min (P + 1) 256 by rw [countT, if_neg (by simp), if_neg (by simp), if_pos rfl, if_pos hm, hP])
        clear hP
        go_wp2
        all_goals
          go_ret
          exact ⟨ret_int (by rw [HC.out]; omega), HB.out⟩
      · obtain ⟨P, hP⟩ : ∃ P, countL ks * most.toNat = P := ⟨_, rfl⟩
        have hPb : P ≤ 256 * 17 := by rw [← hP]; exact Nat.mul_le_mul hc256 (by omega)
        have hmul : (countL ks : Int) * most = (P : Int) := by
          rw [← hP, Int.natCast_mul, Int.toNat_of_nonneg (by omega)]
        have HC := Lib.hid (show countT (.mk ⟨4, l, 1, least, most⟩ ks) = min (P + 1) 256 by rw [countT, if_neg (by simp), if_neg (by simp), if_pos rfl, if_neg hm, hP])
        clear hP
        go_wp2
        all_goals
          go_ret
          exact ⟨ret_int (by rw [HC.out]; omega), HB.out⟩

end Go.Proofs.YtjnjbcigbnjmkaaGreat

namespace Go.Proofs.YtjnjbcigbnjmkaaGreat
open Go.RowKit Pv

set_option maxHeartbeats 1000000 in
set_option maxRecDepth 100000 in
theorem maker_many (w : World) (pm : Nat) (tA EA : Option Addr) (nt ct ec : Nat) (t : List Rx) (T : Tr) (hT : T.Ok 16) (hfl : t = T.flat) (HT : Hid (t.length = nt)) (hnt : nt ≤ 64) (hpm : pm < w.heap.size)
    (m2 : w.cell? ⟨pm, 2, none⟩ = some (.slice tA nt ct)) (m3 : w.cell? ⟨pm, 3, none⟩ = some (.slice EA nt ec)) (ht : AtRx w tA t) (hae : At w EA RI (endsL t)) :
    Calls Tryz.prog 18 #[.pointer (some ⟨pm, 0, none⟩)] w fun e w' => e = .returned (.int .i64 ((1 + countT T : Nat) : Int)) ∧ Below w.heap.size w w' := by
  have hc256 : countT T ≤ 256 := by obtain ⟨y, ls⟩ := T; rw [countT]; split <;> omega
  have hb : Below w.heap.size w ((w.alloc (.cells #[.pointer (some ⟨pm, 0, none⟩)] 51)).alloc (.cells #[.func (.func 44) #[] #[.pointer (some ⟨w.heap.size, 0, none⟩), .pointer (some ⟨w.heap.size + 1, 0, none⟩)]] 75)) := ((Below.refl _ _).alloc (Nat.le_refl _) _).alloc (by simp) _
  have BK := blk2 w #[.pointer (some ⟨pm, 0, none⟩)] #[.func (.func 44) #[] #[.pointer (some ⟨w.heap.size, 0, none⟩), .pointer (some ⟨w.heap.size + 1, 0, none⟩)]] 51 75
  have k := Keep.of hb
  have CE : CEnv _ pm w.heap.size (w.heap.size + 1) tA EA nt ct ec t := ⟨BK.1.lt, BK.2.lt, Nat.lt_of_lt_of_le hpm hb.size, BK.1.cell 0, BK.2.cell 0, (k.cell _ _ hpm).trans m2, (k.cell _ _ hpm).trans m3, AtRx.keep ht k, hae.keep k⟩
  have HC := Lib.hid (maker_count _ pm w.heap.size (w.heap.size + 1) tA EA nt ct ec t (Lib.hid CE) HT hnt 16 (Nat.le_refl _) T 0 [] hT (by simp [hfl]) _ (Keep.refl _))
  have HB := Lib.hid hb
  generalize countT T = q at *
  clear hb BK k CE ht hae
  go_enter Tryz.func18, Tryz.ntmps18
  go_wp2_with fail
  refine HC.out.mono ?_
  rintro e w1 ⟨rfl, hb1⟩
  go_wp2
  go_ret
  exact ⟨ret_int (by omega), HB.out.trans (hb1.mono HB.out.size)⟩

end Go.Proofs.YtjnjbcigbnjmkaaGreat

namespace Pv
open Go Go.RowKit

/-- Through nodes, one behind the other (cat) or side by side: the automaton, the state, the ends. -/
def walkG (cat : Bool) : List Tr → Au → Nat → Au × Nat × List Nat
  | [], a, s => (a, s, [])
  | k :: ks, a, s => ((walkG cat ks (leadT k a s).1 (if cat then (leadT k a s).2 else s)).1, (walkG cat ks (leadT k a s).1 (if cat then (leadT k a s).2 else s)).2.1, (leadT k a s).2 :: (walkG cat ks (leadT k a s).1 (if cat then (leadT k a s).2 else s)).2.2)
theorem walkG_snoc (cat : Bool) (k : Tr) : ∀ (ks : List Tr) (a : Au) (s : Nat), walkG cat (ks ++ [k]) a s =
    ((leadT k (walkG cat ks a s).1 (walkG cat ks a s).2.1).1, (if cat then (leadT k (walkG cat ks a s).1 (walkG cat ks a s).2.1).2 else (walkG cat ks a s).2.1), (walkG cat ks a s).2.2 ++ [(leadT k (walkG cat ks a s).1 (walkG cat ks a s).2.1).2])
  | [], a, s => by simp [walkG]
  | j :: ks, a, s => by simp only [List.cons_append, walkG]; rw [walkG_snoc cat k ks]
theorem walkG_cat : ∀ (ks : List Tr) (a : Au) (s : Nat), (walkG true ks a s).1 = (leadCat ks a s).1 ∧ (walkG true ks a s).2.1 = (leadCat ks a s).2
  | [], a, s => by simp [walkG, leadCat]
  | k :: ks, a, s => by simpa [walkG, leadCat] using walkG_cat ks (leadT k a s).1 (leadT k a s).2
theorem walkG_alt : ∀ (ks : List Tr) (a : Au) (s : Nat), walkG false ks a s = ((leadAlt ks a s).1, s, (leadAlt ks a s).2)
  | [], a, s => by simp [walkG, leadAlt]
  | k :: ks, a, s => by simp [walkG, leadAlt, walkG_alt ks]
/-- What holds of it. -/
structure WG (a : Au) (q m : Nat) (r : Au × Nat × List Nat) : Prop where
  len : r.1.length = a.length + q
  lt : r.2.1 < r.1.length
  all : ∀ e, e ∈ r.2.2 → e < r.1.length
  el : EL a r.1
  ne : r.2.2.length = m
theorem walkG_ok (cat : Bool) {d : Nat} : ∀ {ks : List Tr} {a : Au} {s : Nat}, (∀ k, k ∈ ks → k.Ok d) → sizes ks ≤ 64 → s < a.length → a.length + statesL ks ≤ 256 → WG a (statesL ks) ks.length (walkG cat ks a s)
  | [], a, s, _, _, hs, _ => ⟨by simp [walkG, statesL], hs, by simp [walkG], EL.refl _, rfl⟩
  | k :: ks, a, s, hk, hz, hs, hc => by
    rw [sizes_cons] at hz
    rw [statesL] at hc ⊢
    obtain ⟨h1, h2⟩ := leadT_leads k a s hs
    have he := leadT_el (hk k (by simp)) (by omega) hs (by omega : a.length + statesT k ≤ 256)
    have hl := he.l
    have ih := walkG_ok cat (ks := ks) (a := (leadT k a s).1) (s := if cat then (leadT k a s).2 else s) (fun k hk' => hk k (by simp [hk'])) (by omega) (by cases cat <;> simp <;> omega) (by omega)
    have e1 := ih.len
    refine ⟨by rw [walkG]; simp only; omega, by rw [walkG]; exact ih.lt, fun e hm => ?_, by rw [walkG]; exact he.trans ih.el, by rw [walkG]; simp only [List.length_cons]; rw [ih.ne]⟩
    rw [walkG] at hm ⊢
    simp only [List.mem_cons] at hm ⊢
    rcases hm with rfl | hm
    · omega
    · exact ih.all e hm
theorem iter_ok {K : Tr} {d n : Nat} {a : Au} {s : Nat} (hK : K.Ok d) (hz : K.size ≤ 64) (hs : s < a.length) (hc : a.length + statesT K * n ≤ 256) : (iter (leadT K) n a s).1.length = a.length + statesT K * n ∧ (iter (leadT K) n a s).2 < (iter (leadT K) n a s).1.length ∧ EL a (iter (leadT K) n a s).1 :=
  ⟨((leadT_leads K).iter n a s hs).1, ((leadT_leads K).iter n a s hs).2, iter_el hK hz hs hc⟩
theorem EL.few {a b : Au} {n : Nat} (h : EL a b) (hn : n = a.length) (he : edgesN a ≤ 65 * n) : edgesN b ≤ 65 * b.length := by have := h.e; omega
end Pv
namespace Go.Proofs.YtjnjbcigbnjmkaaGreat
open Go.RowKit Pv

/-- The maker under way, with what it reads. -/
structure MkE (w0 w : World) (base pm e0 : Nat) (acc : Int) (tA EA : Option Addr) (nt ct ec : Nat) (t : List Rx) (A : Option Addr) (n c : Nat) (a : Au) : Prop where
  ma : MkAt w base pm A n c acc (.slice tA nt ct) (.slice EA nt ec) a
  kp : Keep w0 w
  oe : w.ownsRow e0 TInt 1 (.slice EA nt ec) nt ((endsL t).map (Value.int .i64))
  ge : base ≤ w.heap.size
section
variable {w0 w w' : World} {base pm e0 : Nat} {acc : Int} {tA EA : Option Addr} {nt ct ec : Nat} {t : List Rx} {A : Option Addr} {n c : Nat} {a : Au}
theorem MkE.next (h : MkE w0 w base pm e0 acc tA EA nt ct ec t A n c a) (hb : Below w.heap.size w w') : MkE w0 w' base pm e0 acc tA EA nt ct ec t A n c a := ⟨h.ma.next hb, h.kp.trans (Keep.of hb), ownsRow_below h.oe hb, Nat.le_trans h.ge hb.size⟩
theorem MkE.step {A' : Option Addr} {n' c' : Nat} {a' : Au} (h : MkE w0 w base pm e0 acc tA EA nt ct ec t A n c a) (hb : w0.heap.size ≤ base) (mk : MkAt w' base pm A' n' c' acc (.slice tA nt ct) (.slice EA nt ec) a') (ch : Chg TB base w w') : MkE w0 w' base pm e0 acc tA EA nt ct ec t A' n' c' a' :=
  ⟨mk, ch.keep h.kp hb h.ge, ownsRow_chg h.oe ch TB_int, Nat.le_trans h.ge ch.size⟩
theorem MkE.len (h : MkE w0 w base pm e0 acc tA EA nt ct ec t A n c a) : n = a.length := h.ma.au.len
theorem MkE.cells (h : MkE w0 w base pm e0 acc tA EA nt ct ec t A n c a) : pm < w.heap.size ∧ w.cell? ⟨pm, 2, none⟩ = some (.slice tA nt ct) ∧ w.cell? ⟨pm, 3, none⟩ = some (.slice EA nt ec) := ⟨h.ma.b.lt, h.ma.b.cell 2, h.ma.b.cell 3⟩
end
/-- What the program's leading leaves. -/
def MkLead (w0 w : World) (base pm e0 : Nat) (acc : Int) (tA EA : Option Addr) (nt ct ec : Nat) (t : List Rx) (r : Au × Nat) (e : Ending) (w' : World) : Prop :=
  ∃ A' c', e = .returned (.int .i64 (r.2 : Nat)) ∧ MkE w0 w' base pm e0 acc tA EA nt ct ec t A' r.1.length c' r.1 ∧ Chg TB base w w'
/-- It does so from any state, where there are not too many. -/
def PLead (w0 : World) (base pm e0 : Nat) (acc : Int) (tA EA : Option Addr) (nt ct ec : Nat) (t : List Rx) (T : Tr) (i : Nat) : Prop :=
  ∀ (W : World) (A : Option Addr) (n c : Nat) (a : Au) (s : Nat), MkE w0 W base pm e0 acc tA EA nt ct ec t A n c a → s < n → n + statesT T ≤ 256 → edgesN a ≤ 65 * n →
    Calls Tryz.prog 19 #[.pointer (some ⟨pm, 0, none⟩), .int .i64 i, .int .i64 s] W (MkLead w0 W base pm e0 acc tA EA nt ct ec t (leadT T a s))
theorem MkLead.after {w0 w w1 w' : World} {base pm e0 : Nat} {acc : Int} {tA EA : Option Addr} {nt ct ec : Nat} {t : List Rx} {r : Au × Nat} {e : Ending} (h : MkLead w0 w1 base pm e0 acc tA EA nt ct ec t r e w') (ch : Chg TB base w w1) : MkLead w0 w base pm e0 acc tA EA nt ct ec t r e w' := by
  obtain ⟨A', c', h1, h2, h3⟩ := h
  exact ⟨A', c', h1, h2, ch.trans h3⟩
/-- The ends' cells. -/
theorem own_int {w : World} {e0 k n c : Nat} {A : Option Addr} {l : List Int} {z : Int} (h : w.ownsRow e0 TInt 1 (.slice A n c) n (l.map (Value.int .i64))) (hk : l[k]? = some z) : ∃ g, A = some ⟨g, 0, none⟩ ∧ g < w.heap.size ∧ w.cell? ⟨g, k, none⟩ = some (.int .i64 z) :=
  own_get h (by rw [List.getElem?_map, hk]; rfl)
/-- one of the call's own -/
theorem own_one (w : World) (base : Nat) (u : Value) (hb : base ≤ w.heap.size) : (w.alloc (.cells #[u] TInt)).ownsRow base TInt 1 (.slice (some ⟨w.heap.size, 0, none⟩) 1 1) 1 [u] :=
  ⟨rfl, .inr ⟨w.heap.size, 1, #[u], rfl, hb, by show (w.heap.push _)[w.heap.size]? = _; simp, Nat.le_refl _, by simp only [maxLen]; omega, by simp, by simp⟩⟩

end Go.Proofs.YtjnjbcigbnjmkaaGreat
