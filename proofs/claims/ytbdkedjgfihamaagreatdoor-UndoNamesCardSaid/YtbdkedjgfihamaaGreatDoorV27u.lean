/- Walks: table.Check. PUT1 -/
import Derived.Test.YtbdkedjgfihamaaGreatDoorV25u
namespace Go.Proofs.YtbdkedjgfihamaaGreatDoor
open Go.RowKit Pv Go.Maps
set_option maxHeartbeats 8000000 in
set_option maxRecDepth 100000 in
theorem table_Check (B : Nat) (U : Option Addr) (un uc : Nat) (R : Option Addr) (rn rc : Nat) (t : Tab) (w : World) (ht : TabAt w U un R rn t) (huc : un ≤ uc) (hrc : rn ≤ rc) (hun : un ≤ 100000) (hrb : RowsB t.rows) (hT : TabS B w) (hB : B ≤ w.heap.size) :
    Calls Tryz.prog 77 #[.agg #[.string t.name, .int .i64 t.most, .slice U un uc, .slice R rn rc]] w fun e w' => e = .returned (.int .i64 (tabE t)) ∧ Below w.heap.size w w' := by
  have hk0 : Below w.heap.size w (((w.alloc (.cells #[.string t.name, .int .i64 t.most, .slice U un uc, .slice R rn rc] TTb)).alloc (.cells #[.string t.name, .int .i64 t.most, .slice U un uc, .slice R rn rc] TBo)).alloc (.cells #[.pointer (some ⟨w.heap.size + 1, 0, none⟩)] TBk)) := (((Below.refl _ _).alloc (Nat.le_refl _) _).alloc (by simp) _).alloc (by simp; omega) _
  obtain ⟨b0, b1, b2⟩ := blk3 w #[.string t.name, .int .i64 t.most, .slice U un uc, .slice R rn rc] #[.string t.name, .int .i64 t.most, .slice U un uc, .slice R rn rc] #[.pointer (some ⟨w.heap.size + 1, 0, none⟩)] TTb TBo TBk
  have hbk : BookAt (((w.alloc (.cells #[.string t.name, .int .i64 t.most, .slice U un uc, .slice R rn rc] TTb)).alloc (.cells #[.string t.name, .int .i64 t.most, .slice U un uc, .slice R rn rc] TBo)).alloc (.cells #[.pointer (some ⟨w.heap.size + 1, 0, none⟩)] TBk)) (w.heap.size + 1) U un uc R rn rc t := ⟨b1.lt, b1.cell 0, b1.cell 1, b1.cell 2, b1.cell 3, ht.keep (Keep.of hk0), huc, hrc⟩
  have p01 := b0.cell 1; have p03 := b0.cell 3; have p2 := b2.cell 0
  have l0 := b0.lt; have l2 := b2.lt
  have HBK := Lib.hid hbk
  have HK0 := Lib.hid hk0
  have HB0 := Lib.hid b0; have HB2 := Lib.hid b2
  have HTS := Lib.hid (hT.next (hk0.mono hB))
  have HBB : Hid (B ≤ (((w.alloc (.cells #[.string t.name, .int .i64 t.most, .slice U un uc, .slice R rn rc] TTb)).alloc (.cells #[.string t.name, .int .i64 t.most, .slice U un uc, .slice R rn rc] TBo)).alloc (.cells #[.pointer (some ⟨w.heap.size + 1, 0, none⟩)] TBk)).heap.size) := Lib.hid (by have := hk0.size; omega)
  have HRB := Lib.hid hrb
  have HP := Lib.hid (fun W (k : Below (((w.alloc (.cells #[.string t.name, .int .i64 t.most, .slice U un uc, .slice R rn rc] TTb)).alloc (.cells #[.string t.name, .int .i64 t.most, .slice U un uc, .slice R rn rc] TBo)).alloc (.cells #[.pointer (some ⟨w.heap.size + 1, 0, none⟩)] TBk)).heap.size (((w.alloc (.cells #[.string t.name, .int .i64 t.most, .slice U un uc, .slice R rn rc] TTb)).alloc (.cells #[.string t.name, .int .i64 t.most, .slice U un uc, .slice R rn rc] TBo)).alloc (.cells #[.pointer (some ⟨w.heap.size + 1, 0, none⟩)] TBk)) W) => And.intro (HK0.out.trans (k.mono HK0.out.size)) (And.intro (HB0.out.below k HB0.out.lt) (HB2.out.below k HB2.out.lt)))
  have HON := Lib.hid (fun W (k : Below (((w.alloc (.cells #[.string t.name, .int .i64 t.most, .slice U un uc, .slice R rn rc] TTb)).alloc (.cells #[.string t.name, .int .i64 t.most, .slice U un uc, .slice R rn rc] TBo)).alloc (.cells #[.pointer (some ⟨w.heap.size + 1, 0, none⟩)] TBk)).heap.size (((w.alloc (.cells #[.string t.name, .int .i64 t.most, .slice U un uc, .slice R rn rc] TTb)).alloc (.cells #[.string t.name, .int .i64 t.most, .slice U un uc, .slice R rn rc] TBo)).alloc (.cells #[.pointer (some ⟨w.heap.size + 1, 0, none⟩)] TBk)) W) => book_once (w.heap.size + 1) U un uc R rn rc t W (HBK.out.keep (Keep.of k)) hun)
  clear ht hT hrb hk0 hbk b0 b1 b2
  cases hf : fewB t with
  | false =>
    have HF := Lib.hid (show tabB t = false by unfold tabB; rw [hf]; rfl)
    have hc : (¬ 1 ≤ t.most) ∨ (1 ≤ t.most ∧ ¬ t.most ≤ 64) ∨ (1 ≤ t.most ∧ t.most ≤ 64 ∧ ¬ (rn : Int) ≤ t.most) := by
      have hrl := HBK.out.tab.rn.out
      by_cases h1 : 1 ≤ t.most
      · by_cases h2 : t.most ≤ 64
        · by_cases h3 : (rn : Int) ≤ t.most
          · unfold fewB at hf
            rw [hrl, decide_eq_true h1, decide_eq_true h2, decide_eq_true h3] at hf
            cases hf
          · exact .inr (.inr ⟨h1, h2, h3⟩)
        · exact .inr (.inl ⟨h1, h2⟩)
      · exact .inl h1
    clear hf
    rcases hc with h1 | ⟨h1, h2⟩ | ⟨h1, h2, h3⟩
    · go_enter Tryz.func77, Tryz.ntmps77
      go_wp2
      go_ret
      exact ⟨ret_int (tabE_f HF.out).symm, HK0.out⟩
    · go_enter Tryz.func77, Tryz.ntmps77
      go_wp2
      go_ret
      exact ⟨ret_int (tabE_f HF.out).symm, HK0.out⟩
    · go_enter Tryz.func77, Tryz.ntmps77
      go_wp2
      go_ret
      exact ⟨ret_int (tabE_f HF.out).symm, HK0.out⟩
  | true =>
    obtain ⟨h1, h2, h3⟩ : 1 ≤ t.most ∧ t.most ≤ 64 ∧ (rn : Int) ≤ t.most := by
      have hrl := HBK.out.tab.rn.out
      unfold fewB at hf
      rw [hrl] at hf
      simpa [and_assoc] using hf
    have HFW := Lib.hid hf
    have HRI := Lib.hid (book_rises (w.heap.size + 1) U un uc R rn rc t _ HBK.out (by omega))
    have HHC := Lib.hid (fun W (k : Below (((w.alloc (.cells #[.string t.name, .int .i64 t.most, .slice U un uc, .slice R rn rc] TTb)).alloc (.cells #[.string t.name, .int .i64 t.most, .slice U un uc, .slice R rn rc] TBo)).alloc (.cells #[.pointer (some ⟨w.heap.size + 1, 0, none⟩)] TBk)).heap.size (((w.alloc (.cells #[.string t.name, .int .i64 t.most, .slice U un uc, .slice R rn rc] TTb)).alloc (.cells #[.string t.name, .int .i64 t.most, .slice U un uc, .slice R rn rc] TBo)).alloc (.cells #[.pointer (some ⟨w.heap.size + 1, 0, none⟩)] TBk)) W) => has_check (w.heap.size + 1 + 1) R rc rn t.rows (badR t) W (HBK.out.keep (Keep.of k)).tab.rows HBK.out.tab.rn (by omega) (Lib.hid fun r D m c W' hr hat hlen hcap kb =>
      check_test B (w.heap.size + 1 + 1) (w.heap.size + 1) U un uc R rn rc t D c m r W' (HBK.out.keep (Keep.trans (Keep.of k) (Keep.of kb))) hun (by omega) HRB.out (((HB2.out.below k HB2.out.lt).below kb (HB2.out.below k HB2.out.lt).lt).cell 0) (((HB2.out.below k HB2.out.lt).below kb (HB2.out.below k HB2.out.lt).lt).lt) hat (Lib.hid hlen) hcap (HRB.out r hr) (HTS.out.next ((k.trans (kb.mono k.size)).mono HBB.out)) (by have := HBB.out; have := k.size; have := kb.size; omega)))
    obtain ⟨d1, hd1⟩ : ∃ d, decide (RiseS (t.rows.map (·.id))) = d := ⟨_, rfl⟩
    obtain ⟨d2, hd2⟩ : ∃ d, decide t.uniques.Nodup = d := ⟨_, rfl⟩
    obtain ⟨d3, hd3⟩ : ∃ d, t.rows.any (badR t) = d := ⟨_, rfl⟩
    have HTB : Hid (tabB t = (d1 && d2 && !d3)) := Lib.hid (by unfold tabB; rw [HFW.out, hd1, hd2, hd3]; rfl)
    rw [hd1] at HRI
    rw [hd2] at HON
    rw [hd3] at HHC
    clear hd1 hd2 hd3 hf
    go_enter Tryz.func77, Tryz.ntmps77
    go_wp2_with fail
    refine HRI.out.mono ?_
    rintro e w1 ⟨rfl, k⟩
    have HK1 := Lib.hid k
    have HF1 := Lib.hid (HP.out _ k).1
    have p2 := (HP.out _ k).2.2.cell 0; have l2 := (HP.out _ k).2.2.lt
    have p03 := (HP.out _ k).2.1.cell 3; have l0 := (HP.out _ k).2.1.lt
    have HC2 := Lib.hid (HON.out _ k)
    clear k
    cases d1 with
    | false =>
      go_wp2
      go_ret
      exact ⟨ret_int (tabE_f HTB.out).symm, HF1.out⟩
    | true =>
      go_wp2_with fail
      refine HC2.out.mono ?_
      rintro e w2 ⟨rfl, k⟩
      have HK2 := Lib.hid (HK1.out.trans (k.mono HK1.out.size))
      clear k p2 l2 p03 l0
      have HF2 := Lib.hid (HP.out _ HK2.out).1
      have p2 := (HP.out _ HK2.out).2.2.cell 0; have l2 := (HP.out _ HK2.out).2.2.lt
      have p03 := (HP.out _ HK2.out).2.1.cell 3; have l0 := (HP.out _ HK2.out).2.1.lt
      have HC3 := Lib.hid (HHC.out _ HK2.out)
      cases d2 with
      | false =>
        go_wp2
        go_ret
        exact ⟨ret_int (tabE_f HTB.out).symm, HF2.out⟩
      | true =>
        go_wp2_with fail
        refine HC3.out.mono ?_
        rintro e w3 ⟨rfl, k⟩
        have HF3 := Lib.hid (HF2.out.trans (k.mono HF2.out.size))
        clear k
        cases d3 with
        | true =>
          go_wp2
          go_ret
          exact ⟨ret_int (tabE_f HTB.out).symm, HF3.out⟩
        | false =>
          go_wp2
          go_ret
          exact ⟨ret_int (tabE_t HTB.out).symm, HF3.out⟩
end Go.Proofs.YtbdkedjgfihamaaGreatDoor

namespace Pv
open Go Go.RowKit
theorem atR_of {id : ByteArray} : ∀ {l : List Rec} {i : Nat}, i ≤ l.length → (∀ j r, j < i → l[j]? = some r → ltS r.id id = true) → (∀ r, l[i]? = some r → ltS r.id id = false) → atR l id = i
  | [], i, hi, _, _ => by simp at hi; subst hi; rfl
  | r :: l, 0, _, _, h => by unfold atR; rw [h r rfl]; rfl
  | r :: l, i + 1, hi, h1, h2 => by
    unfold atR
    rw [h1 0 r (by omega) rfl, if_pos rfl, atR_of (l := l) (i := i) (by simpa using hi) (fun j r' hj hr => h1 (j + 1) r' (by omega) hr) (fun r' hr => h2 r' hr)]
theorem rise_lt {l : List Rec} (h : RiseR l) {i j : Nat} {x y : Rec} (hi : l[i]? = some x) (hj : l[j]? = some y) (hij : i < j) : ltS x.id y.id = true := by
  have h1 := List.pairwise_iff_getElem.1 h i j (lt_of_get hi) (lt_of_get hj) hij
  have e1 : l[i]'(lt_of_get hi) = x := by have := hi; rw [List.getElem?_eq_getElem (lt_of_get hi)] at this; exact Option.some.inj this
  have e2 : l[j]'(lt_of_get hj) = y := by have := hj; rw [List.getElem?_eq_getElem (lt_of_get hj)] at this; exact Option.some.inj this
  rwa [e1, e2] at h1
/-- What a search in rows keeps. -/
structure SrchR (l : List Rec) (id : ByteArray) (lo hi : Nat) : Prop where
  le : lo ≤ hi
  hl : hi ≤ l.length
  below : ∀ j r, j < lo → l[j]? = some r → ltS r.id id = true
  above : ∀ j r, hi ≤ j → l[j]? = some r → ltS r.id id = false
theorem SrchR.start (l : List Rec) (id : ByteArray) : SrchR l id 0 l.length := ⟨Nat.zero_le _, Nat.le_refl _, fun j r hj => by omega, fun j r hj hr => by have := lt_of_get hr; omega⟩
theorem SrchR.up {l : List Rec} {id : ByteArray} {lo hi m : Nat} {r : Rec} (h : SrchR l id lo hi) (hr : RiseR l) (hm : l[m]? = some r) (h2 : m < hi) (ht : ltS r.id id = true) : SrchR l id (m + 1) hi :=
  ⟨by omega, h.hl, fun j x hj hx => by
    rcases Nat.lt_or_ge j m with h3 | h3
    · exact ltS_trans (rise_lt hr hx hm h3) ht
    · obtain rfl : j = m := by omega
      rw [hm] at hx
      obtain rfl := Option.some.inj hx
      exact ht, h.above⟩
theorem SrchR.down {l : List Rec} {id : ByteArray} {lo hi m : Nat} {r : Rec} (h : SrchR l id lo hi) (hr : RiseR l) (hm : l[m]? = some r) (h1 : lo ≤ m) (h2 : m < hi) (ht : ltS r.id id = false) : SrchR l id lo m :=
  ⟨h1, by have := h.hl; omega, h.below, fun j x hj hx => by
    rcases Nat.lt_or_ge m j with h3 | h3
    · cases hc : ltS x.id id with
      | false => rfl
      | true => rw [ltS_trans (rise_lt hr hm hx h3) hc] at ht; cases ht
    · obtain rfl : j = m := by omega
      rw [hm] at hx
      obtain rfl := Option.some.inj hx
      exact ht⟩
theorem SrchR.at_ {l : List Rec} {id : ByteArray} {i : Nat} (h : SrchR l id i i) : atR l id = i := atR_of h.hl h.below fun r hr => h.above i r (Nat.le_refl _) hr
theorem hasR_at {l : List Rec} {id : ByteArray} (h : RiseR l) {i : Nat} (hs : SrchR l id i i) : hasR l id = true ↔ ∃ r, l[i]? = some r ∧ r.id = id := by
  rw [hasR_iff]
  constructor
  · rintro ⟨r, hr, rfl⟩
    obtain ⟨j, hj⟩ := List.getElem?_of_mem hr
    rcases Nat.lt_trichotomy j i with h1 | h1 | h1
    · have := hs.below j r h1 hj; rw [ltS_irr] at this; cases this
    · subst h1; exact ⟨r, hj, rfl⟩
    · obtain ⟨x, hx⟩ : ∃ x, l[i]? = some x := ⟨_, List.getElem?_eq_getElem (by have := lt_of_get hj; omega)⟩
      have h2 := rise_lt h hx hj h1
      rw [hs.above i x (Nat.le_refl _) hx] at h2
      cases h2
  · rintro ⟨r, hr, e⟩
    exact ⟨r, mem_of_get hr, e⟩
/-- How two strings compare. -/
def cmpS (a b : ByteArray) : Int := if ltS a b then -1 else if ltS b a then 1 else 0
theorem cmpS_lt {a b : ByteArray} (h : ltS a b = true) : cmpS a b = -1 := by unfold cmpS; rw [if_pos h]
theorem cmpS_gt {a b : ByteArray} (h : ltS b a = true) : cmpS a b = 1 := by unfold cmpS; rw [ltS_asymm h, h]; rfl
theorem cmpS_eq (a : ByteArray) : cmpS a a = 0 := by unfold cmpS; rw [ltS_irr]; rfl
end Pv
namespace Go.Proofs.YtbdkedjgfihamaaGreatDoor
open Go.RowKit Pv Go.Maps
set_option maxHeartbeats 1000000 in
set_option maxRecDepth 100000 in
theorem nan_str (a : ByteArray) (w : World) : Calls Tryz.prog 119 #[.string a] w fun e w' => e = .returned (.bool false) ∧ w' = w := by
  have t1 : (a.toList == a.toList) = true := by simp
  go_enter Tryz.func119, Tryz.ntmps119
  go_wp2
  go_ret
  exact ⟨rfl, rfl⟩
set_option maxHeartbeats 1000000 in
set_option maxRecDepth 100000 in
theorem cmp_str (a b : ByteArray) (w : World) : Calls Tryz.prog 96 #[.string a, .string b] w fun e w' => e = .returned (.int .i64 (cmpS a b)) ∧ w' = w := by
  have H1 := Lib.hid (nan_str a w); have H2 := Lib.hid (nan_str b w)
  obtain ⟨o, ho⟩ : ∃ o, cmpS a b = o := ⟨_, rfl⟩
  rw [ho]
  cases h1 : ltS a b with
  | true =>
    have HO := Lib.hid (ho.symm.trans (cmpS_lt h1))
    have t1 : Op.bytesLess a.toList b.toList = true := h1
    clear h1 ho
    go_enter Tryz.func96, Tryz.ntmps96
    go_wp2_with fail
    refine H1.out.mono ?_
    rintro e w1 ⟨rfl, rfl⟩
    go_wp2_with fail
    refine H2.out.mono ?_
    rintro e w2 ⟨rfl, rfl⟩
    go_wp2
    go_ret
    exact ⟨ret_int HO.out.symm, rfl⟩
  | false =>
    cases h2 : ltS b a with
    | true =>
      have HO := Lib.hid (ho.symm.trans (cmpS_gt h2))
      have t1 : Op.bytesLess a.toList b.toList = false := h1
      have t2 : Op.bytesLess b.toList a.toList = true := h2
      have t3 : (a.toList == b.toList) = false := by
        rw [beq_eq_false_iff_ne]
        intro e
        rw [toList_inj e, ltS_irr] at h2
        cases h2
      clear h1 h2 ho
      go_enter Tryz.func96, Tryz.ntmps96
      go_wp2_with fail
      refine H1.out.mono ?_
      rintro e w1 ⟨rfl, rfl⟩
      go_wp2_with fail
      refine H2.out.mono ?_
      rintro e w2 ⟨rfl, rfl⟩
      go_wp2
      go_ret
      exact ⟨ret_int HO.out.symm, rfl⟩
    | false =>
      obtain rfl := ltS_total h1 h2
      have HO := Lib.hid (ho.symm.trans (cmpS_eq a))
      have t1 : Op.bytesLess a.toList a.toList = false := h1
      have t3 : (a.toList == a.toList) = true := by simp
      clear h1 h2 ho
      go_enter Tryz.func96, Tryz.ntmps96
      go_wp2_with fail
      refine H1.out.mono ?_
      rintro e w1 ⟨rfl, rfl⟩
      go_wp2_with fail
      refine H2.out.mono ?_
      rintro e w2 ⟨rfl, rfl⟩
      go_wp2
      go_ret
      exact ⟨ret_int HO.out.symm, rfl⟩
set_option maxHeartbeats 1000000 in
set_option maxRecDepth 100000 in
theorem find_test (D : Option Addr) (m c : Nat) (id x : ByteArray) (w : World) : Calls Tryz.prog 95 #[.agg #[.string id, .slice D m c], .string x] w fun e w' => e = .returned (.int .i64 (cmpS id x)) ∧ Below w.heap.size w w' := by
  have HB := Lib.hid ((Below.refl w.heap.size w).alloc (Nat.le_refl _) (.cells #[.string id, .slice D m c] TRe))
  have H1 := Lib.hid (fun W => cmp_str id x W)
  go_enter Tryz.func95, Tryz.ntmps95
  go_wp2_with fail
  refine (H1.out _).mono ?_
  rintro e w1 ⟨rfl, rfl⟩
  go_wp2
  go_ret
  exact ⟨rfl, HB.out⟩
set_option maxHeartbeats 4000000 in
set_option maxRecDepth 100000 in
theorem search_recs (A : Option Addr) (c n : Nat) (l : List Rec) (id : ByteArray) (w : World) (h : AtRec w A l) (HL : Hid (l.length = n)) (hn : n ≤ 100000) (hr : RiseR l) :
    Calls Tryz.prog 94 #[.slice A n c, .string id, .func (.func 95) #[] #[]] w fun e w' => e = .returned (.tuple #[.int .i64 (atR l id : Nat), .bool (hasR l id)]) ∧ Below w.heap.size w w' := by
  have HA : Hid (AtRec w A l) := Lib.hid h
  have HRR := Lib.hid hr
  obtain ⟨ai, hai⟩ : ∃ i, atR l id = i := ⟨_, rfl⟩
  obtain ⟨hs, hhs⟩ : ∃ b, hasR l id = b := ⟨_, rfl⟩
  rw [hai, hhs]
  have HAI := Lib.hid hai; have HHS := Lib.hid hhs
  clear h hr hai hhs
  go_enter Tryz.func94, Tryz.ntmps94
  go_wp2
  go_loopw [9, 10] (fun iv jv W => ∃ (lo hi : Nat), iv = .int .i64 lo ∧ jv = .int .i64 hi ∧ lo ≤ hi ∧ hi ≤ n ∧ Hid (SrchR l id lo hi) ∧ Hid (Below w.heap.size w W)) (fun iv jv _ => (intOf jv).toNat - (intOf iv).toNat)
  case atStart => exact ⟨0, n, rfl, rfl, by omega, by omega, Lib.hid (by have := SrchR.start l id; rwa [HL.out] at this), Lib.hid (Below.refl _ _)⟩
  case round =>
    obtain ⟨lo, hi, rfl, rfl, h1, h2, HS, HW⟩ := hrel
    by_cases hlt : lo < hi
    · have i1 : (lo : Int) < (hi : Int) := by omega
      obtain ⟨m, hm, hm1, hm2⟩ : ∃ m : Nat, ((lo : Int) + (hi : Int)) / 2 = (m : Int) ∧ lo ≤ m ∧ m < hi := ⟨(lo + hi) / 2, by omega, by omega, by omega⟩
      obtain ⟨b1, o1, x, D, dm, dc, hR, lb1, c0, c1, _, _, _, _, HX⟩ := AtRec.g2 (AtRec.keep HA.out (Keep.of HW.out)) HL (show m < n by omega)
      subst hR
      have i2 : (0 : Int) ≤ (m : Int) := by omega
      have i3 : (m : Int) < (n : Int) := by omega
      have HT := Lib.hid (find_test D dm dc x.id id wr)
      cases ht : ltS x.id id with
      | true =>
        rw [cmpS_lt ht] at HT
        have HS2 := Lib.hid (HS.out.up HRR.out HX.out hm2 ht)
        clear ht
        go_wp2_with fail
        refine HT.out.mono ?_
        rintro e w1 ⟨rfl, k⟩
        have HW2 := Lib.hid (HW.out.trans (k.mono HW.out.size))
        clear k
        go_wp2
        go_roundw
        case rel => exact ⟨m + 1, hi, by go_num, rfl, by omega, h2, HS2, HW2⟩
        case measure => simp [intOf]; omega
      | false =>
        have HS2 := Lib.hid (HS.out.down HRR.out HX.out hm1 hm2 ht)
        have hcm : cmpS x.id id = 0 ∨ cmpS x.id id = 1 := by
          cases h3 : ltS id x.id with
          | true => exact .inr (cmpS_gt h3)
          | false => rw [ltS_total ht h3]; exact .inl (cmpS_eq _)
        clear ht
        rcases hcm with hcm | hcm
        all_goals
          rw [hcm] at HT
          clear hcm
          go_wp2_with fail
          refine HT.out.mono ?_
          rintro e w1 ⟨rfl, k⟩
          have HW2 := Lib.hid (HW.out.trans (k.mono HW.out.size))
          clear k
          go_wp2
          go_roundw
          case rel => exact ⟨lo, m, rfl, by go_num, hm1, by omega, HS2, HW2⟩
          case measure => simp [intOf]; omega
    · obtain rfl : lo = hi := by omega
      have i1 : ¬ (lo : Int) < (lo : Int) := by omega
      have hat : lo = ai := by rw [← HAI.out]; exact HS.out.at_.symm
      subst hat
      have hha := hasR_at HRR.out HS.out
      rw [HHS.out] at hha
      by_cases hn2 : lo < n
      · obtain ⟨b1, o1, x, D, dm, dc, hR, lb1, c0, c1, _, _, _, _, HX⟩ := AtRec.g2 (AtRec.keep HA.out (Keep.of HW.out)) HL hn2
        subst hR
        have i2 : (0 : Int) ≤ (lo : Int) := by omega
        have i3 : (lo : Int) < (n : Int) := by omega
        have hnl := HS.out.above lo x (Nat.le_refl _) HX.out
        have HT := Lib.hid (find_test D dm dc x.id id wr)
        cases h3 : ltS id x.id with
        | true =>
          rw [cmpS_gt h3] at HT
          have HO := Lib.hid (show hs = false by
            cases hs with
            | false => rfl
            | true =>
              obtain ⟨r, hr1, hr2⟩ := hha.1 rfl
              rw [HX.out] at hr1
              obtain rfl := Option.some.inj hr1
              rw [hr2, ltS_irr] at h3
              cases h3)
          clear h3 hnl hha
          go_wp2_with fail
          refine HT.out.mono ?_
          rintro e w1 ⟨rfl, k⟩
          have HW2 := Lib.hid (HW.out.trans (k.mono HW.out.size))
          clear k
          go_wp2
          go_ret2
          rw [HO.out]
          exact ⟨rfl, HW2.out⟩
        | false =>
          have hxe := ltS_total hnl h3
          have HO := Lib.hid (show hs = true from hha.2 ⟨x, HX.out, hxe⟩)
          have hce : cmpS x.id id = 0 := by rw [hxe]; exact cmpS_eq _
          rw [hce] at HT
          clear h3 hnl hha hxe hce
          go_wp2_with fail
          refine HT.out.mono ?_
          rintro e w1 ⟨rfl, k⟩
          have HW2 := Lib.hid (HW.out.trans (k.mono HW.out.size))
          clear k
          go_wp2
          go_ret2
          rw [HO.out]
          exact ⟨rfl, HW2.out⟩
      · have HO := Lib.hid (show hs = false by
          cases hs with
          | false => rfl
          | true =>
            obtain ⟨r, hr1, _⟩ := hha.1 rfl
            have := lt_of_get hr1
            rw [HL.out] at this
            omega)
        have i3 : ¬ (lo : Int) < (n : Int) := by omega
        clear hha
        go_wp2
        go_ret2
        rw [HO.out]
        exact ⟨rfl, HW.out⟩
set_option maxHeartbeats 4000000 in
set_option maxRecDepth 100000 in
theorem book_find (bb : Nat) (U : Option Addr) (un uc : Nat) (R : Option Addr) (rn rc : Nat) (t : Tab) (id : ByteArray) (w : World) (hbk : BookAt w bb U un uc R rn rc t) (hrn : rn ≤ 100000) (hr : RiseR t.rows) :
    Calls Tryz.prog 67 #[.pointer (some ⟨bb, 0, none⟩), .string id] w fun e w' => e = .returned (.tuple #[.int .i64 (atR t.rows id : Nat), .bool (hasR t.rows id)]) ∧ Below w.heap.size w w' := by
  have HC := Lib.hid (search_recs R rc rn t.rows id w hbk.tab.rows hbk.tab.rn hrn hr)
  have b3 := hbk.c3; have bl := hbk.lt
  clear hbk hr
  go_enter Tryz.func67, Tryz.ntmps67
  go_wp2_with fail
  refine HC.out.mono ?_
  rintro e w1 ⟨rfl, k⟩
  have K := Lib.hid k
  clear k
  go_wp2
  go_ret2
  exact ⟨rfl, K.out⟩
end Go.Proofs.YtbdkedjgfihamaaGreatDoor
