/- Walks: the program's maker: states joined. -/
import Derived.Test.YtjnjbcigbnjmkaaBc
namespace Go.Proofs.Ytjnjbcigbnjmkaa
open Go.RowKit Pv

theorem TB_int : ∀ e, e ∈ TB → e ≠ TInt := by decide
theorem TB_mk' : TMk ∈ TB := by decide
theorem frees_snoc (m : Nat) : ∀ (l : List Nat) (a : Au) (s : Nat), auFrees m a (l ++ [s]) = auEdge (auFrees m a l) s ⟨m, true, []⟩
  | [], a, s => rfl
  | e :: l, a, s => by rw [List.cons_append, auFrees, auFrees, frees_snoc m l]
theorem frees_edges (m : Nat) : ∀ (l : List Nat) (a : Au), (∀ e, e ∈ l → e < a.length) → edgesN (auFrees m a l) = edgesN a + l.length
  | [], a, _ => rfl
  | e :: l, a, h => by
    rw [auFrees, frees_edges m l _ (fun e he => by rw [auEdge_length]; exact h e (by simp [he])), edgesN_edge _ _ _ (h e (by simp))]
    simp only [List.length_cons]; omega
/-- What joining leaves. -/
def MkJoin (w : World) (base pm n : Nat) (acc : Int) (x2 x3 : Value) (a : Au) (l : List Nat) (e : Ending) (w' : World) : Prop :=
  ∃ A' c', e = .returned (.int .i64 n) ∧ MkAt w' base pm A' (n + 1) c' acc x2 x3 (auJoin a l) ∧ Chg TB base w w'

set_option maxHeartbeats 2000000 in
set_option maxRecDepth 100000 in
theorem maker_join (A : Option Addr) (n c base pm : Nat) (acc : Int) (x2 x3 : Value) (a : Au) (LA : Option Addr) (ln lc e0 : Nat) (l : List Nat) (w : World) (h : MkAt w base pm A n c acc x2 x3 a) (hb : base ≤ w.heap.size) (hn : n ≤ 900) (he : edgesN a ≤ 900000)
    (hl : w.ownsRow e0 TInt 1 (.slice LA ln lc) ln (l.map fun (z : Nat) => Value.int .i64 (z : Int))) (hll : ∀ z, z ∈ l → z < n) (hln : l.length ≤ 1000) :
    Calls Try.prog 107 #[.pointer (some ⟨pm, 0, none⟩), .slice LA ln lc] w (MkJoin w base pm n acc x2 x3 a l) := by
  have hnl := h.au.len
  have hlen : l.length = ln := by have := hl.1; simpa using this
  have HST := Lib.hid (maker_state A n c base pm acc x2 x3 a w h hb (by omega))
  have HL := Lib.hid hl
  have HNL := Lib.hid hnl; have HLN := Lib.hid hlen; have HLL := Lib.hid hll; have HE := Lib.hid he
  have hln2 : ln ≤ 1000 := by omega
  clear h hl hnl hlen hll he
  go_enter Try.func107, Try.ntmps107
  go_wp2_with fail
  refine HST.out.mono ?_
  rintro e w1 ⟨A1, c1, rfl, mk1, ch1⟩
  have MK1 := Lib.hid mk1
  have CH1 := Lib.hid ch1
  have OL1 := Lib.hid (ownsRow_chg HL.out ch1 TB_int)
  clear mk1 ch1
  go_wp2
  go_loopw [12] (fun iv wr => ∃ k : Nat, iv = .int .i64 k ∧ k ≤ ln ∧ MkAt wr base pm A1 (n + 1) c1 acc x2 x3 (auFrees n (a ++ [[]]) (l.take k)) ∧ wr.ownsRow e0 TInt 1 (.slice LA ln lc) ln (l.map fun (z : Nat) => Value.int .i64 (z : Int)) ∧ Chg TB base w wr) (fun iv _ => ln - (intOf iv).toNat)
  case atStart => exact ⟨0, rfl, by omega, MK1.out, OL1.out, CH1.out⟩
  case round =>
    obtain ⟨k, rfl, hk, hmk, hol, hch⟩ := hrel
    have MK := Lib.hid hmk; have OL := Lib.hid hol; have CH := Lib.hid hch
    clear hmk hol hch
    by_cases hlt : k < ln
    · have hg : l[k]? = some (l[k]'(by rw [HLN.out]; exact hlt)) := List.getElem?_eq_getElem _
      generalize l[k]'(by rw [HLN.out]; exact hlt) = z at hg
      have HG := Lib.hid hg
      have hz := HLL.out z (mem_of_get hg)
      obtain ⟨g, rfl, hgl, hgc⟩ := own_get (k := k) (u := .int .i64 (z : Int)) OL.out (by rw [List.getElem?_map, hg]; rfl)
      have HED := Lib.hid (maker_edge A1 (n + 1) c1 base pm z acc x2 x3 (auFrees n (a ++ [[]]) (l.take k)) ⟨n, true, []⟩ none 0 0 wr MK.out (Nat.le_trans hb CH.out.size) (by omega) (by simp only; omega) (by
        have h1 := HE.out
        rw [frees_edges _ _ _ (fun e he => by have := HLL.out e (List.mem_of_mem_take he); have := HNL.out; simp; omega), edgesN_state, List.length_take]
        omega) (SetQ.nil _ _))
      clear hg
      go_wp2_with fail
      refine HED.out.mono ?_
      rintro e w2 ⟨rfl, mk2, ch2⟩
      have MK2 := Lib.hid mk2; have CH2 := Lib.hid (CH.out.trans ch2); have OL2 := Lib.hid (ownsRow_chg OL.out ch2 TB_int)
      clear mk2 ch2 hgc
      go_wp2
      go_roundw
      case rel => exact ⟨k + 1, by go_num, by omega, by rw [take_snoc HG.out, frees_snoc]; exact MK2.out, OL2.out, CH2.out⟩
      case measure => simp [intOf]; omega
    · have : k = ln := by omega
      subst this
      have ht : l.take k = l := List.take_of_length_le (by rw [HLN.out]; omega)
      have HT := Lib.hid ht
      clear ht
      go_wp2
      go_ret
      exact ⟨A1, c1, rfl, by have h1 := MK.out; rw [HT.out] at h1; unfold auJoin; rw [← HNL.out]; exact h1, CH.out⟩

end Go.Proofs.Ytjnjbcigbnjmkaa
