/- Walks: the program's many. -/
import Derived.Test.YtjnjbcigbnjmkaaBg
import Derived.Laws.EntriesVeiled
namespace Go.Proofs.Ytjnjbcigbnjmkaa
open Go.RowKit Pv

set_option maxHeartbeats 1000000 in
set_option maxRecDepth 100000 in
theorem maker_many (w : World) (pm : Nat) (tA EA : Option Addr) (nt ct ec : Nat) (t : List Rx) (T : Tr) (hT : T.Ok 16) (hfl : t = T.flat) (HT : Hid (t.length = nt)) (hnt : nt ≤ 64) (hpm : pm < w.heap.size)
    (m2 : w.cell? ⟨pm, 2, none⟩ = some (.slice tA nt ct)) (m3 : w.cell? ⟨pm, 3, none⟩ = some (.slice EA nt ec)) (ht : AtRx w tA t) (hae : At w EA RI (endsL t)) :
    Calls Try.prog 62 #[.pointer (some ⟨pm, 0, none⟩)] w fun e w' => e = .returned (.int .i64 ((1 + countT T : Nat) : Int)) ∧ Below w.heap.size w w' := by
  have hc256 : countT T ≤ 256 := by obtain ⟨y, ls⟩ := T; rw [countT]; split <;> omega
  have hb : Below w.heap.size w ((w.alloc (.cells #[.pointer (some ⟨pm, 0, none⟩)] 103)).alloc (.cells #[.func (.func 106) #[] #[.pointer (some ⟨w.heap.size, 0, none⟩), .pointer (some ⟨w.heap.size + 1, 0, none⟩)]] 156)) := ((Below.refl _ _).alloc (Nat.le_refl _) _).alloc (by simp) _
  have BK := blk2 w #[.pointer (some ⟨pm, 0, none⟩)] #[.func (.func 106) #[] #[.pointer (some ⟨w.heap.size, 0, none⟩), .pointer (some ⟨w.heap.size + 1, 0, none⟩)]] 103 156
  have k := Keep.of hb
  have CE : CEnv _ pm w.heap.size (w.heap.size + 1) tA EA nt ct ec t := ⟨BK.1.lt, BK.2.lt, Nat.lt_of_lt_of_le hpm hb.size, BK.1.cell 0, BK.2.cell 0, (k.cell _ _ hpm).trans m2, (k.cell _ _ hpm).trans m3, AtRx.keep ht k, hae.keep k⟩
  have HC := Lib.hid (maker_count _ pm w.heap.size (w.heap.size + 1) tA EA nt ct ec t (Lib.hid CE) HT hnt 16 (Nat.le_refl _) T 0 [] hT (by simp [hfl]) _ (Keep.refl _))
  have HB := Lib.hid hb
  generalize countT T = q at *
  clear hb BK k CE ht hae
  go_enter Try.func62, Try.ntmps62
  go_wp2_with fail
  refine HC.out.mono ?_
  rintro e w1 ⟨rfl, hb1⟩
  go_wp2
  go_ret
  exact ⟨ret_int (by omega), HB.out.trans (hb1.mono HB.out.size)⟩

end Go.Proofs.Ytjnjbcigbnjmkaa
