/- Walks: whether an automaton is great; an automaton in new memory (the document's). PUT1 -/
import Derived.Test.YtjnjbcigbnjmkaaEdy
import Derived.Test.YtjnjbcigbnjmkaaTzy
namespace Go.Proofs.Ytjnjbcigbnjmkaa
open Go.RowKit Pv

theorem info_edge2 : (Try.prog.info? TEdge).map (fun i => (i.zero, i.size, i.bytes)) = some (some (.agg #[.int .i64 0, .bool false, .slice none 0 0]), 3, 40) := by kernel_rfl
theorem info_row2 : (Try.prog.info? TRow).map (fun i => (i.zero, i.size, i.bytes)) = some (some (.slice none 0 0), 1, 24) := by kernel_rfl

def GreatA (a : Au) (q : Nat) (w : World) (e : Ending) (w' : World) : Prop :=
  ∃ g, e = .returned (.bool g) ∧ (g = false → a.length ≤ q) ∧ Below w.heap.size w w'

set_option maxHeartbeats 1000000 in
set_option maxRecDepth 100000 in
theorem ref09_Great (A : Option Addr) (c n q : Nat) (acc : Int) (a : Au) (w : World) (ha : AtAu w A a) (HL : Hid (a.length = n)) (hq : q ≤ 1000) :
    Calls Try.prog 32 #[.agg #[.slice A n c, .int .i64 acc], .int .i64 q] w (GreatA a q w) := by
  have hl : n ≤ 140737488355328 := by have := ha.1; rwa [HL.out] at this
  have HA := Lib.hid ha
  have HB0 := Lib.hid ((Below.refl w.heap.size w).alloc (Nat.le_refl _) (.cells #[.slice A n c, .int .i64 acc] TAuto))
  have K0 := Lib.hid (Blk.new w TAuto #[.slice A n c, .int .i64 acc])
  obtain ⟨p0, p1, _, _⟩ := Blk.two K0.out
  have hN := K0.out.lt
  clear ha
  go_enter Try.func32, Try.ntmps32
  go_wp2
  go_loopw [6, 5] (fun iv sv wr => ∃ (i : Nat) (s : Nat), iv = .int .i64 i ∧ i ≤ n ∧ i ≤ 300 ∧ sv = .int .i64 s ∧ s ≤ i * 140737488355328 ∧ wr = w.alloc (.cells #[.slice A n c, .int .i64 acc] TAuto)) (fun iv _ _ => 300 - (intOf iv).toNat)
  case atStart => exact ⟨0, 0, rfl, by omega, by omega, rfl, by omega, rfl⟩
  case round =>
    obtain ⟨i, s, rfl, hi, hi3, rfl, hs, rfl⟩ := hrel
    by_cases hlt : i < n
    · by_cases hlt3 : (i : Int) < 300
      · obtain ⟨b2, o2, S, q2, cs, es, rfl, hb2, c2, hS, HQ, hqc, HY⟩ := AtAu.gt HA.out HL hlt
        have HES := Lib.hid hS
        have hq2 : q2 ≤ 140737488355328 := by have := hS.1; rwa [HQ.out] at this
        have i1 : (0 : Int) ≤ (i : Int) := by omega
        have i2 : (i : Int) < (n : Int) := by omega
        have c2' := ((Keep.of HB0.out).cell _ _ hb2).trans c2
        have hb2' := Nat.lt_of_lt_of_le hb2 HB0.out.size
        clear hS
        go_wp2
        go_loopw [7] (fun kv wr => ∃ k : Nat, kv = .int .i64 k ∧ k ≤ q2 ∧ k ≤ 200 ∧ wr = w.alloc (.cells #[.slice (some ⟨b2, o2, none⟩) n c, .int .i64 acc] TAuto)) (fun kv _ => 200 - (intOf kv).toNat)
        case atStart => exact ⟨0, rfl, by omega, by omega, rfl⟩
        case round =>
          obtain ⟨k, rfl, hk, hk2, rfl⟩ := hrel
          by_cases hkt : k < q2
          · by_cases hkt2 : (k : Int) < 200
            · obtain ⟨b3, o3, to, fr, T, tq, tc, sl, rfl, hb3, ⟨d0, d1, d2⟩, hset, HTQ, htc, hto, HZ⟩ := AtEd.gt (AtEd.keep HES.out (Keep.of HB0.out)) HQ hkt
              have i5 : (0 : Int) ≤ (k : Int) := by omega
              have i6 : (k : Int) < (q2 : Int) := by omega
              by_cases h60 : (60 : Int) < (tq : Int)
              · go_wp2
                go_ret
                exact ⟨true, rfl, fun h => (by cases h), HB0.out⟩
              · go_wp2
                go_roundw
                case rel => exact ⟨k + 1, by go_num, by omega, by omega, by first | rfl | trivial⟩
                case measure => simp [intOf]; omega
            · go_wp2
              go_roundw
              case rel => exact ⟨i + 1, s + q2, by go_num, by omega, by omega, by go_num, by omega, by first | rfl | trivial⟩
              case measure => simp [intOf]; omega
          · go_wp2
            go_roundw
            case rel => exact ⟨i + 1, s + q2, by go_num, by omega, by omega, by go_num, by omega, by first | rfl | trivial⟩
            case measure => simp [intOf]; omega
      · have hlast : (q : Int) < (n : Int) ∨ (n : Int) ≤ (q : Int) := by omega
        by_cases h1 : (q : Int) < (n : Int)
        · go_wp2
          go_ret
          exact ⟨true, rfl, fun h => (by cases h), HB0.out⟩
        · by_cases h2 : (400 : Int) < (s : Int)
          · go_wp2
            go_ret
            exact ⟨true, rfl, fun h => (by cases h), HB0.out⟩
          · go_wp2
            go_ret
            exact ⟨false, rfl, fun _ => by rw [HL.out]; omega, HB0.out⟩
    · by_cases h1 : (q : Int) < (n : Int)
      · go_wp2
        go_ret
        exact ⟨true, rfl, fun h => (by cases h), HB0.out⟩
      · by_cases h2 : (400 : Int) < (s : Int)
        · go_wp2
          go_ret
          exact ⟨true, rfl, fun h => (by cases h), HB0.out⟩
        · go_wp2
          go_ret
          exact ⟨false, rfl, fun _ => by rw [HL.out]; omega, HB0.out⟩
end Go.Proofs.Ytjnjbcigbnjmkaa
