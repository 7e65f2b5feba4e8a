/- Walks: states' parts (the program's). PUT1 -/
import Derived.Test.YtjnjbcigbnjmkaaGreatGty
import Derived.Test.YtjnjbcigbnjmkaaGreatGxy
import Derived.Test.YtjnjbcigbnjmkaaGreatGiy
import Derived.Test.YtjnjbcigbnjmkaaGreatGky
import Derived.Test.YtjnjbcigbnjmkaaGreatGey
import Derived.Test.YtjnjbcigbnjmkaaGreatGjy
import Derived.Test.YtjnjbcigbnjmkaaGreatGny
namespace Pv
open Go Go.RowKit
theorem rowCs_zero {row : List Int} {nc : Nat} (h : row.length < nc) : rowCs (row ++ [0]) nc = rowCs row nc := by
  rw [← rowCs_put h]
  refine Array.ext (by simp) fun i h1 h2 => ?_
  rw [Array.getElem_setIfInBounds]
  split
  · rename_i e
    subst e
    simp [rowCs]
  · rfl
  all_goals simpa using h1
theorem rowCs_at {row : List Int} {nc i : Nat} (h : row.length = nc) (hi : i < nc) : (rowCs row nc)[i]? = some (.int .i64 (row.getD i 0)) := by
  have h1 : i < row.length := by omega
  rw [List.getD_eq_getElem?_getD, List.getElem?_eq_getElem h1, rowCs, List.getElem?_toArray, List.getElem?_append_left (by simpa using h1), List.getElem?_map, List.getElem?_eq_getElem h1]
  rfl
end Pv
namespace Go.Proofs.YtjnjbcigbnjmkaaGreat
open Go.RowKit Go.Maps Go.ChangeMaps Pv

theorem zero_told : Tryz.zeroCells112 = rowCs [] 257 := by kernel_rfl
theorem store_told (y : Int) (w : World) : (storeCells ⟨w.heap.size, 0, none⟩ (Tryz.zeroCells112.toList.set 0 (.int .i64 y))).run Tryz.prog (w.alloc (.cells Tryz.zeroCells112 TTold)) = .ok () (w.alloc (.cells (rowCs [y] 257) TTold)) := by
  have e : Tryz.zeroCells112.toList.set 0 (.int .i64 y) = (rowCs [y] 257).toList := by
    have h := rowCs_put (row := []) (nc := 257) (by decide) y
    have h2 : rowCs ([] ++ [y]) 257 = rowCs [y] 257 := rfl
    rw [zero_told, ← h2, ← h, Array.toList_setIfInBounds]; rfl
  have hs : (rowCs [y] 257).size = 257 := rowCs_size (by simp)
  have hs0 : (rowCs [] 257).size = 257 := rowCs_size (by simp)
  rw [e]
  refine run_storeCells_new w TTold _ _ (by rw [hs]; exact info_told) (by rw [hs, zero_told, hs0]) ?_
  rw [← Array.all_toList, List.all_eq_true]
  intro v hv
  simp only [rowCs, List.mem_append, List.mem_map, List.mem_replicate] at hv
  rcases hv with ⟨x, _, rfl⟩ | ⟨_, rfl⟩ <;> rfl
/-- What is under way in one pass. -/
structure PtIn (w W : World) (M P n q : Nat) (keys : List (List Int)) (news out : List Int) (av : Array Value) : Prop where
  u : NumAt encT (okT q) TNT W M M keys
  q : Blk W (M + 1) TLI (rowCs news n)
  p : Blk W P TLI (rowCs out n)
  a : Blk W w.heap.size TDfa av
  b : Below w.heap.size w W
section
variable {w W W' : World} {M P n q : Nat} {keys keys' : List (List Int)} {news out : List Int} {av : Array Value}
theorem PtIn.next (h : PtIn w W M P n q keys news out av) (hb : Below W.heap.size W W') : PtIn w W' M P n q keys news out av :=
  ⟨h.u.below hb, h.q.below hb h.q.lt, h.p.below hb h.p.lt, h.a.below hb h.a.lt, h.b.trans (hb.mono h.b.size)⟩
theorem PtIn.told {X i : Nat} {cs : Array Value} {v : Value} (h : PtIn w W M P n q keys news out av) (hb : Blk W X TTold cs) (hX : w.heap.size ≤ X) : PtIn w (W.setCell ⟨X, i, none⟩ v) M P n q keys news out av :=
  ⟨h.u.far hb (by decide), h.q.far (p := ⟨X, i, none⟩) (h.q.ne hb (by decide)) v, h.p.far (p := ⟨X, i, none⟩) (h.p.ne hb (by decide)) v, h.a.far (p := ⟨X, i, none⟩) (h.a.ne hb (by decide)) v, h.b.setCell (p := ⟨X, i, none⟩) hX v⟩
theorem PtIn.come (h : PtIn w W M P n q keys news out av) (hu : NumAt encT (okT q) TNT W' M M keys') (ho : Oth TNT W W') (hb : Below M W W') (hM : w.heap.size ≤ M) : PtIn w W' M P n q keys' news out av :=
  ⟨hu, ho.blk _ _ _ (by decide) h.q, ho.blk _ _ _ (by decide) h.p, ho.blk _ _ _ (by decide) h.a, h.b.trans (hb.mono hM)⟩
theorem PtIn.set {y : Int} (h : PtIn w W M P n q keys news out av) (hl : news.length < n) (hP : P < M) (hM : w.heap.size ≤ M) : PtIn w (W.setCell ⟨M + 1, news.length, none⟩ (.int .i64 y)) M P n q keys (news ++ [y]) out av :=
  ⟨h.u.far h.q (by decide), by rw [← rowCs_put hl]; exact h.q.set _ _, h.p.far (p := ⟨M + 1, news.length, none⟩) (by simp; omega) _, h.a.far (p := ⟨M + 1, news.length, none⟩) (h.a.ne h.q (by decide)) _, h.b.setCell (p := ⟨M + 1, news.length, none⟩) (by simp; omega) _⟩
end
/-- What a state tells, class by class. -/
noncomputable def keyC (d : Dfa) (out : List Int) (s c : Nat) : List Int := out.getD s 0 :: (List.range c).map fun c => out.getD (d.go s c) 0
theorem keyC_len (d : Dfa) (out : List Int) (s c : Nat) : (keyC d out s c).length = c + 1 := by simp [keyC]
theorem keyC_succ (d : Dfa) (out : List Int) (s c : Nat) : keyC d out s (c + 1) = keyC d out s c ++ [out.getD (d.go s c) 0] := by simp [keyC, List.range_succ]
theorem keyC_all (d : Dfa) (out : List Int) (s : Nat) : keyC d out s d.cuts.length = keyP d out s := rfl
theorem getD_bd {out : List Int} (h : ∀ x, x ∈ out → 0 ≤ x ∧ x ≤ 64) (s : Nat) : 0 ≤ out.getD s 0 ∧ out.getD s 0 ≤ 64 := by
  rw [List.getD_eq_getElem?_getD]
  cases e : out[s]? with
  | none => simp
  | some x => exact h x (mem_of_get e)
theorem keyP_bd {d : Dfa} {out : List Int} (h : ∀ x, x ∈ out → 0 ≤ x ∧ x ≤ 64) (s : Nat) : ∀ x, x ∈ keyP d out s → -9223372036854775808 ≤ x ∧ x ≤ 9223372036854775807 := fun x hx => by
  have key : 0 ≤ x ∧ x ≤ 64 := by
    rcases List.mem_cons.1 hx with rfl | hx
    · exact getD_bd h s
    · obtain ⟨c, _, rfl⟩ := List.mem_map.1 hx
      exact getD_bd h _
  omega
/-- Parts of states. -/
def PartsP (d : Dfa) (n : Nat) (w : World) (e : Ending) (w' : World) : Prop :=
  ∃ P out, e = .returned (.slice (some ⟨P, 0, none⟩) n n) ∧ Blk w' P TLI (rowCs out n) ∧ w.heap.size ≤ P ∧ Below w.heap.size w w' ∧ out.length = n ∧ (∀ s t, s < n → t < n → (out.getD s 0 = out.getD t 0 ↔ Lks d s t)) ∧ ∀ x, x ∈ out → 0 ≤ x ∧ x ≤ 1000000

set_option maxHeartbeats 8000000 in
set_option maxRecDepth 100000 in
theorem least_parts (A1 A2 A3 : Option Addr) (c1 c2 c3 n1 n n3 : Nat) (d : Dfa) (w : World) (H : DfaAt w A1 A2 A3 n1 n n3 d) (hok : d.Ok) :
    Calls Tryz.prog 28 #[.agg #[.slice A1 n1 c1, .slice A2 n c2, .slice A3 n3 c3]] w (PartsP d n w) := by
  obtain ⟨b2, o2, b3, o3, e2, e3, hb2, hb3, e4, hrow, hacc⟩ := H.rows hok
  subst e2; subst e3
  obtain rfl := e4.symm
  have hn : n ≤ 64 := by have := hok.n2; have := H.hn.out; omega
  have hn1 : 1 ≤ n := by have := hok.n1; have := H.hn.out; omega
  have hc : n1 ≤ 256 := by have := hok.c2; have := H.hc.out; omega
  have hm1 := fun W : World => run_make_row' (P := Tryz.prog) 26 3 (.int .i64 0) 8 Tryz.underlying26 info_int9 rfl .i64 .i64 n (by omega) (by omega) W
  have HNN := H.hn; have HNC := H.hc
  have HOK := Lib.hid hok; have HR := Lib.hid hrow; have HA := Lib.hid hacc
  have KA := Lib.hid (Blk.new w TDfa #[.slice A1 n1 c1, .slice (some ⟨b2, o2, none⟩) n c2, .slice (some ⟨b3, o3, none⟩) n c3])
  have e1 : (w.alloc (.cells #[.slice A1 n1 c1, .slice (some ⟨b2, o2, none⟩) n c2, .slice (some ⟨b3, o3, none⟩) n c3] TDfa)).heap.size = w.heap.size + 1 := by simp
  have BP := Blk.new (w.alloc (.cells #[.slice A1 n1 c1, .slice (some ⟨b2, o2, none⟩) n c2, .slice (some ⟨b3, o3, none⟩) n c3] TDfa)) TLI (madeCells #[.int .i64 0] n)
  rw [e1] at BP
  have HP0 : Hid (Blk ((w.alloc (.cells #[.slice A1 n1 c1, .slice (some ⟨b2, o2, none⟩) n c2, .slice (some ⟨b3, o3, none⟩) n c3] TDfa)).alloc (.cells (madeCells #[.int .i64 0] n) TLI)) (w.heap.size + 1) TLI (rowCs (accL d 0) n)) := Lib.hid (by
    rw [show accL d 0 = [] from rfl, rowCs_nil]; exact BP)
  have HA0 := Lib.hid (KA.out.alloc (.cells (madeCells #[.int .i64 0] n) TLI))
  have HB0 := Lib.hid (((Below.refl w.heap.size w).alloc (Nat.le_refl _) (.cells #[.slice A1 n1 c1, .slice (some ⟨b2, o2, none⟩) n c2, .slice (some ⟨b3, o3, none⟩) n c3] TDfa)).alloc (by simp) (.cells (madeCells #[.int .i64 0] n) TLI))
  clear hrow hacc H hok BP e1
  go_enter Tryz.func28, Tryz.ntmps28
  go_wp2
  go_loopw [21] (fun iv W => ∃ i : Nat, iv = .int .i64 i ∧ i ≤ n ∧ Hid (Blk W (w.heap.size + 1) TLI (rowCs (accL d i) n)) ∧ Hid (Blk W w.heap.size TDfa #[.slice A1 n1 c1, .slice (some ⟨b2, o2, none⟩) n c2, .slice (some ⟨b3, o3, none⟩) n c3]) ∧ Hid (Below w.heap.size w W)) (fun iv _ => n - (intOf iv).toNat)
  case atStart => exact ⟨0, rfl, by omega, HP0, HA0, HB0⟩
  case round =>
    clear HP0 HA0 HB0 KA
    obtain ⟨i, rfl, hi, HP, HAB, HB⟩ := hrel
    have i1 : (0 : Int) ≤ (i : Int) := by omega
    obtain ⟨p0, p1, p2, _, _, _⟩ := Blk.three HAB.out
    have hN := HAB.out.lt
    by_cases hlt : i < n
    · have i2 : (i : Int) < (n : Int) := by omega
      have ca := ((Keep.of HB.out).cell _ _ hb3).trans (HA.out i hlt)
      obtain ⟨bb, hbb⟩ : ∃ bb, d.acc i = bb := ⟨_, rfl⟩
      have HBB := Lib.hid hbb
      rw [hbb] at ca
      have HLN : Hid ((accL d i).length = i) := Lib.hid (accL_len i)
      clear hbb
      cases bb
      case false =>
        have HE : Hid (rowCs (accL d (i + 1)) n = rowCs (accL d i) n) := Lib.hid (by rw [accL_succ, HBB.out]; exact rowCs_zero (by rw [accL_len]; exact hlt))
        go_wp2
        go_roundw
        case rel => exact ⟨i + 1, by go_num, by omega, Lib.hid (by rw [HE.out]; exact HP.out), HAB, HB⟩
        case measure => simp [intOf]; omega
      case true =>
        have HE : Hid (rowCs (accL d (i + 1)) n = (rowCs (accL d i) n).setIfInBounds i (.int .i64 1)) := Lib.hid (by
          have h := rowCs_put (row := accL d i) (nc := n) (by rw [accL_len]; exact hlt) 1
          rw [accL_len] at h
          rw [h, accL_succ, HBB.out]; rfl)
        have pc : wr.cell? ⟨w.heap.size + 1, i, none⟩ = some (.int .i64 0) := (HP.out.cell i).trans (by
          have h1 : i < (rowCs (accL d i) n).size := by rw [rowCs_size (by rw [accL_len]; omega)]; exact hlt
          rw [Array.getElem?_eq_getElem h1]
          simp [rowCs, accL_len])
        have pf := HP.out.frozen i
        go_wp2
        go_roundw
        case rel => exact ⟨i + 1, by go_num, by omega, Lib.hid (by rw [HE.out]; exact HP.out.set i _), Lib.hid (HAB.out.far (p := ⟨w.heap.size + 1, i, none⟩) (by simp) _), Lib.hid (HB.out.setCell (p := ⟨w.heap.size + 1, i, none⟩) (by simp) _)⟩
        case measure => simp [intOf]; omega
    · obtain rfl : n = i := by omega
      have hW := HB.out.size
      go_wp2
      go_loopw [6, 3] (fun mv ov W => ∃ (k P : Nat) (out : List Int), mv = .int .i64 (manyK d k : Nat) ∧ ov = .slice (some ⟨P, 0, none⟩) n n ∧ Hid (PartsK d k out) ∧ Hid (∀ x, x ∈ out → 0 ≤ x ∧ x ≤ 64) ∧ w.heap.size < P ∧ Hid (Blk W P TLI (rowCs out n)) ∧
        Hid (Blk W w.heap.size TDfa #[.slice A1 n1 c1, .slice (some ⟨b2, o2, none⟩) n c2, .slice (some ⟨b3, o3, none⟩) n c3]) ∧ Hid (Below w.heap.size w W)) (fun mv _ _ => n + 1 - (intOf mv).toNat)
      case atStart => exact ⟨0, w.heap.size + 1, accL d n, rfl, rfl, Lib.hid (by rw [← HNN.out]; exact accL_ok), Lib.hid (fun x hx => by rw [← HNN.out] at hx; have := accL_bd x hx; omega), by omega, HP, HAB, HB⟩
      case round =>
        clear HP HAB HB p0 p1 p2 hN hW
        obtain ⟨k, P, out, rfl, rfl, HPK, HBD, hP, HP, HAB, HB⟩ := hrel
        obtain ⟨p0, p1, p2, _, _, _⟩ := Blk.three HAB.out
        have hN := HAB.out.lt
        have hPl := HP.out.lt
        have hwP := HB.out.size
        have BN := Blk.new wr TNT #[.map none]
        have BQ := Blk.new (wr.alloc (.cells #[.map none] TNT)) TLI (madeCells #[.int .i64 0] n)
        rw [show (wr.alloc (.cells #[.map none] TNT)).heap.size = wr.heap.size + 1 by simp] at BQ
        have bb := ((Below.refl wr.heap.size wr).alloc (Nat.le_refl _) (.cells #[.map none] TNT)).alloc (by simp) (.cells (madeCells #[.int .i64 0] n) TLI)
        have HN0 : Hid (NumAt encT (okT (n1 + 1)) TNT ((wr.alloc (.cells #[.map none] TNT)).alloc (.cells (madeCells #[.int .i64 0] n) TLI)) wr.heap.size wr.heap.size (keysJ d k out 0)) := Lib.hid ⟨Nat.le_refl _, .inl ⟨keysJ_zero, BN.alloc _⟩⟩
        have HQ0 : Hid (Blk ((wr.alloc (.cells #[.map none] TNT)).alloc (.cells (madeCells #[.int .i64 0] n) TLI)) (wr.heap.size + 1) TLI (rowCs (partL d (k + 1) 0) n)) := Lib.hid (by
          rw [show partL d (k + 1) 0 = [] from rfl, rowCs_nil]; exact BQ)
        have HIN0 : Hid (PtIn w ((wr.alloc (.cells #[.map none] TNT)).alloc (.cells (madeCells #[.int .i64 0] n) TLI)) wr.heap.size P n (n1 + 1) (keysJ d k out 0) (partL d (k + 1) 0) out #[.slice A1 n1 c1, .slice (some ⟨b2, o2, none⟩) n c2, .slice (some ⟨b3, o3, none⟩) n c3]) := Lib.hid
          ⟨HN0.out, HQ0.out, HP.out.below bb HP.out.lt, HAB.out.below bb HAB.out.lt, HB.out.trans (bb.mono hwP)⟩
        have HPM := Lib.hid HP.out.lt
        clear BN BQ bb HN0 HQ0
        go_wp2
        clear p0 p1 p2 hN HP HAB HB
        obtain ⟨w8, rfl⟩ : ∃ w8, w8 = wr := ⟨_, rfl⟩
        generalize w8.heap.size = M at *
        go_loopw [37] (fun jv W => ∃ j : Nat, jv = .int .i64 j ∧ j ≤ n ∧ Hid (PtIn w W M P n (n1 + 1) (keysJ d k out j) (partL d (k + 1) j) out #[.slice A1 n1 c1, .slice (some ⟨b2, o2, none⟩) n c2, .slice (some ⟨b3, o3, none⟩) n c3])) (fun jv _ => n - (intOf jv).toNat)
        case atStart => exact ⟨0, rfl, by omega, HIN0⟩
        case round =>
          clear HIN0
          obtain ⟨j, rfl, hj, HI⟩ := hrel
          have j1 : (0 : Int) ≤ (j : Int) := by omega
          obtain ⟨p0, p1, p2, _, _, _⟩ := Blk.three HI.out.a
          have hN := HI.out.a.lt
          by_cases hjn : j < n
          · have j2 : (j : Int) < (n : Int) := by omega
            obtain ⟨rb, ro, rc, hrb, k1, k2⟩ := HR.out j hjn
            have HK2 := Lib.hid k2
            have k1 := ((Keep.of HI.out.b).cell _ _ hb2).trans k1
            have hol : out.length = n := by have := HPK.out.len; rw [HNN.out] at this; exact this
            have HOL := Lib.hid hol
            obtain ⟨y, hy⟩ : ∃ y, out.getD j 0 = y := ⟨_, rfl⟩
            have HY := Lib.hid hy
            have po := (HI.out.p.cell j).trans (rowCs_at hol hjn)
            rw [hy] at po
            have hst := store_told y wr
            have HX0 : Hid (Blk (wr.alloc (.cells (rowCs [y] 257) TTold)) wr.heap.size TTold (rowCs (keyC d out j 0) 257)) := Lib.hid (by
              rw [show keyC d out j 0 = [y] by rw [← hy]; rfl]; exact Blk.new wr TTold _)
            have HI0 := Lib.hid (HI.out.next ((Below.refl _ _).alloc (Nat.le_refl _) (.cells (rowCs [y] 257) TTold)))
            have HWX := Lib.hid HI.out.b.size
            clear k2 hy hol
            go_wp2
            clear hst po k1 p0 p1 p2 hN HI
            obtain ⟨w9, rfl⟩ : ∃ w9, w9 = wr := ⟨_, rfl⟩
            generalize w9.heap.size = X at *
            go_loopw [49] (fun cv W => ∃ c : Nat, cv = .int .i64 c ∧ c ≤ n1 ∧ Hid (Blk W X TTold (rowCs (keyC d out j c) 257)) ∧ Hid (PtIn w W M P n (n1 + 1) (keysJ d k out j) (partL d (k + 1) j) out #[.slice A1 n1 c1, .slice (some ⟨b2, o2, none⟩) n c2, .slice (some ⟨b3, o3, none⟩) n c3])) (fun cv _ => n1 - (intOf cv).toNat)
            case atStart => exact ⟨0, rfl, by omega, HX0, HI0⟩
            case round =>
              clear HX0 HI0
              obtain ⟨c, rfl, hc1, HX, HI⟩ := hrel
              have c0' : (0 : Int) ≤ (c : Int) := by omega
              by_cases hcn : c < n1
              · have c1' : (c : Int) < (n1 : Int) := by omega
                have c2' : (c : Int) < 256 := by omega
                obtain ⟨k3, k4⟩ := HK2.out c hcn
                have k3 := ((Keep.of HI.out.b).cell _ _ (World.block_lt_of_cell? _ _ k3)).trans k3
                have po := (HI.out.p.cell (d.go j c)).trans (rowCs_at HOL.out k4)
                obtain ⟨z, hz⟩ : ∃ z, out.getD (d.go j c) 0 = z := ⟨_, rfl⟩
                rw [hz] at po
                obtain ⟨t, ht⟩ : ∃ t, d.go j c = t := ⟨_, rfl⟩
                rw [ht] at po k3 k4
                have t0 : (0 : Int) ≤ (t : Int) := by omega
                have t1 : (t : Int) < (n : Int) := by omega
                have HKS : Hid (rowCs (keyC d out j (c + 1)) 257 = (rowCs (keyC d out j c) 257).setIfInBounds (1 + c) (.int .i64 z)) := Lib.hid (by
                  rw [keyC_succ, hz, ← rowCs_put (by rw [keyC_len]; omega), keyC_len, Nat.add_comm])
                have pc : wr.cell? ⟨X, 1 + c, none⟩ = some (.int .i64 0) := (HX.out.cell (1 + c)).trans (by
                  have h1 : 1 + c < (rowCs (keyC d out j c) 257).size := by rw [rowCs_size (by rw [keyC_len]; omega)]; omega
                  rw [Array.getElem?_eq_getElem h1]
                  simp [rowCs, keyC_len, Nat.add_comm])
                have pf := HX.out.frozen (1 + c)
                clear hz ht
                go_wp2
                go_roundw
                case rel => exact ⟨c + 1, by go_num, by omega, Lib.hid (by rw [HKS.out]; exact HX.out.set (1 + c) _), Lib.hid (HI.out.told HX.out HWX.out)⟩
                case measure => simp [intOf]; omega
              · obtain rfl : n1 = c := by omega
                have HKE : Hid (keyC d out j n1 = keyP d out j) := Lib.hid (by rw [← HNC.out]; exact keyC_all d out j)
                have hokk : okT (n1 + 1) (keyP d out j) := ⟨by rw [← HKE.out, keyC_len], by omega, keyP_bd HBD.out j⟩
                have hjd : j < d.next.length := by rw [HNN.out]; exact hjn
                rw [HKE.out] at HX
                have hMl : M + 1 < wr.heap.size := HI.out.q.lt
                have hnm := num_told (n1 + 1) M M (keysJ d k out j) (keyP d out j) wr HI.out.u hokk (by rw [keysJ_len]; have := fsts_len (d := d) (k + 1) j; omega) (by omega)
                unfold OfPost at hnm
                rw [keysJ_succ HOK.out HPK.out hjd, keysJ_idx HOK.out HPK.out hjd] at hnm
                obtain ⟨pj, hpj⟩ : ∃ pj, prt d (k + 1) d.next.length j = pj := ⟨_, rfl⟩
                rw [hpj] at hnm
                have HPJ := Lib.hid hpj
                have HNM := Lib.hid hnm
                obtain ⟨cs, hcs⟩ : ∃ cs, rowCs (keyP d out j) 257 = cs := ⟨_, rfl⟩
                have HSZ : Hid ((Tryz.prog.info? TTold).map (·.size) = some cs.size) := Lib.hid (by rw [← hcs, rowCs_size (by have := hokk.1; omega)]; exact info_told)
                have HE : Hid (encT (keyP d out j) = .agg cs) := Lib.hid (by show Value.agg (rowCs (keyP d out j) 257) = _; rw [hcs])
                rw [HE.out] at HNM
                rw [hcs] at HX
                clear hnm hpj hcs hokk hjd HKE
                go_wp2_with (first
                | (refine wpList_load_row rfl TTold _ rfl X rfl TTold _ (0, 0) _ HX.out Tryz.underlying112 rfl HSZ.out ?_)
                | (go_at_call 56
                   refine HNM.out.mono ?_
                   rintro e w5 ⟨rfl, hu, ho, hb⟩
                   have HI5 := Lib.hid (HI.out.come hu ho hb (by omega))
                   have pc : w5.cell? ⟨M + 1, j, none⟩ = some (.int .i64 0) := (HI5.out.q.cell j).trans (by
                     have h1 : j < (rowCs (partL d (k + 1) j) n).size := by rw [rowCs_size (by rw [partL_len]; omega)]; exact hjn
                     rw [Array.getElem?_eq_getElem h1]
                     simp [rowCs, partL_len])
                   have pf := HI5.out.q.frozen j
                   clear hu ho hb))
                go_roundw
                case rel => exact ⟨j + 1, by go_num, by omega, Lib.hid (by
                  have h := PtIn.set (y := (pj : Int)) HI5.out (by rw [partL_len]; exact hjn) HPM.out (by omega)
                  rw [partL_len] at h
                  rw [partL_succ, HPJ.out]
                  exact h)⟩
                case measure => simp [intOf]; omega
          · obtain rfl : n = j := by omega
            obtain ⟨_, ⟨h0, _⟩ | ⟨mb, hmb, hbx, hmq⟩⟩ := HI.out.u
            · have h1 := keysJ_len (d := d) (k := k) (out := out) (j := n)
              rw [h0] at h1
              have h2 := fsts_pos (k := k + 1) HOK.out
              rw [HNN.out] at h2
              simp at h1
              omega
            have pN := Blk.cell1 hbx
            have hlen := MapQ.len Tryz.underlying107 hmq
            have hml : (keysJ d k out n).length = manyK d (k + 1) := by rw [keysJ_len, ← HNN.out]; rfl
            rw [hml] at hlen
            have hM1 : M < wr.heap.size := by have := HI.out.q.lt; omega
            by_cases hq : manyK d (k + 1) = manyK d k
            · have HDN := Lib.hid (fun s t hs ht => manyK_done HOK.out k hq (s := s) (t := t) hs ht)
              have q1 : ((manyK d (k + 1) : Int) == (manyK d k : Int)) = true := by rw [hq]; simp
              clear hq hml
              go_wp2
              go_ret
              refine ⟨M + 1, partL d (k + 1) n, rfl, HI.out.q, by omega, HI.out.b, partL_len _ _, fun s t hs ht => ?_, fun x hx => ?_⟩
              · have := HDN.out s t (by rw [HNN.out]; exact hs) (by rw [HNN.out]; exact ht)
                rw [HNN.out] at this
                exact this
              · rw [← HNN.out] at hx
                have := partL_bd (k + 1) x hx
                have := HNN.out
                omega
            · have q1 : ((manyK d (k + 1) : Int) == (manyK d k : Int)) = false := by simp; omega
              have HG := Lib.hid (manyK_grow HOK.out k hq)
              have HLE := Lib.hid (manyK_le (d := d) (k + 1))
              clear hq hml
              go_wp2
              go_roundw
              case rel => exact ⟨k + 1, M + 1, partL d (k + 1) n, rfl, rfl, Lib.hid (by rw [← HNN.out]; exact partL_ok (k + 1)), Lib.hid (fun x hx => by rw [← HNN.out] at hx; have := partL_bd (k + 1) x hx; have := HNN.out; omega), by omega, HI.out.q, HI.out.a, HI.out.b⟩
              case measure => have := HG.out; have := HLE.out; have := HNN.out; simp [intOf]; omega
end Go.Proofs.YtjnjbcigbnjmkaaGreat

namespace Go.Proofs.YtjnjbcigbnjmkaaGreat
open Go.RowKit Pv

/-- What the closure reads. -/
structure TEnv (W : World) (bs bp bd : Nat) (S : Option Addr) (m sc P n n1 : Nat) (part : List Int) (st : List Nat) (d : Dfa) (b2 o2 c2 : Nat) : Prop where
  s : W.cell? ⟨bs, 0, none⟩ = some (.slice S m sc)
  p : W.cell? ⟨bp, 0, none⟩ = some (.slice (some ⟨P, 0, none⟩) n n)
  q : Blk W P TLI (rowCs part n)
  a : W.cell? ⟨bd, 1, none⟩ = some (.slice (some ⟨b2, o2, none⟩) n c2)
  r : ∀ s, s < n → ∃ rb ro rc, W.cell? ⟨b2, o2 + s, none⟩ = some (.slice (some ⟨rb, ro, none⟩) n1 rc) ∧ ∀ c, c < n1 → W.cell? ⟨rb, ro + c, none⟩ = some (.int .i64 (d.go s c)) ∧ d.go s c < n
  t : At W S RI (numI st)
theorem TEnv.next {W W' : World} {bs bp bd : Nat} {S : Option Addr} {m sc P n n1 : Nat} {part : List Int} {st : List Nat} {d : Dfa} {b2 o2 c2 : Nat} (h : TEnv W bs bp bd S m sc P n n1 part st d b2 o2 c2) (hb : Below W.heap.size W W') : TEnv W' bs bp bd S m sc P n n1 part st d b2 o2 c2 := by
  have k := fun b o v (h : W.cell? ⟨b, o, none⟩ = some v) => ((Keep.of hb).cell b o (World.block_lt_of_cell? _ _ h)).trans h
  refine ⟨k _ _ _ h.s, k _ _ _ h.p, h.q.below hb h.q.lt, k _ _ _ h.a, fun s hs => ?_, h.t.keep (Keep.of hb)⟩
  obtain ⟨rb, ro, rc, h1, h2⟩ := h.r s hs
  exact ⟨rb, ro, rc, k _ _ _ h1, fun c hc => ⟨k _ _ _ (h2 c hc).1, (h2 c hc).2⟩⟩
/-- Where a state's part changes from one class to the next. -/
def Tpart (part : List Int) (d : Dfa) (c s : Nat) : Prop := part.getD (d.go s c) 0 ≠ part.getD (d.go s (c - 1)) 0
theorem cell_row {W : World} {P n : Nat} {part : List Int} (h : Blk W P TLI (rowCs part n)) (hl : part.length = n) {i : Nat} (hi : i < n) : W.cell? ⟨P, i, none⟩ = some (.int .i64 (part.getD i 0)) := (h.cell i).trans (rowCs_at hl hi)

set_option maxHeartbeats 2000000 in
set_option maxRecDepth 100000 in
theorem least_11 (bs bp bd bc : Nat) (S : Option Addr) (m sc P n n1 : Nat) (part : List Int) (st : List Nat) (d : Dfa) (b2 o2 c2 s c : Nat) (W : World) (h : TEnv W bs bp bd S m sc P n n1 part st d b2 o2 c2) (hl : part.length = n) (hs : s < n) (hn : n ≤ 64) (hc0 : 0 < c) (hc : c < n1) (hn1 : n1 ≤ 256) (hbc : W.cell? ⟨bc, 0, none⟩ = some (.int .i64 (c : Nat))) :
    Calls Tryz.prog 32 #[.int .i64 s, .pointer (some ⟨bp, 0, none⟩), .pointer (some ⟨bd, 0, none⟩), .pointer (some ⟨bc, 0, none⟩)] W fun e w' => e = .returned (.bool (yes (Tpart part d c s))) ∧ Below W.heap.size W w' := by
  obtain ⟨rb, ro, rc, k1, k2⟩ := h.r s hs
  obtain ⟨k3, k4⟩ := k2 c hc
  obtain ⟨c', HC⟩ : ∃ c', Hid (c - 1 = c') := ⟨_, Lib.hid rfl⟩
  have hcc := HC.out
  obtain ⟨k5, k6⟩ := k2 c' (by omega)
  have p1 := h.p; have p2 := h.a
  have x1 := cell_row h.q hl k4
  have x2 := cell_row h.q hl k6
  have s0 : (0 : Int) ≤ (s : Int) := by omega
  have s1 : (s : Int) < (n : Int) := by omega
  have w1' : wrap64 ((c : Int) - 1) = (c' : Int) := by rw [show (c : Int) - 1 = (c' : Int) by omega]; simp [wrap64]; omega
  have w2' : IntKind.i64.wrap ((c : Int) - 1) = (c' : Int) := by rw [IntKind.wrap_i64]; omega
  have i1 : (0 : Int) ≤ (c : Int) := by omega
  have i2 : (c : Int) < (n1 : Int) := by omega
  have i3 : (0 : Int) ≤ (c' : Int) := by omega
  have i4 : (c' : Int) < (n1 : Int) := by omega
  have HANS : Hid ((!(part.getD (d.go s c) 0 == part.getD (d.go s c') 0)) = yes (Tpart part d c s)) := Lib.hid (by
    unfold Tpart
    rw [HC.out]
    by_cases e : part.getD (d.go s c) 0 = part.getD (d.go s c') 0
    · rw [yes_f (fun h => h e), e]; simp
    · rw [yes_t e, beq_false_of_ne e]; rfl)
  obtain ⟨t, ht⟩ : ∃ t, d.go s c = t := ⟨_, rfl⟩
  obtain ⟨u, hu⟩ : ∃ u, d.go s c' = u := ⟨_, rfl⟩
  rw [ht] at k3 k4 x1 HANS
  rw [hu] at k5 k6 x2 HANS
  obtain ⟨x, hx⟩ : ∃ x, part.getD t 0 = x := ⟨_, rfl⟩
  obtain ⟨y, hy⟩ : ∃ y, part.getD u 0 = y := ⟨_, rfl⟩
  rw [hx] at x1 HANS
  rw [hy] at x2 HANS
  obtain ⟨ans, hans⟩ : ∃ ans, yes (Tpart part d c s) = ans := ⟨_, rfl⟩
  rw [hans] at HANS ⊢
  have t0 : (0 : Int) ≤ (t : Int) := by omega
  have t1 : (t : Int) < (n : Int) := by omega
  have u0 : (0 : Int) ≤ (u : Int) := by omega
  have u1 : (u : Int) < (n : Int) := by omega
  clear k2 h hcc ht hu hx hy hans
  go_enter Tryz.func32, Tryz.ntmps32
  go_wp2
  go_quiet (fail)
  rename_i nq
  go_wp2
  go_ret
  exact ⟨ret_bool HANS.out, below_drewN (Below.refl _ _) nq⟩

abbrev clT (bp bd bc : Nat) : Value := .func (.func 32) #[] #[.pointer (some ⟨bp, 0, none⟩), .pointer (some ⟨bd, 0, none⟩), .pointer (some ⟨bc, 0, none⟩)]
set_option maxHeartbeats 2000000 in
set_option maxRecDepth 100000 in
theorem index_turns (bs bp bd bc : Nat) (S : Option Addr) (m sc P n n1 : Nat) (part : List Int) (st : List Nat) (d : Dfa) (b2 o2 c2 c : Nat) (w : World) (h : TEnv w bs bp bd S m sc P n n1 part st d b2 o2 c2) (hl : part.length = n) (hn : n ≤ 64) (hc0 : 0 < c) (hc : c < n1) (hn1 : n1 ≤ 256) (hbc : w.cell? ⟨bc, 0, none⟩ = some (.int .i64 (c : Nat)))
    (hst : ∀ s, s ∈ st → s < n) (HM : Hid ((numI st).length = m)) :
    Calls Tryz.prog 57 #[.slice S m sc, clT bp bd bc] w fun e w' => (∃ r : Int, e = .returned (.int .i64 r) ∧ (0 ≤ r ↔ ∃ s, s ∈ st ∧ Tpart part d c s)) ∧ Below w.heap.size w w' := by
  have hm : m ≤ 140737488355328 := by have := h.t.1; rwa [HM.out] at this
  have HH := Lib.hid h; have HST := Lib.hid hst
  clear h hst
  go_enter Tryz.func57, Tryz.ntmps57
  go_wp2
  go_loopw [8] (fun i wr => ∃ k : Nat, i = .int .i64 k ∧ k ≤ m ∧ Hid (∀ (i : Nat) s, i < k → st[i]? = some s → ¬ Tpart part d c s) ∧ Hid (Below w.heap.size w wr)) (fun i _ => m - (intOf i).toNat)
  case atStart => exact ⟨0, rfl, by omega, Lib.hid (by intros; omega), Lib.hid (Below.refl _ _)⟩
  case round =>
    obtain ⟨k, rfl, hk, HNO, HB⟩ := hrel
    by_cases hlt : k < m
    · obtain ⟨bb, off, u, x, rfl, hbl, cc, ⟨rfl, _, _⟩, HX⟩ := (HH.out.t.keep (Keep.of HB.out)).gt HM hlt
      obtain ⟨s, hs, rfl⟩ : ∃ s : Nat, st[k]? = some s ∧ (s : Int) = x := by
        have h1 := HX.out
        rw [List.getElem?_map] at h1
        obtain ⟨y, h2, h3⟩ := Option.map_eq_some_iff.1 h1
        exact ⟨y, h2, h3⟩
      have HS := Lib.hid hs
      have k1 : (0 : Int) ≤ (k : Int) := by omega
      have k2 : (k : Int) < (m : Int) := by omega
      have HC := Lib.hid (least_11 bs bp bd bc _ m sc P n n1 part st d b2 o2 c2 s c wr (HH.out.next HB.out) hl (HST.out s (mem_of_get hs)) hn hc0 hc hn1 (((Keep.of HB.out).cell bc 0 (World.block_lt_of_cell? _ _ hbc)).trans hbc))
      clear hs
      by_cases hh : Tpart part d c s
      · rw [yes_t hh] at HC
        have HY := Lib.hid (show ∃ s, s ∈ st ∧ Tpart part d c s from ⟨s, mem_of_get HS.out, hh⟩)
        clear hh
        go_wp2_with fail
        refine HC.out.mono ?_
        rintro e w2 ⟨rfl, hb2⟩
        have B2 := Lib.hid (HB.out.trans (hb2.mono HB.out.size))
        clear hb2
        go_wp2
        go_ret
        exact ⟨⟨_, rfl, fun _ => HY.out, fun _ => by omega⟩, B2.out⟩
      · rw [yes_f hh] at HC
        have HN2 := Lib.hid (fun (i : Nat) (x : Nat) (hi' : i < k + 1) (hx : st[i]? = some x) => (show ¬ Tpart part d c x from by
          by_cases e : i = k
          · subst e
            obtain rfl := Option.some.inj (hx.symm.trans HS.out)
            exact hh
          · exact HNO.out i x (by omega) hx))
        clear hh
        go_wp2_with fail
        refine HC.out.mono ?_
        rintro e w2 ⟨rfl, hb2⟩
        have B2 := Lib.hid (HB.out.trans (hb2.mono HB.out.size))
        clear hb2
        go_wp2
        go_roundw
        case rel => exact ⟨k + 1, by go_num, by omega, HN2, B2⟩
        case measure => simp [intOf]; omega
    · have HN := Lib.hid (show ¬ ∃ s, s ∈ st ∧ Tpart part d c s from by
        rintro ⟨s, h1, h2⟩
        obtain ⟨i, hi⟩ := List.getElem?_of_mem h1
        exact HNO.out i s (by have := lt_of_get hi; have := HM.out; simp at this; omega) hi h2)
      go_wp2
      go_ret
      exact ⟨⟨-1, rfl, fun h => by omega, fun h => absurd h HN.out⟩, HB.out⟩

set_option maxHeartbeats 1000000 in
set_option maxRecDepth 100000 in
theorem contains_turns (bs bp bd bc : Nat) (S : Option Addr) (m sc P n n1 : Nat) (part : List Int) (st : List Nat) (d : Dfa) (b2 o2 c2 c : Nat) (w : World) (h : TEnv w bs bp bd S m sc P n n1 part st d b2 o2 c2) (hl : part.length = n) (hn : n ≤ 64) (hc0 : 0 < c) (hc : c < n1) (hn1 : n1 ≤ 256) (hbc : w.cell? ⟨bc, 0, none⟩ = some (.int .i64 (c : Nat)))
    (hst : ∀ s, s ∈ st → s < n) (HM : Hid ((numI st).length = m)) :
    Calls Tryz.prog 31 #[.slice S m sc, clT bp bd bc] w fun e w' => e = .returned (.bool (yes (∃ s, s ∈ st ∧ Tpart part d c s))) ∧ Below w.heap.size w w' := by
  have HI := Lib.hid (index_turns bs bp bd bc S m sc P n n1 part st d b2 o2 c2 c w h hl hn hc0 hc hn1 hbc hst HM)
  clear h hbc
  go_enter Tryz.func31, Tryz.ntmps31
  go_wp2_with fail
  refine HI.out.mono ?_
  rintro e w2 ⟨⟨r, rfl, hr⟩, hb2⟩
  have HR := Lib.hid (show decide (0 ≤ r) = yes (∃ s, s ∈ st ∧ Tpart part d c s) by
    by_cases h0 : ∃ s, s ∈ st ∧ Tpart part d c s
    · rw [yes_t h0]; exact decide_eq_true (hr.2 h0)
    · rw [yes_f h0]; exact decide_eq_false (fun h1 => h0 (hr.1 h1)))
  have B2 := Lib.hid hb2
  clear hr hb2
  go_wp2
  go_ret
  exact ⟨ret_bool HR.out, B2.out⟩

set_option maxHeartbeats 1000000 in
set_option maxRecDepth 100000 in
theorem least_1 (bs bp bd : Nat) (S : Option Addr) (m sc P n n1 : Nat) (part : List Int) (st : List Nat) (d : Dfa) (b2 o2 c2 c : Nat) (w : World) (h : TEnv w bs bp bd S m sc P n n1 part st d b2 o2 c2) (hl : part.length = n) (hn : n ≤ 64) (hc : c < n1) (hn1 : n1 ≤ 256)
    (hst : ∀ s, s ∈ st → s < n) (HM : Hid ((numI st).length = m)) :
    Calls Tryz.prog 30 #[.int .i64 c, .pointer (some ⟨bs, 0, none⟩), .pointer (some ⟨bp, 0, none⟩), .pointer (some ⟨bd, 0, none⟩)] w fun e w' => e = .returned (.bool (yes (c = 0 ∨ ∃ s, s ∈ st ∧ Tpart part d c s))) ∧ Below w.heap.size w w' := by
  have hW : Below w.heap.size w (w.alloc (.cells #[.int .i64 c] 3)) := (Below.refl _ _).alloc (Nat.le_refl _) _
  have HW := Lib.hid hW
  by_cases h0 : c = 0
  · have HA : Hid (true = yes (c = 0 ∨ ∃ s, s ∈ st ∧ Tpart part d c s)) := Lib.hid (yes_t (.inl h0)).symm
    generalize yes (c = 0 ∨ ∃ s, s ∈ st ∧ Tpart part d c s) = ans at *
    subst h0
    clear h hW
    go_enter Tryz.func30, Tryz.ntmps30
    go_wp2
    go_ret
    exact ⟨ret_bool HA.out, HW.out⟩
  · have h1 : ¬ (c : Int) = 0 := by omega
    have h2 : ((c : Int) == 0) = false := by simp; omega
    have HC := Lib.hid (contains_turns bs bp bd w.heap.size S m sc P n n1 part st d b2 o2 c2 c _ (h.next hW) hl hn (by omega) hc hn1 ((Blk.new w 3 #[.int .i64 c]).cell 0) hst HM)
    have HA : Hid (yes (∃ s, s ∈ st ∧ Tpart part d c s) = yes (c = 0 ∨ ∃ s, s ∈ st ∧ Tpart part d c s)) := Lib.hid (by
      congr 1; exact propext ⟨fun h => .inr h, fun h => h.resolve_left h0⟩)
    have p1 := h.s
    have hbs := World.block_lt_of_cell? _ _ p1
    clear h hW h0
    go_enter Tryz.func30, Tryz.ntmps30
    go_wp2_with fail
    refine HC.out.mono ?_
    rintro e w2 ⟨rfl, hb2⟩
    have B2 := Lib.hid (HW.out.trans (hb2.mono HW.out.size))
    clear hb2
    go_wp2
    go_ret
    exact ⟨ret_bool HA.out, B2.out⟩
end Go.Proofs.YtjnjbcigbnjmkaaGreat

namespace Go.Proofs.YtjnjbcigbnjmkaaGreat
open Go.RowKit Go.Maps Pv

/-- The automaton's box, the parts' and the states', the states, the numbers. M: what was there when the parts were made. -/
structure LIn (w W : World) (M N Bp Bs P n m sc : Nat) (S : Option Addr) (part : List Int) (st : List Nat) (av : Array Value) : Prop where
  a : Blk W w.heap.size TDfa av
  pb : Blk W Bp TLL #[.slice (some ⟨P, 0, none⟩) n n]
  q : Blk W P TLI (rowCs part n)
  sb : Blk W Bs TLL #[.slice S m sc]
  sr : W.ownsRow M TLI 1 (.slice S m sc) m ((numI st).map (Value.int .i64))
  u : NumAt encI okI TNI W M N (ptL part st)
  b : Below w.heap.size w W
  pm : P < M
  wm : w.heap.size + 1 < M
  bp : M ≤ Bp
  bs : M ≤ Bs
section
variable {w W W' : World} {M N Bp Bs P n m sc : Nat} {S : Option Addr} {part : List Int} {st : List Nat} {av : Array Value}
theorem LIn.next (h : LIn w W M N Bp Bs P n m sc S part st av) (hb : Below W.heap.size W W') : LIn w W' M N Bp Bs P n m sc S part st av :=
  ⟨h.a.below hb h.a.lt, h.pb.below hb h.pb.lt, h.q.below hb h.q.lt, h.sb.below hb h.sb.lt, ownsRow_below h.sr hb, h.u.below hb, h.b.trans (hb.mono h.b.size), h.pm, h.wm, h.bp, h.bs⟩
/-- A key's number is asked for. -/
theorem LIn.come (h : LIn w W M N Bp Bs P n m sc S part st av) (ho : Oth TNI W W') (hb : Below M W W') :
    Blk W' w.heap.size TDfa av ∧ Blk W' Bp TLL #[.slice (some ⟨P, 0, none⟩) n n] ∧ Blk W' P TLI (rowCs part n) ∧ Blk W' Bs TLL #[.slice S m sc] ∧ W'.ownsRow M TLI 1 (.slice S m sc) m ((numI st).map (Value.int .i64)) ∧ Below w.heap.size w W' :=
  ⟨ho.blk _ _ _ (by decide) h.a, ho.blk _ _ _ (by decide) h.pb, ho.blk _ _ _ (by decide) h.q, ho.blk _ _ _ (by decide) h.sb, ho.own (by decide) h.sr, h.b.trans (hb.mono (by have := h.wm; omega))⟩
theorem LIn.same (h : LIn w W M N Bp Bs P n m sc S part st av) (hu : NumAt encI okI TNI W' M N (ptL part st)) (ho : Oth TNI W W') (hb : Below M W W') : LIn w W' M N Bp Bs P n m sc S part st av := by
  obtain ⟨h1, h2, h3, h4, h5, h6⟩ := h.come ho hb
  exact ⟨h1, h2, h3, h4, h5, hu, h6, h.pm, h.wm, h.bp, h.bs⟩
/-- A state more. -/
theorem LIn.push {W2 : World} {t : Nat} {S2 : Option Addr} {sc2 : Nat} (h1 : Blk W w.heap.size TDfa av) (h2 : Blk W Bp TLL #[.slice (some ⟨P, 0, none⟩) n n]) (h3 : Blk W P TLI (rowCs part n)) (h4 : Blk W Bs TLL #[.slice S m sc]) (h5 : W.ownsRow M TLI 1 (.slice S m sc) m ((numI st).map (Value.int .i64))) (h6 : Below w.heap.size w W)
    (hu : NumAt encI okI TNI W M N (ptL part (st ++ [t]))) (hpm : P < M) (hwm : w.heap.size + 1 < M) (hbp : M ≤ Bp) (hbs : M ≤ Bs) (hne : Bp ≠ Bs)
    (own : W2.ownsRow M TLI 1 (.slice S2 (m + 1) sc2) (m + 1) ((numI st).map (Value.int .i64) ++ [.int .i64 (t : Int)])) (gr : (W.alloc (.cells #[.int .i64 (t : Int)] TLI)).grownBy W2 (Value.slice S m sc).ownBlock) :
    LIn w (W2.setCell ⟨Bs, 0, none⟩ (.slice S2 (m + 1) sc2)) M N Bp Bs P n (m + 1) sc2 S2 part (st ++ [t]) av := by
  have hb : Below W.heap.size W (W.alloc (.cells #[.int .i64 (t : Int)] TLI)) := (Below.refl _ _).alloc (Nat.le_refl _) _
  have ow := ownsRow_below h5 hb
  have s4 := (h4.below hb h4.lt).grown gr (own_blk_ne ow (h4.below hb h4.lt) (by decide))
  have hP : some P ≠ (Value.slice S m sc).ownBlock := fun e => by have := (ow.lt P e.symm).1; omega
  refine ⟨((h1.below hb h1.lt).grown gr (own_blk_ne ow (h1.below hb h1.lt) (by decide))).far (p := ⟨Bs, 0, none⟩) (by simp; omega) _, ((h2.below hb h2.lt).grown gr (own_blk_ne ow (h2.below hb h2.lt) (by decide))).far (p := ⟨Bs, 0, none⟩) hne _, ((h3.below hb h3.lt).grown gr hP).far (p := ⟨Bs, 0, none⟩) (by simp; omega) _, s4.set 0 _, ?_, (((hu.below hb).grown ow (by decide) gr).far s4 (by decide)), ((h6.alloc h6.size _).grown gr (by have := h6.size; simp; omega) (fun g hg => by have := (ow.lt g hg).1; omega)).setCell (p := ⟨Bs, 0, none⟩) (by simp; omega) _, hpm, hwm, hbp, hbs⟩
  have e : (numI (st ++ [t])).map (Value.int .i64) = (numI st).map (Value.int .i64) ++ [.int .i64 (t : Int)] := by simp
  rw [e]
  exact ownsRow_setFar own s4 (by decide) _ _
/-- A store into a box of another type than lists. -/
theorem LIn.far {g i : Nat} {v : Value} (h : LIn w W M N Bp Bs P n m sc S part st av) {t : TypeId} {cs : Array Value} (hb : Blk W g t cs) (hg : g ≠ w.heap.size) (hg2 : w.heap.size ≤ g) (h1 : TLL ≠ t) (h2 : TLI ≠ t) (h3 : TNI ≠ t) : LIn w (W.setCell ⟨g, i, none⟩ v) M N Bp Bs P n m sc S part st av :=
  ⟨h.a.far (p := ⟨g, i, none⟩) (Ne.symm hg) v, h.pb.far (p := ⟨g, i, none⟩) (h.pb.ne hb h1) v, h.q.far (p := ⟨g, i, none⟩) (h.q.ne hb h2) v, h.sb.far (p := ⟨g, i, none⟩) (h.sb.ne hb h1) v, ownsRow_setFar h.sr hb h2 i v, h.u.far hb h3, h.b.setCell (p := ⟨g, i, none⟩) hg2 v, h.pm, h.wm, h.bp, h.bs⟩
/-- An append onto numbers that came later. -/
theorem LIn.growI {G k : Nat} {rv : Value} {us : List Value} (h : LIn w W M N Bp Bs P n m sc S part st av) (hr : W.ownsRow G TLI 1 rv k us) (hg : W.grownBy W' rv.ownBlock) (hG : M ≤ G) (hS : ∀ g, (Value.slice S m sc).ownBlock = some g → g < G) : LIn w W' M N Bp Bs P n m sc S part st av := by
  have hP : some P ≠ rv.ownBlock := fun e => by have := (hr.lt P e.symm).1; have := h.pm; omega
  have hs : (Value.slice S m sc).ownBlock = none ∨ (Value.slice S m sc).ownBlock ≠ rv.ownBlock := by
    cases e : (Value.slice S m sc).ownBlock with
    | none => exact .inl rfl
    | some g => exact .inr fun e2 => by have := (hr.lt g e2.symm).1; have := hS g e; omega
  exact ⟨h.a.grown hg (own_blk_ne hr h.a (by decide)), h.pb.grown hg (own_blk_ne hr h.pb (by decide)), h.q.grown hg hP, h.sb.grown hg (own_blk_ne hr h.sb (by decide)), h.sr.kept hg hs, h.u.grown hr (by decide) hg, h.b.grown hg h.b.size (fun g hgg => by have := (hr.lt g hgg).1; have := h.wm; omega), h.pm, h.wm, h.bp, h.bs⟩
/-- An append onto what accepts. -/
theorem LIn.growB {G k : Nat} {rv : Value} {us : List Value} (h : LIn w W M N Bp Bs P n m sc S part st av) (hr : W.ownsRow G 4 1 rv k us) (hg : W.grownBy W' rv.ownBlock) (hG : M ≤ G) : LIn w W' M N Bp Bs P n m sc S part st av :=
  ⟨h.a.grown hg (own_blk_ne hr h.a (by decide)), h.pb.grown hg (own_blk_ne hr h.pb (by decide)), h.q.grown hg (own_blk_ne hr h.q (by decide)), h.sb.grown hg (own_blk_ne hr h.sb (by decide)), h.sr.kept hg (own_ne h.sr hr (by decide)), h.u.grown hr (by decide) hg, h.b.grown hg h.b.size (fun g hgg => by have := (hr.lt g hgg).1; have := h.wm; omega), h.pm, h.wm, h.bp, h.bs⟩
/-- A store into the block of rows. -/
theorem LIn.col {G i : Nat} {v : Value} {cs : Array Value} (h : LIn w W M N Bp Bs P n m sc S part st av) (hb : Blk W G TLL cs) (hG : M ≤ G) (h1 : Bp ≠ G) (h2 : Bs ≠ G) : LIn w (W.setCell ⟨G, i, none⟩ v) M N Bp Bs P n m sc S part st av :=
  ⟨h.a.far (p := ⟨G, i, none⟩) (by have := h.wm; simp; omega) v, h.pb.far (p := ⟨G, i, none⟩) h1 v, h.q.far (p := ⟨G, i, none⟩) (by have := h.pm; simp; omega) v, h.sb.far (p := ⟨G, i, none⟩) h2 v, ownsRow_setFar h.sr hb (by decide) i v, h.u.far hb (by decide), h.b.setCell (p := ⟨G, i, none⟩) (by have := h.wm; simp; omega) v, h.pm, h.wm, h.bp, h.bs⟩
/-- What the closure reads. -/
theorem LIn.env {n1 b2 o2 c2 c1 c3 : Nat} {A1 A3 : Option Addr} {n3 : Nat} {d : Dfa} (h : LIn w W M N Bp Bs P n m sc S part st #[.slice A1 n1 c1, .slice (some ⟨b2, o2, none⟩) n c2, .slice A3 n3 c3]) (hst : ∀ s, s ∈ st → s < n) (hn : n ≤ 1000000) (hm : st.length = m) (hm2 : m ≤ 1000000)
    (hr : ∀ s, s < n → ∃ rb ro rc, rb < w.heap.size ∧ w.cell? ⟨b2, o2 + s, none⟩ = some (.slice (some ⟨rb, ro, none⟩) n1 rc) ∧ ∀ c, c < n1 → w.cell? ⟨rb, ro + c, none⟩ = some (.int .i64 (d.go s c)) ∧ d.go s c < n) : TEnv W Bs Bp w.heap.size S m sc P n n1 part st d b2 o2 c2 := by
  have k := fun b o v (h' : w.cell? ⟨b, o, none⟩ = some v) => ((Keep.of h.b).cell b o (World.block_lt_of_cell? _ _ h')).trans h'
  refine ⟨h.sb.cell 0, h.pb.cell 0, h.q, h.a.cell 1, fun s hs => ?_, ?_⟩
  · obtain ⟨rb, ro, rc, _, h1, h2⟩ := hr s hs
    exact ⟨rb, ro, rc, k _ _ _ h1, fun c hc => ⟨k _ _ _ (h2 c hc).1, (h2 c hc).2⟩⟩
  · exact (own_states h.sr hst hn hm hm2).1
end
end Go.Proofs.YtjnjbcigbnjmkaaGreat
