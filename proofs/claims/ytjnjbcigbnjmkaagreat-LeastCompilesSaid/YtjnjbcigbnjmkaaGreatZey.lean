/- Walks: sets of states, by the document: the list of a table, whether a number is on a list, where a number leads. PUT1 -/
import Derived.Test.YtjnjbcigbnjmkaaGreatZby
import Derived.Test.YtjnjbcigbnjmkaaGreatTzy
import Derived.Test.YtjnjbcigbnjmkaaGreatBfy
import Derived.Test.YtjnjbcigbnjmkaaGreatQgy
import Derived.Test.YtjnjbcigbnjmkaaGreatQvy
import Derived.Deep.OwnRows
import Derived.StillTailTactics
namespace Go.Proofs.YtjnjbcigbnjmkaaGreat
open Go.RowKit Pv

theorem info_bool9 : (Tryz.prog.info? 4).map (fun i => (i.zero, i.size, i.bytes)) = some (some (.bool false), 1, 1) := by kernel_rfl
theorem info_int9 : (Tryz.prog.info? 3).map (fun i => (i.zero, i.size, i.bytes)) = some (some (.int .i64 0), 1, 8) := by kernel_rfl
/-- A set's table: a row of bools. -/
def TbS (w : World) (g n : Nat) (S : Nat → Prop) : Prop := w.rowIs g 4 n (fun i => .bool (yes (S i)))
section
variable {w w' : World} {g n : Nat} {S S' : Nat → Prop}
theorem TbS.cell (h : TbS w g n S) {i : Nat} (hi : i < n) : w.cell? ⟨g, i, none⟩ = some (.bool (yes (S i))) := World.rowIs.cell h hi
theorem TbS.frozen (h : TbS w g n S) (i : Nat) : w.frozen? ⟨g, i, none⟩ = false := World.rowIs.frozen h i
theorem TbS.lt (h : TbS w g n S) : g < w.heap.size := World.rowIs.lt h
theorem TbS.of_block (h : TbS w g n S) (e : w'.heap[g]? = w.heap[g]?) : TbS w' g n S := World.rowIs.of_block h e
theorem TbS.below (h : TbS w g n S) (hb : Below w.heap.size w w') : TbS w' g n S := h.of_block (hb.block _ h.lt)
theorem TbS.congr (h : TbS w g n S) (e : ∀ i, i < n → (S i ↔ S' i)) : TbS w g n S' := World.rowIs.congr h fun i hi => by rw [show S i = S' i from propext (e i hi)]
theorem TbS.set (h : TbS w g n S) (i : Nat) (e : ∀ j, j < n → (S' j ↔ (S j ∨ j = i))) : TbS (w.setCell ⟨g, i, none⟩ (.bool true)) g n S' := by
  refine World.rowIs.congr (World.rowIs.set h i (.bool true)) fun j hj => ?_
  by_cases hji : j = i
  · rw [if_pos hji, yes_t ((e j hj).2 (.inr hji))]
  · rw [if_neg hji, show S' j = S j from propext ((e j hj).trans ⟨fun h => h.resolve_right hji, .inl⟩)]
theorem TbS.made (w : World) (n : Nat) : TbS (w.alloc (.cells (madeCells #[.bool false] n) 4)) w.heap.size n (fun _ => False) :=
  World.rowIs.congr (World.rowIs_made w (.bool false) n 4) fun i _ => by rw [yes_f (fun h => h)]
end

set_option maxHeartbeats 1000000 in
set_option maxRecDepth 100000 in
theorem ref09_list (g c n : Nat) (S : Nat → Prop) (w : World) (hn : n ≤ 100000) (h : TbS w g n S) :
    Calls Tryz.prog 84 #[.slice (some ⟨g, 0, none⟩) n c] w fun e w' => ∃ v, e = .returned v ∧ OwnI w' w.heap.size v (stL n S) ∧ Below w.heap.size w w' := by
  obtain ⟨i0, hi0, hz0, hs0, hb0⟩ := info_parts info_int9
  have HT := Lib.hid h
  clear h
  go_enter Tryz.func84, Tryz.ntmps84
  go_wp2
  go_loopw [4, 3] (fun kv lv wr => ∃ (k m : Nat) (A : Option Addr) (c : Nat), kv = .int .i64 k ∧ k ≤ n ∧ lv = .slice A m c ∧ m ≤ k ∧ Hid (m = (stL k S).length) ∧ Hid (wr.ownsRow w.heap.size 3 1 (.slice A m c) m ((stL k S).map (Value.int .i64))) ∧ Hid (Below w.heap.size w wr)) (fun kv _ _ => n - (intOf kv).toNat)
  case atStart => exact ⟨0, 0, none, 0, rfl, by omega, rfl, by omega, Lib.hid rfl, Lib.hid (World.ownsRow_nil _ _ _ _), Lib.hid (Below.refl _ _)⟩
  case round =>
    obtain ⟨k, m, A, c', rfl, hk, rfl, hm, HM, HO, HB⟩ := hrel
    by_cases hlt : k < n
    · have hc := (HT.out.below HB.out).cell hlt
      have hg := HT.out.lt
      have i1 : (0 : Int) ≤ (k : Int) := by omega
      have i2 : (k : Int) < (n : Int) := by omega
      have HS := Lib.hid (stL_succ S k)
      have Q1 : Hid (m + 1 ≤ maxLen) := Lib.hid (by simp only [maxLen]; omega)
      have Q2 : Hid ((m + 1) * 8 ≤ 140737488355328) := Lib.hid (by omega)
      have Q3 : Hid (w.heap.size ≤ (wr.alloc (.cells #[.int .i64 k] 3)).heap.size) := Lib.hid (by have h1 := HB.out.size; simp; omega)
      have SRC := Lib.hid (Src.one (w := wr) (x := .int .i64 k) (t := 3) rfl)
      have OW := Lib.hid (HO.out.alloc (.cells #[.int .i64 k] 3))
      cases hy : yes (S k)
      case true =>
        rw [hy] at hc HS
        simp only [if_true] at HS
        clear hy
        go_wp2_with (first
          | (at_builtin
             go_must (refine wpList_append_src _ rfl (.tmp 15) (.tmp 17) 26 rfl w.heap.size 3 i0 (.int .i64 0) 1 8 Tryz.underlying26 hi0 hz0 hs0 hb0 rfl (by decide) A c' m _ rfl OW.out _ 1 1 _ rfl SRC.out Q1.out Q2.out Q3.out ?_)
             intro A4 c4 w4 own4 gr4 _
             have hb4 := ((HB.out.alloc HB.out.size (.cells #[.int .i64 k] 3)).grown gr4 Q3.out (fun g hg => (OW.out.lt g hg).1))
             have B4 := Lib.hid hb4; have O4 := Lib.hid own4
             clear gr4 own4 hb4))
        go_roundw
        case rel => exact ⟨k + 1, m + 1, A4, c4, by go_num, by omega, rfl, by omega, Lib.hid (by rw [HS.out, List.length_append, ← HM.out]; rfl), Lib.hid (by rw [HS.out, List.map_append]; exact O4.out), B4⟩
        case measure => simp [intOf]; omega
      case false =>
        rw [hy] at hc HS
        simp only [Bool.false_eq_true, if_false] at HS
        clear hy
        go_wp2
        go_roundw
        case rel => exact ⟨k + 1, m, A, c', by go_num, by omega, rfl, by omega, Lib.hid (by rw [HS.out]; exact HM.out), Lib.hid (by rw [HS.out]; exact HO.out), HB⟩
        case measure => simp [intOf]; omega
    · obtain rfl : k = n := by omega
      go_wp2
      go_ret
      have hm := HM.out
      subst hm
      exact ⟨_, rfl, ⟨A, c', rfl, HO.out⟩, HB.out⟩

/-- Where a number leads: of the first states; of the first edges of one besides. -/
theorem stp_nil {a : Au} {p : Int} (t : Nat) : Stp a p (Of ([] : List Int)) t ↔ False := ⟨fun ⟨s, h, _⟩ => by simp [Of] at h, False.elim⟩
def StpE (a : Au) (p : Int) (S : Nat → Prop) (es : List Ed) (t : Nat) : Prop := Stp a p S t ∨ ∃ x, x ∈ es ∧ x.free = false ∧ InSet x.set p ∧ x.to = (t : Int)
theorem stpE_nil {a : Au} {p : Int} {S : Nat → Prop} (t : Nat) : StpE a p S [] t ↔ Stp a p S t := ⟨fun h => by rcases h with h | ⟨x, h, _⟩; exact h; simp at h, .inl⟩
theorem stpE_no {a : Au} {p : Int} {S : Nat → Prop} {es : List Ed} {x : Ed} (h : ¬ (x.free = false ∧ InSet x.set p)) (t : Nat) : StpE a p S (es ++ [x]) t ↔ StpE a p S es t := by
  constructor
  · rintro (h1 | ⟨y, h1, h2, h3, h4⟩)
    · exact .inl h1
    · rcases List.mem_append.1 h1 with h1 | h1
      · exact .inr ⟨y, h1, h2, h3, h4⟩
      · simp at h1; subst h1; exact absurd ⟨h2, h3⟩ h
  · rintro (h1 | ⟨y, h1, h2⟩)
    · exact .inl h1
    · exact .inr ⟨y, by simp [h1], h2⟩
theorem stpE_yes {a : Au} {p : Int} {S : Nat → Prop} {es : List Ed} {x : Ed} {q : Nat} (h : x.free = false) (h2 : InSet x.set p) (hq : x.to = (q : Int)) (t : Nat) : StpE a p S (es ++ [x]) t ↔ (StpE a p S es t ∨ t = q) := by
  constructor
  · rintro (h1 | ⟨y, h1, h2, h3, h4⟩)
    · exact .inl (.inl h1)
    · rcases List.mem_append.1 h1 with h1 | h1
      · exact .inl (.inr ⟨y, h1, h2, h3, h4⟩)
      · simp at h1; subst h1; right; omega
  · rintro ((h1 | ⟨y, h1, h2⟩) | rfl)
    · exact .inl h1
    · exact .inr ⟨y, by simp [h1], h2⟩
    · exact .inr ⟨x, by simp, h, h2, hq⟩
theorem stp_snoc {a : Au} {p : Int} {l : List Int} {s : Nat} {es : List Ed} (he : a[s]? = some es) (t : Nat) : StpE a p (Of l) es t ↔ Stp a p (Of (l ++ [(s : Int)])) t := by
  constructor
  · rintro (⟨q, h1, h2⟩ | ⟨x, h1, h2, h3, h4⟩)
    · exact ⟨q, by simp [Of] at h1 ⊢; exact .inl h1, h2⟩
    · exact ⟨s, by simp [Of], es, x, he, h1, h2, h3, h4⟩
  · rintro ⟨q, h1, h2⟩
    simp only [Of, List.mem_append, List.mem_singleton] at h1
    rcases h1 with h1 | h1
    · exact .inl ⟨q, h1, h2⟩
    · obtain rfl : q = s := by omega
      obtain ⟨es', x, e1, e2, e3, e4, e5⟩ := h2
      obtain rfl := Option.some.inj (e1.symm.trans he)
      exact .inr ⟨x, e2, e3, e4, e5⟩
end Go.Proofs.YtjnjbcigbnjmkaaGreat

namespace Pv
open Go Go.RowKit
/-- How many states are not in a set. -/
noncomputable def cntF (n : Nat) (T : Nat → Prop) : Nat := (List.range n).countP fun i => yes (¬ T i)
theorem cntF_congr {n : Nat} {T T' : Nat → Prop} (h : ∀ i, i < n → (T i ↔ T' i)) : cntF n T = cntF n T' := by
  unfold cntF
  refine List.countP_congr fun i hi => ?_
  have hi' : i < n := by simpa using hi
  rw [show (¬ T i) = (¬ T' i) from propext (not_congr (h i hi'))]
theorem cntF_le {n : Nat} {T T' : Nat → Prop} (h : ∀ i, T i → T' i) : cntF n T' ≤ cntF n T :=
  List.countP_mono_left fun _ _ hi => yes_t fun ht => of_yes hi (h _ ht)
theorem countF_lt {T T' : Nat → Prop} (h : ∀ i, T i → T' i) : ∀ l : List Nat, (∃ i, i ∈ l ∧ T' i ∧ ¬ T i) → (l.countP fun i => yes (¬ T' i)) < l.countP fun i => yes (¬ T i)
  | [], ⟨i, hi, _⟩ => by simp at hi
  | x :: l, ⟨i, hi, h1, h2⟩ => by
    have hle : ∀ l : List Nat, (l.countP fun i => yes (¬ T' i)) ≤ l.countP fun i => yes (¬ T i) := fun l => List.countP_mono_left fun _ _ hi => yes_t fun ht => of_yes hi (h _ ht)
    rw [List.countP_cons, List.countP_cons]
    rcases List.mem_cons.1 hi with rfl | hi
    · rw [yes_f (fun hh => hh h1), yes_t h2]
      have := hle l
      simp; omega
    · have := countF_lt h l ⟨i, hi, h1, h2⟩
      by_cases hx : T x
      · rw [yes_f (fun hh => hh (h x hx)), yes_f (fun hh => hh hx)]; simp; omega
      · by_cases hx' : T' x
        · rw [yes_f (fun hh => hh hx'), yes_t hx]; simp; omega
        · rw [yes_t hx', yes_t hx]; simp; omega
theorem cntF_lt {n : Nat} {T T' : Nat → Prop} (h : ∀ i, T i → T' i) {i : Nat} (hi : i < n) (h1 : T' i) (h2 : ¬ T i) : cntF n T' < cntF n T := countF_lt h _ ⟨i, by simpa using hi, h1, h2⟩
/-- .. as a table's block tells it. -/
noncomputable def cntW (w : World) (g n : Nat) : Nat := (List.range n).countP fun i => yes (w.cell? ⟨g, i, none⟩ = some (.bool false))
/-- A pass over all edges. -/
structure PassR (a : Au) (S : Nat → Prop) (n : Nat) (T0 T : Nat → Prop) (gb : Bool) (D : Nat → Ed → Prop) : Prop where
  base : ∀ s, S s → T0 s
  up : ∀ s, T0 s → T s
  sub : ∀ s, T s → Clo a S s
  same : gb = false → (∀ s, T s → T0 s)
  done : gb = false → ∀ s x, D s x → T0 s → x.free = true → ∀ t : Nat, x.to = (t : Int) → T0 t
  grown : gb = true → cntF n T < cntF n T0
theorem PassR.start {a : Au} {S : Nat → Prop} {n : Nat} {T0 : Nat → Prop} {D : Nat → Ed → Prop} (h0 : ∀ s, S s → T0 s) (h : ∀ s, T0 s → Clo a S s) (hD : ∀ s x, ¬ D s x) : PassR a S n T0 T0 false D :=
  ⟨h0, fun _ h => h, h, fun _ _ h => h, fun _ s x hd => absurd hd (hD s x), fun h => by cases h⟩
theorem PassR.more {a : Au} {S : Nat → Prop} {n : Nat} {T0 T : Nat → Prop} {gb : Bool} {D D' : Nat → Ed → Prop} (h : PassR a S n T0 T gb D) (hd : gb = false → ∀ s x, D' s x → D s x ∨ (T s → x.free = true → ∀ t : Nat, x.to = (t : Int) → T t)) : PassR a S n T0 T gb D' :=
  ⟨h.base, h.up, h.sub, h.same, fun hg s x hx ht hf t he => by
    rcases hd hg s x hx with h1 | h1
    · exact h.done hg s x h1 ht hf t he
    · exact h.same hg t (h1 (h.up s ht) hf t he), h.grown⟩
theorem PassR.grow {a : Au} {S : Nat → Prop} {n : Nat} {T0 T : Nat → Prop} {gb : Bool} {D D' : Nat → Ed → Prop} (h : PassR a S n T0 T gb D) {s t : Nat} {es : List Ed} {x : Ed} (hs : T s) (he : a[s]? = some es) (hx : x ∈ es) (hf : x.free = true) (ht : x.to = (t : Int)) (htn : t < n) (hn : ¬ T t) :
    PassR a S n T0 (fun i => T i ∨ i = t) true D' :=
  ⟨h.base, fun i hi => .inl (h.up i hi), fun i hi => by
    rcases hi with hi | rfl
    · exact h.sub i hi
    · exact .step (h.sub s hs) ⟨es, x, he, hx, hf, ht⟩, (fun hh => by cases hh), (fun hh => by cases hh), fun _ => by
    have h1 := cntF_lt (T := T) (T' := fun i => T i ∨ i = t) (fun i hi => .inl hi) htn (.inr rfl) hn
    have h2 := cntF_le (n := n) h.up
    omega⟩
theorem PassR.shut {a : Au} {S : Nat → Prop} {n : Nat} {T0 T : Nat → Prop} {D : Nat → Ed → Prop} (h : PassR a S n T0 T false D) (hD : ∀ s es x, a[s]? = some es → x ∈ es → D s x) (s : Nat) : T s ↔ Clo a S s := by
  refine Clo.is (fun s hs => h.up s (h.base s hs)) (fun s t hs ⟨es, x, h1, h2, h3, h4⟩ => ?_) h.sub s
  exact h.up t (h.done rfl s x (hD s es x h1 h2) (h.same rfl s hs) h3 t h4)
end Pv
namespace Go.Proofs.YtjnjbcigbnjmkaaGreat
open Go.RowKit Pv

theorem TbS.cnt {w : World} {g n : Nat} {T : Nat → Prop} (h : TbS w g n T) : cntW w g n = cntF n T := by
  unfold cntW cntF
  refine List.countP_congr fun i hi => ?_
  have hi' : i < n := by simpa using hi
  rw [h.cell hi']
  by_cases ht : T i
  · rw [yes_t ht, yes_f (by simp), yes_f (fun hh => hh ht)]
  · rw [yes_f ht, yes_t rfl, yes_t ht]
theorem TbS.alloc {w : World} {g n : Nat} {S : Nat → Prop} (h : TbS w g n S) (o : Obj) : TbS (w.alloc o) g n S := World.rowIs.alloc h o
theorem TbS.drewN {w : World} {g n : Nat} {S : Nat → Prop} (h : TbS w g n S) (k : Nat) : TbS (w.drewN k) g n S := h
theorem Blk.drewN' {w : World} {g : Nat} {t : TypeId} {cs : Array Value} (h : Blk w g t cs) (k : Nat) : Blk (w.drewN k) g t cs := h

set_option maxHeartbeats 2000000 in
set_option maxRecDepth 100000 in
theorem ref09_Behind (A : Option Addr) (c n : Nat) (acc : Int) (a : Au) (lA : Option Addr) (lc m : Nat) (l : List Int) (p : Int) (w : World) (ha : AtAu w A a) (HL : Hid (a.length = n)) (hl : At w lA RI l) (HM : Hid (l.length = m)) (hok : AuOk a acc) (hin : InAu n l) :
    Calls Tryz.prog 63 #[.agg #[.slice A n c, .int .i64 acc], .slice lA m lc, .int .i64 p] w fun e w' => ∃ v, e = .returned v ∧ OwnI w' w.heap.size v (stL n (Stp a p (Of l))) ∧ Below w.heap.size w w' := by
  have hn : n ≤ 256 := by have := hok.few; rwa [HL.out] at this
  have hml : m ≤ 140737488355328 := by have := hl.1; rwa [HM.out] at this
  have hm1 := fun W : World => run_make_row' (P := Tryz.prog) 28 4 (.bool false) 1 Tryz.underlying28 info_bool9 rfl .i64 .i64 n (by omega) (by omega) W
  have HA := Lib.hid ha; have HLL := Lib.hid hl; have HOK := Lib.hid hok; have HIN := Lib.hid hin
  have HB0 := Lib.hid (((Below.refl w.heap.size w).alloc (Nat.le_refl _) (.cells #[.slice A n c, .int .i64 acc] TAuto)).alloc (by simp) (.cells (madeCells #[.bool false] n) 4))
  have e1 : (w.alloc (.cells #[.slice A n c, .int .i64 acc] TAuto)).heap.size = w.heap.size + 1 := by simp
  have T0 := Lib.hid (TbS.made (w.alloc (.cells #[.slice A n c, .int .i64 acc] TAuto)) n)
  rw [e1] at T0
  have K0 := Lib.hid ((Blk.new w TAuto #[.slice A n c, .int .i64 acc]).alloc (.cells (madeCells #[.bool false] n) 4))
  clear ha hl hok hin e1
  go_enter Tryz.func63, Tryz.ntmps63
  go_wp2
  go_loopw [8] (fun iv wr => ∃ i : Nat, iv = .int .i64 i ∧ i ≤ m ∧ Hid (TbS wr (w.heap.size + 1) n (Stp a p (Of (l.take i)))) ∧ Hid (Blk wr w.heap.size TAuto #[.slice A n c, .int .i64 acc]) ∧ Hid (Below w.heap.size w wr)) (fun iv _ => m - (intOf iv).toNat)
  case atStart => exact ⟨0, rfl, by omega, Lib.hid (T0.out.congr fun i _ => (stp_nil i).symm), K0, HB0⟩
  case round =>
    obtain ⟨i, rfl, hi, HT, HK, HB⟩ := hrel
    obtain ⟨p0, p1, _, _⟩ := Blk.two HK.out
    have hN := HK.out.lt
    by_cases hlt : i < m
    · obtain ⟨b1, o1, u, s, rfl, hb1, c1, ⟨rfl, _, _⟩, HX⟩ := (HLL.out.keep (Keep.of HB.out)).gt HM hlt
      have hsr := HIN.out s (mem_of_get HX.out)
      obtain ⟨s, rfl⟩ := Int.eq_ofNat_of_zero_le hsr.1
      have hsn : s < n := by omega
      obtain ⟨b2, o2, S, q, cs, es, rfl, hb2, c2, hS, HQ, hqc, HY⟩ := AtAu.gt HA.out HL hsn
      have c2 := ((Keep.of HB.out).cell _ _ hb2).trans c2
      have hb2 := Nat.lt_of_lt_of_le hb2 HB.out.size
      have HES := Lib.hid hS
      have hq : q ≤ 140737488355328 := by have := hS.1; rwa [HQ.out] at this
      have HEX := Lib.hid (HOK.out.each es (mem_of_get HY.out))
      have i1 : (0 : Int) ≤ (i : Int) := by omega
      have i2 : (i : Int) < (m : Int) := by omega
      have i3 : (0 : Int) ≤ (s : Int) := by omega
      have i4 : (s : Int) < (n : Int) := by omega
      clear hS hsr
      go_wp2
      go_quiet (fail)
      rename_i nq
      go_wp2
      go_loopw [10] (fun kv wr2 => ∃ k : Nat, kv = .int .i64 k ∧ k ≤ q ∧ Hid (TbS wr2 (w.heap.size + 1) n (StpE a p (Of (l.take i)) (es.take k))) ∧ Hid (Blk wr2 w.heap.size TAuto #[.slice (some ⟨b2, o2, none⟩) n c, .int .i64 acc]) ∧ Hid (Below w.heap.size w wr2)) (fun kv _ => q - (intOf kv).toNat)
      case atStart => exact ⟨0, rfl, by omega, Lib.hid ((HT.out.drewN _).congr fun i _ => (stpE_nil i).symm), Lib.hid (HK.out.drewN _), Lib.hid (below_drewN HB.out _)⟩
      case round =>
        clear p0 p1 c1 c2 hb1 hb2
        obtain ⟨k, rfl, hk, HT2, HK2, HB2⟩ := hrel
        by_cases hkt : k < q
        · obtain ⟨b3, o3, to, fr, T, tq, tc, sl, rfl, hb3, ⟨d0, d1, d2⟩, hset, HTQ, htc, hto, HZ⟩ := AtEd.gt (AtEd.keep HES.out (Keep.of HB2.out)) HQ hkt
          have hx := HEX.out _ (mem_of_get HZ.out)
          simp only at hx
          obtain ⟨x0, x1, x2, x3⟩ := hx
          obtain ⟨to, rfl⟩ := Int.eq_ofNat_of_zero_le x0
          rw [HL.out] at x1
          have hton : to < n := by omega
          have HC := Lib.hid (ref06_Has T tc tq sl p wr hset HTQ)
          have f1 := HT2.out.cell hton
          have f2 := HT2.out.frozen to
          have HSN := Lib.hid (take_snoc HZ.out)
          have i5 : (0 : Int) ≤ (k : Int) := by omega
          have i6 : (k : Int) < (q : Int) := by omega
          have i7 : (0 : Int) ≤ (to : Int) := by omega
          have i8 : (to : Int) < (n : Int) := by omega
          have HBS := Lib.hid (HB2.out.setCell (p := ⟨w.heap.size + 1, to, none⟩) (by simp) (.bool true))
          have HKS := Lib.hid (HK2.out.far (p := ⟨w.heap.size + 1, to, none⟩) (by simp) (.bool true))
          clear hset x2 x3
          cases fr
          case true =>
            have HNO := Lib.hid (fun t => stpE_no (a := a) (p := p) (S := Of (l.take i)) (es := es.take k) (x := ⟨to, true, sl⟩) (fun h => by cases h.1) t)
            go_wp2
            go_roundw
            case rel => exact ⟨k + 1, by go_num, by omega, Lib.hid (by rw [HSN.out]; exact HT2.out.congr fun i _ => (HNO.out i).symm), HK2, HB2⟩
            case measure => simp [intOf]; omega
          case false =>
            by_cases hyy : InSet sl p
            · rw [yes_t hyy] at HC
              have HYES := Lib.hid (fun t => stpE_yes (a := a) (p := p) (S := Of (l.take i)) (es := es.take k) (x := ⟨to, false, sl⟩) rfl hyy rfl t)
              clear hyy
              go_wp2_with (go_at_call 61; refine HC.out.mono ?_; rintro e w2 ⟨rfl, rfl⟩)
              go_roundw
              case rel => exact ⟨k + 1, by go_num, by omega, Lib.hid (by rw [HSN.out]; exact HT2.out.set to fun j _ => HYES.out j), HKS, HBS⟩
              case measure => simp [intOf]; omega
            · rw [yes_f hyy] at HC
              have HNO := Lib.hid (fun t => stpE_no (a := a) (p := p) (S := Of (l.take i)) (es := es.take k) (x := ⟨to, false, sl⟩) (fun h => hyy h.2) t)
              clear hyy
              go_wp2_with (go_at_call 61; refine HC.out.mono ?_; rintro e w2 ⟨rfl, rfl⟩)
              go_roundw
              case rel => exact ⟨k + 1, by go_num, by omega, Lib.hid (by rw [HSN.out]; exact HT2.out.congr fun i _ => (HNO.out i).symm), HK2, HB2⟩
              case measure => simp [intOf]; omega
        · obtain rfl : k = q := by omega
          have HST := Lib.hid (fun t => stp_snoc (p := p) (l := l.take i) HY.out t)
          have HSN := Lib.hid (take_snoc HX.out)
          go_wp2
          go_roundw
          case rel => exact ⟨i + 1, by go_num, by omega, Lib.hid (by rw [HSN.out]; have := HT2.out; rw [show es.take k = es from List.take_of_length_le (by rw [HQ.out]; omega)] at this; exact this.congr fun i _ => HST.out i), HK2, HB2⟩
          case measure => simp [intOf]; omega
    · obtain rfl : i = m := by omega
      have HTT := Lib.hid (show TbS wr (w.heap.size + 1) n (Stp a p (Of l)) by have := HT.out; rwa [List.take_of_length_le (by rw [HM.out]; omega)] at this)
      have HC := Lib.hid (ref09_list (w.heap.size + 1) n n _ wr (by omega) HTT.out)
      go_wp2_with (go_at_call 84; refine HC.out.mono ?_; rintro e w2 ⟨v, rfl, hv, hb2⟩; have HV := Lib.hid hv; have HB3 := Lib.hid (HB.out.trans (hb2.mono HB.out.size)); clear hv hb2)
      go_ret
      obtain ⟨A', c', e', ho⟩ := HV.out
      exact ⟨v, rfl, ⟨A', c', e', ⟨ho.1, ho.2.imp_right fun ⟨g, cap, cur, h1, h2, r⟩ => ⟨g, cap, cur, h1, Nat.le_trans HB.out.size h2, r⟩⟩⟩, HB3.out⟩
end Go.Proofs.YtjnjbcigbnjmkaaGreat

namespace Go.Proofs.YtjnjbcigbnjmkaaGreat
open Go.RowKit Pv

/-- Where the document's Closed stands. -/
def ClosedR (_w wr : World) (g n : Nat) (a : Au) (S : Nat → Prop) (gb : Bool) : Prop :=
  ∃ T, TbS wr g n T ∧ (∀ s, S s → T s) ∧ (∀ s, T s → Clo a S s) ∧ (gb = false → ∀ s, T s ↔ Clo a S s)

theorem of_snoc {l : List Int} {s : Nat} (j : Nat) : Of (l ++ [(s : Int)]) j ↔ (Of l j ∨ j = s) := by
  simp only [Of, List.mem_append, List.mem_singleton]
  constructor
  · rintro (h | h)
    · exact .inl h
    · right; omega
  · rintro (h | rfl)
    · exact .inl h
    · exact .inr rfl
theorem clo_in {a : Au} {acc : Int} {S : Nat → Prop} (h : AuOk a acc) (hS : ∀ s, S s → s < a.length) {s : Nat} (hs : Clo a S s) : s < a.length := by
  cases hs with
  | base h1 => exact hS s h1
  | step _ h2 =>
    obtain ⟨es, x, h1, h2, h3, h4⟩ := h2
    have := (h.each es (mem_of_get h1) x h2).2.1
    omega

set_option maxHeartbeats 4000000 in
set_option maxRecDepth 100000 in
theorem ref09_Closed (A : Option Addr) (c n : Nat) (acc : Int) (a : Au) (lA : Option Addr) (lc m : Nat) (l : List Int) (w : World) (ha : AtAu w A a) (HL : Hid (a.length = n)) (hl : At w lA RI l) (HM : Hid (l.length = m)) (hok : AuOk a acc) (hin : InAu n l) :
    Calls Tryz.prog 62 #[.agg #[.slice A n c, .int .i64 acc], .slice lA m lc] w fun e w' => ∃ v, e = .returned v ∧ OwnI w' w.heap.size v (stL n (Clo a (Of l))) ∧ Below w.heap.size w w' := by
  have hn : n ≤ 256 := by have := hok.few; rwa [HL.out] at this
  have hml : m ≤ 140737488355328 := by have := hl.1; rwa [HM.out] at this
  have hm1 := fun W : World => run_make_row' (P := Tryz.prog) 28 4 (.bool false) 1 Tryz.underlying28 info_bool9 rfl .i64 .i64 n (by omega) (by omega) W
  have HA := Lib.hid ha; have HLL := Lib.hid hl; have HOK := Lib.hid hok; have HIN := Lib.hid hin
  have HB0 := Lib.hid (((Below.refl w.heap.size w).alloc (Nat.le_refl _) (.cells #[.slice A n c, .int .i64 acc] TAuto)).alloc (by simp) (.cells (madeCells #[.bool false] n) 4))
  have e1 : (w.alloc (.cells #[.slice A n c, .int .i64 acc] TAuto)).heap.size = w.heap.size + 1 := by simp
  have T0 := Lib.hid (TbS.made (w.alloc (.cells #[.slice A n c, .int .i64 acc] TAuto)) n)
  rw [e1] at T0
  have K0 := Lib.hid ((Blk.new w TAuto #[.slice A n c, .int .i64 acc]).alloc (.cells (madeCells #[.bool false] n) 4))
  clear ha hl hok hin e1
  go_enter Tryz.func62, Tryz.ntmps62
  go_wp2
  go_loopw [6] (fun iv wr => ∃ i : Nat, iv = .int .i64 i ∧ i ≤ m ∧ Hid (TbS wr (w.heap.size + 1) n (Of (l.take i))) ∧ Hid (Blk wr w.heap.size TAuto #[.slice A n c, .int .i64 acc]) ∧ Hid (Below w.heap.size w wr)) (fun iv _ => m - (intOf iv).toNat)
  case atStart => exact ⟨0, rfl, by omega, Lib.hid (T0.out.congr fun i _ => by simp [Of]), K0, HB0⟩
  case round =>
    obtain ⟨i, rfl, hi, HT, HK, HB⟩ := hrel
    by_cases hlt : i < m
    · obtain ⟨b1, o1, u, s, rfl, hb1, c1, ⟨rfl, _, _⟩, HX⟩ := (HLL.out.keep (Keep.of HB.out)).gt HM hlt
      have hsr := HIN.out s (mem_of_get HX.out)
      obtain ⟨s, rfl⟩ := Int.eq_ofNat_of_zero_le hsr.1
      have hsn : s < n := by omega
      have f1 := HT.out.cell hsn
      have f2 := HT.out.frozen s
      have HSN := Lib.hid (take_snoc HX.out)
      have i1 : (0 : Int) ≤ (i : Int) := by omega
      have i2 : (i : Int) < (m : Int) := by omega
      have i3 : (0 : Int) ≤ (s : Int) := by omega
      have i4 : (s : Int) < (n : Int) := by omega
      have HBS := Lib.hid (HB.out.setCell (p := ⟨w.heap.size + 1, s, none⟩) (by simp) (.bool true))
      have HKS := Lib.hid (HK.out.far (p := ⟨w.heap.size + 1, s, none⟩) (by simp) (.bool true))
      clear hsr
      go_wp2
      go_roundw
      case rel => exact ⟨i + 1, by go_num, by omega, Lib.hid (by rw [HSN.out]; exact HT.out.set s fun j _ => of_snoc j), HKS, HBS⟩
      case measure => simp [intOf]; omega
    · obtain rfl : i = m := by omega
      have HTT := Lib.hid (show TbS wr (w.heap.size + 1) n (Of l) by have := HT.out; rwa [List.take_of_length_le (by rw [HM.out]; omega)] at this)
      have HSI := Lib.hid (fun (s : Nat) (h : Of l s) => show s < a.length by have := HIN.out _ h; rw [HL.out]; omega)
      go_wp2
      go_loopw [7] (fun gv wr => ∃ gb : Bool, gv = .bool gb ∧ Hid (ClosedR w wr (w.heap.size + 1) n a (Of l) gb) ∧ Hid (Blk wr w.heap.size TAuto #[.slice A n c, .int .i64 acc]) ∧ Hid (Below w.heap.size w wr)) (fun gv wr => 2 * cntW wr (w.heap.size + 1) n + (yes (gv = .bool true)).toNat)
      case atStart => exact ⟨true, rfl, Lib.hid ⟨_, HTT.out, fun _ h => h, fun _ h => .base h, fun h => by cases h⟩, HK, HB⟩
      case round =>
        clear HT HTT HK HB
        obtain ⟨gb, rfl, HR, HK, HB⟩ := hrel
        cases gb
        case false =>
          obtain ⟨T, hT, _, _, hcl⟩ := HR.out
          have HC := Lib.hid (ref09_list (w.heap.size + 1) n n _ wr (by omega) hT)
          rw [stL_ext fun s _ => hcl rfl s] at HC
          clear hT hcl
          go_wp2_with (go_at_call 84; refine HC.out.mono ?_; rintro e w2 ⟨v, rfl, hv, hb2⟩; have HV := Lib.hid hv; have HB3 := Lib.hid (HB.out.trans (hb2.mono HB.out.size)); clear hv hb2)
          go_ret
          obtain ⟨A', c', e', ho⟩ := HV.out
          exact ⟨v, rfl, ⟨A', c', e', ⟨ho.1, ho.2.imp_right fun ⟨g, cap, cur, h1, h2, r⟩ => ⟨g, cap, cur, h1, Nat.le_trans HB.out.size h2, r⟩⟩⟩, HB3.out⟩
        case true =>
          obtain ⟨T1, hT1, hb1, hs1, _⟩ := HR.out
          have HT1 := Lib.hid hT1
          have HCN := Lib.hid (hT1.cnt)
          have HPS := Lib.hid (PassR.start (n := n) (D := fun s x => s < 0 ∧ ∃ es, a[s]? = some es ∧ x ∈ es) hb1 hs1 (by intro s x h; omega))
          clear hT1 hb1 hs1
          go_wp2
          go_loopw [8, 7] (fun iv gv wr => ∃ (i : Nat) (gb : Bool) (T : Nat → Prop), iv = .int .i64 i ∧ i ≤ n ∧ gv = .bool gb ∧ Hid (TbS wr (w.heap.size + 1) n T) ∧ Hid (PassR a (Of l) n T1 T gb (fun s x => s < i ∧ ∃ es, a[s]? = some es ∧ x ∈ es)) ∧ Hid (Blk wr w.heap.size TAuto #[.slice A n c, .int .i64 acc]) ∧ Hid (Below w.heap.size w wr)) (fun iv _ _ => n - (intOf iv).toNat)
          case atStart => exact ⟨0, false, T1, rfl, by omega, rfl, HT1, HPS, HK, HB⟩
          case round =>
            clear HK HB
            obtain ⟨i, gb, T, rfl, hi, rfl, HT, HP, HK, HB⟩ := hrel
            obtain ⟨p0, p1, _, _⟩ := Blk.two HK.out
            by_cases hlt : i < n
            · obtain ⟨b2, o2, S, q, cs, es, rfl, hb2, c2, hS, HQ, hqc, HY⟩ := AtAu.gt HA.out HL hlt
              have HES := Lib.hid hS
              have hq : q ≤ 140737488355328 := by have := hS.1; rwa [HQ.out] at this
              have HEX := Lib.hid (HOK.out.each es (mem_of_get HY.out))
              have HC2 := Lib.hid c2; have HBB := Lib.hid hb2
              have HPI := Lib.hid (HP.out.more (D' := fun s x => (s < i ∧ ∃ es, a[s]? = some es ∧ x ∈ es) ∨ (s = i ∧ x ∈ es.take 0)) (fun _ s x hx => by
                rcases hx with h | ⟨_, h⟩
                · exact .inl h
                · simp at h))
              clear hS c2 hb2
              go_wp2
              go_loopw [9, 7] (fun kv gv wr => ∃ (k : Nat) (gb : Bool) (T : Nat → Prop), kv = .int .i64 k ∧ k ≤ q ∧ gv = .bool gb ∧ Hid (TbS wr (w.heap.size + 1) n T) ∧ Hid (PassR a (Of l) n T1 T gb (fun s x => (s < i ∧ ∃ es, a[s]? = some es ∧ x ∈ es) ∨ (s = i ∧ x ∈ es.take k))) ∧ Hid (Blk wr w.heap.size TAuto #[.slice (some ⟨b2, o2, none⟩) n c, .int .i64 acc]) ∧ Hid (Below w.heap.size w wr)) (fun kv _ _ => q - (intOf kv).toNat)
              case atStart => exact ⟨0, gb, T, rfl, by omega, rfl, HT, HPI, HK, HB⟩
              case round =>
                clear HT HP HPI HK HB p0 p1
                obtain ⟨k, gb, T, rfl, hk, rfl, HT, HP, HK, HB⟩ := hrel
                obtain ⟨p0, p1, _, _⟩ := Blk.two HK.out
                have hN := HK.out.lt
                have c2 := ((Keep.of HB.out).cell _ _ HBB.out).trans HC2.out
                have hb2 := Nat.lt_of_lt_of_le HBB.out HB.out.size
                have f0 := HT.out.cell hlt
                have i1 : (0 : Int) ≤ (i : Int) := by omega
                have i2 : (i : Int) < (n : Int) := by omega
                by_cases hkt : k < q
                · by_cases hTi : T i
                  · rw [yes_t hTi] at f0
                    obtain ⟨b3, o3, to, fr, U, tq, tc, sl, rfl, hb3, ⟨d0, d1, d2⟩, hset, HTQ, htc, hto, HZ⟩ := AtEd.gt (AtEd.keep HES.out (Keep.of HB.out)) HQ hkt
                    have hx := HEX.out _ (mem_of_get HZ.out)
                    simp only at hx
                    obtain ⟨x0, x1, x2, x3⟩ := hx
                    obtain ⟨to, rfl⟩ := Int.eq_ofNat_of_zero_le x0
                    rw [HL.out] at x1
                    have hton : to < n := by omega
                    have f1 := HT.out.cell hton
                    have f2 := HT.out.frozen to
                    have hgl := HT.out.lt
                    have HSN := Lib.hid (take_snoc HZ.out)
                    have i5 : (0 : Int) ≤ (k : Int) := by omega
                    have i6 : (k : Int) < (q : Int) := by omega
                    have i7 : (0 : Int) ≤ (to : Int) := by omega
                    have i8 : (to : Int) < (n : Int) := by omega
                    have HBN := Lib.hid (HB.out.alloc HB.out.size (.cells #[.int .i64 to, .bool fr, .slice U tq tc] TEdge))
                    have HKN := Lib.hid (HK.out.alloc (.cells #[.int .i64 to, .bool fr, .slice U tq tc] TEdge))
                    have HTN := Lib.hid (HT.out.alloc (.cells #[.int .i64 to, .bool fr, .slice U tq tc] TEdge))
                    have HMORE := Lib.hid (fun (h : gb = false → (T i → fr = true → ∀ t : Nat, ((to : Int)) = (t : Int) → T t)) => HP.out.more (D' := fun s x => (s < i ∧ ∃ es, a[s]? = some es ∧ x ∈ es) ∨ (s = i ∧ x ∈ es.take (k + 1))) (fun hg s x hx => by
                      rcases hx with h1 | ⟨rfl, h1⟩
                      · exact .inl (.inl h1)
                      · rw [HSN.out] at h1
                        rcases List.mem_append.1 h1 with h1 | h1
                        · exact .inl (.inr ⟨rfl, h1⟩)
                        · simp only [List.mem_singleton] at h1
                          subst h1
                          exact .inr (h hg)))
                    have HTI := Lib.hid hTi
                    clear hset x2 x3 hTi
                    by_cases hTt : T to
                    · rw [yes_t hTt] at f1
                      have HMM := Lib.hid (HMORE.out (fun _ _ _ t e => by obtain rfl : to = t := by omega
                                                                          exact hTt))
                      clear hTt
                      cases fr
                      all_goals
                        go_wp2
                        go_roundw
                        case rel => exact ⟨k + 1, gb, T, by go_num, by omega, rfl, HTN, HMM, HKN, HBN⟩
                        case measure => simp [intOf]; omega
                    · rw [yes_f hTt] at f1
                      cases fr
                      case false =>
                        have HMM := Lib.hid (HMORE.out (fun _ _ h => by cases h))
                        clear hTt
                        go_wp2
                        go_roundw
                        case rel => exact ⟨k + 1, gb, T, by go_num, by omega, rfl, HTN, HMM, HKN, HBN⟩
                        case measure => simp [intOf]; omega
                      case true =>
                        have HGR := Lib.hid (HP.out.grow (D' := fun s x => (s < i ∧ ∃ es, a[s]? = some es ∧ x ∈ es) ∨ (s = i ∧ x ∈ es.take (k + 1))) HTI.out HY.out (mem_of_get HZ.out) rfl rfl hton hTt)
                        have HBS := Lib.hid ((HB.out.setCell (p := ⟨w.heap.size + 1, to, none⟩) (by simp) (.bool true)).alloc (by have := HB.out.size; simpa using this) (.cells #[.int .i64 to, .bool true, .slice U tq tc] TEdge))
                        have HKS := Lib.hid ((HK.out.far (p := ⟨w.heap.size + 1, to, none⟩) (by simp) (.bool true)).alloc (.cells #[.int .i64 to, .bool true, .slice U tq tc] TEdge))
                        have HTS := Lib.hid ((HT.out.set (S' := fun j => T j ∨ j = to) to fun j _ => Iff.rfl).alloc (.cells #[.int .i64 to, .bool true, .slice U tq tc] TEdge))
                        clear hTt
                        go_wp2
                        go_roundw
                        case rel => exact ⟨k + 1, true, _, by go_num, by omega, rfl, HTS, HGR, HKS, HBS⟩
                        case measure => simp [intOf]; omega
                  · rw [yes_f hTi] at f0
                    have HMM := Lib.hid (HP.out.more (D' := fun s x => s < i + 1 ∧ ∃ es, a[s]? = some es ∧ x ∈ es) (fun _ s x ⟨h1, h2⟩ => by
                      by_cases e : s = i
                      · subst e; exact .inr fun h => absurd h hTi
                      · exact .inl (.inl ⟨by omega, h2⟩)))
                    clear hTi
                    go_wp2
                    go_roundw
                    case rel => exact ⟨i + 1, gb, T, by go_num, by omega, rfl, HT, HMM, HK, HB⟩
                    case measure => simp [intOf]; omega
                · obtain rfl : k = q := by omega
                  have HMM := Lib.hid (HP.out.more (D' := fun s x => s < i + 1 ∧ ∃ es, a[s]? = some es ∧ x ∈ es) (fun _ s x ⟨h1, es', h2, h3⟩ => by
                    by_cases e : s = i
                    · subst e
                      obtain rfl := Option.some.inj (h2.symm.trans HY.out)
                      exact .inl (.inr ⟨rfl, by rw [List.take_of_length_le (by rw [HQ.out]; omega)]; exact h3⟩)
                    · exact .inl (.inl ⟨by omega, es', h2, h3⟩)))
                  go_wp2
                  go_roundw
                  case rel => exact ⟨i + 1, gb, T, by go_num, by omega, rfl, HT, HMM, HK, HB⟩
                  case measure => simp [intOf]; omega
            · obtain rfl : i = n := by omega
              have HFIN : Hid (ClosedR w wr (w.heap.size + 1) i a (Of l) gb) := Lib.hid ⟨T, HT.out, fun s hs => HP.out.up s (HP.out.base s hs), HP.out.sub, fun hg => by
                subst hg
                exact HP.out.shut fun s es x h1 h2 => ⟨by have := lt_of_get h1; rw [HL.out] at this; exact this, es, h1, h2⟩⟩
              have HMS : Hid (2 * cntW wr (w.heap.size + 1) i + (yes (Value.bool gb = .bool true)).toNat < 2 * cntF i T1 + 1) := Lib.hid (by
                rw [HT.out.cnt]
                cases gb with
                | true => have h1 := HP.out.grown rfl; rw [yes_t rfl]; simp only [Bool.toNat_true]; omega
                | false => have h1 := cntF_le (n := i) HP.out.up; rw [yes_f (by simp)]; simp only [Bool.toNat_false]; omega)
              go_wp2
              go_roundw
              case rel => exact ⟨gb, rfl, HFIN, HK, HB⟩
              case measure => rw [HCN.out, yes_t (p := Value.bool true = Value.bool true) rfl]; exact HMS.out
end Go.Proofs.YtjnjbcigbnjmkaaGreat
