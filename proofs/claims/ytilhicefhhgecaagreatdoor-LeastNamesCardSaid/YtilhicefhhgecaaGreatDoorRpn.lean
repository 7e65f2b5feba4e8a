/- Walks: the program's Parse at a text that tells a tree. PUT1 -/
import Derived.Test.YtilhicefhhgecaaGreatDoorRon
import Derived.Test.YtilhicefhhgecaaGreatDoorSln
import Derived.Test.YtilhicefhhgecaaGreatDoorPgn
import Derived.Test.YtilhicefhhgecaaGreatDoorRbn
import Derived.Test.YtilhicefhhgecaaGreatDoorO14n
import Derived.Defers
namespace Go.Proofs.YtilhicefhhgecaaGreatDoor
open Go.RowKit Pv

/-- The tables of package utf8 stand as they are laid, whatever is made from B on. -/
def TabU (B : Nat) (w : World) : Prop := ∀ w', Below B w w' → Lib.Utf8Tabs (Tryz.lays196_ren.g 3) (Tryz.lays196_ren.g 4) w'
theorem TabU.next {B : Nat} {w w' : World} (h : TabU B w) (hb : Below B w w') : TabU B w' := fun w2 h2 => h w2 (hb.trans h2)
theorem TabU.then {B : Nat} {w w' : World} (h : TabU B w) (hb : Below w.heap.size w w') (hB : B ≤ w.heap.size) : TabU B w' := h.next (hb.mono hB)
theorem valid_asc {l : Bs} (h : ∀ b, b ∈ l → b.toNat < 128) : Lib.validD l = true := by
  have h1 := Lib.validD_ascii l.length l (fun b hb => h b (List.mem_of_mem_take hb))
  rw [h1, List.drop_length]
  rfl
set_option maxHeartbeats 400000 in
set_option maxRecDepth 100000 in
theorem text_CheckA (s : ByteArray) (w : World) (B : Nat) (hs : s.size ≤ 16384) (ha : ∀ b, b ∈ bsl s → b.toNat < 128) (hT : TabU B w) :
    Calls Tryz.prog 36 #[.string s] w fun e w' => e = .returned (.int .i64 0) ∧ Below w.heap.size w w' := by
  have HV := Lib.hid (show Calls Tryz.prog 74 #[.string s] w fun e w' => e = .returned (.bool (Lib.validD (bsl s))) ∧ Below w.heap.size w w' from Tryz.utf8_ValidString s w (by omega) (hT w (Below.refl _ _)))
  rw [valid_asc ha] at HV
  have i1 : (s.size : Int) ≤ 16384 := by omega
  clear hT ha hs
  go_enter Tryz.func36, Tryz.ntmps36
  go_wp2_with fail
  refine HV.out.mono ?_
  rintro e w1 ⟨rfl, hb⟩
  go_wp2
  go_ret
  exact ⟨rfl, hb⟩

theorem blk_new2 (w : World) (t1 t2 : TypeId) (c1 c2 : Array Value) : Blk ((w.alloc (.cells c1 t1)).alloc (.cells c2 t2)) (w.heap.size + 1) t2 c2 := by
  have h := Blk.new (w.alloc (.cells c1 t1)) t2 c2
  have e : (w.alloc (.cells c1 t1)).heap.size = w.heap.size + 1 := by simp
  rwa [e] at h
theorem rx_at {w : World} {b n c : Nat} {A : Option Addr} {t : List Rx} (h : OwnRx w b (.slice A n c) t) (hl : t.length ≤ 100000) (hs : ∀ x, x ∈ t → x.set.length ≤ 1000) : AtRx w A t := by
  obtain ⟨A', c', us, hv, ho, hr⟩ := h
  injection hv with e1 e2 e3
  subst e1
  obtain ⟨_, hat⟩ := AtK.of_own ho (hr.mono fun f x hx h => h.rx (by have := hs x hx; omega)) rfl (by omega)
  exact hat
/-- What Parse leaves: the nodes, in new memory. -/
def ParseP (w : World) (T : Tr) (e : Ending) (w' : World) : Prop := ∃ A c, e = .returned (.tuple #[.slice A T.flat.length c, .int .i64 0]) ∧ OwnRx w' w.heap.size (.slice A T.flat.length c) T.flat ∧ Below w.heap.size w w'

set_option maxHeartbeats 4000000 in
set_option maxRecDepth 100000 in
theorem pattern_Parse (s : ByteArray) (T : Tr) (w : World) (B : Nat) (h : Tells (bsl s) T) (hp : PlainB (bsl s)) (hT : TabU B w) (hB : B ≤ w.heap.size) :
    Calls Tryz.prog 12 #[.string s] w (ParseP w T) := by
  have hmf : ∀ (fn : Fn) (first cap : Array Value) (w : World), (Instr.makeFunc fn first cap).run Tryz.prog w = .ok (.func fn first cap) w := fun _ _ _ _ => rfl
  have hsz : s.size ≤ 1000 := by rw [← bsl_len]; exact h.len
  have hB0 : Below w.heap.size w ((w.alloc (.cells #[.slice none 0 0] 29)).alloc (.cells #[.int .i64 0] 30)) := ((Below.refl _ _).alloc (Nat.le_refl _) _).alloc (by simp) _
  have HC := Lib.hid (text_CheckA s _ B (by omega) h.asc (hT.next (hB0.mono hB)))
  have HB0 := Lib.hid hB0
  have HT := Lib.hid h; have HP := Lib.hid hp
  have hN : T.flat.length ≤ 64 := h.known.size
  have HPAT := Lib.hid h.known.pat
  clear h hp hT hB hB0
  go_enter_defers Tryz.func12, Tryz.ntmps12
  go_wp2_with fail
  refine HC.out.mono ?_
  rintro e w1 ⟨rfl, hb1⟩
  have HB1 := Lib.hid (HB0.out.trans (hb1.mono HB0.out.size))
  have hz1 := hb1.size
  simp at hz1
  have KG1 := Lib.hid (((Blk.new w 29 #[.slice none 0 0]).alloc (.cells #[.int .i64 0] 30)).below hb1 (by simp; omega))
  have KG2 := Lib.hid ((blk_new2 w 29 30 #[.slice none 0 0] #[.int .i64 0]).below hb1 (by simp))
  have HR := Lib.hid (rows_ok w1.heap.size _ (bsl s) [] false false T.flat (w1.alloc (.cells #[.string s, .bool false] 75)) HP.out (by rw [bsl_len]; exact hsz) HT.out.rows ⟨s, rfl, Blk.new _ _ _⟩)
  clear hb1
  go_wp2_with fail
  refine HR.out.mono ?_
  rintro e w2 ⟨A, n, c, rfl, k1, k2, k3⟩
  have hn : n ≤ 64 := by
    obtain ⟨_, _, _, hv, _⟩ := k1
    injection hv with _ e _
    omega
  have HNN : Hid (n = T.flat.length) := Lib.hid (by
    obtain ⟨_, _, _, hv, _⟩ := k1
    injection hv with _ e _)
  have K1 := Lib.hid k1
  have KG1 := Lib.hid (k3.blk (KG1.out.alloc _) (by omega))
  have KG2 := Lib.hid (k3.blk (KG2.out.alloc _) (by omega))
  have HB2 := Lib.hid ((HB1.out.alloc HB1.out.size (.cells #[.string s, .bool false] 75)).trans (k3.below (by omega) (by simp; omega)))
  obtain ⟨s2, hs2, k2⟩ := k2
  have K2 := Lib.hid (k2.far (p := ⟨w.heap.size, 0, none⟩) (by simp; omega) (.slice A n c))
  have p0 := K2.out.cell 0
  have p1 := K2.out.cell 1
  simp at p0 p1
  have E1 : s2.toList.isEmpty = true := by rw [toList_bsl, hs2]; rfl
  have g0 := KG1.out.cell 0
  have g1 := KG1.out.frozen 0
  have g2 := KG1.out.lt
  simp at g0
  have HX := Lib.hid (rx_far (i := 0) (u := .slice A n c) k1 KG1.out (by decide) (by decide))
  have KS1 := Lib.hid (KG1.out.set 0 (.slice A n c))
  have KS2 := Lib.hid (KG2.out.far (p := ⟨w.heap.size, 0, none⟩) (by simp) (.slice A n c))
  have HB3 := Lib.hid (HB2.out.setCell (p := ⟨w.heap.size, 0, none⟩) (by simp) (.slice A n c))
  have HCK := Lib.hid (pattern_Check A c n T.flat (w2.setCell ⟨w.heap.size, 0, none⟩ (.slice A n c)) (rx_at HX.out (by omega) HT.out.sets) (Lib.hid HNN.out.symm))
  rw [patE_yes HPAT.out] at HCK
  have hn2 : (n : Int) ≤ 64 := by omega
  clear k1 k2 k3 hs2
  go_wp2_with fail
  refine HCK.out.mono ?_
  rintro e w3 ⟨rfl, hb3⟩
  have KS1 := Lib.hid (KS1.out.below hb3 (by simpa using g2))
  have KS2 := Lib.hid (KS2.out.below hb3 (by simpa using KG2.out.lt))
  have HX3 := Lib.hid (rx_below HX.out hb3)
  have HB4 := Lib.hid (HB3.out.trans (hb3.mono HB3.out.size))
  have q0 := KS1.out.cell 0
  have q1 := KS1.out.frozen 0
  have q2 := KS2.out.cell 0
  have q3 := KS2.out.frozen 0
  simp at q0 q2
  clear hb3 p0 p1 E1 g0 g1 g2
  go_wp2
  have KT1 := Lib.hid ((KS1.out.set 0 (.slice A n c)).far (p := ⟨w.heap.size + 1, 0, none⟩) (by simp) (.int .i64 0))
  have KT2 := Lib.hid ((KS2.out.far (p := ⟨w.heap.size, 0, none⟩) (by simp) (.slice A n c)).set 0 (.int .i64 0))
  refine leaves_cons (f := 37) (args := #[.pointer (some ⟨w.heap.size, 0, none⟩), .pointer (some ⟨w.heap.size + 1, 0, none⟩)]) (by simp) (by simp [go_sem]) ?_
  refine (parse_idle ⟨w.heap.size, 0, none⟩ ⟨w.heap.size + 1, 0, none⟩ _).mono ?_
  rintro e u' w'' ⟨rfl, rfl, rfl⟩
  have f0 := KT1.out.cell 0
  have f1 := KT2.out.cell 0
  simp at f0 f1
  have HF : ParseP w T (.returned (.tuple #[.slice A n c, .int .i64 0])) ((w3.setCell ⟨w.heap.size, 0, none⟩ (.slice A n c)).setCell ⟨w.heap.size + 1, 0, none⟩ (.int .i64 0)) := by
    have h1 := rx_far (i := 0) (u := .int .i64 0) (rx_far (i := 0) (u := .slice A n c) HX3.out KS1.out (by decide) (by decide)) (KS2.out.far (p := ⟨w.heap.size, 0, none⟩) (by simp) (.slice A n c)) (by decide) (by decide)
    have e := HNN.out
    subst e
    exact ⟨A, c, rfl, rx_lower h1 (by omega), (HB4.out.setCell (p := ⟨w.heap.size, 0, none⟩) (by simp) _).setCell (p := ⟨w.heap.size + 1, 0, none⟩) (by simp) _⟩
  have HFF := Lib.hid HF
  clear HF
  simp [Leaves, settle, results, Tryz.results12, go_sem, f0, f1]
  exact HFF.out
end Go.Proofs.YtilhicefhhgecaaGreatDoor
