/- Walks: a member of a value of cells. PUT1 -/
import Derived.Test.YtbdkedjgfihamaaGreatDoorV12u
import Derived.Test.YtbdkedjgfihamaaGreatDoorV2u
namespace Pv
open Go Go.RowKit
theorem find_idx {α : Type} {p : α → Bool} : ∀ {l : List α} {i : Nat} {x : α}, l[i]? = some x → p x = true → (∀ j y, j < i → l[j]? = some y → p y = false) → l.find? p = some x
  | [], _, _, h, _, _ => by simp at h
  | a :: l, 0, x, h, hp, _ => by
    obtain rfl := Option.some.inj h
    rw [List.find?_cons, hp]
  | a :: l, i + 1, x, h, hp, hn => by
    rw [List.find?_cons, hn 0 a (by omega) rfl]
    exact find_idx (l := l) (i := i) h hp fun j y hj hy => hn (j + 1) y (by omega) hy
theorem find_no {α : Type} {p : α → Bool} {l : List α} (h : ∀ y, y ∈ l → p y = false) : l.find? p = none := List.find?_eq_none.2 fun y hy => by rw [h y hy]; simp
/-- Has the cell at a place that name? -/
def nmB (v : List Cel) (name : ByteArray) (k : Nat) : Bool := decide ((v[k]?.map (·.name)) = some name)
theorem nmB_at {v : List Cel} {name : ByteArray} {k : Nat} {x : Cel} (h : v[k]? = some x) : nmB v name k = decide (x.name = name) := by unfold nmB; rw [h]; simp
theorem memV_eq {v : List Cel} {a : Nat} {name : ByteArray} {c : Cel} (h : v[a]? = some c) : memV v a name = if c.kind = 7 then (underV v a).find? (nmB v name) else none := by
  unfold memV
  rw [h]
  by_cases h7 : c.kind = 7
  · rw [if_pos (by simp [h7]), if_pos h7]; rfl
  · rw [if_neg (by simp [h7]), if_neg h7]
theorem underV_in {v : List Cel} (h : MayV v) {i : Nat} (hi : i < v.length) {k : Nat} (hk : k ∈ underV v i) : k < v.length := by
  have hx : v[i]? = some v[i] := List.getElem?_eq_getElem hi
  unfold underV at hk
  rw [hx] at hk
  obtain ⟨q, hq⟩ := List.getElem?_of_mem hk
  have hqm : q < v[i].many.toNat := by have := lt_of_get hq; rwa [kidsL_len] at this
  rw [kidsL_at v _ _ q hqm] at hq
  obtain rfl := Option.some.inj hq
  exact ((h.kids hx).2 q hqm).2
end Pv
namespace Go.Proofs.YtbdkedjgfihamaaGreatDoor
open Go.RowKit Pv Go.Maps
/-- The closure that tells a name's place. -/
abbrev memF (vb sb : Nat) : Value := .func (.func 118) #[] #[.pointer (some ⟨vb, 0, none⟩), .pointer (some ⟨sb, 0, none⟩)]
set_option maxHeartbeats 1000000 in
set_option maxRecDepth 100000 in
theorem mem_test (vb sb : Nat) (A : Option Addr) (n c k : Nat) (v : List Cel) (name : ByteArray) (w : World) (h : AtCel w A v) (HL : Hid (v.length = n)) (hk : k < n) (h1 : w.cell? ⟨vb, 0, none⟩ = some (.slice A n c)) (h2 : w.cell? ⟨sb, 0, none⟩ = some (.string name)) :
    Calls Tryz.prog 118 #[.int .i64 k, .pointer (some ⟨vb, 0, none⟩), .pointer (some ⟨sb, 0, none⟩)] w fun e w' => e = .returned (.bool (nmB v name k)) ∧ Below w.heap.size w w' := by
  obtain ⟨b, off, x, rfl, H5, _, HX⟩ := h.g5 HL hk
  have y1 := H5.c1
  have HN := Lib.hid (nmB_at (name := name) HX.out)
  obtain ⟨nm, hnm⟩ : ∃ nm, x.name = nm := ⟨_, rfl⟩
  rw [hnm] at y1 HN
  rw [HN.out]
  have i1 : (k : Int) < (n : Int) := by omega
  have i2 : (0 : Int) ≤ (k : Int) := by omega
  clear h H5 hnm
  by_cases he : nm = name
  · subst he
    have e1 : (nm.toList == nm.toList) = true := by simp
    go_enter Tryz.func118, Tryz.ntmps118
    go_wp2
    go_quiet (fail)
    go_wp2
    go_ret
    exact ⟨by simp [go_sem], below_drewN (Below.refl _ _) _⟩
  · have e1 : (nm.toList == name.toList) = false := by rw [beq_eq_false_iff_ne]; exact fun h => he (toList_inj h)
    have HE := Lib.hid he
    clear he
    go_enter Tryz.func118, Tryz.ntmps118
    go_wp2
    go_quiet (fail)
    go_wp2
    go_ret
    exact ⟨by rw [decide_eq_false HE.out]; rfl, below_drewN (Below.refl _ _) _⟩
/-- What IndexFunc tells. -/
def IdxP (p : Nat → Bool) (l : List Nat) (e : Ending) : Prop := (e = .returned (.int .i64 (-1)) ∧ ∀ y, y ∈ l → p y = false) ∨ ∃ i x, e = .returned (.int .i64 ((i : Nat) : Int)) ∧ l[i]? = some x ∧ p x = true ∧ ∀ j y, j < i → l[j]? = some y → p y = false
set_option maxHeartbeats 2000000 in
set_option maxRecDepth 100000 in
theorem idx_mem (vb sb : Nat) (A L : Option Addr) (n c m d : Nat) (v : List Cel) (l : List Nat) (name : ByteArray) (w : World) (h : AtCel w A v) (HL : Hid (v.length = n)) (hl : At w L RI (l.map fun k : Nat => (k : Int))) (HM : Hid (l.length = m)) (hin : ∀ k, k ∈ l → k < n) (h1 : w.cell? ⟨vb, 0, none⟩ = some (.slice A n c)) (h2 : w.cell? ⟨sb, 0, none⟩ = some (.string name)) (hvb : vb < w.heap.size) (hsb : sb < w.heap.size) (hm : m ≤ 100000) :
    Calls Tryz.prog 117 #[.slice L m d, memF vb sb] w fun e w' => IdxP (nmB v name) l e ∧ Below w.heap.size w w' := by
  have HA := Lib.hid h; have HLI := Lib.hid hl; have HIN := Lib.hid hin
  have HML : Hid ((l.map fun k : Nat => (k : Int)).length = m) := Lib.hid (by rw [List.length_map, HM.out])
  have HT := Lib.hid (fun (k : Nat) (hk : k < n) (W : World) (hb : Below w.heap.size w W) => mem_test vb sb A n c k v name W (AtK.keep HA.out (Keep.of hb)) HL hk ((hb.cell hvb).trans h1) ((hb.cell hsb).trans h2))
  clear h hl hin h1 h2
  go_enter Tryz.func117, Tryz.ntmps117
  go_wp2
  go_loopw [8] (fun iv W => ∃ i : Nat, iv = .int .i64 i ∧ i ≤ m ∧ Hid (Below w.heap.size w W) ∧ Hid (∀ j y, j < i → l[j]? = some y → nmB v name y = false)) (fun iv _ => m - (intOf iv).toNat)
  case atStart => exact ⟨0, rfl, by omega, Lib.hid (Below.refl _ _), Lib.hid (fun j y hj => by omega)⟩
  case round =>
    obtain ⟨i, rfl, hi, HB, HNO⟩ := hrel
    by_cases hlt : i < m
    · obtain ⟨b1, o1, u1, z, rfl, hb1, c1, hz, HX⟩ := At.gt (At.keep HLI.out (Keep.of HB.out)) HML hlt
      obtain ⟨rfl, hz1, hz2⟩ := hz
      obtain ⟨x, hx⟩ : ∃ x, l[i]? = some x := ⟨_, List.getElem?_eq_getElem (by rw [HM.out]; exact hlt)⟩
      obtain rfl : z = (x : Int) := by
        have := HX.out
        rw [List.getElem?_map, hx] at this
        exact (Option.some.inj this).symm
      have HTT := HT.out x (HIN.out x (mem_of_get hx)) wr HB.out
      obtain ⟨t, ht⟩ : ∃ t, nmB v name x = t := ⟨_, rfl⟩
      rw [ht] at HTT
      have HTT := Lib.hid HTT; have HX2 := Lib.hid hx; have HTE := Lib.hid ht
      have i1 : (i : Int) < (m : Int) := by omega
      clear hx ht
      cases t with
      | true =>
        go_wp2_with fail
        refine HTT.out.mono ?_
        rintro e w1 ⟨rfl, k⟩
        have HB1 := Lib.hid (HB.out.trans (k.mono HB.out.size))
        clear k
        go_wp2
        go_ret
        exact ⟨.inr ⟨i, x, rfl, HX2.out, HTE.out, HNO.out⟩, HB1.out⟩
      | false =>
        go_wp2_with fail
        refine HTT.out.mono ?_
        rintro e w1 ⟨rfl, k⟩
        have HB1 := Lib.hid (HB.out.trans (k.mono HB.out.size))
        clear k
        go_wp2
        go_roundw
        case rel =>
          refine ⟨i + 1, by go_num, by omega, HB1, Lib.hid fun j y hj hy => ?_⟩
          by_cases hji : j = i
          · subst hji
            rw [HX2.out] at hy
            obtain rfl := Option.some.inj hy
            exact HTE.out
          · exact HNO.out j y (by omega) hy
        case measure => simp [intOf]; omega
    · have i1 : ¬ (i : Int) < (m : Int) := by omega
      go_wp2
      go_ret
      refine ⟨.inl ⟨rfl, fun y hy => ?_⟩, HB.out⟩
      obtain ⟨j, hj⟩ := List.getElem?_of_mem hy
      exact HNO.out j y (by have := lt_of_get hj; rw [HM.out] at this; omega) hj
/-- What Member tells. -/
def MemP (o : Option Nat) (e : Ending) : Prop := e = .returned (.tuple #[.int .i64 ((o.getD 0 : Nat) : Int), .bool o.isSome])
set_option maxHeartbeats 2000000 in
set_option maxRecDepth 100000 in
theorem cell_Member (B : Nat) (A : Option Addr) (c n : Nat) (v : List Cel) (name : ByteArray) (w : World) (h : AtCel w A v) (HL : Hid (v.length = n)) (hs : CelsB v) (hT : TabS B w) (hB : B ≤ w.heap.size) :
    Calls Tryz.prog 93 #[.slice A n c, .int .i64 0, .string name] w fun e w' => MemP (askV v name) e ∧ Below w.heap.size w w' := by
  have hW0 : Below w.heap.size w ((w.alloc (.cells #[.slice A n c] 30)).alloc (.cells #[.string name] 9)) := ((Below.refl _ _).alloc (Nat.le_refl _) _).alloc (by simp) _
  have HW0 := Lib.hid hW0
  have hb0 := (Blk.new w 30 #[.slice A n c]).alloc (.cells #[.string name] 9)
  have hb1 := blkV2 w 30 9 #[.slice A n c] #[.string name]
  have HB0 := Lib.hid hb0; have HB1 := Lib.hid hb1
  have HA : Hid (AtCel _ A v) := Lib.hid (AtK.keep (R := RCel) h (Keep.of hW0))
  have hTW := hT.next (hW0.mono hB)
  by_cases hp : MayV v
  · have hn0 : 0 < n := by have := hp.pos; rwa [HL.out] at this
    have HKI := Lib.hid (cell_Kids_yes B A c n 0 v _ HA.out HL hs (Lib.hid hp) hn0 hTW (by simp; omega))
    have hask : askV v name = memV v 0 name := by unfold askV; rw [(mayV_iff v).2 hp]; rfl
    rw [hask]
    obtain ⟨x, hx⟩ : ∃ x, v[0]? = some x := ⟨_, List.getElem?_eq_getElem (by rw [HL.out]; exact hn0)⟩
    have HME := Lib.hid (memV_eq (name := name) hx)
    have HUN := Lib.hid (fun k (hk : k ∈ underV v 0) => show k < n by have := underV_in hp (show 0 < v.length by rw [HL.out]; exact hn0) hk; rwa [HL.out] at this)
    have hul : (underV v 0).length ≤ 2048 := by
      have : underV v 0 = kidsL v x.many.toNat (0 + 1) := by unfold underV; rw [hx]
      rw [this, kidsL_len]
      have h2 := oneCl_many (c := x) (by
        cases hc : oneCl x with
        | true => rfl
        | false => have := (hp.end_ (show 0 < v.length by rw [HL.out]; exact hn0)).1; rw [behC_bad hx hc] at this; cases this)
      obtain ⟨k1, k2⟩ := hp.kids hx
      have hfew := hp.few
      by_cases hz : x.many.toNat = 0
      · omega
      · have key : ∀ q, q ≤ x.many.toNat → 0 + 1 + q ≤ posV v q (0 + 1) := by
          intro q
          induction q with
          | zero => intro _; show 0 + 1 + 0 ≤ 0 + 1; omega
          | succ q ih =>
            intro hq
            have h3 := ih (by omega)
            have h4 := (hp.end_ (k2 q (by omega)).2).2.1
            show 0 + 1 + (q + 1) ≤ endV v (posV v q (0 + 1))
            omega
        have h5 := key (x.many.toNat - 1) (by omega)
        have h6 := (k2 (x.many.toNat - 1) (by omega)).2
        omega
    have HKL : Hid (kidsZ v 0 = (underV v 0).map fun k : Nat => (k : Int)) := Lib.hid rfl
    obtain ⟨l, hl⟩ : ∃ l, underV v 0 = l := ⟨_, rfl⟩
    rw [hl] at HME HUN HKL hul
    rw [HKL.out] at HKI
    obtain ⟨b, off, x', rfl, H5, hcb, HX⟩ := AtCel.g5 HA.out HL hn0
    obtain rfl : x' = x := by
      have := HX.out
      rw [hx] at this
      exact (Option.some.inj this).symm
    have hk0 := hcb.kind
    have H50 := Lib.hid H5
    obtain ⟨o, ho⟩ : ∃ o, memV v 0 name = o := ⟨_, rfl⟩
    rw [ho] at HME ⊢
    have hfw : v.length ≤ 4096 := by have := hp.few; omega
    have HFW := Lib.hid hfw
    obtain ⟨m, hm⟩ : ∃ m, l.length = m := ⟨_, rfl⟩
    have HM := Lib.hid hm
    rw [hm] at hul
    clear h hs hT hW0 hb0 hb1 hTW hp hask hx hl H5 hcb hm hfw ho
    go_enter Tryz.func93, Tryz.ntmps93
    go_wp2_with fail
    refine HKI.out.mono ?_
    rintro e w1 ⟨u, rfl, k1, k2⟩
    have HBW := Lib.hid (HW0.out.trans (k2.mono HW0.out.size))
    have hc0 := HB0.out.below k2 HB0.out.lt
    have hc1 := HB1.out.below k2 HB1.out.lt
    have q0 := hc0.cell 0; have ql0 := hc0.lt
    have q1 := hc1.cell 0; have ql1 := hc1.lt
    have y := H50.out.next (Keep.of k2)
    have y0 := y.c0; have yl := y.lt
    simp only [Nat.zero_mul, Nat.add_zero] at y0
    obtain ⟨L, lc, rfl, hat, hlc⟩ := k1.at' (fun z hz => by
      obtain ⟨k, hk, rfl⟩ := List.mem_map.1 hz
      have := HUN.out k hk
      have := HL.out
      have := HFW.out
      omega) (by rw [List.length_map, HM.out]; omega)
    rw [List.length_map, HM.out] at hlc ⊢
    have HIX := Lib.hid (idx_mem w.heap.size (w.heap.size + 1) (some ⟨b, off, none⟩) L n c m lc v l name w1 (AtK.keep HA.out (Keep.of k2)) HL hat HM HUN.out q0 q1 ql0 ql1 (by omega))
    have HLA := Lib.hid hat
    have HML : Hid ((l.map fun k : Nat => (k : Int)).length = m) := Lib.hid (by rw [List.length_map, HM.out])
    clear k1 k2 hat hc0 hc1 y
    simp at q0 q1
    by_cases h7 : x'.kind = 7
    case neg =>
      have e7 : (x'.kind != 7) = true := by simpa using h7
      have HN : Hid (o = none) := Lib.hid (HME.out.trans (if_neg h7))
      have e8 : (x'.kind == 7) = false := by simpa using h7
      go_wp2
      go_ret2
      rw [HN.out]
      exact ⟨rfl, HBW.out⟩
    rw [h7] at y0
    have HY : Hid (o = l.find? (nmB v name)) := Lib.hid (HME.out.trans (if_pos h7))
    clear h7
    go_wp2_with fail
    refine HIX.out.mono ?_
    rintro e w2 ⟨hix, k⟩
    have HB2 := Lib.hid (HBW.out.trans (k.mono HBW.out.size))
    have HLA2 := Lib.hid (At.keep HLA.out (Keep.of k))
    clear k
    rcases hix with ⟨rfl, hno⟩ | ⟨i, z, rfl, hz, hpz, hno⟩
    · have HN := Lib.hid (find_no hno)
      clear hno
      go_wp2
      go_ret2
      rw [HY.out, HN.out]
      exact ⟨rfl, HB2.out⟩
    · have HN := Lib.hid (find_idx hz hpz hno)
      have him : i < m := by have := lt_of_get hz; rwa [HM.out] at this
      obtain ⟨b1, o1, u1, zz, rfl, hb1, c1, hzz, HX1⟩ := At.gt HLA2.out HML him
      obtain ⟨rfl, _⟩ := hzz
      obtain rfl : zz = (z : Int) := by
        have := HX1.out
        rw [List.getElem?_map, hz] at this
        exact (Option.some.inj this).symm
      have i1 : (i : Int) < (m : Int) := by omega
      have i2 : ¬ (i : Int) < 0 := by omega
      clear hz hpz hno
      go_wp2
      go_ret2
      rw [HY.out, HN.out]
      exact ⟨rfl, HB2.out⟩
  · have HKI := Lib.hid (cell_Kids_no B A c n 0 v _ HA.out HL hs (Lib.hid hp) hTW (by simp; omega))
    have HN : Hid (askV v name = none) := Lib.hid (by
      unfold askV
      have hm : mayV v = false := by cases hx : mayV v with | false => rfl | true => exact absurd ((mayV_iff v).1 hx) hp
      rw [hm]
      rfl)
    rw [HN.out]
    clear h hs hT hW0 hb0 hb1 hTW hp
    go_enter Tryz.func93, Tryz.ntmps93
    go_wp2_with fail
    refine HKI.out.mono ?_
    rintro e w1 ⟨rfl, k2⟩
    have HBW := Lib.hid (HW0.out.trans (k2.mono HW0.out.size))
    clear k2
    go_wp2
    go_ret2
    exact ⟨rfl, HBW.out⟩
end Go.Proofs.YtbdkedjgfihamaaGreatDoor
