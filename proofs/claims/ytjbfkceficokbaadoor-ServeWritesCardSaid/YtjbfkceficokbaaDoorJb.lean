/- Walks: a text quoted (the program's). PUT1 -/
import Derived.Test.YtjbfkceficokbaaDoorJa
import Derived.Lib.IndexLaws
import Derived.Outline
namespace Pv
open Go Go.RowKit
theorem Src.lits (w : World) (cs : Array Value) (t : TypeId) (h : ∀ u ∈ cs.toList, u.oneCell' = true) : Src (w.alloc (.cells cs t)) (some ⟨w.heap.size, 0, none⟩) 1 cs.size cs.toList :=
  ⟨by simp, h, fun _ => ⟨w.heap.size, 0, rfl, by simp, fun j u hu => by rw [Nat.zero_add, World.cell?_alloc_new]; rw [← Array.getElem?_toList]; exact hu⟩⟩
/-- A list of bytes of the call's own. -/
def OB (w : World) (base : Nat) (e : TypeId) (v : Value) (l : List UInt8) : Prop := ∃ A c, v = .slice A l.length c ∧ w.ownsRow base e 1 (.slice A l.length c) l.length (Lib.byteCells l)
theorem OB.lits (w : World) (base : Nat) (e : TypeId) (l : List UInt8) (hb : base ≤ w.heap.size) (hl : l.length ≤ maxLen) : (w.alloc (.cells (Lib.byteCells l).toArray e)).ownsRow base e 1 (.slice (some ⟨w.heap.size, 0, none⟩) l.length l.length) l.length (Lib.byteCells l) :=
  ⟨by simp [Lib.byteCells], .inr ⟨w.heap.size, l.length, (Lib.byteCells l).toArray, rfl, hb, by show (w.heap.push _)[w.heap.size]? = _; simp, Nat.le_refl _, hl, by simp [Lib.byteCells], by rw [List.take_of_length_le (by simp [Lib.byteCells])]⟩⟩
theorem byteCells_app (l m : List UInt8) : Lib.byteCells (l ++ m) = Lib.byteCells l ++ Lib.byteCells m := by simp [Lib.byteCells]
theorem byteCells_one (l : List UInt8) : ∀ u ∈ Lib.byteCells l, u.oneCell' = true := by
  intro u hu
  obtain ⟨b, _, rfl⟩ := List.mem_map.1 hu
  rfl
theorem add0 (g j : Nat) : (⟨g, 0, none⟩ : Addr).add j = ⟨g, j, none⟩ := by unfold Addr.add; by_cases hj : j = 0 <;> simp [hj]
/-- letters, digits -/
theorem letter_at {c : UInt8} {k : Nat} (hc : ([34, 92, 47, 8, 12, 10, 13, 9] : List UInt8)[k]? = some c) : Lib.indexByte [34, 92, 47, 8, 12, 10, 13, 9] c = k := by
  rcases Nat.lt_or_ge k 8 with h | h
  · rcases (show k = 0 ∨ k = 1 ∨ k = 2 ∨ k = 3 ∨ k = 4 ∨ k = 5 ∨ k = 6 ∨ k = 7 by omega) with rfl | rfl | rfl | rfl | rfl | rfl | rfl | rfl
    all_goals
      simp at hc
      subst hc
      decide
  · rw [List.getElem?_eq_none (by simpa using h)] at hc; cases hc
theorem letter_no {c : UInt8} (h : c ∉ ([34, 92, 47, 8, 12, 10, 13, 9] : List UInt8)) : Lib.indexByte [34, 92, 47, 8, 12, 10, 13, 9] c = -1 := by
  simp at h
  obtain ⟨h1, h2, h3, h4, h5, h6, h7, h8⟩ := h
  simp [Lib.indexByte, Ne.symm h1, Ne.symm h2, Ne.symm h3, Ne.symm h4, Ne.symm h5, Ne.symm h6, Ne.symm h7, Ne.symm h8]
theorem hex_at : ∀ k : Fin 16, (({ data := #[48, 49, 50, 51, 52, 53, 54, 55, 56, 57, 97, 98, 99, 100, 101, 102] } : ByteArray).data[k.val]'(by simp)) = hx k.val := by decide
theorem hex_get (k : Nat) (h : k < 16) : (({ data := #[48, 49, 50, 51, 52, 53, 54, 55, 56, 57, 97, 98, 99, 100, 101, 102] } : ByteArray)[k]'h).toNat = (hx k).toNat := by
  have := hex_at ⟨k, h⟩
  simp only at this
  rw [← this]; rfl
end Pv
namespace Go.Proofs.YtjbfkceficokbaaDoor
open Go.RowKit Pv

theorem told_index (c : UInt8) (w : World) : Calls Tryd.prog 42 #[.string { data := #[34, 92, 47, 8, 12, 10, 13, 9] }, .int .u8 c.toNat] w fun e w' => e = .returned (.int .i64 (Lib.indexByte [34, 92, 47, 8, 12, 10, 13, 9] c)) ∧ w = w' :=
  (Tryd.strings_IndexByte { data := #[34, 92, 47, 8, 12, 10, 13, 9] } c.toNat w).mono fun e w' ⟨h1, h2⟩ => ⟨by rw [h1]; simp, h2.symm⟩

set_option maxHeartbeats 2000000 in
set_option maxRecDepth 100000 in
theorem json_quote (s : ByteArray) (w : World) (hs : s.size ≤ 1000000) :
    Calls Tryd.prog 34 #[.string s] w fun e w' => e = .returned (.string (mkS (quoteL (bsl s)))) ∧ Below w.heap.size w w' := by
  obtain ⟨i0, hi0, hz0, hs0, hb0⟩ := info_parts info_byte
  obtain ⟨l, HL⟩ : ∃ l, Hid (bsl s = l) := ⟨_, Lib.hid rfl⟩
  have HLen : Hid (l.length = s.size) := Lib.hid (by rw [← HL.out, bsl_len])
  have HB := Lib.hid (fun k (h : k < s.size) => show ∃ c : UInt8, s[k]'h = c ∧ l[k]? = some c from ⟨_, rfl, by rw [← HL.out, List.getElem?_eq_getElem (by rw [bsl_len]; exact h)]; rfl⟩)
  have O1 := Lib.hid (OB.lits w w.heap.size T8 [34] (Nat.le_refl _) (by simp [maxLen]))
  rw [HL.out]
  go_enter Tryd.func34, Tryd.ntmps34
  go_wp2
  go_loopw [3, 10] (fun o i wr => ∃ (k : Nat) (A : Option Addr) (c n : Nat), i = .int .i64 k ∧ k ≤ s.size ∧ o = .slice A n c ∧ n = (34 :: escL (l.take k)).length ∧ wr.ownsRow w.heap.size T8 1 (.slice A n c) n (Lib.byteCells (34 :: escL (l.take k))) ∧ Below w.heap.size w wr) (fun _ i _ => s.size - (intOf i).toNat)
  case atStart => exact ⟨0, some ⟨w.heap.size, 0, none⟩, 1, 1, rfl, by omega, rfl, rfl, O1.out, (Below.refl _ _).alloc (Nat.le_refl _) _⟩
  case round =>
    obtain ⟨k, A, c, n, rfl, hk, rfl, hn, hown, hb⟩ := hrel
    have HN := Lib.hid hn; have HO := Lib.hid hown; have HBE := Lib.hid hb
    have hn6 : n ≤ 6 * k + 1 := by
      have h1 := escL_len (l.take k)
      have h2 := List.length_take_le k l
      rw [hn, List.length_cons]; omega
    clear hn hown hb
    by_cases hlt : k < s.size
    · obtain ⟨b, hb, hlk⟩ := HB.out k hlt
      have HS := Lib.hid (show escL (l.take (k + 1)) = escL (l.take k) ++ esc8 b by rw [take_snoc hlk, escL_snoc])
      have HTI := Lib.hid (fun W : World => told_index b W)
      have hb256 : b.toNat < 256 := b.toNat_lt
      have e0 : (s[k]'hlt).toNat = b.toNat := by rw [hb]
      clear hb hlk
      cases escC b with
      | self he h34 h92 h32 =>
        have HE := Lib.hid he
        have SR := Lib.hid (Src.lits wr (Lib.byteCells [b]).toArray T8 (by simpa using byteCells_one _))
        have OW := Lib.hid (HO.out.alloc (.cells (Lib.byteCells [b]).toArray T8))
        have Q1 : Hid (n + 1 ≤ maxLen) := Lib.hid (by simp only [maxLen]; omega)
        have Q2 : Hid ((n + 1) * 1 ≤ 140737488355328) := Lib.hid (by omega)
        have Q3 : Hid (w.heap.size ≤ (wr.alloc (.cells (Lib.byteCells [b]).toArray T8)).heap.size) := Lib.hid (by have := HBE.out.size; simp; omega)
        have hcase : ((b.toNat : Int) == 47) = true ∨ (((b.toNat : Int) == 47) = false ∧ Lib.indexByte [34, 92, 47, 8, 12, 10, 13, 9] b = -1) := by
          by_cases h47 : b.toNat = 47
          · left; simp; omega
          · right
            refine ⟨by simp; omega, letter_no ?_⟩
            have hn : ∀ d : UInt8, b.toNat ≠ d.toNat → b ≠ d := fun d h e => h (by rw [e])
            simp only [List.mem_cons, List.not_mem_nil, or_false, not_or]
            exact ⟨hn 34 h34, hn 92 h92, hn 47 h47, hn 8 (by show b.toNat ≠ 8; omega), hn 12 (by show b.toNat ≠ 12; omega), hn 10 (by show b.toNat ≠ 10; omega), hn 13 (by show b.toNat ≠ 13; omega), hn 9 (by show b.toNat ≠ 9; omega)⟩
        clear he h34 h92
        rcases hcase with q1 | ⟨q1, q2⟩
        case' inr => rw [q2] at HTI; clear q2
        all_goals
          go_wp2_with fail
          refine (HTI.out _).mono ?_
          rintro e w1 ⟨rfl, rfl⟩
          go_wp2_with (at_builtin
                       go_must (refine wpList_append_src _ rfl (.tmp 31) (.tmp 33) 37 rfl w.heap.size T8 i0 (.int .u8 0) 1 1 Tryd.underlying37 hi0 hz0 hs0 hb0 rfl (by decide) A c n (Lib.byteCells (34 :: escL (l.take k))) rfl OW.out (some ⟨wr.heap.size, 0, none⟩) 1 1 (Lib.byteCells [b]) rfl SR.out Q1.out Q2.out Q3.out ?_)
                       intro A' c' w2 own' gr' _
                       have OW2 := Lib.hid own'
                       have B2 := Lib.hid ((HBE.out.alloc HBE.out.size (.cells (Lib.byteCells [b]).toArray T8)).grown gr' (by have := HBE.out.size; simp; omega) (fun k hk => (OW.out.lt k hk).1))
                       clear own' gr')
          go_roundw
          case rel =>
            refine ⟨k + 1, A', c', n + 1, by go_num, by omega, rfl, ?_, ?_, B2.out⟩
            · rw [HS.out, HE.out, HN.out]; simp <;> omega
            · rw [HS.out, HE.out, show (34 : UInt8) :: (escL (l.take k) ++ [b]) = (34 :: escL (l.take k)) ++ [b] by simp, byteCells_app]; exact OW2.out
          case measure => simp [intOf]; omega
      | letter j x he hj hj2 hc hx =>
        have HE := Lib.hid he
        rw [letter_at hc] at HTI
        have q1 : ((b.toNat : Int) == 47) = false := by
          have : b.toNat ≠ 47 := by
            rcases (show j = 0 ∨ j = 1 ∨ j = 3 ∨ j = 4 ∨ j = 5 ∨ j = 6 ∨ j = 7 by omega) with rfl | rfl | rfl | rfl | rfl | rfl | rfl
            all_goals
              simp at hc
              subst hc
              decide
          simp; omega
        have x1 : (({ data := #[34, 92, 47, 98, 102, 110, 114, 116] } : ByteArray)[j]'hj).toNat = x.toNat := by
          rcases (show j = 0 ∨ j = 1 ∨ j = 2 ∨ j = 3 ∨ j = 4 ∨ j = 5 ∨ j = 6 ∨ j = 7 by omega) with rfl | rfl | rfl | rfl | rfl | rfl | rfl | rfl
          all_goals
            simp at hx
            subst hx
            rfl
        have g1 : (0 : Int) ≤ (j : Int) := by omega
        have g2 : (j : Int) < 8 := by omega
        have SR := Lib.hid (Src.lits wr (Lib.byteCells [92, x]).toArray T8 (by simpa using byteCells_one _))
        have OW := Lib.hid (HO.out.alloc (.cells (Lib.byteCells [92, x]).toArray T8))
        have Q1 : Hid (n + 2 ≤ maxLen) := Lib.hid (by simp only [maxLen]; omega)
        have Q2 : Hid ((n + 2) * 1 ≤ 140737488355328) := Lib.hid (by omega)
        have Q3 : Hid (w.heap.size ≤ (wr.alloc (.cells (Lib.byteCells [92, x]).toArray T8)).heap.size) := Lib.hid (by have := HBE.out.size; simp; omega)
        clear he hc hx
        by_cases h32 : 32 ≤ b.toNat
        all_goals
          go_wp2_with fail
          refine (HTI.out _).mono ?_
          rintro e w1 ⟨rfl, rfl⟩
          go_wp2_with (at_builtin
                       go_must (refine wpList_append_src _ rfl (.tmp 35) (.tmp 38) 37 rfl w.heap.size T8 i0 (.int .u8 0) 1 1 Tryd.underlying37 hi0 hz0 hs0 hb0 rfl (by decide) A c n (Lib.byteCells (34 :: escL (l.take k))) rfl OW.out (some ⟨wr.heap.size, 0, none⟩) 2 2 (Lib.byteCells [92, x]) rfl SR.out Q1.out Q2.out Q3.out ?_)
                       intro A' c' w2 own' gr' _
                       have OW2 := Lib.hid own'
                       have B2 := Lib.hid ((HBE.out.alloc HBE.out.size (.cells (Lib.byteCells [92, x]).toArray T8)).grown gr' (by have := HBE.out.size; simp; omega) (fun k hk => (OW.out.lt k hk).1))
                       clear own' gr')
          go_roundw
          case rel =>
            refine ⟨k + 1, A', c', n + 2, by go_num, by omega, rfl, ?_, ?_, B2.out⟩
            · rw [HS.out, HE.out, HN.out]; simp <;> omega
            · rw [HS.out, HE.out, show (34 : UInt8) :: (escL (l.take k) ++ [92, x]) = (34 :: escL (l.take k)) ++ [92, x] by simp, byteCells_app]; exact OW2.out
          case measure => simp [intOf]; omega
      | digits he h32 hno =>
        rw [letter_no hno] at HTI
        have q1 : ((b.toNat : Int) == 47) = false := by simp; omega
        go_wp2_with fail
        refine (HTI.out _).mono ?_
        rintro e w1 ⟨rfl, rfl⟩
        go_wp2
        have HT : Hid (True ∧ True) := Lib.hid ⟨trivial, trivial⟩
        obtain ⟨d1, hd1⟩ : ∃ d1 : Nat, b.toNat / 16 = d1 := ⟨_, rfl⟩
        obtain ⟨d2, hd2⟩ : ∃ d2 : Nat, b.toNat % 16 = d2 := ⟨_, rfl⟩
        rw [hd1, hd2] at he
        have g1 : (b.toNat : Int) / 16 = (d1 : Int) := by omega
        have g2 := u8_and15 (x := (b.toNat : Int)) (by omega) (by omega)
        rw [show (b.toNat : Int) % 16 = (d2 : Int) by omega] at g2
        have g3 : d1 < 16 := by omega
        have g4 : d2 < 16 := by omega
        have g5 : (0 : Int) ≤ (d1 : Int) := by omega
        have g6 : (d1 : Int) < 16 := by omega
        have g7 : (0 : Int) ≤ (d2 : Int) := by omega
        have g8 : (d2 : Int) < 16 := by omega
        obtain ⟨y1, hy1⟩ : ∃ y1 : UInt8, hx d1 = y1 := ⟨_, rfl⟩
        obtain ⟨y2, hy2⟩ : ∃ y2 : UInt8, hx d2 = y2 := ⟨_, rfl⟩
        have x1 := hex_get d1 g3
        have x2 := hex_get d2 g4
        rw [hy1] at x1 he; rw [hy2] at x2 he
        have HE := Lib.hid he
        have SR := Lib.hid (Src.lits wr.drew (Lib.byteCells [92, 117, 48, 48, y1, y2]).toArray T8 (by simpa using byteCells_one _))
        have OW := Lib.hid ((show wr.drew.ownsRow w.heap.size T8 1 (.slice A n c) n (Lib.byteCells (34 :: escL (l.take k))) from HO.out).alloc (.cells (Lib.byteCells [92, 117, 48, 48, y1, y2]).toArray T8))
        have Q1 : Hid (n + 6 ≤ maxLen) := Lib.hid (by simp only [maxLen]; omega)
        have Q2 : Hid ((n + 6) * 1 ≤ 140737488355328) := Lib.hid (by omega)
        have Q3 : Hid (w.heap.size ≤ (wr.drew.alloc (.cells (Lib.byteCells [92, 117, 48, 48, y1, y2]).toArray T8)).heap.size) := Lib.hid (by have := HBE.out.size; simp; omega)
        clear hd1 hd2 he hy1 hy2
        refine wp_region_T 8 (fun _ => True ∧ True) (by kernel_rfl) ?_
        refine wpAnyT_takeW (i := 0) (v := ?_) rfl (by decide) (by kernel_rfl) (by kernel_rfl) (by kernel_rfl) (fun _ _ _ h => h) (.inl ⟨rfl, ?_⟩) (fun _ => HT.out) ?_
        rotate_left
        · intro W__ _
          go_simp
          (try with_reducible rfl)
        try simp only [Act.put]
        refine wpAnyT_takeW (i := 1) (v := ?_) rfl (by decide) (by kernel_rfl) (by kernel_rfl) (by kernel_rfl) (fun _ _ _ h => h) (.inl ⟨rfl, ?_⟩) (fun _ => HT.out) ?_
        rotate_left
        · intro W__ _
          go_simp
          (try with_reducible rfl)
        try simp only [Act.put]
        refine wpAnyT_takeW (i := 4) (v := ?_) rfl (by decide) (by kernel_rfl) (by kernel_rfl) (by kernel_rfl) (fun _ _ _ h => h) (.inl ⟨rfl, ?_⟩) (fun _ => HT.out) ?_
        rotate_left
        · intro W__ _
          go_simp
          (try with_reducible rfl)
        try simp only [Act.put]
        refine wpAnyT_takeW (i := 2) (v := ?_) rfl (by decide) (by kernel_rfl) (by kernel_rfl) (by kernel_rfl) (fun _ _ _ h => h) (.inl ⟨rfl, ?_⟩) (fun _ => HT.out) ?_
        rotate_left
        · intro W__ _
          go_simp
          (try with_reducible rfl)
        try simp only [Act.put]
        refine wpAnyT_takeW (i := 5) (v := ?_) rfl (by decide) (by kernel_rfl) (by kernel_rfl) (by kernel_rfl) (fun _ _ _ h => h) (.inl ⟨rfl, ?_⟩) (fun _ => HT.out) ?_
        rotate_left
        · intro W__ _
          go_simp
          (try with_reducible rfl)
        try simp only [Act.put]
        refine wpAnyT_takeW (i := 3) (v := ?_) rfl (by decide) (by kernel_rfl) (by kernel_rfl) (by kernel_rfl) (fun _ _ _ h => h) (.inl ⟨rfl, ?_⟩) (fun _ => HT.out) ?_
        rotate_left
        · intro W__ _
          go_simp
          (try with_reducible rfl)
        try simp only [Act.put]
        refine wpAnyT_takeW (i := 6) (v := ?_) rfl (by decide) (by kernel_rfl) (by kernel_rfl) (by kernel_rfl) (fun _ _ _ h => h) (.inl ⟨rfl, ?_⟩) (fun _ => HT.out) ?_
        rotate_left
        · intro W__ _
          go_simp
          (try with_reducible rfl)
        try simp only [Act.put]
        refine wpAnyT_one (i := 7) rfl (by kernel_rfl) rfl fun K__ hK__ => ?_
        unfold Oper.wp
        go_simp
        refine hK__ _ _ HT.out ?_
        clear hK__
        try simp only [Act.put]
        refine wpAnyT_end (i := 8) rfl (by kernel_rfl) rfl (by kernel_rfl) fun K__ hK__ => ?_
        refine wp_append_src _ (.tmp 40) (.tmp 47) 37 rfl w.heap.size T8 i0 (.int .u8 0) 1 1 Tryd.underlying37 hi0 hz0 hs0 hb0 rfl (by decide) A c n (Lib.byteCells (34 :: escL (l.take k))) rfl OW.out (some ⟨wr.heap.size, 0, none⟩) 6 6 (Lib.byteCells [92, 117, 48, 48, y1, y2]) rfl SR.out Q1.out Q2.out Q3.out ?_
        intro A' c' w2 own' gr' _
        refine hK__ _ _ ?_
        have OW2 := Lib.hid own'
        have B2 := Lib.hid ((HBE.out.drew.alloc HBE.out.size (.cells (Lib.byteCells [92, 117, 48, 48, y1, y2]).toArray T8)).grown gr' (by have := HBE.out.size; simp; omega) (fun k hk => (OW.out.lt k hk).1))
        clear hK__ own' gr'
        try simp only [Act.put]
        refine wpAnyT_end (i := 9) rfl (by kernel_rfl) rfl (by kernel_rfl) fun K__ hK__ => ?_
        unfold Oper.wp
        go_simp
        refine hK__ _ _ ?_
        clear hK__
        refine wpAnyT_done (by kernel_rfl) ?_ _
        go_wp2
        go_roundw
        case rel =>
          refine ⟨k + 1, A', c', n + 6, by go_num, by omega, rfl, ?_, ?_, B2.out⟩
          · rw [HS.out, HE.out, HN.out]; simp <;> omega
          · rw [HS.out, HE.out, show (34 : UInt8) :: (escL (l.take k) ++ [92, 117, 48, 48, y1, y2]) = (34 :: escL (l.take k)) ++ [92, 117, 48, 48, y1, y2] by simp, byteCells_app]; exact OW2.out
        case measure => simp [intOf]; omega
    · have hkn : l.take k = l := List.take_of_length_le (by rw [HLen.out]; omega)
      have SR := Lib.hid (Src.lits wr (Lib.byteCells [34]).toArray T8 (by simpa using byteCells_one _))
      have OW := Lib.hid (HO.out.alloc (.cells (Lib.byteCells [34]).toArray T8))
      have Q1 : Hid (n + 1 ≤ maxLen) := Lib.hid (by simp only [maxLen]; omega)
      have Q2 : Hid ((n + 1) * 1 ≤ 140737488355328) := Lib.hid (by omega)
      have Q3 : Hid (w.heap.size ≤ (wr.alloc (.cells (Lib.byteCells [34]).toArray T8)).heap.size) := Lib.hid (by have := HBE.out.size; simp; omega)
      rw [hkn] at HN OW HO
      have HLN : Hid ((quoteL l).length = n + 1) := Lib.hid (by rw [HN.out]; simp [quoteL])
      clear hkn
      go_wp2_with (at_builtin
                   go_must (refine wpList_append_src _ rfl (.tmp 50) (.tmp 51) 37 rfl w.heap.size T8 i0 (.int .u8 0) 1 1 Tryd.underlying37 hi0 hz0 hs0 hb0 rfl (by decide) A c n (Lib.byteCells (34 :: escL l)) rfl OW.out (some ⟨wr.heap.size, 0, none⟩) 1 1 (Lib.byteCells [34]) rfl SR.out Q1.out Q2.out Q3.out ?_)
                   intro A' c' w2 own' gr' _
                   rw [← byteCells_app, List.cons_append] at own'
                   have B2 := Lib.hid ((HBE.out.alloc HBE.out.size (.cells (Lib.byteCells [34]).toArray T8)).grown gr' (by have := HBE.out.size; simp; omega) (fun k hk => (OW.out.lt k hk).1))
                   obtain ⟨g, rfl, hcv⟩ : ∃ g, A' = some ⟨g, 0, none⟩ ∧ (convert 37 9 (.slice (some ⟨g, 0, none⟩) (n + 1) c')).run Tryd.prog w2 = .ok (.string (mkS (quoteL l))) w2 := by
                     rcases own'.2 with ⟨hv, h0⟩ | ⟨g, cap, cur, hv, hg, hh, hnc, hcm, hcs, htk⟩
                     · omega
                     · injection hv with e1 e2 e3
                       subst e1
                       refine ⟨g, rfl, ?_⟩
                       have h1 := conv_bytes g c' (quoteL l) w2 (fun j x hx => by
                         have h2 := own'.cells (g := g) rfl j (.int .u8 x.toNat) (by
                           show (Lib.byteCells (quoteL l))[j]? = _
                           simp [Lib.byteCells, hx])
                         rwa [add0] at h2)
                       rw [HLN.out] at h1
                       exact h1
                   clear own' gr')
      go_ret
      exact ⟨rfl, B2.out⟩
end Go.Proofs.YtjbfkceficokbaaDoor
