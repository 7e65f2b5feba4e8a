/- Walks: a text quoted (the document's). PUT1 -/
import Derived.Test.YtjbfkceficokbaaDoorJb
namespace Go.Proofs.YtjbfkceficokbaaDoor
open Go.RowKit Pv

set_option maxHeartbeats 2000000 in
set_option maxRecDepth 100000 in
theorem ref04_Quoted (s : ByteArray) (w : World) (hs : s.size ≤ 1000000) :
    Calls Tryd.prog 31 #[.string s] w fun e w' => e = .returned (.string (mkS (quoteL (bsl s)))) ∧ Below w.heap.size w w' := by
  obtain ⟨i0, hi0, hz0, hs0, hb0⟩ := info_parts info_byte
  obtain ⟨l, HL⟩ : ∃ l, Hid (bsl s = l) := ⟨_, Lib.hid rfl⟩
  have HLen : Hid (l.length = s.size) := Lib.hid (by rw [← HL.out, bsl_len])
  have HB := Lib.hid (fun k (h : k < s.size) => show ∃ c : UInt8, s[k]'h = c ∧ l[k]? = some c from ⟨_, rfl, by rw [← HL.out, List.getElem?_eq_getElem (by rw [bsl_len]; exact h)]; rfl⟩)
  have O1 := Lib.hid (OB.lits w w.heap.size T8 [34] (Nat.le_refl _) (by simp [maxLen]))
  rw [HL.out]
  go_enter Tryd.func31, Tryd.ntmps31
  go_wp2
  go_loopw [3, 5] (fun o i wr => ∃ (k : Nat) (A : Option Addr) (c n : Nat), i = .int .i64 k ∧ k ≤ s.size ∧ o = .slice A n c ∧ n = (34 :: escL (l.take k)).length ∧ wr.ownsRow w.heap.size T8 1 (.slice A n c) n (Lib.byteCells (34 :: escL (l.take k))) ∧ Below w.heap.size w wr) (fun _ i _ => s.size - (intOf i).toNat)
  case atStart => exact ⟨0, some ⟨w.heap.size, 0, none⟩, 1, 1, rfl, by omega, rfl, rfl, O1.out, (Below.refl _ _).alloc (Nat.le_refl _) _⟩
  case round =>
    obtain ⟨k, A, c, n, rfl, hk, rfl, hn, hown, hb⟩ := hrel
    have HN := Lib.hid hn; have HO := Lib.hid hown; have HBE := Lib.hid hb
    have hn6 : n ≤ 6 * k + 1 := by
      have h1 := escL_len (l.take k)
      have h2 := List.length_take_le k l
      rw [hn, List.length_cons]; omega
    clear hn hown hb
    by_cases hlt : k < s.size
    · obtain ⟨b, hb, hlk⟩ := HB.out k hlt
      have HS := Lib.hid (show escL (l.take (k + 1)) = escL (l.take k) ++ esc8 b by rw [take_snoc hlk, escL_snoc])
      have hb256 : b.toNat < 256 := b.toNat_lt
      have e0 : (s[k]'hlt).toNat = b.toNat := by rw [hb]
      clear hb hlk
      cases escC b with
      | self he h34 h92 h32 =>
        have HE := Lib.hid he
        have q1 : ((b.toNat : Int) == 34) = false := by simp; omega
        have q2 : ((b.toNat : Int) == 92) = false := by simp; omega
        have q3 : (32 : Int) ≤ (b.toNat : Int) := by omega
        have SR := Lib.hid (Src.lits wr (Lib.byteCells [b]).toArray T8 (by simpa using byteCells_one _))
        have OW := Lib.hid (HO.out.alloc (.cells (Lib.byteCells [b]).toArray T8))
        have Q1 : Hid (n + 1 ≤ maxLen) := Lib.hid (by simp only [maxLen]; omega)
        have Q2 : Hid ((n + 1) * 1 ≤ 140737488355328) := Lib.hid (by omega)
        have Q3 : Hid (w.heap.size ≤ (wr.alloc (.cells (Lib.byteCells [b]).toArray T8)).heap.size) := Lib.hid (by have := HBE.out.size; simp; omega)
        clear he h34 h92 h32
        go_wp2_with (at_builtin
                     go_must (refine wpList_append_src _ rfl (.tmp 17) (.tmp 19) 37 rfl w.heap.size T8 i0 (.int .u8 0) 1 1 Tryd.underlying37 hi0 hz0 hs0 hb0 rfl (by decide) A c n (Lib.byteCells (34 :: escL (l.take k))) rfl OW.out (some ⟨wr.heap.size, 0, none⟩) 1 1 (Lib.byteCells [b]) rfl SR.out Q1.out Q2.out Q3.out ?_)
                     intro A' c' w2 own' gr' _
                     have OW2 := Lib.hid own'
                     have B2 := Lib.hid ((HBE.out.alloc HBE.out.size (.cells (Lib.byteCells [b]).toArray T8)).grown gr' (by have := HBE.out.size; simp; omega) (fun k hk => (OW.out.lt k hk).1))
                     clear own' gr')
        go_roundw
        case rel =>
          refine ⟨k + 1, A', c', n + 1, by go_num, by omega, rfl, ?_, ?_, B2.out⟩
          · rw [HS.out, HE.out, HN.out]; simp <;> omega
          · rw [HS.out, HE.out, show (34 : UInt8) :: (escL (l.take k) ++ [b]) = (34 :: escL (l.take k)) ++ [b] by simp, byteCells_app]; exact OW2.out
        case measure => simp [intOf]; omega
      | letter j x he hj hj2 hc hx =>
        have HE := Lib.hid he
        by_cases hj1 : j ≤ 1
        · have hbx : x = b := by
            rcases (show j = 0 ∨ j = 1 by omega) with rfl | rfl
            all_goals
              simp at hc hx
              subst hc; subst hx
              rfl
          subst hbx
          have hq : (((x.toNat : Int) == 34) = true) ∨ (((x.toNat : Int) == 34) = false ∧ ((x.toNat : Int) == 92) = true) := by
            rcases (show j = 0 ∨ j = 1 by omega) with rfl | rfl
            all_goals
              simp at hc
              subst hc
              decide
          have SR := Lib.hid (Src.lits wr (Lib.byteCells [92, x]).toArray T8 (by simpa using byteCells_one _))
          have OW := Lib.hid (HO.out.alloc (.cells (Lib.byteCells [92, x]).toArray T8))
          have Q1 : Hid (n + 2 ≤ maxLen) := Lib.hid (by simp only [maxLen]; omega)
          have Q2 : Hid ((n + 2) * 1 ≤ 140737488355328) := Lib.hid (by omega)
          have Q3 : Hid (w.heap.size ≤ (wr.alloc (.cells (Lib.byteCells [92, x]).toArray T8)).heap.size) := Lib.hid (by have := HBE.out.size; simp; omega)
          clear he hc hx hj2 hj hj1
          rcases hq with q1 | ⟨q1, q2⟩
          all_goals
            go_wp2_with (at_builtin
                         go_must (refine wpList_append_src _ rfl (.tmp 28) (.tmp 30) 37 rfl w.heap.size T8 i0 (.int .u8 0) 1 1 Tryd.underlying37 hi0 hz0 hs0 hb0 rfl (by decide) A c n (Lib.byteCells (34 :: escL (l.take k))) rfl OW.out (some ⟨wr.heap.size, 0, none⟩) 2 2 (Lib.byteCells [92, x]) rfl SR.out Q1.out Q2.out Q3.out ?_)
                         intro A' c' w2 own' gr' _
                         have OW2 := Lib.hid own'
                         have B2 := Lib.hid ((HBE.out.alloc HBE.out.size (.cells (Lib.byteCells [92, x]).toArray T8)).grown gr' (by have := HBE.out.size; simp; omega) (fun k hk => (OW.out.lt k hk).1))
                         clear own' gr')
            go_roundw
            case rel =>
              refine ⟨k + 1, A', c', n + 2, by go_num, by omega, rfl, ?_, ?_, B2.out⟩
              · rw [HS.out, HE.out, HN.out]; simp <;> omega
              · rw [HS.out, HE.out, show (34 : UInt8) :: (escL (l.take k) ++ [92, x]) = (34 :: escL (l.take k)) ++ [92, x] by simp, byteCells_app]; exact OW2.out
            case measure => simp [intOf]; omega
        · obtain ⟨d, hd⟩ : ∃ d : Nat, b.toNat = 8 + d ∧ d < 6 ∧ d ≠ 3 ∧ ∃ h : d < 6, (({ data := #[98, 116, 110, 46, 102, 114] } : ByteArray)[d]'h).toNat = x.toNat := by
            rcases (show j = 3 ∨ j = 4 ∨ j = 5 ∨ j = 6 ∨ j = 7 by omega) with rfl | rfl | rfl | rfl | rfl
            all_goals
              simp at hc hx
              subst hc; subst hx
            · exact ⟨0, by decide, by decide, by decide, by decide, rfl⟩
            · exact ⟨4, by decide, by decide, by decide, by decide, rfl⟩
            · exact ⟨2, by decide, by decide, by decide, by decide, rfl⟩
            · exact ⟨5, by decide, by decide, by decide, by decide, rfl⟩
            · exact ⟨1, by decide, by decide, by decide, by decide, rfl⟩
          obtain ⟨hd1, hd2, hd3, hd4, x1⟩ := hd
          have q1 : ((b.toNat : Int) == 34) = false := by simp; omega
          have q2 : ((b.toNat : Int) == 92) = false := by simp; omega
          have q3 : ((b.toNat : Int) != 11) = true := by simp; omega
          have q4 : (8 : Int) ≤ (b.toNat : Int) := by omega
          have q5 : (b.toNat : Int) ≤ 13 := by omega
          have g0 : (b.toNat : Int) - 8 = (d : Int) := by omega
          have g1 : (0 : Int) ≤ (d : Int) := by omega
          have g2 : (d : Int) < 6 := by omega
          have SR := Lib.hid (Src.lits wr (Lib.byteCells [92, x]).toArray T8 (by simpa using byteCells_one _))
          have OW := Lib.hid (HO.out.alloc (.cells (Lib.byteCells [92, x]).toArray T8))
          have Q1 : Hid (n + 2 ≤ maxLen) := Lib.hid (by simp only [maxLen]; omega)
          have Q2 : Hid ((n + 2) * 1 ≤ 140737488355328) := Lib.hid (by omega)
          have Q3 : Hid (w.heap.size ≤ (wr.alloc (.cells (Lib.byteCells [92, x]).toArray T8)).heap.size) := Lib.hid (by have := HBE.out.size; simp; omega)
          clear he hc hx hd1 hj1 hj2 hj
          go_wp2_with (at_builtin
                       go_must (refine wpList_append_src _ rfl (.tmp 43) (.tmp 48) 37 rfl w.heap.size T8 i0 (.int .u8 0) 1 1 Tryd.underlying37 hi0 hz0 hs0 hb0 rfl (by decide) A c n (Lib.byteCells (34 :: escL (l.take k))) rfl OW.out (some ⟨wr.heap.size, 0, none⟩) 2 2 (Lib.byteCells [92, x]) rfl SR.out Q1.out Q2.out Q3.out ?_)
                       intro A' c' w2 own' gr' _
                       have OW2 := Lib.hid own'
                       have B2 := Lib.hid ((HBE.out.alloc HBE.out.size (.cells (Lib.byteCells [92, x]).toArray T8)).grown gr' (by have := HBE.out.size; simp; omega) (fun k hk => (OW.out.lt k hk).1))
                       clear own' gr')
          go_roundw
          case rel =>
            refine ⟨k + 1, A', c', n + 2, by go_num, by omega, rfl, ?_, ?_, B2.out⟩
            · rw [HS.out, HE.out, HN.out]; simp <;> omega
            · rw [HS.out, HE.out, show (34 : UInt8) :: (escL (l.take k) ++ [92, x]) = (34 :: escL (l.take k)) ++ [92, x] by simp, byteCells_app]; exact OW2.out
          case measure => simp [intOf]; omega
      | digits he h32 hno =>
        have q1 : ((b.toNat : Int) == 34) = false := by simp; omega
        have q2 : ((b.toNat : Int) == 92) = false := by simp; omega
        have hne : ∀ d : UInt8, d ∈ ([34, 92, 47, 8, 12, 10, 13, 9] : List UInt8) → b.toNat ≠ d.toNat := fun d hd e => hno (by rw [UInt8.toNat_inj.1 e]; exact hd)
        have h8 : b.toNat ≠ 8 := hne 8 (by decide)
        have h9 : b.toNat ≠ 9 := hne 9 (by decide)
        have h10 : b.toNat ≠ 10 := hne 10 (by decide)
        have h12 : b.toNat ≠ 12 := hne 12 (by decide)
        have h13 : b.toNat ≠ 13 := hne 13 (by decide)
        have hcase : (b.toNat : Int) < 8 ∨ ((13 : Int) < (b.toNat : Int)) ∨ ((8 : Int) ≤ (b.toNat : Int) ∧ (b.toNat : Int) ≤ 13 ∧ ((b.toNat : Int) != 11) = false) := by
          by_cases h11 : b.toNat = 11
          · right; right; rw [h11]; decide
          · by_cases h : b.toNat < 8
            · left; omega
            · right; left; omega
        have q6 : (b.toNat : Int) < 32 := by omega
        clear hno hne h8 h9 h10 h12 h13
        rcases hcase with q3 | q3 | ⟨q3, q4, q5⟩
        case' inr.inl => have q4 : (8 : Int) ≤ (b.toNat : Int) := by omega
        all_goals
          go_wp2
          have HT : Hid (True ∧ True) := Lib.hid ⟨trivial, trivial⟩
          obtain ⟨d1, hd1⟩ : ∃ d1 : Nat, b.toNat / 16 = d1 := ⟨_, rfl⟩
          obtain ⟨d2, hd2⟩ : ∃ d2 : Nat, b.toNat % 16 = d2 := ⟨_, rfl⟩
          rw [hd1, hd2] at he
          have g1 : (b.toNat : Int) / 16 = (d1 : Int) := by omega
          have g2 : (b.toNat : Int) % 16 = (d2 : Int) := by omega
          have g3 : d1 < 16 := by omega
          have gw1 : IntKind.u8.wrap (d1 : Int) = (d1 : Int) := by rw [IntKind.wrap_u8]; omega
          have g4 : d2 < 16 := by omega
          have gt2 : (b.toNat : Int).tmod 16 = (d2 : Int) := by rw [Int.tmod_eq_emod_of_nonneg (by omega)]; omega
          have gw2 : IntKind.u8.wrap (d2 : Int) = (d2 : Int) := by rw [IntKind.wrap_u8]; omega
          have g5 : (0 : Int) ≤ (d1 : Int) := by omega
          have g6 : (d1 : Int) < 16 := by omega
          have g7 : (0 : Int) ≤ (d2 : Int) := by omega
          have g8 : (d2 : Int) < 16 := by omega
          obtain ⟨y1, hy1⟩ : ∃ y1 : UInt8, hx d1 = y1 := ⟨_, rfl⟩
          obtain ⟨y2, hy2⟩ : ∃ y2 : UInt8, hx d2 = y2 := ⟨_, rfl⟩
          have x1 := hex_get d1 g3
          have x2 := hex_get d2 g4
          rw [hy1] at x1 he; rw [hy2] at x2 he
          have HE := Lib.hid he
          have SR := Lib.hid (Src.lits wr.drew (Lib.byteCells [92, 117, 48, 48, y1, y2]).toArray T8 (by simpa using byteCells_one _))
          have OW := Lib.hid ((show wr.drew.ownsRow w.heap.size T8 1 (.slice A n c) n (Lib.byteCells (34 :: escL (l.take k))) from HO.out).alloc (.cells (Lib.byteCells [92, 117, 48, 48, y1, y2]).toArray T8))
          have Q1 : Hid (n + 6 ≤ maxLen) := Lib.hid (by simp only [maxLen]; omega)
          have Q2 : Hid ((n + 6) * 1 ≤ 140737488355328) := Lib.hid (by omega)
          have Q3 : Hid (w.heap.size ≤ (wr.drew.alloc (.cells (Lib.byteCells [92, 117, 48, 48, y1, y2]).toArray T8)).heap.size) := Lib.hid (by have := HBE.out.size; simp; omega)
          clear hd1 hd2 he hy1 hy2
          refine wp_region_T 8 (fun _ => True ∧ True) (by kernel_rfl) ?_
          refine wpAnyT_takeW (i := 0) (v := ?_) rfl (by decide) (by kernel_rfl) (by kernel_rfl) (by kernel_rfl) (fun _ _ _ h => h) (.inl ⟨rfl, ?_⟩) (fun _ => HT.out) ?_
          rotate_left
          · intro W__ _
            go_simp
            (try with_reducible rfl)
          try simp only [Act.put]
          refine wpAnyT_takeW (i := 1) (v := ?_) rfl (by decide) (by kernel_rfl) (by kernel_rfl) (by kernel_rfl) (fun _ _ _ h => h) (.inl ⟨rfl, ?_⟩) (fun _ => HT.out) ?_
          rotate_left
          · intro W__ _
            go_simp
            (try with_reducible rfl)
          try simp only [Act.put]
          refine wpAnyT_takeW (i := 4) (v := ?_) rfl (by decide) (by kernel_rfl) (by kernel_rfl) (by kernel_rfl) (fun _ _ _ h => h) (.inl ⟨rfl, ?_⟩) (fun _ => HT.out) ?_
          rotate_left
          · intro W__ _
            go_simp
            (try with_reducible rfl)
          try simp only [Act.put]
          refine wpAnyT_takeW (i := 2) (v := ?_) rfl (by decide) (by kernel_rfl) (by kernel_rfl) (by kernel_rfl) (fun _ _ _ h => h) (.inl ⟨rfl, ?_⟩) (fun _ => HT.out) ?_
          rotate_left
          · intro W__ _
            go_simp
            (try with_reducible rfl)
          try simp only [Act.put]
          refine wpAnyT_takeW (i := 5) (v := ?_) rfl (by decide) (by kernel_rfl) (by kernel_rfl) (by kernel_rfl) (fun _ _ _ h => h) (.inl ⟨rfl, ?_⟩) (fun _ => HT.out) ?_
          rotate_left
          · intro W__ _
            go_simp
            (try with_reducible rfl)
          try simp only [Act.put]
          refine wpAnyT_takeW (i := 3) (v := ?_) rfl (by decide) (by kernel_rfl) (by kernel_rfl) (by kernel_rfl) (fun _ _ _ h => h) (.inl ⟨rfl, ?_⟩) (fun _ => HT.out) ?_
          rotate_left
          · intro W__ _
            go_simp
            (try with_reducible rfl)
          try simp only [Act.put]
          refine wpAnyT_takeW (i := 6) (v := ?_) rfl (by decide) (by kernel_rfl) (by kernel_rfl) (by kernel_rfl) (fun _ _ _ h => h) (.inl ⟨rfl, ?_⟩) (fun _ => HT.out) ?_
          rotate_left
          · intro W__ _
            go_simp
            (try with_reducible rfl)
          try simp only [Act.put]
          refine wpAnyT_one (i := 7) rfl (by kernel_rfl) rfl fun K__ hK__ => ?_
          unfold Oper.wp
          go_simp
          refine hK__ _ _ HT.out ?_
          clear hK__
          try simp only [Act.put]
          refine wpAnyT_end (i := 8) rfl (by kernel_rfl) rfl (by kernel_rfl) fun K__ hK__ => ?_
          refine wp_append_src _ (.tmp 53) (.tmp 60) 37 rfl w.heap.size T8 i0 (.int .u8 0) 1 1 Tryd.underlying37 hi0 hz0 hs0 hb0 rfl (by decide) A c n (Lib.byteCells (34 :: escL (l.take k))) rfl OW.out (some ⟨wr.heap.size, 0, none⟩) 6 6 (Lib.byteCells [92, 117, 48, 48, y1, y2]) rfl SR.out Q1.out Q2.out Q3.out ?_
          intro A' c' w2 own' gr' _
          refine hK__ _ _ ?_
          have OW2 := Lib.hid own'
          have B2 := Lib.hid ((HBE.out.drew.alloc HBE.out.size (.cells (Lib.byteCells [92, 117, 48, 48, y1, y2]).toArray T8)).grown gr' (by have := HBE.out.size; simp; omega) (fun k hk => (OW.out.lt k hk).1))
          clear hK__ own' gr'
          try simp only [Act.put]
          refine wpAnyT_end (i := 9) rfl (by kernel_rfl) rfl (by kernel_rfl) fun K__ hK__ => ?_
          unfold Oper.wp
          go_simp
          refine hK__ _ _ ?_
          clear hK__
          refine wpAnyT_done (by kernel_rfl) ?_ _
          go_wp2
          go_roundw
          case rel =>
            refine ⟨k + 1, A', c', n + 6, by go_num, by omega, rfl, ?_, ?_, B2.out⟩
            · rw [HS.out, HE.out, HN.out]; simp <;> omega
            · rw [HS.out, HE.out, show (34 : UInt8) :: (escL (l.take k) ++ [92, 117, 48, 48, y1, y2]) = (34 :: escL (l.take k)) ++ [92, 117, 48, 48, y1, y2] by simp, byteCells_app]; exact OW2.out
          case measure => simp [intOf]; omega
    · have hkn : l.take k = l := List.take_of_length_le (by rw [HLen.out]; omega)
      have SR := Lib.hid (Src.lits wr (Lib.byteCells [34]).toArray T8 (by simpa using byteCells_one _))
      have OW := Lib.hid (HO.out.alloc (.cells (Lib.byteCells [34]).toArray T8))
      have Q1 : Hid (n + 1 ≤ maxLen) := Lib.hid (by simp only [maxLen]; omega)
      have Q2 : Hid ((n + 1) * 1 ≤ 140737488355328) := Lib.hid (by omega)
      have Q3 : Hid (w.heap.size ≤ (wr.alloc (.cells (Lib.byteCells [34]).toArray T8)).heap.size) := Lib.hid (by have := HBE.out.size; simp; omega)
      rw [hkn] at HN OW HO
      have HLN : Hid ((quoteL l).length = n + 1) := Lib.hid (by rw [HN.out]; simp [quoteL])
      clear hkn
      go_wp2_with (at_builtin
                   go_must (refine wpList_append_src _ rfl (.tmp 62) (.tmp 63) 37 rfl w.heap.size T8 i0 (.int .u8 0) 1 1 Tryd.underlying37 hi0 hz0 hs0 hb0 rfl (by decide) A c n (Lib.byteCells (34 :: escL l)) rfl OW.out (some ⟨wr.heap.size, 0, none⟩) 1 1 (Lib.byteCells [34]) rfl SR.out Q1.out Q2.out Q3.out ?_)
                   intro A' c' w2 own' gr' _
                   rw [← byteCells_app, List.cons_append] at own'
                   have B2 := Lib.hid ((HBE.out.alloc HBE.out.size (.cells (Lib.byteCells [34]).toArray T8)).grown gr' (by have := HBE.out.size; simp; omega) (fun k hk => (OW.out.lt k hk).1))
                   obtain ⟨g, rfl, hcv⟩ : ∃ g, A' = some ⟨g, 0, none⟩ ∧ (convert 37 9 (.slice (some ⟨g, 0, none⟩) (n + 1) c')).run Tryd.prog w2 = .ok (.string (mkS (quoteL l))) w2 := by
                     rcases own'.2 with ⟨hv, h0⟩ | ⟨g, cap, cur, hv, hg, hh, hnc, hcm, hcs, htk⟩
                     · omega
                     · injection hv with e1 e2 e3
                       subst e1
                       refine ⟨g, rfl, ?_⟩
                       have h1 := conv_bytes g c' (quoteL l) w2 (fun j x hx => by
                         have h2 := own'.cells (g := g) rfl j (.int .u8 x.toNat) (by
                           show (Lib.byteCells (quoteL l))[j]? = _
                           simp [Lib.byteCells, hx])
                         rwa [add0] at h2)
                       rw [HLN.out] at h1
                       exact h1
                   clear own' gr')
      go_ret
      exact ⟨rfl, B2.out⟩
end Go.Proofs.YtjbfkceficokbaaDoor
