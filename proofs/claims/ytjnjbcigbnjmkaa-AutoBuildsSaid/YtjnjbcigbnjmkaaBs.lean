/- THE LAW AutoBuilds, walked. -/
import Derived.Test.YtjnjbcigbnjmkaaBo
import Derived.Test.YtjnjbcigbnjmkaaBp
import Derived.Test.YtjnjbcigbnjmkaaBr
namespace Go.Proofs.Ytjnjbcigbnjmkaa
open Go.RowKit Pv

/-- What comes of a pattern: its automaton, or the error. -/
def BR (t : List Rx) (r : Au × Int × Int) : Prop :=
  (¬ Pat t ∧ r = ([], 0, 8)) ∨ (Pat t ∧ ∃ T : Tr, T.Ok 16 ∧ t = T.flat ∧ ((¬ Few T ∧ r = ([], 0, 90)) ∨ (Few T ∧ r = ((leadT T [[]] 0).1, (((leadT T [[]] 0).2 : Nat) : Int), 0))))
theorem BR.one {t : List Rx} {r r' : Au × Int × Int} (h : BR t r) (h' : BR t r') : r = r' := by
  rcases h with ⟨h1, rfl⟩ | ⟨h1, T, hT, hfl, h⟩
  · rcases h' with ⟨_, rfl⟩ | ⟨h2, _⟩
    · rfl
    · exact absurd h2 h1
  · rcases h' with ⟨h2, _⟩ | ⟨_, T', hT', hfl', h'⟩
    · exact absurd h1 h2
    · obtain rfl := flat_inj hT hT' (hfl.symm.trans hfl')
      rcases h with ⟨hf, rfl⟩ | ⟨hf, rfl⟩ <;> rcases h' with ⟨hf', rfl⟩ | ⟨hf', rfl⟩ <;> first | rfl | exact absurd hf hf' | exact absurd hf' hf
theorem BR.few {t : List Rx} {r : Au × Int × Int} (h : BR t r) : r.1.length ≤ 256 ∧ edgesN r.1 ≤ 20000 := by
  rcases h with ⟨h1, rfl⟩ | ⟨h1, T, hT, hfl, ⟨hf, rfl⟩ | ⟨hf, rfl⟩⟩
  · simp [edgesN]
  · simp [edgesN]
  · have hz : T.size ≤ 64 := by show T.flat.length ≤ 64; rw [← hfl]; exact h1.2.1
    have h2 := (leadT_leads T [[]] 0 (by simp)).1
    have h3 := (leadT_el hT hz (a := [[]]) (s := 0) (by simp) (by simpa [Few] using hf)).e
    unfold Few at hf
    simp only [List.length_cons, List.length_nil, Nat.zero_add] at h2 h3
    have h4 : edgesN [[]] = 0 := by simp [edgesN]
    exact ⟨by simp only; omega, by simp only; omega⟩
theorem PBuild.one {t : List Rx} {w w' : World} {e : Ending} (h : PBuild t w e w') : Below w.heap.size w w' ∧ ∃ r : Au × Int × Int, BR t r ∧ ∃ A' n' c', e = .returned (.tuple #[.agg #[.slice A' n' c', .int .i64 r.2.1], .int .i64 r.2.2]) ∧ AuQ w' w.heap.size A' n' c' r.1 := by
  obtain ⟨hb, h⟩ := h
  refine ⟨hb, ?_⟩
  rcases h with ⟨h1, rfl⟩ | ⟨h1, T, hT, hfl, ⟨hf, rfl⟩ | ⟨hf, A', n', c', rfl, au⟩⟩
  · exact ⟨([], 0, 8), .inl ⟨h1, rfl⟩, none, 0, 0, rfl, AuQ.nil _ _⟩
  · exact ⟨([], 0, 90), .inr ⟨h1, T, hT, hfl, .inl ⟨hf, rfl⟩⟩, none, 0, 0, rfl, AuQ.nil _ _⟩
  · exact ⟨((leadT T [[]] 0).1, (((leadT T [[]] 0).2 : Nat) : Int), 0), .inr ⟨h1, T, hT, hfl, .inr ⟨hf, rfl⟩⟩, A', n', c', rfl, au⟩
theorem AuAt.nil (w : World) (base : Nat) : AuAt w base none 0 0 [] := ⟨[], World.ownsRow_nil _ _ _ _, rfl, rfl, fun i es h => by simp at h, fun i j r r' _ h => by simp at h⟩
theorem BuildPost.one {t : List Rx} {w w' : World} {e : Ending} (h : BuildPost t w e w') : Below w.heap.size w w' ∧ ∃ r : Au × Int × Int, BR t r ∧ ∃ A' n' c', e = .returned (.tuple #[.agg #[.slice A' n' c', .int .i64 r.2.1], .int .i64 r.2.2]) ∧ AuAt w' w.heap.size A' n' c' r.1 := by
  obtain ⟨hb, h⟩ := h
  refine ⟨hb, ?_⟩
  rcases h with ⟨h1, rfl⟩ | ⟨h1, T, hT, hfl, ⟨hf, rfl⟩ | ⟨hf, A', n', c', rfl, au⟩⟩
  · exact ⟨([], 0, 8), .inl ⟨h1, rfl⟩, none, 0, 0, rfl, AuAt.nil _ _⟩
  · exact ⟨([], 0, 90), .inr ⟨h1, T, hT, hfl, .inl ⟨hf, rfl⟩⟩, none, 0, 0, rfl, AuAt.nil _ _⟩
  · exact ⟨((leadT T [[]] 0).1, (((leadT T [[]] 0).2 : Nat) : Int), 0), .inr ⟨h1, T, hT, hfl, .inr ⟨hf, rfl⟩⟩, A', n', c', rfl, au⟩
/-- what Twin made reads as nodes -/
theorem OwnRx.at' {w : World} {base n c : Nat} {B : Option Addr} {t : List Rx} (h : OwnRx w base (.slice B n c) t) (hl : t.length ≤ 140737488355328) (hs : ∀ (i : Nat) x, t[i]? = some x → x.set.length ≤ 60) : AtRx w B t := by
  obtain ⟨A', c', e, hat, _⟩ := OwnK.sl h hl
  injection e with e1 _ _
  subst e1
  refine ⟨hat.1, fun hp => ?_⟩
  obtain ⟨b, off, e, hb, hc⟩ := hat.2 hp
  exact ⟨b, off, e, hb, fun i x hx => by
    obtain ⟨f, hf, hR⟩ := hc i x hx
    exact ⟨f, hf, hR.rx (by have := hs i x hx; omega)⟩⟩

set_option maxHeartbeats 4000000 in
set_option maxRecDepth 100000 in
theorem law_AutoBuilds (tA : Option Addr) (nt ct : Nat) (t : List Rx) (w : World) (ht : AtRx w tA t) (HT : Hid (t.length = nt)) :
    Calls Try.prog 4 #[.slice tA nt ct] w fun e w' => e = .returned (.bool true) ∧ Below w.heap.size w w' := by
  have HG := Lib.hid (ref07_Great tA ct nt 80 t w ht HT (by omega))
  have HAT := Lib.hid ht
  have hl : nt ≤ 140737488355328 := by have := ht.1; rwa [HT.out] at this
  clear ht
  go_enter Try.func4, Try.ntmps4
  go_wp2_with fail
  refine HG.out.mono ?_
  rintro e w' ⟨g, rfl, hg, rfl⟩
  have HQ := Lib.hid hg
  clear hg
  cases g
  case true =>
    go_wp2
    go_ret
    exact ⟨rfl, Below.refl _ _⟩
  have hq := (HQ.out rfl).1
  rw [HT.out] at hq
  have HS := Lib.hid (HQ.out rfl).2
  have HTW := Lib.hid (ref07_Twin tA ct nt t w HAT.out HT (by omega) HS)
  clear HQ HG
  go_wp2_with fail
  refine HTW.out.mono ?_
  rintro e w1 ⟨B, cB, rfl, own, hb1⟩
  have OW1 := Lib.hid (OwnRx.at' own (by rw [HT.out]; omega) HS.out)
  have B1 := Lib.hid hb1
  have HPB := Lib.hid (auto_Build B nt cB t w1 OW1.out HT)
  clear own hb1
  go_wp2_with fail
  refine HPB.out.mono ?_
  intro e w2 hpb
  obtain ⟨hb2, r, hbr, A', n', c', rfl, au⟩ := hpb.one
  have B2 := Lib.hid hb2; have AU2 := Lib.hid au; have HR := Lib.hid hbr
  obtain ⟨hr1, hr2⟩ := hbr.few
  have hn' : n' ≤ 256 := by have h1 : n' = r.1.length := by obtain ⟨rows, _, h2⟩ := au; exact h2.n
                            omega
  have HA1 : Below w2.heap.size w2 (w2.alloc (.cells #[.slice A' n' c', .int .i64 r.2.1] TAuto)) := (Below.refl _ _).alloc (Nat.le_refl _) _
  have BA1 := Lib.hid (Blk.new w2 TAuto #[.slice A' n' c', .int .i64 r.2.1])
  have C2 := Lib.hid (B1.out.trans ((B2.out.trans (HA1.mono B2.out.size)).mono B1.out.size))
  have HDB := Lib.hid (ref09_Build tA nt ct t _ (AtRx.keep HAT.out (Keep.of C2.out)) HT)
  have HHA := Lib.hid HA1
  clear hpb hb2 au hbr HA1
  go_wp2_with fail
  refine HDB.out.mono ?_
  intro e w3 hdb
  obtain ⟨hb3, r', hbr', A2, n2, c2, rfl, au3⟩ := hdb.one
  obtain rfl := HR.out.one hbr'
  have hbA : Below w3.heap.size w3 (w3.alloc (.cells #[.slice A2 n2 c2, .int .i64 r.2.1] TAuto)) := (Below.refl _ _).alloc (Nat.le_refl _) _
  have hb23 : Below w2.heap.size w2 (w3.alloc (.cells #[.slice A2 n2 c2, .int .i64 r.2.1] TAuto)) := HHA.out.trans ((hb3.trans (hbA.mono hb3.size)).mono HHA.out.size)
  have BA4 := Lib.hid ((BA1.out.below hb3 BA1.out.lt).alloc (.cells #[.slice A2 n2 c2, .int .i64 r.2.1] TAuto))
  have BB4 := Lib.hid (Blk.new w3 TAuto #[.slice A2 n2 c2, .int .i64 r.2.1])
  have AU4 := Lib.hid (AU2.out.next hb23)
  have AD4 := Lib.hid (au3.next hbA)
  have hl1 : r.1.length = n' := by obtain ⟨rows, _, h2⟩ := AU2.out; exact h2.n.symm
  have hl2 : r.1.length = n2 := au3.len.symm
  have HSM := Lib.hid (ref09_Same A' A2 c' c2 n' n2 r.2.1 r.2.1 r.1 r.1 _ (AU4.out.reads (by omega) (by omega)) (AD4.out.reads (by omega) (by omega)) (Lib.hid hl1) (Lib.hid hl2))
  rw [decide_eq_true (p := r.1 = r.1 ∧ r.2.1 = r.2.1) ⟨rfl, rfl⟩] at HSM
  have C4 := Lib.hid (B1.out.trans ((B2.out.trans (hb23.mono B2.out.size)).mono B1.out.size))
  have C14 := Lib.hid (B2.out.trans (hb23.mono B2.out.size))
  obtain ⟨a0, a1, _, _⟩ := Blk.two BA4.out
  obtain ⟨b0, b1, _, _⟩ := Blk.two BB4.out
  have hN2 := BA4.out.lt
  clear hdb hb3 hbr' au3 hbA hb23 hl1 hl2
  go_wp2_with fail
  refine HSM.out.mono ?_
  rintro e w5 ⟨rfl, hb5⟩
  have BA5 := Lib.hid (BA4.out.below hb5 BA4.out.lt)
  have AU5 := Lib.hid (AU4.out.next hb5)
  have C5 := Lib.hid (C4.out.trans (hb5.mono C4.out.size))
  have C15 := Lib.hid (C14.out.trans (hb5.mono C14.out.size))
  have HE := Lib.hid (show edgesN r.1 ≤ 1000000 by omega)
  have hee : (r.2.2 == r.2.2) = true := by simp
  clear hb5 a0 a1 b0 b1
  go_wp2
  go_loopw [9] (fun iv wr => ∃ i : Nat, iv = .int .i64 i ∧ i ≤ n' ∧ Mut w1.heap.size w5 wr) (fun iv _ => n' - (intOf iv).toNat)
  case atStart => exact ⟨0, rfl, by omega, Mut.refl _ _⟩
  case round =>
    obtain ⟨i, rfl, hi, hmu⟩ := hrel
    have MU := Lib.hid hmu
    clear hmu
    have p0 := (MU.out.blk BA5.out (by decide)).cell 0
    by_cases hlt : i < n'
    · obtain ⟨g, cur, S, m, cs, rfl, hbk, hcur, hrow⟩ := AU5.out.rows HE.out hlt
      have HBK := Lib.hid hbk; have HCU := Lib.hid hcur; have HRO := Lib.hid hrow
      have hm := hrow.le
      clear hbk hcur hrow
      go_wp2
      go_loopw [10] (fun kv wr => ∃ k : Nat, kv = .int .i64 k ∧ k ≤ m ∧ Mut w1.heap.size w5 wr) (fun kv _ => m - (intOf kv).toNat)
      case atStart => exact ⟨0, rfl, by omega, MU.out⟩
      case round =>
        clear p0
        obtain ⟨k, rfl, hk, hmu⟩ := hrel
        have MV := Lib.hid hmu
        clear hmu
        have p0 := (MV.out.blk BA5.out (by decide)).cell 0
        have p1 := ((MV.out.blk HBK.out (by decide)).cell i).trans HCU.out
        by_cases hkt : k < m
        · obtain ⟨q, cur2, T, ln, tc, rfl, hb2, hc2, hrl, hset⟩ := HRO.out.at' k hkt
          have HB2 := Lib.hid hb2; have HC2 := Lib.hid hc2; have HSE := Lib.hid hset
          clear hb2 hc2 hset
          go_wp2
          go_loopw [11] (fun jv wr => ∃ j : Nat, jv = .int .i64 j ∧ j ≤ ln ∧ Mut w1.heap.size w5 wr) (fun jv _ => ln - (intOf jv).toNat)
          case atStart => exact ⟨0, rfl, by omega, MV.out⟩
          case round =>
            clear p0 p1
            obtain ⟨j, rfl, hj, hmu⟩ := hrel
            have MX := Lib.hid hmu
            clear hmu
            have p0 := (MX.out.blk BA5.out (by decide)).cell 0
            have p1 := ((MX.out.blk HBK.out (by decide)).cell i).trans HCU.out
            have p2 := ((MX.out.blk HB2.out (by decide)).cell (k * 3 + 2)).trans HC2.out
            by_cases hjt : j < ln
            · obtain ⟨b, o, cs3, rfl, hbb, hb3, ho⟩ := HSE.out j hjt
              obtain ⟨v, hv, hfz⟩ := MX.out.cell hb3 ho
              have MY := Lib.hid (MX.out.set (i := o + j * 2) (u := .int .i64 (-7)) ⟨cs3, hb3⟩ hbb)
              clear hb3
              go_wp2
              go_roundw
              case rel => exact ⟨j + 1, by go_num, by omega, MY.out⟩
              case measure => simp [intOf]; omega
            · go_wp2
              go_roundw
              case rel => exact ⟨k + 1, by go_num, by omega, MX.out⟩
              case measure => simp [intOf]; omega
        · go_wp2
          go_roundw
          case rel => exact ⟨i + 1, by go_num, by omega, MV.out⟩
          case measure => simp [intOf]; omega
    · have BM := Lib.hid (MU.out.below (by have := C15.out.size; exact this))
      have K1 := Lib.hid (Keep.of (C15.out.trans BM.out))
      have CF := Lib.hid (C5.out.trans (BM.out.mono B1.out.size))
      have HSA := Lib.hid (ref07_Same B tA cB ct nt nt t t wr (AtRx.keep OW1.out K1.out) (AtRx.keep HAT.out (Keep.of CF.out)) HT HT)
      rw [decide_eq_true (p := t = t) rfl] at HSA
      go_wp2_with fail
      refine HSA.out.mono ?_
      rintro e w6 ⟨rfl, hb6⟩
      have CZ := Lib.hid (CF.out.trans (hb6.mono CF.out.size))
      clear hb6
      go_wp2
      go_ret
      exact ⟨rfl, CZ.out⟩

end Go.Proofs.Ytjnjbcigbnjmkaa
