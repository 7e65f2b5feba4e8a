/- Walks: a fault's text (the program's). PUT1 -/
import Derived.Test.YtjbfkceficokbaaDoorNb
import Derived.Test.YtjbfkceficokbaaDoorQu
namespace Pv
open Go Go.RowKit
theorem AtSt.gt {w : World} {A : Option Addr} {p : List St} {n i : Nat} (h : AtK w 2 A RSt p) (HL : Hid (p.length = n)) (hi : i < n) :
    ∃ b off nm z, A = some ⟨b, off, none⟩ ∧ b < w.heap.size ∧ (w.cell? ⟨b, off + i * 2, none⟩ = some (.string nm) ∧ w.cell? ⟨b, off + i * 2 + 1, none⟩ = some (.int .i64 z)) ∧ (-9223372036854775808 ≤ z ∧ z ≤ 9223372036854775807) ∧ Hid (p[i]? = some ⟨nm, z⟩) := by
  obtain ⟨b, off, f, ⟨nm, z⟩, e, hb, hc, ⟨h0, ⟨h1, h11⟩⟩, hx⟩ := AtK.gt h HL hi
  have c0 := hc 0 (by omega); have c1 := hc 1 (by omega)
  rw [h0] at c0; rw [h1] at c1
  exact ⟨b, off, nm, z, e, hb, ⟨c0, c1⟩, h11, hx⟩
theorem own_cap {w : World} {B E s n c : Nat} {A : Option Addr} {us : List Value} (h : w.ownsRow B E s (.slice A n c) n us) : n ≤ c := by
  rcases h.2 with ⟨hv, h0⟩ | ⟨g, cap, cur, hv, _, _, hnc, _⟩
  · omega
  · injection hv with _ _ e; omega
theorem wrk_grown {T e E : TypeId} {B b n s : Nat} {v : Value} {us : List Value} {W w w2 : World} (h : WrK T e B b W w) (hown : w.ownsRow W.heap.size E s v n us) (gr : w.grownBy w2 v.ownBlock) : WrK T e B b W w2 :=
  ⟨gr.os.trans h.os, gr.tape.trans h.tape, gr.output.trans h.output, Nat.le_trans h.size gr.size, fun k hk hkb hc => (gr.block k (Nat.lt_of_lt_of_le hk h.size) fun e1 => by
    have := (hown.lt k e1.symm).1; omega).trans (h.block k hk hkb hc)⟩
theorem wrk_then {T e : TypeId} {B b : Nat} {W w w2 : World} (h : WrK T e B b W w) (hb : Below w.heap.size w w2) : WrK T e B b W w2 := h.trans (WrK.of hb)
theorem toL_nil {s : ByteArray} (h : bsl s = []) : s.toList.isEmpty = true := by rw [toList_bsl, h]; rfl
theorem toL_ne {s : ByteArray} (h : bsl s ≠ []) : s.toList.isEmpty = false := by
  rw [toList_bsl]; cases hx : bsl s with
  | nil => exact absurd hx h
  | cons a t => rfl
/-- Strings of the call's own. -/
def strsOf (f : Nat → List UInt8) (strs : List ByteArray) (k : Nat) : Prop := strs.length = k ∧ ∀ i, i < k → ∃ r, strs[i]? = some r ∧ bsl r = f i
theorem strsOf.snoc {f : Nat → List UInt8} {strs : List ByteArray} {k : Nat} {r : ByteArray} (h : strsOf f strs k) (hr : bsl r = f k) : strsOf f (strs ++ [r]) (k + 1) := by
  refine ⟨by simp [h.1], fun i hi => ?_⟩
  by_cases e : i = k
  · subst e
    exact ⟨r, by rw [List.getElem?_append_right (by rw [h.1]; omega), h.1]; simp, hr⟩
  · obtain ⟨q, h1, h2⟩ := h.2 i (by omega)
    exact ⟨q, by rw [List.getElem?_append_left (by rw [h.1]; omega)]; exact h1, h2⟩
theorem strsOf.comma {f : Nat → List UInt8} {strs : List ByteArray} {k : Nat} (h : strsOf f strs k) : Lib.join (strs.map (·.data.toList)) [44] = commaN f k := by
  rw [join_commaN k _ (by simp [h.1])]
  refine commaN_congr fun i hi => ?_
  obtain ⟨r, h1, h2⟩ := h.2 i hi
  rw [List.getElem?_map, h1]
  exact h2
end Pv
namespace Go.Proofs.YtjbfkceficokbaaDoor
open Go.RowKit Pv

abbrev TFault : TypeId := 27
abbrev TStep : TypeId := 30
abbrev TStr : TypeId := 9
theorem info_str : (Tryd.prog.info? TStr).map (fun i => (i.zero, i.size, i.bytes)) = some (some (.string { data := #[] }), 1, 16) := by kernel_rfl
theorem we_grown {w0 w w2 : World} {B b n base E s : Nat} {l : List UInt8} {v : Value} {us : List Value} (h : WE w0 w B b l) (hown : w.ownsRow base E s v n us) (gr : w.grownBy w2 v.ownBlock) (hb : B ≤ base) (h8 : E ≠ T8) (hw : E ≠ TW) : WE w0 w2 B b l := by
  have hbl : Below B w w2 := (Below.refl _ _).grown gr h.hB (fun k hk => Nat.le_trans hb (hown.lt k hk).1)
  obtain ⟨h0, p, q, hp, hbk, ho⟩ := h.wr
  refine ⟨⟨h0, p, q, hp, hbk.grown gr (own_blk_ne hown hbk hw), ho.kept gr (own_ne ho hown (fun e => h8 e.symm))⟩, h.kp.trans' gr.size fun x o hx => hbl.cell (p := ⟨x, o, none⟩) (Nat.lt_of_lt_of_le hx h.h0), h.tb.next hbl, h.h0, Nat.le_trans h.hB gr.size⟩

def WPostV (w0 W : World) (B b : Nat) (l : List UInt8) (e : Ending) (w' : World) : Prop := ∃ v, e = .returned v ∧ WE w0 w' B b l ∧ WrK TW T8 B b W w'
theorem we_stringV {w0 W : World} {B b : Nat} {l : List UInt8} (h : WE w0 W B b l) (s : ByteArray) (m : List UInt8) (hs : bsl s = m) (hlen : l.length + s.size ≤ 140737488355328) :
    Calls Tryd.prog 9 #[.pointer (some ⟨b, 0, none⟩), .string s] W (WPostV w0 W B b (l ++ m)) :=
  (we_string h s m hs hlen).mono fun _ _ ⟨he, hw, hk⟩ => ⟨_, he, hw, hk⟩

theorem mem_any (w0 W : World) (B b : Nat) (l : List UInt8) (is : Bool) (nm v : ByteArray) (nl m : List UInt8) (hnl : bsl nm = nl) (hE : WE w0 W B b l) (hn : nm.size ≤ 3000) (hv : v.size ≤ 1000000) (hm : bsl v = m) (hl : l.length ≤ 1000000000) :
    Calls Tryd.prog 21 #[.pointer (some ⟨b, 0, none⟩), .bool is, .string nm, .string v] W (WPost w0 W B b (l ++ optS is (memS nl m)) (.tuple #[])) := by
  cases is with
  | false => simpa [optS] using member_no w0 W B b l nm v hE
  | true => rw [← hnl]; exact member_yes w0 W B b l nm v m hE hn hv hm hl
theorem join_any (W : World) (base : Nat) (A : Option Addr) (k c : Nat) (strs : List ByteArray) (f : Nat → List UInt8) (hst : strsOf f strs k) (own : W.ownsRow base TStr 1 (.slice A k c) k (strs.map Value.string)) (hk : k ≤ 1000) (hl : (commaN f k).length ≤ 1000000) :
    Calls Tryd.prog 22 #[.slice A k c, .string { data := #[44] }] W fun e w' => e = .returned (.string (mkS (commaN f k))) ∧ Below W.heap.size W w' := by
  rcases Nat.eq_zero_or_pos k with h0 | h0
  · subst h0
    refine (Tryd.strings_Join_none A c _ W).mono ?_
    rintro e w' ⟨rfl, rfl⟩
    exact ⟨rfl, Below.refl _ _⟩
  · rcases own.2 with ⟨hv, hz⟩ | ⟨g, cap, cur, hv, hg, hh, hnc, hcm, hcs, htk⟩
    · omega
    · injection hv with e1 e2 e3
      subst e1; subst e3
      have hcells : ∀ (j : Nat) x, strs[j]? = some x → W.cell? ⟨g, 0 + j, none⟩ = some (.string x) := fun j x hx => by
        have h2 := own.cells (g := g) rfl j (.string x) (by rw [List.getElem?_map, hx]; rfl)
        rw [add0] at h2
        rw [Nat.zero_add]; exact h2
      have hlt : g < W.heap.size := by
        rcases Nat.lt_or_ge g W.heap.size with h | h
        · exact h
        · rw [Array.getElem?_eq_none h] at hh; cases hh
      have hcm := hst.comma
      have hsz := hst.1
      subst hsz
      refine (Tryd.strings_Join g 0 c strs { data := #[44] } W hcells hlt (by omega) hnc (by rw [show ({ data := #[44] } : ByteArray).data.toList = [44] from rfl, hcm]; omega)).mono ?_
      rintro e w' ⟨rfl, hb⟩
      refine ⟨?_, hb⟩
      rw [show ({ data := #[44] } : ByteArray).data.toList = [44] from rfl, hcm]
      rfl

set_option maxHeartbeats 4000000 in
set_option maxRecDepth 100000 in
theorem serve_fault (w0 W : World) (B b : Nat) (l : List UInt8) (co di : ByteArray) (pA : Option Addr) (pn pc : Nat) (path : List St) (ru li cl : Int) (hp : AtK w0 2 pA RSt path) (HP : Hid (path.length = pn)) (hok : FtOk ⟨co, path, di, ru, li, cl⟩) (hE : WE w0 W B b l) (hl : l.length ≤ 500000000) :
    Calls Tryd.prog 12 #[.pointer (some ⟨b, 0, none⟩), .agg #[.string co, .slice pA pn pc, .string di, .int .i64 ru, .int .i64 li, .int .i64 cl]] W (WPost w0 W B b (l ++ faultS ⟨co, path, di, ru, li, cl⟩) (.tuple #[])) := by
  obtain ⟨i0, hi0, hz0, hs0, hb0⟩ := info_parts info_str
  have hco : co.size ≤ 3000 := hok.code
  have hdi : di.size ≤ 3000 := hok.dir
  have hpn : pn ≤ 20 := by have := hok.path; simp only at this; rwa [HP.out] at this
  have HOK := Lib.hid hok
  obtain ⟨l1, l2, l3, l4, l5, l6⟩ := fa_len hok
  have hru := hok.rule; have hli := hok.line; have hcl := hok.col
  simp only at hru hli hcl
  have HPT := Lib.hid hp
  have HBW := hE.hB
  have hW : Below W.heap.size W (W.alloc (.cells #[.string co, .slice pA pn pc, .string di, .int .i64 ru, .int .i64 li, .int .i64 cl] TFault)) := (Below.refl _ _).alloc (Nat.le_refl _) _
  have E1 := Lib.hid (hE.next hW)
  have K1 := Lib.hid (WrK.of (T := TW) (e := T8) (B := B) (b := b) hW)
  have BX := Lib.hid (Blk.new W TFault #[.string co, .slice pA pn pc, .string di, .int .i64 ru, .int .i64 li, .int .i64 cl])
  have hbx : W.heap.size ≠ b := by have := hE.wr.lt; omega
  have HF1 : Hid (fa1 ⟨co, path, di, ru, li, cl⟩ = [123, 34, 99, 111, 100, 101, 34, 58] ++ jq (bsl co)) := Lib.hid rfl
  have HF2 : Hid (fa2 ⟨co, path, di, ru, li, cl⟩ = fa1 ⟨co, path, di, ru, li, cl⟩ ++ optS (decide (0 < path.length)) (memS nPath (pathS path))) := Lib.hid rfl
  have HF3 : Hid (fa3 ⟨co, path, di, ru, li, cl⟩ = fa2 ⟨co, path, di, ru, li, cl⟩ ++ optS (decide (bsl di ≠ [])) (memS nDir (jq (bsl di)))) := Lib.hid rfl
  have HF4 : Hid (fa4 ⟨co, path, di, ru, li, cl⟩ = fa3 ⟨co, path, di, ru, li, cl⟩ ++ optS (decide (ru ≠ 0)) (memS nRule (Lib.itoa ru))) := Lib.hid rfl
  have HF5 : Hid (fa5 ⟨co, path, di, ru, li, cl⟩ = fa4 ⟨co, path, di, ru, li, cl⟩ ++ optS (decide (li ≠ 0)) (memS nLine (Lib.itoa li))) := Lib.hid rfl
  have HF6 : Hid (fa6 ⟨co, path, di, ru, li, cl⟩ = fa5 ⟨co, path, di, ru, li, cl⟩ ++ optS (decide (li ≠ 0)) (memS nCol (Lib.itoa cl))) := Lib.hid rfl
  have HF7 : Hid (faultS ⟨co, path, di, ru, li, cl⟩ = fa6 ⟨co, path, di, ru, li, cl⟩ ++ [125]) := Lib.hid rfl
  have HPL := Lib.hid (pathF_len hok)
  have HPS := Lib.hid (pathS_len hok)
  simp only at HPL HPS
  generalize fa1 ⟨co, path, di, ru, li, cl⟩ = f1 at *
  generalize fa2 ⟨co, path, di, ru, li, cl⟩ = f2 at *
  generalize fa3 ⟨co, path, di, ru, li, cl⟩ = f3 at *
  generalize fa4 ⟨co, path, di, ru, li, cl⟩ = f4 at *
  generalize fa5 ⟨co, path, di, ru, li, cl⟩ = f5 at *
  generalize fa6 ⟨co, path, di, ru, li, cl⟩ = f6 at *
  generalize faultS ⟨co, path, di, ru, li, cl⟩ = f7 at *
  have HJC := Lib.hid (bsl_mkS (jq (bsl co)))
  have hjc : (mkS (jq (bsl co))).size ≤ 19000 := by have := jq_len (bsl co); rw [bsl_len] at this; rw [mkS_size]; omega
  have HQC := Lib.hid (fun (W' : World) (h : TabsB B W') => serve_quote co W' B (by omega) h)
  have HJD := Lib.hid (bsl_mkS (jq (bsl di)))
  have hjd : (mkS (jq (bsl di))).size ≤ 19000 := by have := jq_len (bsl di); rw [bsl_len] at this; rw [mkS_size]; omega
  have HQD := Lib.hid (fun (W' : World) (h : TabsB B W') => serve_quote di W' B (by omega) h)
  have HWC := Lib.hid (fun (W' : World) (h : WE w0 W' B b l) => we_stringV h (({ data := #[123, 34, 99, 111, 100, 101, 34, 58] } : ByteArray) ++ mkS (jq (bsl co))) f1 (by rw [bsl_app, HJC.out, HF1.out] <;> rfl) (by
    have h1 : (({ data := #[123, 34, 99, 111, 100, 101, 34, 58] } : ByteArray) ++ mkS (jq (bsl co))).size = 8 + (mkS (jq (bsl co))).size := by simp only [ByteArray.size_append]; rfl
    omega))
  generalize mkS (jq (bsl co)) = qc at *
  have hq8 : (9223372036854775807 < 8 + qc.size) = False := eq_false (by omega)
  have HS1 : Hid ((W.alloc (.cells #[.string co, .slice pA pn pc, .string di, .int .i64 ru, .int .i64 li, .int .i64 cl] TFault)).drew.cell? ⟨W.heap.size, 0, none⟩ = some (.string co) ∧ True) := Lib.hid ⟨BX.out.cell 0, trivial⟩
  clear hok hp hW hE
  go_enter Tryd.func12, Tryd.ntmps12
  go_wp2
  refine wp_region_T 5 (fun W' => W'.cell? ⟨W.heap.size, 0, none⟩ = some (.string co) ∧ True) (by kernel_rfl) ?_
  refine wpAnyT_takeW (i := 0) (v := ?_) rfl (by decide) (by kernel_rfl) (by kernel_rfl) (by kernel_rfl) (fun _ _ _ h => h) (.inl ⟨rfl, ?_⟩) (fun _ => HS1.out) ?_
  rotate_left
  · intro W__ _
    go_simp
    (try with_reducible rfl)
  try simp only [Act.put]
  refine wpAnyT_takeW (i := 3) (v := ?_) rfl (by decide) (by kernel_rfl) (by kernel_rfl) (by kernel_rfl) (fun _ _ _ h => h) (.inl ⟨rfl, ?_⟩) (fun _ => HS1.out) ?_
  rotate_left
  · intro W__ _
    go_simp
    (try with_reducible rfl)
  try simp only [Act.put]
  refine wpAnyT_takeW (i := 1) (v := ?_) rfl (by decide) (by kernel_rfl) (by kernel_rfl) (by kernel_rfl) (fun _ _ _ h => h) (.inl ⟨rfl, ?_⟩) (fun _ => HS1.out) ?_
  rotate_left
  · intro W__ _
    go_simp
    (try with_reducible rfl)
  try simp only [Act.put]
  refine wpAnyT_takeW (i := 2) (v := ?_) rfl (by decide) (by kernel_rfl) (by kernel_rfl) (by kernel_rfl) (fun _ _ _ h => h) (.inl ⟨rfl, ?_⟩) (fun _ => HS1.out) ?_
  rotate_left
  · intro W__ _
    go_simp
    (try with_reducible rfl)
  try simp only [Act.put]
  refine wpAnyT_take (i := 4) (v := ?_) rfl (by kernel_rfl) (by kernel_rfl) (by kernel_rfl) (by kernel_rfl) (by kernel_rfl) (fun _ _ _ h => h) (.inl ⟨rfl, ?_⟩) HS1.out ?_
  rotate_left
  · intro W__ hW__
    obtain ⟨g1, g2⟩ := hW__
    go_simp
    (try with_reducible rfl)
  try simp only [Act.put]
  refine wpAnyT_end (i := 5) rfl (by kernel_rfl) rfl (by kernel_rfl) fun K__ hK__ => ?_
  unfold Oper.wp
  go_simp
  refine (HQC.out _ (E1.out.next (Below.refl _ _).drew).tb).mono ?_
  rintro e w1 ⟨rfl, hb1⟩
  refine hK__ _ _ ?_
  have E2 := Lib.hid ((E1.out.next (Below.refl _ _).drew).next hb1)
  have K2 := Lib.hid (wrk_then (wrk_then K1.out (Below.refl _ _).drew) hb1)
  have B2 := Lib.hid ((show Blk (W.alloc (.cells #[.string co, .slice pA pn pc, .string di, .int .i64 ru, .int .i64 li, .int .i64 cl] TFault)).drew W.heap.size TFault _ from BX.out).below hb1 (show W.heap.size < (W.alloc (.cells #[.string co, .slice pA pn pc, .string di, .int .i64 ru, .int .i64 li, .int .i64 cl] TFault)).drew.heap.size from BX.out.lt))
  clear hK__ hb1
  try simp only [Act.put]
  refine wpAnyT_end (i := 6) rfl (by kernel_rfl) rfl (by kernel_rfl) fun K__ hK__ => ?_
  unfold Oper.wp
  go_simp
  refine hK__ _ _ ?_
  clear hK__
  refine wpAnyT_end (i := 7) rfl (by kernel_rfl) rfl (by kernel_rfl) fun K__ hK__ => ?_
  unfold Oper.wp
  go_simp
  refine (HWC.out _ E2.out).mono ?_
  rintro e w2 ⟨vv, rfl, E', K'⟩
  refine hK__ _ _ ?_
  have E3 := Lib.hid E'; have K3 := Lib.hid (K2.out.trans K'); have B3 := Lib.hid (K'.blk B2.out (by decide) hbx)
  clear hK__ E' K'
  try simp only [Act.put]
  refine wpAnyT_done (by kernel_rfl) ?_ _
  have c1 := B3.out.cell 1
  have hblt := B3.out.lt
  simp at c1
  go_wp2
  go_loopw [5, 19] (fun pv iv wr => ∃ (k : Nat) (A : Option Addr) (c : Nat) (strs : List ByteArray), iv = .int .i64 k ∧ k ≤ pn ∧ pv = .slice A k c ∧ k ≤ c ∧ strsOf (pathF path) strs k ∧ wr.ownsRow W.heap.size TStr 1 (.slice A k c) k (strs.map Value.string) ∧ WE w0 wr B b (l ++ f1) ∧ WrK TW T8 B b W wr ∧ Blk wr W.heap.size TFault #[.string co, .slice pA pn pc, .string di, .int .i64 ru, .int .i64 li, .int .i64 cl]) (fun _ iv _ => pn - (intOf iv).toNat)
  case atStart => exact ⟨0, none, 0, [], rfl, by omega, rfl, by omega, ⟨rfl, fun i hi => by omega⟩, World.ownsRow_nil _ _ _ _, E3.out, K3.out, B3.out⟩
  case round =>
    clear c1 hblt
    obtain ⟨k, A, c, strs, rfl, hk, rfl, hkc, hst, hown, hE, hK, hB⟩ := hrel
    have E4 := Lib.hid hE; have K4 := Lib.hid hK; have B4 := Lib.hid hB; have HS := Lib.hid hst; have HO := Lib.hid hown
    clear hE hK hB hst hown
    by_cases hlt : k < pn
    · obtain ⟨pb, po, nm, z, e9, hpb, ⟨u0, u1⟩, hz, HX⟩ := AtSt.gt (AtK.keep HPT.out E4.out.kp) HP hlt
      subst e9
      have hnm : nm.size ≤ 3000 := HOK.out.name k _ HX.out
      have HPF := Lib.hid (show pathF path k = stepS ⟨nm, z⟩ by unfold pathF; rw [HX.out])
      have hW4 : Below wr.heap.size wr (wr.alloc (.cells #[.string nm, .int .i64 z] TStep)) := (Below.refl _ _).alloc (Nat.le_refl _) _
      have E5 := Lib.hid (E4.out.next hW4)
      have K5 := Lib.hid (wrk_then K4.out hW4)
      have B5 := Lib.hid (B4.out.below hW4 B4.out.lt)
      have HO5 := Lib.hid (ownsRow_below HO.out hW4)
      clear hW4
      by_cases hne : bsl nm = []
      · have t1 := toL_nil hne
        have HPF2 := Lib.hid (show bsl (mkS (Lib.itoa z)) = pathF path k by rw [HPF.out, bsl_mkS]; unfold stepS; rw [if_pos hne])
        have HN := Lib.hid (fun (W' : World) (h : TabsB B W') => fault_num z W' B hz.1 hz.2 h)
        generalize mkS (Lib.itoa z) = r at *
        clear hne
        go_wp2_with fail
        refine (HN.out _ E5.out.tb).mono ?_
        rintro e w5 ⟨rfl, hb5⟩
        have E6 := Lib.hid (E5.out.next hb5)
        have K6 := Lib.hid (wrk_then K5.out hb5)
        have B6 := Lib.hid (B5.out.below hb5 B5.out.lt)
        have HA6 : Below w5.heap.size w5 (w5.alloc (.cells #[.string r] TStr)) := (Below.refl _ _).alloc (Nat.le_refl _) _
        have HO7 := Lib.hid (ownsRow_below (ownsRow_below HO5.out hb5) HA6)
        have E7 := Lib.hid (E6.out.next HA6)
        have K7 := Lib.hid (wrk_then K6.out HA6)
        have B7 := Lib.hid (B6.out.below HA6 B6.out.lt)
        have SR := Lib.hid (Src.one (w := w5) (x := .string r) (t := TStr) rfl)
        have Q1 : Hid (k + 1 ≤ maxLen) := Lib.hid (by simp only [maxLen]; omega)
        have Q2 : Hid ((k + 1) * 16 ≤ 140737488355328) := Lib.hid (by omega)
        have Q3 : Hid (W.heap.size ≤ (w5.alloc (.cells #[.string r] TStr)).heap.size) := Lib.hid (by have := B7.out.lt; omega)
        clear hb5 HA6
        go_wp2_with (at_builtin
                     go_must (refine wpList_append_src _ rfl (.tmp 32) (.tmp 37) 58 rfl W.heap.size TStr i0 (.string { data := #[] }) 1 16 Tryd.underlying58 hi0 hz0 hs0 hb0 rfl (by decide) A c k (strs.map Value.string) rfl HO7.out (some ⟨w5.heap.size, 0, none⟩) 1 1 [.string r] rfl SR.out Q1.out Q2.out Q3.out ?_)
                     intro A' c' w6 own' gr' _
                     have E8 := Lib.hid (we_grown E7.out HO7.out gr' HBW (by decide) (by decide))
                     have K8 := Lib.hid (wrk_grown K7.out HO7.out gr')
                     have B8 := Lib.hid (B7.out.grown gr' (own_blk_ne HO7.out B7.out (by decide)))
                     have HO8 := Lib.hid own'
                     clear own' gr')
        go_roundw
        case rel => exact ⟨k + 1, A', c', strs ++ [r], by go_num, by omega, rfl, own_cap HO8.out, HS.out.snoc HPF2.out, by simpa using HO8.out, E8.out, K8.out, B8.out⟩
        case measure => simp [intOf]; omega
      · have t1 := toL_ne hne
        have HPF2 := Lib.hid (show bsl (mkS (jq (bsl nm))) = pathF path k by rw [HPF.out, bsl_mkS]; unfold stepS; rw [if_neg hne])
        have HN := Lib.hid (fun (W' : World) (h : TabsB B W') => serve_quote nm W' B (by omega) h)
        generalize mkS (jq (bsl nm)) = r at *
        clear hne
        go_wp2_with fail
        refine (HN.out _ E5.out.tb).mono ?_
        rintro e w5 ⟨rfl, hb5⟩
        have E6 := Lib.hid (E5.out.next hb5)
        have K6 := Lib.hid (wrk_then K5.out hb5)
        have B6 := Lib.hid (B5.out.below hb5 B5.out.lt)
        have HA6 : Below w5.heap.size w5 (w5.alloc (.cells #[.string r] TStr)) := (Below.refl _ _).alloc (Nat.le_refl _) _
        have HO7 := Lib.hid (ownsRow_below (ownsRow_below HO5.out hb5) HA6)
        have E7 := Lib.hid (E6.out.next HA6)
        have K7 := Lib.hid (wrk_then K6.out HA6)
        have B7 := Lib.hid (B6.out.below HA6 B6.out.lt)
        have SR := Lib.hid (Src.one (w := w5) (x := .string r) (t := TStr) rfl)
        have Q1 : Hid (k + 1 ≤ maxLen) := Lib.hid (by simp only [maxLen]; omega)
        have Q2 : Hid ((k + 1) * 16 ≤ 140737488355328) := Lib.hid (by omega)
        have Q3 : Hid (W.heap.size ≤ (w5.alloc (.cells #[.string r] TStr)).heap.size) := Lib.hid (by have := B7.out.lt; omega)
        clear hb5 HA6
        go_wp2_with (at_builtin
                     go_must (refine wpList_append_src _ rfl (.tmp 26) (.tmp 30) 58 rfl W.heap.size TStr i0 (.string { data := #[] }) 1 16 Tryd.underlying58 hi0 hz0 hs0 hb0 rfl (by decide) A c k (strs.map Value.string) rfl HO7.out (some ⟨w5.heap.size, 0, none⟩) 1 1 [.string r] rfl SR.out Q1.out Q2.out Q3.out ?_)
                     intro A' c' w6 own' gr' _
                     have E8 := Lib.hid (we_grown E7.out HO7.out gr' HBW (by decide) (by decide))
                     have K8 := Lib.hid (wrk_grown K7.out HO7.out gr')
                     have B8 := Lib.hid (B7.out.grown gr' (own_blk_ne HO7.out B7.out (by decide)))
                     have HO8 := Lib.hid own'
                     clear own' gr')
        go_roundw
        case rel => exact ⟨k + 1, A', c', strs ++ [r], by go_num, by omega, rfl, own_cap HO8.out, HS.out.snoc HPF2.out, by simpa using HO8.out, E8.out, K8.out, B8.out⟩
        case measure => simp [intOf]; omega
    · have hkp : k = pn := by omega
      have hcl9 : (commaN (pathF path) k).length ≤ 400000 := by
        have h1 := HPS.out
        unfold pathS at h1
        rw [HP.out] at h1
        simp only [List.length_cons, List.length_append, List.length_nil] at h1
        rw [hkp]; omega
      have HJ := Lib.hid (fun (W' : World) (hb : Below wr.heap.size wr W') => join_any W' W.heap.size A k c strs (pathF path) HS.out (ownsRow_below HO.out hb) (by omega) (by omega))
      have HJS := Lib.hid (bsl_mkS (commaN (pathF path) k))
      have hjz : (mkS (commaN (pathF path) k)).size ≤ 400000 := by rw [mkS_size]; exact hcl9
      have HPSk := Lib.hid (show pathS path = [91] ++ (commaN (pathF path) k ++ [93]) by unfold pathS; rw [HP.out, hkp]; rfl)
      have HM := Lib.hid (fun (W' : World) (h : WE w0 W' B b (l ++ f1)) => show Calls Tryd.prog 21 #[.pointer (some ⟨b, 0, none⟩), .bool (decide (0 < k)), .string { data := #[112, 97, 116, 104] }, .string (({ data := #[91] } : ByteArray) ++ mkS (commaN (pathF path) k) ++ ({ data := #[93] } : ByteArray))] W' (WPost w0 W' B b (l ++ f2) (.tuple #[])) from by
        have h1 := mem_any w0 W' B b (l ++ f1) (decide (0 < k)) { data := #[112, 97, 116, 104] } (({ data := #[91] } : ByteArray) ++ mkS (commaN (pathF path) k) ++ ({ data := #[93] } : ByteArray)) nPath (pathS path) rfl h (by decide) (by
          have h2 : (({ data := #[91] } : ByteArray) ++ mkS (commaN (pathF path) k) ++ ({ data := #[93] } : ByteArray)).size = 1 + (mkS (commaN (pathF path) k)).size + 1 := by simp only [ByteArray.size_append]; rfl
          omega) (by rw [bsl_app, bsl_app, HJS.out, HPSk.out]; simp; rfl) (by simp only [List.length_append]; omega)
        rw [HF2.out, HP.out, ← hkp, ← List.append_assoc]
        exact h1)
      generalize mkS (commaN (pathF path) k) = jr at *
      have hz1 : (9223372036854775807 < 1 + jr.size) = False := eq_false (by omega)
      have hz2 : (9223372036854775807 < 1 + jr.size + 1) = False := eq_false (by omega)
      clear hkp hcl9
      go_wp2_with fail
      refine (HJ.out _ (Below.refl _ _)).mono ?_
      rintro e w5 ⟨rfl, hb5⟩
      have E5 := Lib.hid (E4.out.next hb5)
      have K5 := Lib.hid (wrk_then K4.out hb5)
      have B5 := Lib.hid (B4.out.below hb5 B4.out.lt)
      clear hb5
      go_wp2_with fail
      refine (HM.out _ E5.out).mono ?_
      rintro e w6 ⟨rfl, E', K'⟩
      have E6 := Lib.hid E'; have K6 := Lib.hid (K5.out.trans K'); have B6 := Lib.hid (K'.blk B5.out (by decide) hbx)
      clear E' K'
      -- the directive
      have HS6 : Hid (w6.drew.cell? ⟨W.heap.size, 2, none⟩ = some (.string di) ∧ True) := Lib.hid ⟨B6.out.cell 2, trivial⟩
      have hb6 := B6.out.lt
      by_cases hd : bsl di = []
      case' pos =>
        have t1 := toL_nil hd
        have HD := Lib.hid (show f2 ++ optS false (memS nDir (jq (bsl di))) = f3 by rw [HF3.out, decide_eq_false (fun h => h hd)])
        clear hd
      case' neg =>
        have t1 := toL_ne hd
        have HD := Lib.hid (show f2 ++ optS true (memS nDir (jq (bsl di))) = f3 by rw [HF3.out, decide_eq_true hd])
        clear hd
      all_goals
        go_wp2
        refine wp_region_T 7 (fun W' => W'.cell? ⟨W.heap.size, 2, none⟩ = some (.string di) ∧ True) (by kernel_rfl) ?_
        refine wpAnyT_takeW (i := 0) (v := ?_) rfl (by decide) (by kernel_rfl) (by kernel_rfl) (by kernel_rfl) (fun _ _ _ h => h) (.inl ⟨rfl, ?_⟩) (fun _ => HS6.out) ?_
        rotate_left
        · intro W__ _
          go_simp
          (try with_reducible rfl)
        try simp only [Act.put]
        refine wpAnyT_takeW (i := 1) (v := ?_) rfl (by decide) (by kernel_rfl) (by kernel_rfl) (by kernel_rfl) (fun _ _ _ h => h) (.inl ⟨rfl, ?_⟩) (fun _ => HS6.out) ?_
        rotate_left
        · intro W__ _
          go_simp
          (try with_reducible rfl)
        try simp only [Act.put]
        refine wpAnyT_takeW (i := 4) (v := ?_) rfl (by decide) (by kernel_rfl) (by kernel_rfl) (by kernel_rfl) (fun _ _ _ h => h) (.inl ⟨rfl, ?_⟩) (fun _ => HS6.out) ?_
        rotate_left
        · intro W__ _
          go_simp
          (try with_reducible rfl)
        try simp only [Act.put]
        refine wpAnyT_take2 (i := 2) 3 (v := ?_) rfl (by kernel_rfl) (by kernel_rfl) (by kernel_rfl) (by kernel_rfl) (by kernel_rfl) (by kernel_rfl) (by kernel_rfl) (fun _ _ _ h => h) (.inl ⟨rfl, ?_⟩) HS6.out ?_
        rotate_left
        · intro W__ hW__
          obtain ⟨g1, g2⟩ := hW__
          go_simp
          (try with_reducible rfl)
        try simp only [Act.put]
        refine wpAnyT_take2 (i := 5) 6 (v := ?_) rfl (by kernel_rfl) (by kernel_rfl) (by kernel_rfl) (by kernel_rfl) (by kernel_rfl) (by kernel_rfl) (by kernel_rfl) (fun _ _ _ h => h) (.inl ⟨rfl, ?_⟩) HS6.out ?_
        rotate_left
        · intro W__ hW__
          obtain ⟨g1, g2⟩ := hW__
          go_simp
          (try with_reducible rfl)
        try simp only [Act.put]
        refine wpAnyT_takeW (i := 3) (v := ?_) rfl (by decide) (by kernel_rfl) (by kernel_rfl) (by kernel_rfl) (fun _ _ _ h => h) (.inl ⟨rfl, ?_⟩) (fun _ => HS6.out) ?_
        rotate_left
        · intro W__ _
          go_simp
          (try with_reducible rfl)
        try simp only [Act.put]
        refine wpAnyT_one (i := 6) rfl (by kernel_rfl) rfl fun K__ hK__ => ?_
        unfold Oper.wp
        go_simp
        refine (HQD.out _ (E6.out.next (Below.refl _ _).drew).tb).mono ?_
        rintro e w7 ⟨rfl, hb7⟩
        have B7 := Lib.hid ((show Blk w6.drew W.heap.size TFault _ from B6.out).below hb7 hb6)
        refine hK__ _ _ ⟨B7.out.cell 2, trivial⟩ ?_
        have E7 := Lib.hid ((E6.out.next (Below.refl _ _).drew).next hb7)
        have K7 := Lib.hid (wrk_then (wrk_then K6.out (Below.refl _ _).drew) hb7)
        clear hK__ hb7
        try simp only [Act.put]
        refine wpAnyT_end (i := 7) rfl (by kernel_rfl) rfl (by kernel_rfl) fun K__ hK__ => ?_
        unfold Oper.wp
        go_simp
        refine (mem_any w0 w7 B b (l ++ f2) _ { data := #[100, 105, 114, 101, 99, 116, 105, 118, 101] } _ nDir (jq (bsl di)) rfl E7.out (by decide) (by omega) HJD.out (by simp only [List.length_append]; omega)).mono ?_
        rintro e w8 ⟨rfl, E', K'⟩
        refine hK__ _ _ ?_
        rw [List.append_assoc, HD.out] at E'
        have E8 := Lib.hid E'; have K8 := Lib.hid (K7.out.trans K'); have B8 := Lib.hid (K'.blk B7.out (by decide) hbx)
        clear hK__ E' K'
        try simp only [Act.put]
        refine wpAnyT_done (by kernel_rfl) ?_ _
        have HS20 : Hid (w8.drew.cell? ⟨W.heap.size, 3, none⟩ = some (.int .i64 ru) ∧ w8.drew.cell? ⟨W.heap.size, 3, none⟩ = some (.int .i64 ru)) := Lib.hid ⟨B8.out.cell 3, B8.out.cell 3⟩
        have hb20 := B8.out.lt
        have HNN20 := Lib.hid (fun (W' : World) (h : TabsB B W') => fault_num ru W' B (by omega) (by omega) h)
        have HIT20 := Lib.hid (bsl_mkS (Lib.itoa ru))
        have hit20 : (mkS (Lib.itoa ru)).size ≤ 20 := by rw [mkS_size]; exact itoa_len ru (by omega) (by omega)
        have HD20 := Lib.hid (show f3 ++ optS (ru != 0) (memS nRule (Lib.itoa ru)) = f4 by rw [HF4.out]; congr 2; rw [Bool.eq_iff_iff]; simp)
        go_wp2
        refine wp_region_T 8 (fun W' => W'.cell? ⟨W.heap.size, 3, none⟩ = some (.int .i64 ru) ∧ W'.cell? ⟨W.heap.size, 3, none⟩ = some (.int .i64 ru)) (by kernel_rfl) ?_
        refine wpAnyT_takeW (i := 0) (v := ?_) rfl (by decide) (by kernel_rfl) (by kernel_rfl) (by kernel_rfl) (fun _ _ _ h => h) (.inl ⟨rfl, ?_⟩) (fun _ => HS20.out) ?_
        rotate_left
        · intro W__ _
          go_simp
          (try with_reducible rfl)
        try simp only [Act.put]
        refine wpAnyT_takeW (i := 1) (v := ?_) rfl (by decide) (by kernel_rfl) (by kernel_rfl) (by kernel_rfl) (fun _ _ _ h => h) (.inl ⟨rfl, ?_⟩) (fun _ => HS20.out) ?_
        rotate_left
        · intro W__ _
          go_simp
          (try with_reducible rfl)
        try simp only [Act.put]
        refine wpAnyT_takeW (i := 4) (v := ?_) rfl (by decide) (by kernel_rfl) (by kernel_rfl) (by kernel_rfl) (fun _ _ _ h => h) (.inl ⟨rfl, ?_⟩) (fun _ => HS20.out) ?_
        rotate_left
        · intro W__ _
          go_simp
          (try with_reducible rfl)
        try simp only [Act.put]
        refine wpAnyT_takeW (i := 5) (v := ?_) rfl (by decide) (by kernel_rfl) (by kernel_rfl) (by kernel_rfl) (fun _ _ _ h => h) (.inl ⟨rfl, ?_⟩) (fun _ => HS20.out) ?_
        rotate_left
        · intro W__ _
          go_simp
          (try with_reducible rfl)
        try simp only [Act.put]
        refine wpAnyT_take2 (i := 2) 3 (v := ?_) rfl (by kernel_rfl) (by kernel_rfl) (by kernel_rfl) (by kernel_rfl) (by kernel_rfl) (by kernel_rfl) (by kernel_rfl) (fun _ _ _ h => h) (.inl ⟨rfl, ?_⟩) HS20.out ?_
        rotate_left
        · intro W__ hW__
          obtain ⟨g1, g2⟩ := hW__
          go_simp
          (try with_reducible rfl)
        try simp only [Act.put]
        refine wpAnyT_take2 (i := 6) 7 (v := ?_) rfl (by kernel_rfl) (by kernel_rfl) (by kernel_rfl) (by kernel_rfl) (by kernel_rfl) (by kernel_rfl) (by kernel_rfl) (fun _ _ _ h => h) (.inl ⟨rfl, ?_⟩) HS20.out ?_
        rotate_left
        · intro W__ hW__
          obtain ⟨g1, g2⟩ := hW__
          go_simp
          (try with_reducible rfl)
        try simp only [Act.put]
        refine wpAnyT_takeW (i := 3) (v := ?_) rfl (by decide) (by kernel_rfl) (by kernel_rfl) (by kernel_rfl) (fun _ _ _ h => h) (.inl ⟨rfl, ?_⟩) (fun _ => HS20.out) ?_
        rotate_left
        · intro W__ _
          go_simp
          (try with_reducible rfl)
        try simp only [Act.put]
        refine wpAnyT_one (i := 7) rfl (by kernel_rfl) rfl fun K__ hK__ => ?_
        unfold Oper.wp
        go_simp
        refine (HNN20.out _ (E8.out.next (Below.refl _ _).drew).tb).mono ?_
        rintro e w81 ⟨rfl, hb81⟩
        have B81 := Lib.hid ((show Blk w8.drew W.heap.size TFault _ from B8.out).below hb81 hb20)
        refine hK__ _ _ ⟨B81.out.cell 3, B81.out.cell 3⟩ ?_
        have E81 := Lib.hid ((E8.out.next (Below.refl _ _).drew).next hb81)
        have K81 := Lib.hid (wrk_then (wrk_then K8.out (Below.refl _ _).drew) hb81)
        clear hK__ hb81
        try simp only [Act.put]
        refine wpAnyT_end (i := 8) rfl (by kernel_rfl) rfl (by kernel_rfl) fun K__ hK__ => ?_
        unfold Oper.wp
        go_simp
        refine (mem_any w0 w81 B b (l ++ f3) (ru != 0) { data := #[114, 117, 108, 101] } _ nRule (Lib.itoa ru) rfl E81.out (by decide) (by omega) HIT20.out (by simp only [List.length_append]; omega)).mono ?_
        rintro e w20 ⟨rfl, E', K'⟩
        refine hK__ _ _ ?_
        rw [List.append_assoc, HD20.out] at E'
        have E20 := Lib.hid E'; have K20 := Lib.hid (K81.out.trans K'); have B20 := Lib.hid (K'.blk B81.out (by decide) hbx)
        clear hK__ E' K'
        try simp only [Act.put]
        refine wpAnyT_done (by kernel_rfl) ?_ _
        have HS30 : Hid (w20.drew.cell? ⟨W.heap.size, 4, none⟩ = some (.int .i64 li) ∧ w20.drew.cell? ⟨W.heap.size, 4, none⟩ = some (.int .i64 li)) := Lib.hid ⟨B20.out.cell 4, B20.out.cell 4⟩
        have hb30 := B20.out.lt
        have HNN30 := Lib.hid (fun (W' : World) (h : TabsB B W') => fault_num li W' B (by omega) (by omega) h)
        have HIT30 := Lib.hid (bsl_mkS (Lib.itoa li))
        have hit30 : (mkS (Lib.itoa li)).size ≤ 20 := by rw [mkS_size]; exact itoa_len li (by omega) (by omega)
        have HD30 := Lib.hid (show f4 ++ optS (li != 0) (memS nLine (Lib.itoa li)) = f5 by rw [HF5.out]; congr 2; rw [Bool.eq_iff_iff]; simp)
        go_wp2
        refine wp_region_T 8 (fun W' => W'.cell? ⟨W.heap.size, 4, none⟩ = some (.int .i64 li) ∧ W'.cell? ⟨W.heap.size, 4, none⟩ = some (.int .i64 li)) (by kernel_rfl) ?_
        refine wpAnyT_takeW (i := 0) (v := ?_) rfl (by decide) (by kernel_rfl) (by kernel_rfl) (by kernel_rfl) (fun _ _ _ h => h) (.inl ⟨rfl, ?_⟩) (fun _ => HS30.out) ?_
        rotate_left
        · intro W__ _
          go_simp
          (try with_reducible rfl)
        try simp only [Act.put]
        refine wpAnyT_takeW (i := 1) (v := ?_) rfl (by decide) (by kernel_rfl) (by kernel_rfl) (by kernel_rfl) (fun _ _ _ h => h) (.inl ⟨rfl, ?_⟩) (fun _ => HS30.out) ?_
        rotate_left
        · intro W__ _
          go_simp
          (try with_reducible rfl)
        try simp only [Act.put]
        refine wpAnyT_takeW (i := 4) (v := ?_) rfl (by decide) (by kernel_rfl) (by kernel_rfl) (by kernel_rfl) (fun _ _ _ h => h) (.inl ⟨rfl, ?_⟩) (fun _ => HS30.out) ?_
        rotate_left
        · intro W__ _
          go_simp
          (try with_reducible rfl)
        try simp only [Act.put]
        refine wpAnyT_takeW (i := 5) (v := ?_) rfl (by decide) (by kernel_rfl) (by kernel_rfl) (by kernel_rfl) (fun _ _ _ h => h) (.inl ⟨rfl, ?_⟩) (fun _ => HS30.out) ?_
        rotate_left
        · intro W__ _
          go_simp
          (try with_reducible rfl)
        try simp only [Act.put]
        refine wpAnyT_take2 (i := 2) 3 (v := ?_) rfl (by kernel_rfl) (by kernel_rfl) (by kernel_rfl) (by kernel_rfl) (by kernel_rfl) (by kernel_rfl) (by kernel_rfl) (fun _ _ _ h => h) (.inl ⟨rfl, ?_⟩) HS30.out ?_
        rotate_left
        · intro W__ hW__
          obtain ⟨g1, g2⟩ := hW__
          go_simp
          (try with_reducible rfl)
        try simp only [Act.put]
        refine wpAnyT_take2 (i := 6) 7 (v := ?_) rfl (by kernel_rfl) (by kernel_rfl) (by kernel_rfl) (by kernel_rfl) (by kernel_rfl) (by kernel_rfl) (by kernel_rfl) (fun _ _ _ h => h) (.inl ⟨rfl, ?_⟩) HS30.out ?_
        rotate_left
        · intro W__ hW__
          obtain ⟨g1, g2⟩ := hW__
          go_simp
          (try with_reducible rfl)
        try simp only [Act.put]
        refine wpAnyT_takeW (i := 3) (v := ?_) rfl (by decide) (by kernel_rfl) (by kernel_rfl) (by kernel_rfl) (fun _ _ _ h => h) (.inl ⟨rfl, ?_⟩) (fun _ => HS30.out) ?_
        rotate_left
        · intro W__ _
          go_simp
          (try with_reducible rfl)
        try simp only [Act.put]
        refine wpAnyT_one (i := 7) rfl (by kernel_rfl) rfl fun K__ hK__ => ?_
        unfold Oper.wp
        go_simp
        refine (HNN30.out _ (E20.out.next (Below.refl _ _).drew).tb).mono ?_
        rintro e w201 ⟨rfl, hb201⟩
        have B201 := Lib.hid ((show Blk w20.drew W.heap.size TFault _ from B20.out).below hb201 hb30)
        refine hK__ _ _ ⟨B201.out.cell 4, B201.out.cell 4⟩ ?_
        have E201 := Lib.hid ((E20.out.next (Below.refl _ _).drew).next hb201)
        have K201 := Lib.hid (wrk_then (wrk_then K20.out (Below.refl _ _).drew) hb201)
        clear hK__ hb201
        try simp only [Act.put]
        refine wpAnyT_end (i := 8) rfl (by kernel_rfl) rfl (by kernel_rfl) fun K__ hK__ => ?_
        unfold Oper.wp
        go_simp
        refine (mem_any w0 w201 B b (l ++ f4) (li != 0) { data := #[108, 105, 110, 101] } _ nLine (Lib.itoa li) rfl E201.out (by decide) (by omega) HIT30.out (by simp only [List.length_append]; omega)).mono ?_
        rintro e w30 ⟨rfl, E', K'⟩
        refine hK__ _ _ ?_
        rw [List.append_assoc, HD30.out] at E'
        have E30 := Lib.hid E'; have K30 := Lib.hid (K201.out.trans K'); have B30 := Lib.hid (K'.blk B201.out (by decide) hbx)
        clear hK__ E' K'
        try simp only [Act.put]
        refine wpAnyT_done (by kernel_rfl) ?_ _
        have HS40 : Hid (w30.drew.cell? ⟨W.heap.size, 4, none⟩ = some (.int .i64 li) ∧ w30.drew.cell? ⟨W.heap.size, 5, none⟩ = some (.int .i64 cl)) := Lib.hid ⟨B30.out.cell 4, B30.out.cell 5⟩
        have hb40 := B30.out.lt
        have HNN40 := Lib.hid (fun (W' : World) (h : TabsB B W') => fault_num cl W' B (by omega) (by omega) h)
        have HIT40 := Lib.hid (bsl_mkS (Lib.itoa cl))
        have hit40 : (mkS (Lib.itoa cl)).size ≤ 20 := by rw [mkS_size]; exact itoa_len cl (by omega) (by omega)
        have HD40 := Lib.hid (show f5 ++ optS (li != 0) (memS nCol (Lib.itoa cl)) = f6 by rw [HF6.out]; congr 2; rw [Bool.eq_iff_iff]; simp)
        go_wp2
        refine wp_region_T 8 (fun W' => W'.cell? ⟨W.heap.size, 4, none⟩ = some (.int .i64 li) ∧ W'.cell? ⟨W.heap.size, 5, none⟩ = some (.int .i64 cl)) (by kernel_rfl) ?_
        refine wpAnyT_takeW (i := 0) (v := ?_) rfl (by decide) (by kernel_rfl) (by kernel_rfl) (by kernel_rfl) (fun _ _ _ h => h) (.inl ⟨rfl, ?_⟩) (fun _ => HS40.out) ?_
        rotate_left
        · intro W__ _
          go_simp
          (try with_reducible rfl)
        try simp only [Act.put]
        refine wpAnyT_takeW (i := 1) (v := ?_) rfl (by decide) (by kernel_rfl) (by kernel_rfl) (by kernel_rfl) (fun _ _ _ h => h) (.inl ⟨rfl, ?_⟩) (fun _ => HS40.out) ?_
        rotate_left
        · intro W__ _
          go_simp
          (try with_reducible rfl)
        try simp only [Act.put]
        refine wpAnyT_takeW (i := 4) (v := ?_) rfl (by decide) (by kernel_rfl) (by kernel_rfl) (by kernel_rfl) (fun _ _ _ h => h) (.inl ⟨rfl, ?_⟩) (fun _ => HS40.out) ?_
        rotate_left
        · intro W__ _
          go_simp
          (try with_reducible rfl)
        try simp only [Act.put]
        refine wpAnyT_takeW (i := 5) (v := ?_) rfl (by decide) (by kernel_rfl) (by kernel_rfl) (by kernel_rfl) (fun _ _ _ h => h) (.inl ⟨rfl, ?_⟩) (fun _ => HS40.out) ?_
        rotate_left
        · intro W__ _
          go_simp
          (try with_reducible rfl)
        try simp only [Act.put]
        refine wpAnyT_take2 (i := 2) 3 (v := ?_) rfl (by kernel_rfl) (by kernel_rfl) (by kernel_rfl) (by kernel_rfl) (by kernel_rfl) (by kernel_rfl) (by kernel_rfl) (fun _ _ _ h => h) (.inl ⟨rfl, ?_⟩) HS40.out ?_
        rotate_left
        · intro W__ hW__
          obtain ⟨g1, g2⟩ := hW__
          go_simp
          (try with_reducible rfl)
        try simp only [Act.put]
        refine wpAnyT_take2 (i := 6) 7 (v := ?_) rfl (by kernel_rfl) (by kernel_rfl) (by kernel_rfl) (by kernel_rfl) (by kernel_rfl) (by kernel_rfl) (by kernel_rfl) (fun _ _ _ h => h) (.inl ⟨rfl, ?_⟩) HS40.out ?_
        rotate_left
        · intro W__ hW__
          obtain ⟨g1, g2⟩ := hW__
          go_simp
          (try with_reducible rfl)
        try simp only [Act.put]
        refine wpAnyT_takeW (i := 3) (v := ?_) rfl (by decide) (by kernel_rfl) (by kernel_rfl) (by kernel_rfl) (fun _ _ _ h => h) (.inl ⟨rfl, ?_⟩) (fun _ => HS40.out) ?_
        rotate_left
        · intro W__ _
          go_simp
          (try with_reducible rfl)
        try simp only [Act.put]
        refine wpAnyT_one (i := 7) rfl (by kernel_rfl) rfl fun K__ hK__ => ?_
        unfold Oper.wp
        go_simp
        refine (HNN40.out _ (E30.out.next (Below.refl _ _).drew).tb).mono ?_
        rintro e w301 ⟨rfl, hb301⟩
        have B301 := Lib.hid ((show Blk w30.drew W.heap.size TFault _ from B30.out).below hb301 hb40)
        refine hK__ _ _ ⟨B301.out.cell 4, B301.out.cell 5⟩ ?_
        have E301 := Lib.hid ((E30.out.next (Below.refl _ _).drew).next hb301)
        have K301 := Lib.hid (wrk_then (wrk_then K30.out (Below.refl _ _).drew) hb301)
        clear hK__ hb301
        try simp only [Act.put]
        refine wpAnyT_end (i := 8) rfl (by kernel_rfl) rfl (by kernel_rfl) fun K__ hK__ => ?_
        unfold Oper.wp
        go_simp
        refine (mem_any w0 w301 B b (l ++ f5) (li != 0) { data := #[99, 111, 108, 117, 109, 110] } _ nCol (Lib.itoa cl) rfl E301.out (by decide) (by omega) HIT40.out (by simp only [List.length_append]; omega)).mono ?_
        rintro e w40 ⟨rfl, E', K'⟩
        refine hK__ _ _ ?_
        rw [List.append_assoc, HD40.out] at E'
        have E40 := Lib.hid E'; have K40 := Lib.hid (K301.out.trans K'); have B40 := Lib.hid (K'.blk B301.out (by decide) hbx)
        clear hK__ E' K'
        try simp only [Act.put]
        refine wpAnyT_done (by kernel_rfl) ?_ _
        have HBY := Lib.hid (we_byte E40.out 125 (by simp only [List.length_append]; omega))
        rw [List.append_assoc, ← HF7.out] at HBY
        go_wp2_with fail
        refine HBY.out.mono ?_
        rintro e w50 ⟨rfl, E', K'⟩
        have E50 := Lib.hid E'; have K50 := Lib.hid (K40.out.trans K')
        clear E' K'
        go_wp2
        go_end0
        exact ⟨rfl, E50.out, K50.out⟩
end Go.Proofs.YtjbfkceficokbaaDoor
