/- Walks: the automaton that goes one way, row by row, by the document. PUT1 -/
import Derived.Test.YtjnjbcigbnjmkaaGreatFgy
import Derived.Test.YtjnjbcigbnjmkaaGreatLsy
import Derived.Test.YtjnjbcigbnjmkaaGreatWky
import Derived.Test.YtjnjbcigbnjmkaaGreatQvy
namespace Go.Proofs.YtjnjbcigbnjmkaaGreat
open Go.RowKit Pv

abbrev TDfa : TypeId := 30
abbrev zDfa : Value := .agg #[.slice none 0 0, .slice none 0 0, .slice none 0 0]
theorem info_ints9 : (Tryz.prog.info? 26).map (fun i => (i.zero, i.size, i.bytes)) = some (some (.slice none 0 0), 1, 24) := by kernel_rfl
theorem Ls.one {w : World} {base : Nat} {x : Option Nat} {v : Value} {l : List Int} (h : OwnI w base v l) (hb : base ≤ w.heap.size) (hx : v.ownBlock = none ∨ v.ownBlock ≠ x) : Ls (w.alloc (.cells #[v] TLL)) base x (.slice (some ⟨w.heap.size, 0, none⟩) 1 1) [l] :=
  ⟨_, 1, [v], rfl, own_lit w base v TLL hb, Rel.one ⟨OwnI.below h ((Below.refl _ _).alloc (Nat.le_refl _) _), hx⟩⟩
/-- What is under way: the automaton's box, the answer's variable, the rows and what accepts, the sets met. -/
structure MkIn (w wr : World) (D : Nat) (A : Option Addr) (n c : Nat) (acc : Int) (C : Option Addr) (nc cc : Nat) (x : Option Nat) (av v2 v3 : Value) (all rows : List (List Int)) (accs : List Bool) : Prop where
  a : Blk wr w.heap.size TAuto #[.slice A n c, .int .i64 acc]
  o : Blk wr (w.heap.size + 1) TDfa #[.slice none 0 0, .slice none 0 0, .slice none 0 0]
  d : Blk wr D TDfa #[.slice C nc cc, v2, v3]
  dn : w.heap.size + 1 < D
  r : Ls wr w.heap.size x v2 rows
  t : Own wr w.heap.size 4 RB v3 accs
  ne : v2.ownBlock = none ∨ v2.ownBlock ≠ av.ownBlock
  al : Ls wr w.heap.size x av all
  b : Below w.heap.size w wr
theorem Ls.lt {w : World} {base : Nat} {x : Option Nat} {v : Value} {ll : List (List Int)} (h : Ls w base x v ll) {g : Nat} (hg : v.ownBlock = some g) : base ≤ g ∧ g < w.heap.size := by
  obtain ⟨A, c, us, rfl, h1, _⟩ := h
  exact h1.lt g hg
/-- a list of lists, behind an append onto another such list -/
theorem Ls.beside {w w' : World} {base b n : Nat} {x : Option Nat} {v rv : Value} {ll : List (List Int)} {us' : List Value} (h : Ls w base x v ll) (hr : w.ownsRow b TLL 1 rv n us') (hne : v.ownBlock = none ∨ v.ownBlock ≠ rv.ownBlock) (hg : w.grownBy w' rv.ownBlock) : Ls w' base x v ll := by
  obtain ⟨A, c, us, rfl, h1, h2⟩ := h
  refine ⟨A, c, us, rfl, h1.kept hg hne, h2.mono fun u l h => ⟨?_, h.2⟩⟩
  obtain ⟨B, d, rfl, h3⟩ := h.1
  exact OwnI.grown ⟨B, d, rfl, h3⟩ hg (own_ne h3 hr (by decide))
theorem Own.grownB {w w' : World} {base b n : Nat} {e : TypeId} {v rv : Value} {xs : List Bool} {us' : List Value} (h : Own w base 4 RB v xs) (hr : w.ownsRow b e 1 rv n us') (hne : 4 ≠ e) (hg : w.grownBy w' rv.ownBlock) : Own w' base 4 RB v xs := by
  obtain ⟨A, c, us, rfl, o, r⟩ := h
  exact ⟨A, c, us, rfl, o.kept hg (own_ne o hr hne), r⟩
section
variable {w wr w' : World} {D n c nc cc : Nat} {A C : Option Addr} {acc : Int} {x : Option Nat} {av v2 v3 : Value} {all rows : List (List Int)} {accs : List Bool}
theorem MkIn.next (h : MkIn w wr D A n c acc C nc cc x av v2 v3 all rows accs) (hb : Below wr.heap.size wr w') : MkIn w w' D A n c acc C nc cc x av v2 v3 all rows accs :=
  ⟨h.a.below hb h.a.lt, h.o.below hb h.o.lt, h.d.below hb h.d.lt, h.dn, h.r.below hb, h.t.below hb, h.ne, h.al.below hb, h.b.trans (hb.mono h.b.size)⟩
theorem MkIn.free (h : MkIn w wr D A n c acc C nc cc x av v2 v3 all rows accs) : MkIn w wr D A n c acc C nc cc none av v2 v3 all rows accs :=
  ⟨h.a, h.o, h.d, h.dn, h.r.bare, h.t, h.ne, h.al.bare, h.b⟩
theorem MkIn.row {b k : Nat} {rv rv' : Value} {us' : List Value} (h : MkIn w wr D A n c acc C nc cc rv.ownBlock av v2 v3 all rows accs) (hr : wr.ownsRow b TLI 1 rv k us') (hg : wr.grownBy w' rv.ownBlock) (hn : rv'.ownBlock = rv.ownBlock ∨ rv'.ownBlock = some wr.heap.size) (hb : w.heap.size ≤ b) : MkIn w w' D A n c acc C nc cc rv'.ownBlock av v2 v3 all rows accs :=
  ⟨h.a.grown hg (own_blk_ne hr h.a (by decide)), h.o.grown hg (own_blk_ne hr h.o (by decide)), h.d.grown hg (own_blk_ne hr h.d (by decide)), h.dn, h.r.row hr hg hn, Own.grownB h.t hr (by decide) hg, h.ne, h.al.row hr hg hn, h.b.grown hg h.b.size (fun g hgg => Nat.le_trans hb (hr.lt g hgg).1)⟩
/-- A set more is met. -/
theorem MkIn.met {w2 : World} {A1 A2 : Option Addr} {c1 c2 k : Nat} {us : List Value} {u : Value} {l : List Int} (h : MkIn w wr D A n c acc C nc cc x (.slice A1 k c1) v2 v3 all rows accs) (h1 : wr.ownsRow w.heap.size TLL 1 (.slice A1 k c1) k us) (h2 : Rel (fun u l => OwnI wr w.heap.size u l ∧ (u.ownBlock = none ∨ u.ownBlock ≠ x)) us all) (hk : all.length = k)
    (hu : OwnI wr w.heap.size u l) (hx : u.ownBlock = none ∨ u.ownBlock ≠ x) (own : w2.ownsRow w.heap.size TLL 1 (.slice A2 (k + 1) c2) (k + 1) (us ++ [u])) (gr : (wr.alloc (.cells #[u] TLL)).grownBy w2 (Value.slice A1 k c1).ownBlock)
    (hn : (Value.slice A2 (k + 1) c2).ownBlock = (Value.slice A1 k c1).ownBlock ∨ (Value.slice A2 (k + 1) c2).ownBlock = some (wr.alloc (.cells #[u] TLL)).heap.size) : MkIn w w2 D A n c acc C nc cc x (.slice A2 (k + 1) c2) v2 v3 (all ++ [l]) rows accs := by
  have hb : Below wr.heap.size wr (wr.alloc (.cells #[u] TLL)) := (Below.refl _ _).alloc (Nat.le_refl _) _
  have h' := h.next hb
  have h1' := ownsRow_below h1 hb
  refine ⟨h'.a.grown gr (own_blk_ne h1' h'.a (by decide)), h'.o.grown gr (own_blk_ne h1' h'.o (by decide)), h'.d.grown gr (own_blk_ne h1' h'.d (by decide)), h.dn, h'.r.beside h1' h.ne gr, Own.grownB h'.t h1' (by decide) gr, ?_, Ls.push h1 h2 hk hu hx own gr, h'.b.grown gr h'.b.size (fun g hgg => (h1'.lt g hgg).1)⟩
  rcases hn with e | e
  · rw [e]; exact h.ne
  · rw [e]
    cases hv : v2.ownBlock with
    | none => exact .inl rfl
    | some g => have := (h.r.lt hv).2; exact .inr (by simp; omega)
/-- A row more. -/
theorem MkIn.done {w2 : World} {A1 A2 : Option Addr} {c1 c2 k : Nat} {us : List Value} {u : Value} {l : List Int} (h : MkIn w wr D A n c acc C nc cc none av (.slice A1 k c1) v3 all rows accs) (h1 : wr.ownsRow w.heap.size TLL 1 (.slice A1 k c1) k us) (h2 : Rel (fun u l => OwnI wr w.heap.size u l ∧ (u.ownBlock = none ∨ u.ownBlock ≠ none)) us rows) (hk : rows.length = k)
    (hu : OwnI wr w.heap.size u l) (own : w2.ownsRow w.heap.size TLL 1 (.slice A2 (k + 1) c2) (k + 1) (us ++ [u])) (gr : (wr.alloc (.cells #[u] TLL)).grownBy w2 (Value.slice A1 k c1).ownBlock)
    (hn : (Value.slice A2 (k + 1) c2).ownBlock = (Value.slice A1 k c1).ownBlock ∨ (Value.slice A2 (k + 1) c2).ownBlock = some (wr.alloc (.cells #[u] TLL)).heap.size) : MkIn w (w2.setCell ⟨D, 1, Option.none⟩ (.slice A2 (k + 1) c2)) D A n c acc C nc cc none av (.slice A2 (k + 1) c2) v3 all (rows ++ [l]) accs := by
  have hb : Below wr.heap.size wr (wr.alloc (.cells #[u] TLL)) := (Below.refl _ _).alloc (Nat.le_refl _) _
  have h' := h.next hb
  have h1' := ownsRow_below h1 hb
  have hd := h'.d.grown gr (own_blk_ne h1' h'.d (by decide))
  have hal : (av.ownBlock = none ∨ av.ownBlock ≠ (Value.slice A1 k c1).ownBlock) := by
    rcases h.ne with e | e
    · cases hv : av.ownBlock with
      | none => exact .inl rfl
      | some g => exact .inr (by rw [e]; simp)
    · exact .inr (Ne.symm e)
  refine ⟨(h'.a.grown gr (own_blk_ne h1' h'.a (by decide))).far (p := ⟨D, 1, Option.none⟩) (by have := h.dn; simp; omega) _, (h'.o.grown gr (own_blk_ne h1' h'.o (by decide))).far (p := ⟨D, 1, Option.none⟩) (by have := h.dn; simp; omega) _, hd.set 1 _, h.dn, (Ls.push h1 h2 hk hu (by cases u.ownBlock <;> simp) own gr).far hd (by decide) (by decide), (Own.grownB h'.t h1' (by decide) gr).setFar hd (by decide) 1 _, ?_, (h'.al.beside h1' hal gr).far hd (by decide) (by decide),
    (h'.b.grown gr h'.b.size (fun g hgg => (h1'.lt g hgg).1)).setCell (p := ⟨D, 1, Option.none⟩) (by have := h.dn; simp; omega) _⟩
  rcases hn with e | e
  · rw [e]; exact h.ne
  · rw [e]
    refine .inr fun he => ?_
    have := (h.al.lt he.symm).2
    simp at this
    omega
/-- One more that accepts or not. -/
theorem MkIn.told {w2 : World} {A1 A2 : Option Addr} {c1 c2 k : Nat} {us : List Value} {b : Bool} (h : MkIn w wr D A n c acc C nc cc none av v2 (.slice A1 k c1) all rows accs) (h1 : wr.ownsRow w.heap.size 4 1 (.slice A1 k c1) k us) (h2 : Rel RB us accs) (hk : accs.length = k)
    (own : w2.ownsRow w.heap.size 4 1 (.slice A2 (k + 1) c2) (k + 1) (us ++ [.bool b])) (gr : (wr.alloc (.cells #[.bool b] 4)).grownBy w2 (Value.slice A1 k c1).ownBlock) : MkIn w (w2.setCell ⟨D, 2, Option.none⟩ (.slice A2 (k + 1) c2)) D A n c acc C nc cc none av v2 (.slice A2 (k + 1) c2) all rows (accs ++ [b]) := by
  have hb : Below wr.heap.size wr (wr.alloc (.cells #[.bool b] 4)) := (Below.refl _ _).alloc (Nat.le_refl _) _
  have h' := h.next hb
  have h1' := ownsRow_below h1 hb
  have hd := h'.d.grown gr (own_blk_ne h1' h'.d (by decide))
  refine ⟨(h'.a.grown gr (own_blk_ne h1' h'.a (by decide))).far (p := ⟨D, 2, Option.none⟩) (by have := h.dn; simp; omega) _, (h'.o.grown gr (own_blk_ne h1' h'.o (by decide))).far (p := ⟨D, 2, Option.none⟩) (by have := h.dn; simp; omega) _, hd.set 2 _, h.dn, (h'.r.other h1' (by decide) (by decide) gr).far hd (by decide) (by decide), Own.setFar ⟨A2, c2, us ++ [.bool b], by simp [hk], by rw [List.length_append, hk]; exact own, Rel.app h2 (Rel.one (R := RB) (u := .bool b) (x := b) rfl)⟩ hd (by decide) 2 _, h.ne, (h'.al.other h1' (by decide) (by decide) gr).far hd (by decide) (by decide),
    (h'.b.grown gr h'.b.size (fun g hgg => (h1'.lt g hgg).1)).setCell (p := ⟨D, 2, Option.none⟩) (by have := h.dn; simp; omega) _⟩
end
/-- How it ends: too many states, or cuts, rows, and what accepts. -/
def MadePostF (a : Au) (acc : Int) (cuts : List Int) (C : Option Addr) (nc cc : Nat) (w : World) (e : Ending) (w' : World) : Prop :=
  ((madeM a acc cuts = none ∧ e = .returned (.tuple #[zDfa, .bool false])) ∨ ∃ rows accs v2 v3, madeM a acc cuts = some (rows, accs) ∧ e = .returned (.tuple #[.agg #[.slice C nc cc, v2, v3], .bool true]) ∧ Ls w' w.heap.size none v2 rows ∧ Own w' w.heap.size 4 RB v3 accs) ∧ Below w.heap.size w w'
/-- What is left to do. -/
noncomputable def restM (a : Au) (acc : Int) (cuts : List Int) (f : Nat) (l : List Int) (cs row : List Int) (all rows : List (List Int)) (accs : List Bool) : Option (List (List Int) × List Bool) :=
  match rowM a l cs row all with | none => none | some (row, all') => mkM a acc cuts f all' (rows ++ [row]) (accs ++ [decide (acc ∈ l)])
theorem restM_begin {a : Au} {acc : Int} {cuts : List Int} {f : Nat} {l : List Int} {all rows : List (List Int)} {accs : List Bool} (h : all[rows.length]? = some l) : mkM a acc cuts (f + 1) all rows accs = restM a acc cuts f l cuts [] all rows accs := mkM_row h
theorem restM_end {a : Au} {acc : Int} {cuts : List Int} {f : Nat} {l row : List Int} {all rows : List (List Int)} {accs : List Bool} : restM a acc cuts f l [] row all rows accs = mkM a acc cuts f all (rows ++ [row]) (accs ++ [decide (acc ∈ l)]) := rfl
theorem restM_many {a : Au} {acc : Int} {cuts : List Int} {f : Nat} {l cs row : List Int} {p : Int} {all rows : List (List Int)} {accs : List Bool} (h : 64 < (addS all (stepS a l p)).length) : restM a acc cuts f l (p :: cs) row all rows accs = none := by
  unfold restM; rw [rowM_many h]
theorem restM_next {a : Au} {acc : Int} {cuts : List Int} {f : Nat} {l cs row : List Int} {p : Int} {all rows : List (List Int)} {accs : List Bool} (h : (addS all (stepS a l p)).length ≤ 64) : restM a acc cuts f l (p :: cs) row all rows accs = restM a acc cuts f l cs (row ++ [(numS all (stepS a l p) : Int)]) (addS all (stepS a l p)) rows accs := by
  unfold restM; rw [rowM_next h]
theorem MetS.bd {a : Au} {all : List (List Int)} (h : MetS a all) (hn : a.length ≤ 100000) : ∀ l, l ∈ all → (∀ y, y ∈ l → -9223372036854775808 ≤ y ∧ y ≤ 9223372036854775807) ∧ l.length ≤ 140737488355328 := fun l hl => by
  obtain ⟨S, rfl⟩ := h l hl
  exact ⟨stL_bd hn, by have := stL_len a.length S; omega⟩
theorem MetS.in {a : Au} {all : List (List Int)} (h : MetS a all) {l : List Int} (hl : l ∈ all) : InAu a.length l := by
  obtain ⟨S, rfl⟩ := h l hl; exact stL_in

set_option maxHeartbeats 4000000 in
set_option maxRecDepth 100000 in
theorem ref10_Made (A C : Option Addr) (c n nc cc : Nat) (acc : Int) (a : Au) (cuts : List Int) (w : World) (ha : AtAu w A a) (HL : Hid (a.length = n)) (hc : At w C RI cuts) (HC : Hid (cuts.length = nc)) (hnc : nc ≤ 256) (hok : AuOk a acc) :
    Calls Tryz.prog 37 #[.agg #[.slice A n c, .int .i64 acc], .slice C nc cc] w (MadePostF a acc cuts C nc cc w) := by
  have hn : n ≤ 256 := by have := hok.few; rwa [HL.out] at this
  have hn1 : 1 ≤ n := by have := hok.pos; rwa [HL.out] at this
  have HA := Lib.hid ha; have HCU := Lib.hid hc; have HOK := Lib.hid hok
  obtain ⟨R, hR⟩ : ∃ R, madeM a acc cuts = R := ⟨_, rfl⟩
  have HR := Lib.hid hR
  have KK := blk2 w #[.slice A n c, .int .i64 acc] #[.slice none 0 0, .slice none 0 0, .slice none 0 0] TAuto TDfa
  have KA := Lib.hid KK.1; have KO := Lib.hid KK.2
  have HB0 := Lib.hid (((Below.refl w.heap.size w).alloc (Nat.le_refl _) (.cells #[.slice A n c, .int .i64 acc] TAuto)).alloc (by simp) (.cells #[.slice none 0 0, .slice none 0 0, .slice none 0 0] TDfa))
  have HC0 := Lib.hid (fun W (hb : Below w.heap.size w W) (b : Nat) (hc : W.cell? ⟨b, 0, none⟩ = some (.int .i64 0)) => ref09_Closed A c n acc a (some ⟨b, 0, none⟩) 1 1 [0] W (HA.out.keep (Keep.of hb)) HL ⟨by simp, fun _ => ⟨b, 0, rfl, World.block_lt_of_cell? _ _ hc, fun i x hx => by
    match i, hx with
    | 0, hx => simp at hx; subst hx; exact ⟨_, hc, rfl, by omega, by omega⟩
    | i + 1, hx => simp at hx⟩⟩ (Lib.hid rfl) HOK.out (fun x hx => by simp at hx; subst hx; omega))
  rw [of_zero] at HC0
  obtain ⟨i0, hi0, hz0, hs0, hb0⟩ := info_parts info_int9
  obtain ⟨i1', hi1, hz1, hs1, hb1'⟩ := info_parts info_bool9
  obtain ⟨i2', hi2, hz2, hs2, hb2'⟩ := info_parts info_ints9
  clear ha hc hok KK hR
  go_enter Tryz.func37, Tryz.ntmps37
  go_wp2_with fail
  refine (HC0.out _ (HB0.out.alloc HB0.out.size _) _ ((blk3 w _ _ _ _ _ _).2.2.cell 0)).mono ?_
  rintro e w2 ⟨v, rfl, hv, hb2⟩
  have HB1 := Lib.hid (HB0.out.alloc HB0.out.size (.cells #[.int .i64 0] 3))
  have KA2 := Lib.hid ((KA.out.alloc (.cells #[.int .i64 0] 3)).below hb2 (by simp; omega)); have KO2 := Lib.hid ((KO.out.alloc (.cells #[.int .i64 0] 3)).below hb2 (by simp))
  have HB2 := Lib.hid (HB1.out.trans (hb2.mono HB1.out.size))
  have hw2 : w.heap.size + 1 + 1 + 1 ≤ w2.heap.size := by have := hb2.size; simpa using this
  have HV := Lib.hid (hv.lower HB1.out.size)
  have HFS : Hid (stL n (Clo a fun s => s = 0) = firstS a) := Lib.hid (by unfold firstS; rw [HL.out])
  rw [HFS.out] at HV
  obtain ⟨Av, cv, ev, _⟩ := HV.out
  obtain ⟨qv, HQV⟩ : ∃ q, Hid ((firstS a).length = q) := ⟨_, Lib.hid rfl⟩
  rw [HQV.out] at ev
  subst ev
  clear hv hb2
  have BW : Hid (Below w2.heap.size w2 ((w2.alloc (.cells #[.slice Av qv cv] TLL)).alloc (.cells #[.slice C nc cc, .slice none 0 0, .slice none 0 0] TDfa))) := Lib.hid (((Below.refl _ _).alloc (Nat.le_refl _) _).alloc (by simp) _)
  have DD := Blk.new (w2.alloc (.cells #[.slice Av qv cv] TLL)) TDfa #[.slice C nc cc, .slice none 0 0, .slice none 0 0]
  rw [show (w2.alloc (.cells #[.slice Av qv cv] TLL)).heap.size = w2.heap.size + 1 by simp] at DD
  have M0 : Hid (MkIn w ((w2.alloc (.cells #[.slice Av qv cv] TLL)).alloc (.cells #[.slice C nc cc, .slice none 0 0, .slice none 0 0] TDfa)) (w2.heap.size + 1) A n c acc C nc cc none (.slice (some ⟨w2.heap.size, 0, none⟩) 1 1) (.slice none 0 0) (.slice none 0 0) [firstS a] [] []) := Lib.hid
    ⟨KA2.out.below BW.out KA2.out.lt, KO2.out.below BW.out KO2.out.lt, DD, by omega, Ls.nil _ _ _, Own.nil, .inl rfl, (Ls.one (x := none) HV.out HB2.out.size (by cases (Value.slice Av qv cv).ownBlock <;> simp)).alloc _, HB2.out.trans (BW.out.mono HB2.out.size)⟩
  clear DD
  have HR0 : Hid (mkM a acc cuts 70 [firstS a] [] [] = R) := Lib.hid HR.out
  go_wp2
  go_loopw [8, 6] (fun iv av wr => ∃ (i k : Nat) (A1 : Option Addr) (c1 : Nat) (v2 v3 : Value) (all rows : List (List Int)) (accs : List Bool), iv = .int .i64 i ∧ av = .slice A1 k c1 ∧ i ≤ k ∧ k ≤ 64 ∧ Hid (all.length = k) ∧ Hid (rows.length = i) ∧ Hid (accs.length = i) ∧ Hid (MetS a all) ∧ Hid (mkM a acc cuts (70 - i) all rows accs = R) ∧
      Hid (MkIn w wr (w2.heap.size + 1) A n c acc C nc cc none (.slice A1 k c1) v2 v3 all rows accs)) (fun iv _ _ => 70 - (intOf iv).toNat)
  case atStart => exact ⟨0, 1, _, 1, _, _, [firstS a], [], [], rfl, rfl, by omega, by omega, Lib.hid rfl, Lib.hid rfl, Lib.hid rfl, Lib.hid (MetS.one a), HR0, M0⟩
  case round =>
    clear M0 HR0 BW HV HB2 KA2 KO2 HB1 HC0 KA KO HB0
    obtain ⟨i, k, A1, c1, v2, v3, all, rows, accs, rfl, rfl, hik, hk, HK, HRW, HAC, HMT, HRE, HM⟩ := hrel
    by_cases hlt : i < k
    · obtain ⟨l, HLI⟩ : ∃ l, Hid (all[i]? = some l) := ⟨_, Lib.hid (List.getElem?_eq_getElem (by rw [HK.out]; exact hlt))⟩
      have HR1 : Hid (restM a acc cuts (69 - i) l cuts [] all rows accs = R) := Lib.hid (by
        rw [← HRE.out, show 70 - i = (69 - i) + 1 by omega, restM_begin (by rw [HRW.out]; exact HLI.out)])
      have i1 : (0 : Int) ≤ (i : Int) := by omega
      have i2 : (i : Int) < (k : Int) := by omega
      go_wp2
      go_loopw [10, 6, 9] (fun cv av rv wr2 => ∃ (p k : Nat) (A1 : Option Addr) (c1 : Nat) (B : Option Addr) (bc : Nat) (v2 v3 : Value) (all : List (List Int)) (row : List Int), cv = .int .i64 p ∧ av = .slice A1 k c1 ∧ rv = .slice B p bc ∧ p ≤ nc ∧ i < k ∧ k ≤ 64 ∧ Hid (all.length = k) ∧ Hid (row.length = p) ∧ Hid (all[i]? = some l) ∧ Hid (MetS a all) ∧ Hid (restM a acc cuts (69 - i) l (cuts.drop p) row all rows accs = R) ∧
          Hid (wr2.ownsRow w.heap.size TLI 1 (.slice B p bc) p (row.map (Value.int .i64))) ∧ Hid (MkIn w wr2 (w2.heap.size + 1) A n c acc C nc cc (Value.slice B p bc).ownBlock (.slice A1 k c1) v2 v3 all rows accs)) (fun cv _ _ _ => nc - (intOf cv).toNat)
      case atStart => exact ⟨0, k, A1, c1, none, 0, v2, v3, all, [], rfl, rfl, rfl, by omega, hlt, hk, HK, Lib.hid rfl, HLI, HMT, HR1, Lib.hid (World.ownsRow_nil _ _ _ _), HM⟩
      case round =>
        clear HK HMT HR1 HM HRE HLI hk hlt i2
        obtain ⟨p, k, A1, c1, B, bc, v2, v3, all, row, rfl, rfl, rfl, hp, hik2, hk, HK, HRL, HLI, HMT, HRE, HO, HM⟩ := hrel
        obtain ⟨A1', c1', e1, hat, hkc⟩ := HM.out.al.lists (MetS.bd HMT.out (by rw [HL.out]; omega)) (by rw [HK.out]; omega)
        rw [HK.out] at e1
        injection e1 with e1 _ e3
        subst e1; subst e3
        have HAT := Lib.hid hat
        have i3 : (0 : Int) ≤ (p : Int) := by omega
        have i4 : (i : Int) < (k : Int) := by omega
        obtain ⟨b1, o1, T1, tc1, q1, l1, rfl, hb1, cc1, hl1, HQ1, _, hq1, HX1⟩ := At.gtS HAT.out HK hik2
        obtain rfl : l1 = l := Option.some.inj (HX1.out.symm.trans HLI.out)
        obtain ⟨p0, p1, _, _⟩ := Blk.two HM.out.a
        have hN := HM.out.a.lt
        have hNw := HM.out.b.size
        clear hat
        by_cases hpl : p < nc
        · obtain ⟨b3, o3, u3, y, rfl, hb3, cc3, ⟨rfl, _, _⟩, HY⟩ := (HCU.out.keep (Keep.of HM.out.b)).gt HC hpl
          have i5 : (p : Int) < (nc : Int) := by omega
          have HL1 := Lib.hid (hl1.keep (Keep.drew wr))
          have HMD := Lib.hid (HM.out.next (Below.refl _ _).drew)
          have HS : Hid (wr.drew.cell? ⟨w.heap.size, 0, none⟩ = some (.slice A n c) ∧ wr.drew.cell? ⟨w.heap.size, 1, none⟩ = some (.int .i64 acc) ∧ wr.drew.cell? ⟨b1, o1 + i, none⟩ = some (.slice T1 q1 tc1) ∧ wr.drew.cell? ⟨b3, o3 + p, none⟩ = some (.int .i64 y)) := Lib.hid ⟨p0, p1, cc1, cc3⟩
          have HIN := Lib.hid (show InAu n l1 by have := MetS.in HMT.out (mem_of_get HX1.out); rwa [HL.out] at this)
          have HCB := Lib.hid (ref09_Behind A c n acc a T1 tc1 q1 l1 y wr.drew (HA.out.keep (Keep.of HMD.out.b)) HL HL1.out HQ1 HOK.out HIN.out)
          clear hl1
          go_wp2
          refine wp_region_T 12 (fun W => W.cell? ⟨w.heap.size, 0, none⟩ = some (.slice A n c) ∧ W.cell? ⟨w.heap.size, 1, none⟩ = some (.int .i64 acc) ∧ W.cell? ⟨b1, o1 + i, none⟩ = some (.slice T1 q1 tc1) ∧ W.cell? ⟨b3, o3 + p, none⟩ = some (.int .i64 y)) (by kernel_rfl) ?_
          refine wpAnyT_take (i := 0) (v := ?_) rfl (by kernel_rfl) (by kernel_rfl) (by kernel_rfl) (by kernel_rfl) (by kernel_rfl) (fun _ _ _ h => h) (.inl ⟨rfl, ?_⟩) HS.out ?_
          rotate_left
          · intro W__ hW__
            obtain ⟨h1, h2, h3, h4⟩ := hW__
            go_simp
            (try with_reducible rfl)
          try simp only [Act.put]
          refine wpAnyT_take (i := 1) (v := ?_) rfl (by kernel_rfl) (by kernel_rfl) (by kernel_rfl) (by kernel_rfl) (by kernel_rfl) (fun _ _ _ h => h) (.inl ⟨rfl, ?_⟩) HS.out ?_
          rotate_left
          · intro W__ hW__
            obtain ⟨h1, h2, h3, h4⟩ := hW__
            go_simp
            (try with_reducible rfl)
          try simp only [Act.put]
          refine wpAnyT_take (i := 2) (v := ?_) rfl (by kernel_rfl) (by kernel_rfl) (by kernel_rfl) (by kernel_rfl) (by kernel_rfl) (fun _ _ _ h => h) (.inl ⟨rfl, ?_⟩) HS.out ?_
          rotate_left
          · intro W__ hW__
            obtain ⟨h1, h2, h3, h4⟩ := hW__
            go_simp
            (try with_reducible rfl)
          try simp only [Act.put]
          refine wpAnyT_take (i := 3) (v := ?_) rfl (by kernel_rfl) (by kernel_rfl) (by kernel_rfl) (by kernel_rfl) (by kernel_rfl) (fun _ _ _ h => h) (.inl ⟨rfl, ?_⟩) HS.out ?_
          rotate_left
          · intro W__ hW__
            obtain ⟨h1, h2, h3, h4⟩ := hW__
            go_simp
            (try with_reducible rfl)
          try simp only [Act.put]
          refine wpAnyT_take (i := 4) (v := ?_) rfl (by kernel_rfl) (by kernel_rfl) (by kernel_rfl) (by kernel_rfl) (by kernel_rfl) (fun _ _ _ h => h) (.inl ⟨rfl, ?_⟩) HS.out ?_
          rotate_left
          · intro W__ hW__
            obtain ⟨h1, h2, h3, h4⟩ := hW__
            go_simp
            (try with_reducible rfl)
          try simp only [Act.put]
          refine wpAnyT_take (i := 5) (v := ?_) rfl (by kernel_rfl) (by kernel_rfl) (by kernel_rfl) (by kernel_rfl) (by kernel_rfl) (fun _ _ _ h => h) (.inl ⟨rfl, ?_⟩) HS.out ?_
          rotate_left
          · intro W__ hW__
            obtain ⟨h1, h2, h3, h4⟩ := hW__
            go_simp
            (try with_reducible rfl)
          try simp only [Act.put]
          refine wpAnyT_take (i := 6) (v := ?_) rfl (by kernel_rfl) (by kernel_rfl) (by kernel_rfl) (by kernel_rfl) (by kernel_rfl) (fun _ _ _ h => h) (.inl ⟨rfl, ?_⟩) HS.out ?_
          rotate_left
          · intro W__ hW__
            obtain ⟨h1, h2, h3, h4⟩ := hW__
            go_simp
            (try with_reducible rfl)
          try simp only [Act.put]
          refine wpAnyT_take (i := 7) (v := ?_) rfl (by kernel_rfl) (by kernel_rfl) (by kernel_rfl) (by kernel_rfl) (by kernel_rfl) (fun _ _ _ h => h) (.inl ⟨rfl, ?_⟩) HS.out ?_
          rotate_left
          · intro W__ hW__
            obtain ⟨h1, h2, h3, h4⟩ := hW__
            go_simp
            (try with_reducible rfl)
          try simp only [Act.put]
          refine wpAnyT_take (i := 8) (v := ?_) rfl (by kernel_rfl) (by kernel_rfl) (by kernel_rfl) (by kernel_rfl) (by kernel_rfl) (fun _ _ _ h => h) (.inl ⟨rfl, ?_⟩) HS.out ?_
          rotate_left
          · intro W__ hW__
            obtain ⟨h1, h2, h3, h4⟩ := hW__
            go_simp
            (try with_reducible rfl)
          try simp only [Act.put]
          refine wpAnyT_take (i := 9) (v := ?_) rfl (by kernel_rfl) (by kernel_rfl) (by kernel_rfl) (by kernel_rfl) (by kernel_rfl) (fun _ _ _ h => h) (.inl ⟨rfl, ?_⟩) HS.out ?_
          rotate_left
          · intro W__ hW__
            obtain ⟨h1, h2, h3, h4⟩ := hW__
            go_simp
            (try with_reducible rfl)
          try simp only [Act.put]
          refine wpAnyT_one (i := 10) rfl (by kernel_rfl) rfl fun K__ hK__ => ?_
          unfold Oper.wp
          go_simp
          refine HCB.out.mono ?_
          rintro e w5 ⟨v5, rfl, hv5, hb5⟩
          have hz5 := stL_len n (Stp a y (Of l1))
          obtain ⟨B5, bc5, rfl, hat5, _⟩ := hv5.at' (stL_bd (by omega)) (by omega)
          have HM5 := Lib.hid (HMD.out.next hb5)
          obtain ⟨q0, q1', _, _⟩ := Blk.two HM5.out.a
          have ce1 := ((Keep.of hb5).cell b1 (o1 + i) hb1).trans HS.out.2.2.1
          have ce3 := ((Keep.of hb5).cell b3 (o3 + p) hb3).trans HS.out.2.2.2
          have HCC := Lib.hid (ref09_Closed A c n acc a B5 bc5 _ _ w5 (HA.out.keep (Keep.of HM5.out.b)) HL hat5 (Lib.hid rfl) HOK.out stL_in)
          rw [of_stL (fun s hs => by have := stp_in HOK.out hs; rwa [HL.out] at this)] at HCC
          have hSS : stL n (Clo a (Stp a y (Of l1))) = stepS a l1 y := by unfold stepS; rw [HL.out]
          rw [hSS] at HCC
          obtain ⟨L6, hL6⟩ : ∃ L, stepS a l1 y = L := ⟨_, rfl⟩
          rw [hL6] at HCC
          obtain ⟨q6, hq6⟩ : ∃ q, L6.length = q := ⟨_, rfl⟩
          have hb6' : (∀ x, x ∈ L6 → -9223372036854775808 ≤ x ∧ x ≤ 9223372036854775807) := by rw [← hL6]; unfold stepS; rw [HL.out]; exact stL_bd (by omega)
          have hz6 : q6 ≤ n := by rw [← hq6, ← hL6]; unfold stepS; rw [HL.out]; exact stL_len _ _
          have HL6 := Lib.hid hL6; have HB6 := Lib.hid hb6'; have HQ6 := Lib.hid hq6
          clear hL6 hq6 hb6'
          have hw5 := HM5.out.b.size
          have hw35 : wr.heap.size ≤ w5.heap.size := hb5.size
          generalize (stL n (Stp a y (Of l1))).length = j5 at *
          have HB5 := Lib.hid (show Below wr.heap.size wr w5 from (Below.refl wr.heap.size wr).drew.trans hb5)
          clear hv5 hb5 hat5 hSS
          refine hK__ _ _ ⟨q0, q1', ce1, ce3⟩ ?_
          clear hK__
          refine wpAnyT_one (i := 11) rfl (by kernel_rfl) rfl fun K__ hK__ => ?_
          unfold Oper.wp
          go_simp
          refine HCC.out.mono ?_
          rintro e w6 ⟨v6, rfl, hv6, hb6⟩
          obtain ⟨B6, bc6, hv6e, hat6, _⟩ := hv6.at' HB6.out (by rw [HQ6.out]; omega)
          rw [HQ6.out] at hv6e
          subst hv6e
          have HM6 := Lib.hid (HM5.out.next hb6)
          obtain ⟨r0, r1, _, _⟩ := Blk.two HM6.out.a
          have cf1 := ((Keep.of hb6).cell b1 (o1 + i) (World.block_lt_of_cell? _ _ ce1)).trans ce1
          have cf3 := ((Keep.of hb6).cell b3 (o3 + p) (World.block_lt_of_cell? _ _ ce3)).trans ce3
          have HO6 := Lib.hid (ownsRow_below (w' := w6) HO.out (HB5.out.trans (hb6.mono hw35)))
          have HX6 : Hid ((Value.slice B6 q6 bc6).ownBlock = none ∨ (Value.slice B6 q6 bc6).ownBlock ≠ (Value.slice B p bc).ownBlock) := Lib.hid (by
            cases hg : (Value.slice B6 q6 bc6).ownBlock with
            | none => exact .inl rfl
            | some g =>
              refine .inr fun he => ?_
              have h1 := (hv6.lt hg).1
              have h2 := (HO.out.lt g he.symm).2
              omega)
          have HV6 := Lib.hid (hv6.lower hw5); have HAT6 := Lib.hid hat6
          have hw6 := HM6.out.b.size
          clear hv6 hat6 hb6 p0 p1 cc1 cc3 q0 q1'
          refine hK__ _ _ ⟨r0, r1, cf1, cf3⟩ ?_
          clear hK__
          refine wpAnyT_end (i := 12) rfl (by kernel_rfl) rfl (by kernel_rfl) fun K__ hK__ => ?_
          unfold Oper.wp
          go_simp
          refine hK__ _ _ ?_
          clear hK__
          refine wpAnyT_done (by kernel_rfl) ?_ _
          clear r0 r1 cf1 cf3 ce1 ce3 HCC HCB HMD HM5 HS HM HO HAT HL1 hb1 hb3
          obtain ⟨A1', c1', e1', hat, _⟩ := HM6.out.al.lists (MetS.bd HMT.out (by rw [HL.out]; omega)) (by rw [HK.out]; omega)
          rw [HK.out] at e1'
          injection e1' with e1' _ e3'
          subst e1'; subst e3'
          have HF := Lib.hid (ref10_find (some ⟨b1, o1, none⟩) B6 c1 bc6 k q6 all L6 w6 hat HK HAT6.out HQ6)
          clear hat
          go_wp2_with fail
          refine HF.out.mono ?_
          rintro e w7 ⟨⟨r, rfl, hf⟩, hd⟩
          obtain ⟨n7, rfl⟩ := hd
          have hfi := hf.is
          clear hf HF
          have HM7 := Lib.hid (HM6.out.next (Below.refl _ _ |> fun h => below_drewN h n7))
          have HO7 := Lib.hid (ownsRow_drewN HO6.out n7)
          have HV7 : Hid (OwnI (w6.drewN n7) w.heap.size (.slice B6 q6 bc6) L6) := HV6
          have HDR : Hid (cuts.drop p = y :: cuts.drop (p + 1)) := Lib.hid (by
            have h1 := lt_of_get HY.out
            have h2 := HY.out
            rw [List.getElem?_eq_getElem h1] at h2
            rw [List.drop_eq_getElem_cons h1, Option.some.inj h2])
          clear HM6 HO6 HV6 HAT6
          have Q1 : Hid (k + 1 ≤ maxLen) := Lib.hid (by simp only [maxLen]; omega)
          have Q2 : Hid ((k + 1) * 24 ≤ 140737488355328) := Lib.hid (by omega)
          have Q3 : Hid (p + 1 ≤ maxLen) := Lib.hid (by simp only [maxLen]; omega)
          have Q4 : Hid ((p + 1) * 8 ≤ 140737488355328) := Lib.hid (by omega)
          rcases hfi with ⟨rfl, hno, hnum⟩ | ⟨hr, hin, hlt7⟩
          · have HAD : Hid (addS all (stepS a l1 y) = all ++ [L6]) := Lib.hid (by rw [HL6.out, addS_new hno])
            have HNU : Hid (numS all (stepS a l1 y) = k) := Lib.hid (by rw [HL6.out, hnum, HK.out])
            clear hno hnum
            obtain ⟨Aa, ca, us, ev, ow, rel⟩ := HM7.out.al
            rw [HK.out] at ev ow
            injection ev with ev1 _ ev3
            subst ev1; subst ev3
            have OW := Lib.hid ow; have REL := Lib.hid rel
            have OW1 := Lib.hid (ow.alloc (.cells #[.slice B6 q6 bc6] TLL))
            have SR1 := Lib.hid (Src.one (w := w6.drewN n7) (x := .slice B6 q6 bc6) (t := TLL) rfl)
            have Z1 : Hid (w.heap.size ≤ ((w6.drewN n7).alloc (.cells #[.slice B6 q6 bc6] TLL)).heap.size) := Lib.hid (by simp; omega)
            clear ow rel
            by_cases h64 : 64 < k + 1
            · have HNONE : Hid (madeM a acc cuts = none) := Lib.hid (by
                rw [HR.out, ← HRE.out, HDR.out, restM_many (by rw [HAD.out, List.length_append, HK.out]; exact h64)])
              have d1 : (64 : Int) < (k : Int) + 1 := by omega
              go_wp2_with (first
                | (at_builtin
                   go_must (refine wpList_append_src _ rfl (.tmp 50) (.tmp 52) 27 rfl w.heap.size TLL i2' (.slice none 0 0) 1 24 Tryz.underlying27 hi2 hz2 hs2 hb2' rfl (by decide) (some ⟨b1, o1, none⟩) c1 k us rfl OW1.out _ 1 1 _ rfl SR1.out Q1.out Q2.out Z1.out ?_)
                   intro A9 c9 w9 own9 gr9 hn9
                   have HM9 := Lib.hid (MkIn.met HM7.out OW.out REL.out HK.out HV7.out HX6.out own9 gr9 hn9)
                   obtain ⟨s0, s1, s2, z0, z1, z2⟩ := Blk.three HM9.out.o
                   have hN9 := HM9.out.o.lt
                   clear own9 gr9 hn9))
              have X9 := ((HM9.out.o.set 0 (.slice none 0 0)).set 1 (.slice none 0 0)).set 2 (.slice none 0 0)
              obtain ⟨t0, t1, t2, _, _, _⟩ := Blk.three X9
              refine bodyPost_ret (v := .tuple #[zDfa, .bool false]) (by simp [results, Tryz.results37, go_sem, t0, t1, t2]) rfl ⟨.inl ⟨HNONE.out, rfl⟩, ?_⟩
              exact ((HM9.out.b.setCell (p := ⟨w.heap.size + 1, 0, none⟩) (by simp) _).setCell (p := ⟨w.heap.size + 1, 1, none⟩) (by simp) _).setCell (p := ⟨w.heap.size + 1, 2, none⟩) (by simp) _
            · have HREN : Hid (restM a acc cuts (69 - i) l1 (cuts.drop (p + 1)) (row ++ [(k : Int)]) (all ++ [L6]) rows accs = R) := Lib.hid (by
                rw [← HRE.out, HDR.out, restM_next (by rw [HAD.out, List.length_append, HK.out]; exact Nat.le_of_not_lt h64), HAD.out, HNU.out])
              have HMTN : Hid (MetS a (all ++ [L6])) := Lib.hid (by have := MetS.add HMT.out l1 y; rwa [HAD.out] at this)
              have d1 : decide ((64 : Int) < (k : Int) + 1) = false := decide_eq_false (by omega)
              go_wp2_with (first
                | (at_builtin
                   refine wpList_append_src _ rfl (.tmp 50) (.tmp 52) 27 rfl w.heap.size TLL i2' (.slice none 0 0) 1 24 Tryz.underlying27 hi2 hz2 hs2 hb2' rfl (by decide) (some ⟨b1, o1, none⟩) c1 k us rfl OW1.out _ 1 1 _ rfl SR1.out Q1.out Q2.out Z1.out ?_
                   intro A9 c9 w9 own9 gr9 hn9
                   have HM9 := Lib.hid (MkIn.met HM7.out OW.out REL.out HK.out HV7.out HX6.out own9 gr9 hn9)
                   have HO9 := Lib.hid (((ownsRow_below HO7.out ((Below.refl _ _).alloc (Nat.le_refl _) _)).kept gr9 (own_ne HO7.out OW.out (by decide))).alloc (.cells #[.int .i64 k] TLI))
                   have SR9 := Lib.hid (Src.one (w := w9) (x := .int .i64 (k : Int)) (t := TLI) rfl)
                   have HMA := Lib.hid (HM9.out.next ((Below.refl _ _).alloc (Nat.le_refl _) (.cells #[.int .i64 k] TLI)))
                   have Z9 : Hid (w.heap.size ≤ (w9.alloc (.cells #[.int .i64 k] TLI)).heap.size) := Lib.hid HMA.out.b.size
                   clear own9 gr9 hn9)
                | (at_builtin
                   go_must (refine wpList_append_src _ rfl (.tmp 58) (.tmp 60) 26 rfl w.heap.size TLI i0 (.int .i64 0) 1 8 Tryz.underlying26 hi0 hz0 hs0 hb0 rfl (by decide) B bc p _ rfl HO9.out _ 1 1 _ rfl SR9.out Q3.out Q4.out Z9.out ?_)
                   intro Ab cb wb ownb grb hnb
                   have HMB := Lib.hid (MkIn.row HMA.out HO9.out grb hnb (Nat.le_refl _))
                   have HOB := Lib.hid ownb
                   clear ownb grb hnb))
              go_roundw
              case rel => exact ⟨p + 1, k + 1, A9, c9, Ab, cb, v2, v3, all ++ [L6], row ++ [(k : Int)], by go_num, rfl, rfl, by omega, by omega, by omega, Lib.hid (by rw [List.length_append, HK.out]; rfl), Lib.hid (by rw [List.length_append, HRL.out]; rfl), Lib.hid (by rw [List.getElem?_append_left (by rw [HK.out]; omega)]; exact HX1.out), HMTN, HREN, Lib.hid (by rw [List.map_append]; exact HOB.out), HMB⟩
              case measure => simp [intOf]; omega
          · obtain ⟨j, hj⟩ : ∃ j : Nat, numS all L6 = j := ⟨_, rfl⟩
            rw [hj] at hr hlt7
            subst hr
            have HAD : Hid (addS all (stepS a l1 y) = all) := Lib.hid (by rw [HL6.out, addS_in hin])
            have HNU : Hid (numS all (stepS a l1 y) = j) := Lib.hid (by rw [HL6.out, hj])
            have HREN : Hid (restM a acc cuts (69 - i) l1 (cuts.drop (p + 1)) (row ++ [(j : Int)]) all rows accs = R) := Lib.hid (by
              rw [← HRE.out, HDR.out, restM_next (by rw [HAD.out, HK.out]; exact hk), HAD.out, HNU.out])
            rw [HK.out] at hlt7
            clear hj hin
            have j0 : (0 : Int) ≤ (j : Int) := by omega
            have d1 : decide ((64 : Int) < (k : Int)) = false := decide_eq_false (by omega)
            have HO9 := Lib.hid (ownsRow_below HO7.out ((Below.refl _ _).alloc (Nat.le_refl _) (.cells #[.int .i64 j] TLI)))
            have SR9 := Lib.hid (Src.one (w := w6.drewN n7) (x := .int .i64 (j : Int)) (t := TLI) rfl)
            have HMA := Lib.hid (HM7.out.next ((Below.refl _ _).alloc (Nat.le_refl _) (.cells #[.int .i64 j] TLI)))
            have Z9 : Hid (w.heap.size ≤ ((w6.drewN n7).alloc (.cells #[.int .i64 j] TLI)).heap.size) := Lib.hid HMA.out.b.size
            go_wp2_with (first
              | (at_builtin
                 go_must (refine wpList_append_src _ rfl (.tmp 58) (.tmp 60) 26 rfl w.heap.size TLI i0 (.int .i64 0) 1 8 Tryz.underlying26 hi0 hz0 hs0 hb0 rfl (by decide) B bc p _ rfl HO9.out _ 1 1 _ rfl SR9.out Q3.out Q4.out Z9.out ?_)
                 intro Ab cb wb ownb grb hnb
                 have HMB := Lib.hid (MkIn.row HMA.out HO9.out grb hnb (Nat.le_refl _))
                 have HOB := Lib.hid ownb
                 clear ownb grb hnb))
            go_roundw
            case rel => exact ⟨p + 1, k, _, c1, Ab, cb, v2, v3, all, row ++ [(j : Int)], by go_num, rfl, rfl, by omega, by omega, by omega, HK, Lib.hid (by rw [List.length_append, HRL.out]; rfl), HX1, HMT, HREN, Lib.hid (by rw [List.map_append]; exact HOB.out), HMB⟩
            case measure => simp [intOf]; omega
        · obtain rfl : p = nc := by omega
          have HDR : Hid (cuts.drop p = []) := Lib.hid (List.drop_eq_nil_of_le (by rw [HC.out]; exact Nat.le_refl _))
          have HREN : Hid (mkM a acc cuts (69 - i) all (rows ++ [row]) (accs ++ [decide (acc ∈ l1)]) = R) := Lib.hid (by rw [← HRE.out, HDR.out, restM_end])
          have HF := Lib.hid HM.out.free
          obtain ⟨A2, c2, us2, ev2, ow2, rel2⟩ := HF.out.r
          obtain ⟨A3, c3, us3, ev3, ow3, rel3⟩ := HF.out.t
          rw [HRW.out] at ev2 ow2
          rw [HAC.out] at ev3 ow3
          subst ev2; subst ev3
          have OW2 := Lib.hid ow2; have REL2 := Lib.hid rel2
          have HU : Hid (OwnI wr w.heap.size (.slice B p bc) row) := Lib.hid (by
            have h1 := HO.out
            have h2 := HRL.out
            exact ⟨B, bc, by rw [h2], by rw [h2]; exact h1⟩)
          have OWA := Lib.hid (ow2.alloc (.cells #[.slice B p bc] TLL))
          have SRA := Lib.hid (Src.one (w := wr) (x := .slice B p bc) (t := TLL) rfl)
          have Q1 : Hid (i + 1 ≤ maxLen) := Lib.hid (by simp only [maxLen]; omega)
          have Q2 : Hid ((i + 1) * 24 ≤ 140737488355328) := Lib.hid (by omega)
          have Q4 : Hid ((i + 1) * 1 ≤ 140737488355328) := Lib.hid (by omega)
          have Q5 : Hid (i + 1 ≤ maxLen) := Lib.hid (by simp only [maxLen]; omega)
          have Z1 : Hid (w.heap.size ≤ (wr.alloc (.cells #[.slice B p bc] TLL)).heap.size) := Lib.hid (by simp; omega)
          obtain ⟨s0, s1, s2, _, _, _⟩ := Blk.three HF.out.d
          clear ow2 rel2 ow3 rel3 HRE p0 p1
          go_wp2_with (first
            | (at_builtin
               go_must (refine wpList_append_src _ rfl (.tmp 63) (.tmp 65) 27 rfl w.heap.size TLL i2' (.slice none 0 0) 1 24 Tryz.underlying27 hi2 hz2 hs2 hb2' rfl (by decide) A2 c2 i us2 rfl OWA.out _ 1 1 _ rfl SRA.out Q1.out Q2.out Z1.out ?_)
               intro A9 c9 w9 own9 gr9 hn9
               have HMD := Lib.hid (MkIn.done HF.out OW2.out REL2.out HRW.out HU.out own9 gr9 hn9)
               have HGB := Lib.hid (show Below wr.heap.size wr w9 ∨ True from .inr trivial)
               have HCA := Lib.hid (show ∀ g, (h : g < wr.heap.size) → some g ≠ (Value.slice A2 i c2).ownBlock → w9.heap[g]? = wr.heap[g]? from fun g h hne => (gr9.block g (by simp; omega) hne).trans (Below.heap_alloc wr (.cells #[.slice B p bc] TLL) g h))
               obtain ⟨s0, s1, s2, z0, z1, z2⟩ := Blk.three ((HF.out.d.alloc (.cells #[.slice B p bc] TLL)).grown gr9 (own_blk_ne OWA.out (HF.out.d.alloc (.cells #[.slice B p bc] TLL)) (by decide)))
               clear own9 gr9 hn9))
          have HMX := Lib.hid (HMD.out.next (Below.refl _ _).drew)
          obtain ⟨A1', c1', e1', hatx, _⟩ := HMX.out.al.lists (MetS.bd HMT.out (by rw [HL.out]; omega)) (by rw [HK.out]; omega)
          rw [HK.out] at e1'
          injection e1' with e1' _ e3'
          subst e1'; subst e3'
          obtain ⟨b4, o4, T4, tc4, q4, l4, eA, hb4, cc4, hl4, HQ4, _, hq4, HX4⟩ := At.gtS hatx HK hik2
          injection eA with eA
          injection eA with eA1 eA2
          subst eA1; subst eA2
          obtain rfl : l4 = l1 := Option.some.inj (HX4.out.symm.trans HLI.out)
          obtain ⟨x0, x1, x2, xf0, xf1, xf2⟩ := Blk.three HMX.out.d
          obtain ⟨y0, y1, _, _⟩ := Blk.two HMX.out.a
          have HBI := Lib.hid (ref10_has T4 tc4 q4 l4 acc _ hl4 HQ4)
          obtain ⟨bb, hbb⟩ : ∃ bb, decide (acc ∈ l4) = bb := ⟨_, rfl⟩
          have HBB := Lib.hid hbb
          rw [hbb] at HBI HREN
          clear hbb hatx hl4 HMD
          obtain ⟨A3', c3', us3', ev3', ow3', rel3'⟩ := HMX.out.t
          rw [HAC.out] at ev3' ow3'
          injection ev3' with ev31 _ ev33
          subst ev31; subst ev33
          have OW3 := Lib.hid ow3'; have REL3 := Lib.hid rel3'
          have CC4 := Lib.hid cc4
          clear ow3' rel3' cc4
          have HS : Hid (((w9.setCell ⟨w2.heap.size + 1, 1, none⟩ (.slice A9 (i + 1) c9)).drew).cell? ⟨w2.heap.size + 1, 2, none⟩ = some (.slice A3 i c3) ∧ ((w9.setCell ⟨w2.heap.size + 1, 1, none⟩ (.slice A9 (i + 1) c9)).drew).cell? ⟨b1, o1 + i, none⟩ = some (.slice T4 q4 tc4) ∧ ((w9.setCell ⟨w2.heap.size + 1, 1, none⟩ (.slice A9 (i + 1) c9)).drew).cell? ⟨w.heap.size, 1, none⟩ = some (.int .i64 acc)) := Lib.hid ⟨x2, CC4.out, y1⟩
          refine wp_region_T 10 (fun W => W.cell? ⟨w2.heap.size + 1, 2, none⟩ = some (.slice A3 i c3) ∧ W.cell? ⟨b1, o1 + i, none⟩ = some (.slice T4 q4 tc4) ∧ W.cell? ⟨w.heap.size, 1, none⟩ = some (.int .i64 acc)) (by kernel_rfl) ?_
          clear x0 x1 x2 xf0 xf1 xf2 y0 y1 s0 s1 s2 z0 z1 z2
          generalize (w9.setCell ⟨w2.heap.size + 1, 1, none⟩ (.slice A9 (i + 1) c9)).drew = W at *
          have HS9 := Lib.hid (show (W.alloc (.cells #[.bool bb] 4)).cell? ⟨w2.heap.size + 1, 2, none⟩ = some (.slice A3 i c3) ∧ (W.alloc (.cells #[.bool bb] 4)).cell? ⟨b1, o1 + i, none⟩ = some (.slice T4 q4 tc4) ∧ (W.alloc (.cells #[.bool bb] 4)).cell? ⟨w.heap.size, 1, none⟩ = some (.int .i64 acc) from
            ⟨((Keep.alloc W _).cell _ _ (World.block_lt_of_cell? _ _ HS.out.1)).trans HS.out.1, ((Keep.alloc W _).cell _ _ (World.block_lt_of_cell? _ _ HS.out.2.1)).trans HS.out.2.1, ((Keep.alloc W _).cell _ _ (World.block_lt_of_cell? _ _ HS.out.2.2)).trans HS.out.2.2⟩)
          have OWB := Lib.hid (OW3.out.alloc (.cells #[.bool bb] 4))
          have SRB := Lib.hid (Src.one (w := W) (x := .bool bb) (t := 4) rfl)
          have Z3 : Hid (w.heap.size ≤ (W.alloc (.cells #[.bool bb] 4)).heap.size) := Lib.hid (by have := HMX.out.b.size; simp; omega)
          refine wpAnyT_takeC (i := 0) [10, 1] (v := ?_) rfl (by kernel_rfl) (by kernel_rfl) (by kernel_rfl) (by kernel_rfl) (by kernel_rfl) (by kernel_rfl) (fun _ _ _ h => h) (.inl ⟨rfl, ?_⟩) HS.out ?_
          rotate_left
          · intro W__ hW__
            obtain ⟨h1, h2, h3⟩ := hW__
            go_simp
            (try with_reducible rfl)
          try simp only [Act.put]
          refine wpAnyT_takeC (i := 1) [10] (v := ?_) rfl (by kernel_rfl) (by kernel_rfl) (by kernel_rfl) (by kernel_rfl) (by kernel_rfl) (by kernel_rfl) (fun _ _ _ h => h) (.inl ⟨rfl, ?_⟩) HS.out ?_
          rotate_left
          · intro W__ hW__
            obtain ⟨h1, h2, h3⟩ := hW__
            go_simp
            (try with_reducible rfl)
          try simp only [Act.put]
          refine wpAnyT_takeC (i := 2) [10, 8, 5, 4] (v := ?_) rfl (by kernel_rfl) (by kernel_rfl) (by kernel_rfl) (by kernel_rfl) (by kernel_rfl) (by kernel_rfl) (fun _ _ _ h => h) (.inl ⟨rfl, ?_⟩) HS.out ?_
          rotate_left
          · intro W__ hW__
            obtain ⟨h1, h2, h3⟩ := hW__
            go_simp
            (try with_reducible rfl)
          try simp only [Act.put]
          refine wpAnyT_takeC (i := 3) [10, 8, 5, 4] (v := ?_) rfl (by kernel_rfl) (by kernel_rfl) (by kernel_rfl) (by kernel_rfl) (by kernel_rfl) (by kernel_rfl) (fun _ _ _ h => h) (.inl ⟨rfl, ?_⟩) HS.out ?_
          rotate_left
          · intro W__ hW__
            obtain ⟨h1, h2, h3⟩ := hW__
            go_simp
            (try with_reducible rfl)
          try simp only [Act.put]
          refine wpAnyT_takeC (i := 4) [10, 8, 5] (v := ?_) rfl (by kernel_rfl) (by kernel_rfl) (by kernel_rfl) (by kernel_rfl) (by kernel_rfl) (by kernel_rfl) (fun _ _ _ h => h) (.inl ⟨rfl, ?_⟩) HS.out ?_
          rotate_left
          · intro W__ hW__
            obtain ⟨h1, h2, h3⟩ := hW__
            go_simp
            (try with_reducible rfl)
          try simp only [Act.put]
          refine wpAnyT_takeC (i := 5) [10, 8] (v := ?_) rfl (by kernel_rfl) (by kernel_rfl) (by kernel_rfl) (by kernel_rfl) (by kernel_rfl) (by kernel_rfl) (fun _ _ _ h => h) (.inl ⟨rfl, ?_⟩) HS.out ?_
          rotate_left
          · intro W__ hW__
            obtain ⟨h1, h2, h3⟩ := hW__
            go_simp
            (try with_reducible rfl)
          try simp only [Act.put]
          refine wpAnyT_takeC (i := 6) [10, 8, 7] (v := ?_) rfl (by kernel_rfl) (by kernel_rfl) (by kernel_rfl) (by kernel_rfl) (by kernel_rfl) (by kernel_rfl) (fun _ _ _ h => h) (.inl ⟨rfl, ?_⟩) HS.out ?_
          rotate_left
          · intro W__ hW__
            obtain ⟨h1, h2, h3⟩ := hW__
            go_simp
            (try with_reducible rfl)
          try simp only [Act.put]
          refine wpAnyT_takeC (i := 7) [10, 8] (v := ?_) rfl (by kernel_rfl) (by kernel_rfl) (by kernel_rfl) (by kernel_rfl) (by kernel_rfl) (by kernel_rfl) (fun _ _ _ h => h) (.inl ⟨rfl, ?_⟩) HS.out ?_
          rotate_left
          · intro W__ hW__
            obtain ⟨h1, h2, h3⟩ := hW__
            go_simp
            (try with_reducible rfl)
          try simp only [Act.put]
          refine wpAnyT_one (i := 8) rfl (by kernel_rfl) rfl fun K__ hK__ => ?_
          unfold Oper.wp
          go_simp
          refine HBI.out.mono ?_
          rintro e w10 ⟨rfl, rfl⟩
          refine hK__ _ _ HS.out ?_
          clear hK__
          refine wpAnyT_one (i := 9) rfl (by kernel_rfl) rfl fun K__ hK__ => ?_
          unfold Oper.wp
          go_simp
          refine hK__ _ _ HS9.out ?_
          clear hK__
          refine wpAnyT_end (i := 10) rfl (by kernel_rfl) rfl (by kernel_rfl) fun K__ hK__ => ?_
          refine wp_append_src _ (.tmp 69) (.tmp 77) 28 rfl w.heap.size 4 i1' (.bool false) 1 1 Tryz.underlying28 hi1 hz1 hs1 hb1' rfl (by decide) A3 c3 i us3' (by simp [Act.eval]) OWB.out _ 1 1 _ (by simp [Act.eval]) SRB.out Q5.out Q4.out Z3.out ?_
          intro A10 c10 w10 own10 gr10 _
          have HMD2 := Lib.hid (MkIn.told HMX.out OW3.out REL3.out HAC.out own10 gr10)
          obtain ⟨x0, x1, x2, xf0, xf1, xf2⟩ := Blk.three ((HMX.out.next ((Below.refl _ _).alloc (Nat.le_refl _) (.cells #[.bool bb] 4))).d.grown gr10 (own_blk_ne OWB.out (HMX.out.next ((Below.refl _ _).alloc (Nat.le_refl _) (.cells #[.bool bb] 4))).d (by decide)))
          refine hK__ _ _ ?_
          clear hK__ own10 gr10 HS9 HS OWB SRB Z3
          simp only [Act.put]
          refine wpAnyT_end (i := 11) rfl (by kernel_rfl) rfl (by kernel_rfl) fun K__ hK__ => ?_
          unfold Oper.wp
          go_simp
          refine hK__ _ _ ?_
          clear hK__
          refine wpAnyT_end (i := 12) rfl (by kernel_rfl) rfl (by kernel_rfl) fun K__ hK__ => ?_
          unfold Oper.wp
          go_simp
          refine hK__ _ _ ?_
          clear hK__
          refine wpAnyT_done (by kernel_rfl) ?_ _
          go_wp2
          go_roundw
          case rel => exact ⟨i + 1, k, _, c1, _, _, all, rows ++ [row], accs ++ [bb], by go_num, rfl, by omega, hk, HK, Lib.hid (by rw [List.length_append, HRW.out]; rfl), Lib.hid (by rw [List.length_append, HAC.out]; rfl), HMT, Lib.hid (by rw [show 70 - (i + 1) = 69 - i by omega]; exact HREN.out), HMD2⟩
          case measure => simp [intOf]; omega
    · have hik3 : i = k := by omega
      subst hik3
      have HF := Lib.hid HM.out
      obtain ⟨A2, c2, us2, ev2, ow2, rel2⟩ := HF.out.r
      obtain ⟨A3, c3, us3, ev3, ow3, rel3⟩ := HF.out.t
      have HSOME : Hid (R = some (rows, accs)) := Lib.hid (by rw [← HRE.out]; exact mkM_end (by rw [HK.out, HRW.out]; exact Nat.le_refl _) (by omega))
      subst ev2; subst ev3
      clear ow2 rel2 ow3 rel3
      obtain ⟨s0, s1, s2, _, _, _⟩ := Blk.three HM.out.d
      obtain ⟨t0, t1, t2, tf0, tf1, tf2⟩ := Blk.three HM.out.o
      have hN := HM.out.o.lt
      go_wp2
      have X9 := ((HM.out.o.set 0 (.slice C nc cc)).set 1 (.slice A2 rows.length c2)).set 2 (.slice A3 accs.length c3)
      obtain ⟨y0, y1, y2, _, _, _⟩ := Blk.three X9
      refine bodyPost_ret (v := .tuple #[.agg #[.slice C nc cc, .slice A2 rows.length c2, .slice A3 accs.length c3], .bool true]) (by simp [results, Tryz.results37, go_sem, y0, y1, y2]) rfl ⟨.inr ⟨rows, accs, _, _, HR.out.trans HSOME.out, rfl, ?_, ?_⟩, ?_⟩
      · exact ((HM.out.r.far HM.out.o (by decide) (by decide)).far (HM.out.o.set 0 _) (by decide) (by decide)).far ((HM.out.o.set 0 _).set 1 _) (by decide) (by decide)
      · exact ((HM.out.t.setFar HM.out.o (by decide) 0 _).setFar (HM.out.o.set 0 _) (by decide) 1 _).setFar ((HM.out.o.set 0 _).set 1 _) (by decide) 2 _
      · exact ((HM.out.b.setCell (p := ⟨w.heap.size + 1, 0, none⟩) (by simp) _).setCell (p := ⟨w.heap.size + 1, 1, none⟩) (by simp) _).setCell (p := ⟨w.heap.size + 1, 2, none⟩) (by simp) _
end Go.Proofs.YtjnjbcigbnjmkaaGreat
