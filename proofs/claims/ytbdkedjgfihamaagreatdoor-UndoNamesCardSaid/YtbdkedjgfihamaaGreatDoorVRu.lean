/- From an argument's reading as data to stores in memory. -/
import Derived.Deep.Slices
import Derived.Lib.SmallJoins
import Derived.SizedLaws
import Derived.OpenShut
import Derived.Test.YtbdkedjgfihamaaGreatDoorV49u
namespace Pv
open Go Go.RowKit Go.Deep Go.ChangeShapes Go.WideShapes Go.Joins

section
variable {H : Type} {enc : TypeId × Value → H} {P : Program} {w : World} {base : Nat} {spare : Nat → Bool} {held : Bool}

/-- No list in it takes more than the reach. -/
def Lite (P : Program) (t : TypeId) (d : DataW H) : Prop := ∀ n ∈ d.weights P t, n ≤ reachBytes

theorem weightsAll_mem {e : TypeId} : ∀ {l : List (DataW H)} {d : DataW H} {n : Nat}, d ∈ l → n ∈ d.weights P e → n ∈ DataW.weightsAll P e l
  | x :: r, d, n, hd, hn => by
    simp only [DataW.weightsAll, List.mem_append]
    rcases List.mem_cons.1 hd with rfl | hd
    · exact .inl hn
    · exact .inr (weightsAll_mem hd hn)

theorem add_plain' (b off i : Nat) : (⟨b, off, none⟩ : Addr).add i = ⟨b, off + i, none⟩ := by unfold Addr.add; by_cases hi : i = 0 <;> simp [hi]

theorem read_slice {α : Type} {R : Value → α → Prop} {t e : TypeId} {fuel : Nat} {v : Value} {x : DataW H × List MemPlace} (ht : P.underlying t = some (.slice e)) (hc : P.cellsOf e = 1) (hb : 1 ≤ P.bytesOf e)
    (h : DataW.trod enc P w base spare held fuel t [v] = some x) (hw : Lite P t x.1)
    (hel : ∀ (fuel : Nat) (u : Value) (y : DataW H × List MemPlace), DataW.trod enc P w base spare held fuel e [u] = some y → Lite P e y.1 → ∃ z, R u z) : ∃ xs : List α, Sl w R v xs := by
  rcases open_slice1 ht hc h with ⟨hcs, _⟩ | ⟨a, len, cap, m, n, V, D, Pl, hcs, _, hl, hm, hmm, rfl, hi⟩
  · injection hcs with hcs
    subst hcs
    exact ⟨[], none, 0, rfl, At.nil, by simp⟩
  · injection hcs with hcs
    subst hcs
    have hle : len ≤ m := by rw [hmm]; split <;> omega
    have hlen : len ≤ 140737488355328 := by
      have h1 := hw ((((List.range len).map D).length + ((List.range (m - len)).map fun j => D (len + j)).length) * P.bytesOf e) (by simp [DataW.weights, ht])
      simp only [List.length_map, List.length_range, reachBytes] at h1
      have h2 : len * 1 ≤ (len + (m - len)) * P.bytesOf e := Nat.mul_le_mul (by omega) hb
      omega
    have hex : ∀ (i j : Nat), (List.range len)[i]? = some j → ∃ z, R (V i) z := fun i j hj => by
      have hil : i < len := by have := lt_of_get hj; simpa using this
      obtain ⟨_, h2⟩ := hi i (by omega)
      refine hel _ _ _ h2 fun k hk => hw k ?_
      simp only [DataW.weights, ht, List.mem_cons, List.mem_append]
      exact .inr (.inl (weightsAll_mem (List.mem_map.2 ⟨i, by simpa using hil, rfl⟩) hk))
    obtain ⟨xs, hxl, hxs⟩ := list_of_ex (fun i z (_ : Nat) => R (V i) z) (List.range len) hex
    have hxl' : xs.length = len := by simpa using hxl
    refine ⟨xs, some a, cap, by rw [hxl'], ⟨by omega, fun hp => ?_⟩, by omega⟩
    have h0 := (hi 0 (by omega)).1
    obtain ⟨b, off, spot⟩ := a
    have hs : spot = none := by simpa [Addr.add] using World.cell?_spot h0
    subst hs
    refine ⟨b, off, rfl, by simpa [Addr.add] using World.block_lt_of_cell? _ _ h0, fun i z hz => ?_⟩
    have hil : i < len := by have := lt_of_get hz; omega
    refine ⟨V i, ?_, hxs i z i hz (by simp [hil])⟩
    have := (hi i (by omega)).1
    rwa [add_plain'] at this

theorem read_slice_K {α : Type} {R : (Nat → Value) → α → Prop} {t e k : Nat} {fuel : Nat} {v : Value} {x : DataW H × List MemPlace} (ht : P.underlying t = some (.slice e)) (hc : P.cellsOf e = k) (hk : 0 < k) (hb : 1 ≤ P.bytesOf e)
    (h : DataW.trod enc P w base spare held fuel t [v] = some x) (hw : Lite P t x.1)
    (hel : ∀ (fuel : Nat) (cs : List Value) (y : DataW H × List MemPlace), cs.length = k → DataW.trod enc P w base spare held fuel e cs = some y → Lite P e y.1 → ∃ z, R (fun j => cs.getD j undef) z) : ∃ xs : List α, SlK w k R v xs := by
  rcases open_slice ht h with ⟨hcs, _⟩ | ⟨a, len, cap, m, n, D, Pl, hcs, _, hl, hm, hmm, rfl, hi⟩
  · injection hcs with hcs
    subst hcs
    exact ⟨[], none, 0, rfl, AtK.nil, by simp⟩
  · injection hcs with hcs
    subst hcs
    have hle : len ≤ m := by rw [hmm]; split <;> omega
    have hlen : len ≤ 140737488355328 := by
      have h1 := hw ((((List.range len).map D).length + ((List.range (m - len)).map fun j => D (len + j)).length) * P.bytesOf e) (by simp [DataW.weights, ht])
      simp only [List.length_map, List.length_range, reachBytes] at h1
      have h2 : len * 1 ≤ (len + (m - len)) * P.bytesOf e := Nat.mul_le_mul (by omega) hb
      omega
    have hex : ∀ (i j : Nat), (List.range len)[i]? = some j → ∃ z : List Value × α, (∀ q, q < k → w.cell? (a.add (i * k + q)) = some (z.1.getD q undef)) ∧ R (fun j => z.1.getD j undef) z.2 := fun i j hj => by
      have hil : i < len := by have := lt_of_get hj; simpa using this
      obtain ⟨cs, h1, h2⟩ := hi i (by omega)
      rw [hc] at h1
      obtain ⟨_, hcl, hat⟩ := World.cells?_some h1
      obtain ⟨z, hz⟩ := hel _ _ _ hcl h2 fun k hk => hw k (by
        simp only [DataW.weights, ht, List.mem_cons, List.mem_append]
        exact .inr (.inl (weightsAll_mem (List.mem_map.2 ⟨i, by simpa using hil, rfl⟩) hk)))
      refine ⟨(cs, z), fun q hq => ?_, hz⟩
      have h3 := hat q hq
      rw [add_add] at h3
      have h4 : cs[q]? = some (cs[q]'(by omega)) := List.getElem?_eq_getElem (by omega)
      rw [h3, h4, getD_of h4]
    obtain ⟨zs, hzl, hzs⟩ := list_of_ex (fun i (z : List Value × α) (_ : Nat) => (∀ q, q < k → w.cell? (a.add (i * k + q)) = some (z.1.getD q undef)) ∧ R (fun j => z.1.getD j undef) z.2) (List.range len) hex
    have hzl' : zs.length = len := by simpa using hzl
    refine ⟨zs.map (·.2), some a, cap, by simp [hzl'], ⟨by simp; omega, fun hp => ?_⟩, by simp; omega⟩
    have hp' : 0 < len := by simpa [hzl'] using hp
    have hz0 : zs[0]? = some (zs[0]'(by omega)) := List.getElem?_eq_getElem (by omega)
    have h0 := (hzs 0 _ 0 hz0 (by simp [hp'])).1 0 hk
    obtain ⟨b, off, spot⟩ := a
    have hs : spot = none := by simpa [Addr.add] using World.cell?_spot h0
    subst hs
    refine ⟨b, off, rfl, by simpa [Addr.add] using World.block_lt_of_cell? _ _ h0, fun i z hz => ?_⟩
    have hil : i < len := by have := lt_of_get hz; simpa [hzl'] using this
    have hzi : zs[i]? = some (zs[i]'(by omega)) := List.getElem?_eq_getElem (by omega)
    obtain ⟨h1, h2⟩ := hzs i _ i hzi (by simp [hil])
    have e2 : (zs[i]'(by omega)).2 = z := by simpa [List.getElem?_map, hzi] using hz
    refine ⟨fun q => (zs[i]'(by omega)).1.getD q undef, fun q hq => ?_, by rw [← e2]; exact h2⟩
    have := h1 q hq
    rwa [add_plain', ← Nat.add_assoc] at this

theorem read_int {t : TypeId} {fuel : Nat} {u : Value} {y : DataW H × List MemPlace} (ht : P.underlying t = some (.int .i64)) (h : DataW.trod enc P w base spare held fuel t [u] = some y) : ∃ n, RI u n := by
  obtain ⟨n, hcs, _, hwf⟩ := DataW.trod_int ht h
  injection hcs with hcs
  exact ⟨n, hcs, bounds_i64 hwf⟩
theorem read_bool {t : TypeId} {fuel : Nat} {u : Value} {y : DataW H × List MemPlace} (ht : P.underlying t = some .bool) (h : DataW.trod enc P w base spare held fuel t [u] = some y) : ∃ n, RB u n := by
  obtain ⟨b, hcs, _⟩ := DataW.trod_bool ht h
  injection hcs with hcs
  exact ⟨b, hcs⟩

/-- What an argument's own weights are, out of the arguments' together. -/
theorem lite_arg {ts : List TypeId} {ds : List (DataW H)} {j : Nat} {t : TypeId} {d : DataW H} (h : (DataW.weightsEach P ts ds).all (· ≤ reachBytes) = true) (ht : ts[j]? = some t) (hd : ds[j]? = some d) : Lite P t d := fun n hn => by
  have := List.all_eq_true.1 h n (DataW.weights_mem_each ht hd n hn)
  simpa using this
theorem lite_part {t : TypeId} {fs : Array Field} {parts : List (DataW H)} {j : Nat} {f : Field} {d : DataW H} (ht : P.underlying t = some (.struct fs)) (h : Lite P t (.agg parts)) (hf : fs.toList[j]? = some f) (hd : parts[j]? = some d) : Lite P f.type d := fun n hn =>
  h n (by
    simp only [DataW.weights, ht]
    exact DataW.weights_mem_each (j := j) (by simp [List.getElem?_map, hf]) hd n hn)

/-- A field of one cell. -/
theorem trod_one {t : TypeId} {fs : Array Field} {fuel i : Nat} {cs : List Value} {x : DataW H × List MemPlace} {f : Field} (ht : P.underlying t = some (.struct fs)) (h : DataW.trod enc P w base spare held fuel t cs = some x) (hf : fs[i]? = some f) (ho : f.offset = i) (hc : P.cellsOf f.type = 1) (hl : i < cs.length) :
    ∃ n y, DataW.trod enc P w base spare held n f.type [cs.getD i undef] = some y ∧ (Lite P t x.1 → Lite P f.type y.1) := by
  obtain ⟨xs, n, _, rfl, _, hlen, hall⟩ := DataW.trod_struct ht h
  have h1 := hall i f hf
  have hi : i < xs.length := by
    rw [hlen]
    rcases Nat.lt_or_ge i fs.size with h2 | h2
    · exact h2
    · rw [Array.getElem?_eq_none h2] at hf; cases hf
  have hx : xs[i]? = some (xs[i]) := List.getElem?_eq_getElem hi
  have e : (cs.drop f.offset).take (P.cellsOf f.type) = [cs.getD i undef] := by
    rw [ho, hc, List.drop_eq_getElem_cons hl, List.take_succ_cons, List.take_zero]
    simp [List.getD, List.getElem?_eq_getElem hl]
  rw [e, hx] at h1
  refine ⟨n, xs[i], h1, fun hL => lite_part (j := i) ht hL (by rw [Array.getElem?_toList]; exact hf) ?_⟩
  rw [List.getElem?_map, hx]; rfl
/-- A field of some cells. -/
theorem trod_some {t : TypeId} {fs : Array Field} {fuel i j k : Nat} {cs : List Value} {x : DataW H × List MemPlace} {f : Field} (ht : P.underlying t = some (.struct fs)) (h : DataW.trod enc P w base spare held fuel t cs = some x) (hf : fs[i]? = some f) (ho : f.offset = j) (hc : P.cellsOf f.type = k) :
    ∃ n y, DataW.trod enc P w base spare held n f.type ((cs.drop j).take k) = some y ∧ (Lite P t x.1 → Lite P f.type y.1) := by
  obtain ⟨xs, n, _, rfl, _, hlen, hall⟩ := DataW.trod_struct ht h
  have h1 := hall i f hf
  have hi : i < xs.length := by
    rw [hlen]
    rcases Nat.lt_or_ge i fs.size with h2 | h2
    · exact h2
    · rw [Array.getElem?_eq_none h2] at hf; cases hf
  have hx : xs[i]? = some (xs[i]) := List.getElem?_eq_getElem hi
  rw [ho, hc, hx] at h1
  refine ⟨n, xs[i], h1, fun hL => lite_part (j := i) ht hL (by rw [Array.getElem?_toList]; exact hf) ?_⟩
  rw [List.getElem?_map, hx]; rfl
theorem read_u8 {t : TypeId} {fuel : Nat} {u : Value} {y : DataW H × List MemPlace} (ht : P.underlying t = some (.int .u8)) (h : DataW.trod enc P w base spare held fuel t [u] = some y) : ∃ n, u = .int .u8 n ∧ 0 ≤ n ∧ n ≤ 255 := by
  obtain ⟨n, hcs, _, hwf⟩ := DataW.trod_int ht h
  injection hcs with hcs
  exact ⟨n, hcs, bounds_u8 hwf⟩

theorem read_str {t : TypeId} {fuel : Nat} {u : Value} {y : DataW H × List MemPlace} (ht : P.underlying t = some .string) (h : DataW.trod enc P w base spare held fuel t [u] = some y) (hL : Lite P t y.1) : ∃ s : ByteArray, u = .string s ∧ s.size ≤ 140737488355328 := by
  obtain ⟨s, hcs, hx, _⟩ := DataW.trod_string ht h
  injection hcs with hcs
  refine ⟨s, hcs, ?_⟩
  have h1 := hL s.data.toList.length (by rw [hx]; simp [DataW.weights])
  simp only [reachBytes, Array.length_toList] at h1
  show s.data.size ≤ _
  omega
end
end Pv
namespace Go.Proofs.YtbdkedjgfihamaaGreatDoor
open Go.RowKit Go.Deep Go.ChangeShapes Go.WideShapes Go.Joins Pv
theorem sI : Tryz.prog.cellsOf 3 = 1 := by kernel_rfl
theorem s6 : Tryz.prog.cellsOf 2 = 1 := by kernel_rfl
theorem sU : Tryz.prog.cellsOf 5 = 1 := by kernel_rfl
theorem sS : Tryz.prog.cellsOf 9 = 1 := by kernel_rfl
theorem sBo : Tryz.prog.cellsOf 4 = 1 := by kernel_rfl
theorem sC : Tryz.prog.cellsOf 72 = 5 := by kernel_rfl
theorem sR : Tryz.prog.cellsOf 32 = 2 := by kernel_rfl
theorem sT' : Tryz.prog.cellsOf 63 = 4 := by kernel_rfl
theorem sH : Tryz.prog.cellsOf 39 = 5 := by kernel_rfl
theorem sO : Tryz.prog.cellsOf 25 = 2 := by kernel_rfl
theorem sLC : Tryz.prog.cellsOf 30 = 1 := by kernel_rfl
theorem sLR : Tryz.prog.cellsOf 45 = 1 := by kernel_rfl
theorem sLS : Tryz.prog.cellsOf 61 = 1 := by kernel_rfl
theorem bC' : Tryz.prog.bytesOf 72 = 56 := by kernel_rfl
theorem bRr : Tryz.prog.bytesOf 32 = 40 := by kernel_rfl
theorem bTt : Tryz.prog.bytesOf 63 = 72 := by kernel_rfl
theorem bHh : Tryz.prog.bytesOf 39 = 72 := by kernel_rfl
theorem bSs : Tryz.prog.bytesOf 9 = 16 := by kernel_rfl
theorem bUu : Tryz.prog.bytesOf 5 = 1 := by kernel_rfl
theorem bIi : Tryz.prog.bytesOf 3 = 8 := by kernel_rfl
section
variable {H : Type} {enc : TypeId × Value → H} {w : World} {base : Nat} {spare : Nat → Bool} {held : Bool}
set_option maxRecDepth 100000 in
theorem read_cel {fuel : Nat} {cs : List Value} {y : DataW H × List MemPlace} (hl : cs.length = 5) (h : DataW.trod enc Tryz.prog w base spare held fuel 72 cs = some y) (hL : Lite Tryz.prog 72 y.1) : ∃ x : Cel, RCel (fun j => cs.getD j undef) x := by
  obtain ⟨_, _, h0, _⟩ := trod_one (i := 0) Tryz.underlying72 h rfl rfl sU (by omega)
  obtain ⟨_, _, h1, L1⟩ := trod_one (i := 1) Tryz.underlying72 h rfl rfl sS (by omega)
  obtain ⟨_, _, h2, L2⟩ := trod_one (i := 2) Tryz.underlying72 h rfl rfl sS (by omega)
  obtain ⟨_, _, h3, _⟩ := trod_one (i := 3) Tryz.underlying72 h rfl rfl s6 (by omega)
  obtain ⟨_, _, h4, _⟩ := trod_one (i := 4) Tryz.underlying72 h rfl rfl sI (by omega)
  obtain ⟨k, hk⟩ := read_u8 Tryz.underlying5 h0
  obtain ⟨n, hn⟩ := read_str Tryz.underlying9 h1 (L1 hL)
  obtain ⟨m, hm⟩ := read_str Tryz.underlying9 h2 (L2 hL)
  obtain ⟨b, hb⟩ := read_int Tryz.underlying2 h3
  obtain ⟨c, hc⟩ := read_int Tryz.underlying3 h4
  exact ⟨⟨k, n, m, b, c⟩, hk, hn, hm, hb, hc⟩
set_option maxRecDepth 100000 in
theorem read_rec {fuel : Nat} {cs : List Value} {y : DataW H × List MemPlace} (hl : cs.length = 2) (h : DataW.trod enc Tryz.prog w base spare held fuel 32 cs = some y) (hL : Lite Tryz.prog 32 y.1) : ∃ x : Rec, RRec w (fun j => cs.getD j undef) x := by
  obtain ⟨_, _, h0, L0⟩ := trod_one (i := 0) Tryz.underlying32 h rfl rfl sS (by omega)
  obtain ⟨_, _, h1, L1⟩ := trod_one (i := 1) Tryz.underlying32 h rfl rfl sLC (by omega)
  obtain ⟨n, hn⟩ := read_str Tryz.underlying9 h0 (L0 hL)
  obtain ⟨l, hl'⟩ := read_slice_K Tryz.underlying30 sC (by omega) (by rw [bC']; omega) h1 (L1 hL) fun fuel cs y hl hy hL => read_cel hl hy hL
  exact ⟨⟨n, l⟩, hn, hl'⟩
set_option maxRecDepth 100000 in
theorem read_tab {fuel : Nat} {cs : List Value} {y : DataW H × List MemPlace} (hl : cs.length = 4) (h : DataW.trod enc Tryz.prog w base spare held fuel 63 cs = some y) (hL : Lite Tryz.prog 63 y.1) : ∃ x : Tab, RTab w (fun j => cs.getD j undef) x := by
  obtain ⟨_, _, h0, L0⟩ := trod_one (i := 0) Tryz.underlying63 h rfl rfl sS (by omega)
  obtain ⟨_, _, h1, _⟩ := trod_one (i := 1) Tryz.underlying63 h rfl rfl sI (by omega)
  obtain ⟨_, _, h2, L2⟩ := trod_one (i := 2) Tryz.underlying63 h rfl rfl sLS (by omega)
  obtain ⟨_, _, h3, L3⟩ := trod_one (i := 3) Tryz.underlying63 h rfl rfl sLR (by omega)
  obtain ⟨n, hn⟩ := read_str Tryz.underlying9 h0 (L0 hL)
  obtain ⟨m, hm⟩ := read_int Tryz.underlying3 h1
  obtain ⟨u, hu⟩ := read_slice Tryz.underlying61 sS (by rw [bSs]; omega) h2 (L2 hL) fun fuel u y hy hL => read_str Tryz.underlying9 hy hL
  obtain ⟨l, hl'⟩ := read_slice_K Tryz.underlying45 sR (by omega) (by rw [bRr]; omega) h3 (L3 hL) fun fuel cs y hl hy hL => read_rec hl hy hL
  exact ⟨⟨n, m, u, l⟩, hn, hm, hu, hl'⟩
set_option maxRecDepth 100000 in
theorem read_chg {fuel : Nat} {cs : List Value} {y : DataW H × List MemPlace} (hl : cs.length = 5) (h : DataW.trod enc Tryz.prog w base spare held fuel 39 cs = some y) (hL : Lite Tryz.prog 39 y.1) : ∃ x : Chg, RChg w (fun j => cs.getD j undef) x := by
  obtain ⟨_, _, h0, _⟩ := trod_one (i := 0) Tryz.underlying39 h rfl rfl sI (by omega)
  obtain ⟨_, _, h1, L1⟩ := trod_one (i := 1) Tryz.underlying39 h rfl rfl sS (by omega)
  obtain ⟨_, _, h2, _⟩ := trod_one (i := 2) Tryz.underlying39 h rfl rfl sBo (by omega)
  obtain ⟨_, _, h3, L3⟩ := trod_some (i := 3) (j := 3) (k := 2) Tryz.underlying39 h rfl rfl sR
  obtain ⟨t, ht⟩ := read_int Tryz.underlying3 h0
  obtain ⟨n, hn⟩ := read_str Tryz.underlying9 h1 (L1 hL)
  obtain ⟨b, hb⟩ := read_bool Tryz.underlying4 h2
  obtain ⟨r, r1, r2⟩ := read_rec (by simp; omega) h3 (L3 hL)
  have e0 : ((cs.drop 3).take 2).getD 0 undef = cs.getD 3 undef := by
    match cs, hl with
    | [_, _, _, _, _], _ => rfl
  have e1 : ((cs.drop 3).take 2).getD 1 undef = cs.getD 4 undef := by
    match cs, hl with
    | [_, _, _, _, _], _ => rfl
  exact ⟨⟨t, n, b, r⟩, ht, hn, hb, e0 ▸ r1, e1 ▸ r2⟩
set_option maxRecDepth 100000 in
theorem read_sto {r : Reach} {b0 : Nat} {v : Value} {d : DataW H} {p : List MemPlace} (hv : Value.okWide Tryz.prog w r b0 25 v) (h : DataW.Trod enc Tryz.prog w base spare held 25 v d p) (hl : Lite Tryz.prog 25 d) :
    ∃ T tn tc L ln lc s, v = .agg #[.slice T tn tc, .slice L ln lc] ∧ StoAt w T tn L ln s ∧ tn ≤ tc ∧ ln ≤ lc := by
  obtain ⟨v0, v1, y0, y1, n, rfl, rfl, _, h0, h1⟩ := open_agg2 Tryz.underlying25 (by kernel_rfl) sO hv h
  obtain ⟨ts, A, c, e1, hat, hc⟩ := read_slice_K Tryz.underlying22 sT' (by omega) (by rw [bTt]; omega) h0 (lite_part (j := 0) Tryz.underlying25 hl rfl rfl) fun fuel cs y hl hy hL => read_tab hl hy hL
  obtain ⟨lg, A', c', e2, hat', hc'⟩ := read_slice_K Tryz.underlying23 sH (by omega) (by rw [bHh]; omega) h1 (lite_part (j := 1) Tryz.underlying25 hl rfl rfl) fun fuel cs y hl hy hL => read_chg hl hy hL
  exact ⟨A, _, c, A', _, c', ⟨ts, lg⟩, by rw [e1, e2], ⟨hat, hat', Lib.hid rfl, Lib.hid rfl⟩, hc, hc'⟩
end
end Go.Proofs.YtbdkedjgfihamaaGreatDoor
