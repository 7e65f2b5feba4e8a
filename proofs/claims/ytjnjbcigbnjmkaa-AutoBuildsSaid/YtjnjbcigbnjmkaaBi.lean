/- What the program's leading stands on, what it leaves; nodes one behind the other or side by side, the ends kept. -/
import Derived.Test.YtjnjbcigbnjmkaaBh
namespace Pv
open Go Go.RowKit

/-- Through nodes, one behind the other (cat) or side by side: the automaton, the state, the ends. -/
def walkG (cat : Bool) : List Tr → Au → Nat → Au × Nat × List Nat
  | [], a, s => (a, s, [])
  | k :: ks, a, s => ((walkG cat ks (leadT k a s).1 (if cat then (leadT k a s).2 else s)).1, (walkG cat ks (leadT k a s).1 (if cat then (leadT k a s).2 else s)).2.1, (leadT k a s).2 :: (walkG cat ks (leadT k a s).1 (if cat then (leadT k a s).2 else s)).2.2)
theorem walkG_snoc (cat : Bool) (k : Tr) : ∀ (ks : List Tr) (a : Au) (s : Nat), walkG cat (ks ++ [k]) a s =
    ((leadT k (walkG cat ks a s).1 (walkG cat ks a s).2.1).1, (if cat then (leadT k (walkG cat ks a s).1 (walkG cat ks a s).2.1).2 else (walkG cat ks a s).2.1), (walkG cat ks a s).2.2 ++ [(leadT k (walkG cat ks a s).1 (walkG cat ks a s).2.1).2])
  | [], a, s => by simp [walkG]
  | j :: ks, a, s => by simp only [List.cons_append, walkG]; rw [walkG_snoc cat k ks]
theorem walkG_cat : ∀ (ks : List Tr) (a : Au) (s : Nat), (walkG true ks a s).1 = (leadCat ks a s).1 ∧ (walkG true ks a s).2.1 = (leadCat ks a s).2
  | [], a, s => by simp [walkG, leadCat]
  | k :: ks, a, s => by simpa [walkG, leadCat] using walkG_cat ks (leadT k a s).1 (leadT k a s).2
theorem walkG_alt : ∀ (ks : List Tr) (a : Au) (s : Nat), walkG false ks a s = ((leadAlt ks a s).1, s, (leadAlt ks a s).2)
  | [], a, s => by simp [walkG, leadAlt]
  | k :: ks, a, s => by simp [walkG, leadAlt, walkG_alt ks]
/-- What holds of it. -/
structure WG (a : Au) (q m : Nat) (r : Au × Nat × List Nat) : Prop where
  len : r.1.length = a.length + q
  lt : r.2.1 < r.1.length
  all : ∀ e, e ∈ r.2.2 → e < r.1.length
  el : EL a r.1
  ne : r.2.2.length = m
theorem walkG_ok (cat : Bool) {d : Nat} : ∀ {ks : List Tr} {a : Au} {s : Nat}, (∀ k, k ∈ ks → k.Ok d) → sizes ks ≤ 64 → s < a.length → a.length + statesL ks ≤ 256 → WG a (statesL ks) ks.length (walkG cat ks a s)
  | [], a, s, _, _, hs, _ => ⟨by simp [walkG, statesL], hs, by simp [walkG], EL.refl _, rfl⟩
  | k :: ks, a, s, hk, hz, hs, hc => by
    rw [sizes_cons] at hz
    rw [statesL] at hc ⊢
    obtain ⟨h1, h2⟩ := leadT_leads k a s hs
    have he := leadT_el (hk k (by simp)) (by omega) hs (by omega : a.length + statesT k ≤ 256)
    have hl := he.l
    have ih := walkG_ok cat (ks := ks) (a := (leadT k a s).1) (s := if cat then (leadT k a s).2 else s) (fun k hk' => hk k (by simp [hk'])) (by omega) (by cases cat <;> simp <;> omega) (by omega)
    have e1 := ih.len
    refine ⟨by rw [walkG]; simp only; omega, by rw [walkG]; exact ih.lt, fun e hm => ?_, by rw [walkG]; exact he.trans ih.el, by rw [walkG]; simp only [List.length_cons]; rw [ih.ne]⟩
    rw [walkG] at hm ⊢
    simp only [List.mem_cons] at hm ⊢
    rcases hm with rfl | hm
    · omega
    · exact ih.all e hm
theorem iter_ok {K : Tr} {d n : Nat} {a : Au} {s : Nat} (hK : K.Ok d) (hz : K.size ≤ 64) (hs : s < a.length) (hc : a.length + statesT K * n ≤ 256) : (iter (leadT K) n a s).1.length = a.length + statesT K * n ∧ (iter (leadT K) n a s).2 < (iter (leadT K) n a s).1.length ∧ EL a (iter (leadT K) n a s).1 :=
  ⟨((leadT_leads K).iter n a s hs).1, ((leadT_leads K).iter n a s hs).2, iter_el hK hz hs hc⟩
theorem EL.few {a b : Au} {n : Nat} (h : EL a b) (hn : n = a.length) (he : edgesN a ≤ 65 * n) : edgesN b ≤ 65 * b.length := by have := h.e; omega
end Pv
namespace Go.Proofs.Ytjnjbcigbnjmkaa
open Go.RowKit Pv

/-- The maker under way, with what it reads. -/
structure MkE (w0 w : World) (base pm e0 : Nat) (acc : Int) (tA EA : Option Addr) (nt ct ec : Nat) (t : List Rx) (A : Option Addr) (n c : Nat) (a : Au) : Prop where
  ma : MkAt w base pm A n c acc (.slice tA nt ct) (.slice EA nt ec) a
  kp : Keep w0 w
  oe : w.ownsRow e0 TInt 1 (.slice EA nt ec) nt ((endsL t).map (Value.int .i64))
  ge : base ≤ w.heap.size
section
variable {w0 w w' : World} {base pm e0 : Nat} {acc : Int} {tA EA : Option Addr} {nt ct ec : Nat} {t : List Rx} {A : Option Addr} {n c : Nat} {a : Au}
theorem MkE.next (h : MkE w0 w base pm e0 acc tA EA nt ct ec t A n c a) (hb : Below w.heap.size w w') : MkE w0 w' base pm e0 acc tA EA nt ct ec t A n c a := ⟨h.ma.next hb, h.kp.trans (Keep.of hb), ownsRow_below h.oe hb, Nat.le_trans h.ge hb.size⟩
theorem MkE.step {A' : Option Addr} {n' c' : Nat} {a' : Au} (h : MkE w0 w base pm e0 acc tA EA nt ct ec t A n c a) (hb : w0.heap.size ≤ base) (mk : MkAt w' base pm A' n' c' acc (.slice tA nt ct) (.slice EA nt ec) a') (ch : Chg TB base w w') : MkE w0 w' base pm e0 acc tA EA nt ct ec t A' n' c' a' :=
  ⟨mk, ch.keep h.kp hb h.ge, ownsRow_chg h.oe ch TB_int, Nat.le_trans h.ge ch.size⟩
theorem MkE.len (h : MkE w0 w base pm e0 acc tA EA nt ct ec t A n c a) : n = a.length := h.ma.au.len
theorem MkE.cells (h : MkE w0 w base pm e0 acc tA EA nt ct ec t A n c a) : pm < w.heap.size ∧ w.cell? ⟨pm, 2, none⟩ = some (.slice tA nt ct) ∧ w.cell? ⟨pm, 3, none⟩ = some (.slice EA nt ec) := ⟨h.ma.b.lt, h.ma.b.cell 2, h.ma.b.cell 3⟩
end
/-- What the program's leading leaves. -/
def MkLead (w0 w : World) (base pm e0 : Nat) (acc : Int) (tA EA : Option Addr) (nt ct ec : Nat) (t : List Rx) (r : Au × Nat) (e : Ending) (w' : World) : Prop :=
  ∃ A' c', e = .returned (.int .i64 (r.2 : Nat)) ∧ MkE w0 w' base pm e0 acc tA EA nt ct ec t A' r.1.length c' r.1 ∧ Chg TB base w w'
/-- It does so from any state, where there are not too many. -/
def PLead (w0 : World) (base pm e0 : Nat) (acc : Int) (tA EA : Option Addr) (nt ct ec : Nat) (t : List Rx) (T : Tr) (i : Nat) : Prop :=
  ∀ (W : World) (A : Option Addr) (n c : Nat) (a : Au) (s : Nat), MkE w0 W base pm e0 acc tA EA nt ct ec t A n c a → s < n → n + statesT T ≤ 256 → edgesN a ≤ 65 * n →
    Calls Try.prog 63 #[.pointer (some ⟨pm, 0, none⟩), .int .i64 i, .int .i64 s] W (MkLead w0 W base pm e0 acc tA EA nt ct ec t (leadT T a s))
theorem MkLead.after {w0 w w1 w' : World} {base pm e0 : Nat} {acc : Int} {tA EA : Option Addr} {nt ct ec : Nat} {t : List Rx} {r : Au × Nat} {e : Ending} (h : MkLead w0 w1 base pm e0 acc tA EA nt ct ec t r e w') (ch : Chg TB base w w1) : MkLead w0 w base pm e0 acc tA EA nt ct ec t r e w' := by
  obtain ⟨A', c', h1, h2, h3⟩ := h
  exact ⟨A', c', h1, h2, ch.trans h3⟩
/-- The ends' cells. -/
theorem own_int {w : World} {e0 k n c : Nat} {A : Option Addr} {l : List Int} {z : Int} (h : w.ownsRow e0 TInt 1 (.slice A n c) n (l.map (Value.int .i64))) (hk : l[k]? = some z) : ∃ g, A = some ⟨g, 0, none⟩ ∧ g < w.heap.size ∧ w.cell? ⟨g, k, none⟩ = some (.int .i64 z) :=
  own_get h (by rw [List.getElem?_map, hk]; rfl)
/-- one of the call's own -/
theorem own_one (w : World) (base : Nat) (u : Value) (hb : base ≤ w.heap.size) : (w.alloc (.cells #[u] TInt)).ownsRow base TInt 1 (.slice (some ⟨w.heap.size, 0, none⟩) 1 1) 1 [u] :=
  ⟨rfl, .inr ⟨w.heap.size, 1, #[u], rfl, hb, by show (w.heap.push _)[w.heap.size]? = _; simp, Nat.le_refl _, by simp only [maxLen]; omega, by simp, by simp⟩⟩

end Go.Proofs.Ytjnjbcigbnjmkaa
