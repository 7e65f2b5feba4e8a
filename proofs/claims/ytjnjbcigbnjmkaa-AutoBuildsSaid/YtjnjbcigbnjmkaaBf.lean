/- The clean way of leading: bounds on edges where there are not too many states. Nothing of a program stands here. -/
import Derived.Test.YtjnjbcigbnjmkaaAl
namespace Pv
open Go Go.RowKit

theorem LOk.clean {c dep : Nat} {F : Au → Nat → Au × Nat} {a : Au} {s : Nat} {r : Au × Int} (h : LOk c dep F a s r) (hc : a.length + c ≤ 256) : r = ((F a s).1, ((F a s).2 : Int)) ∧ EL a (F a s).1 := by
  rcases Int.lt_or_le r.2 0 with g | g
  · rcases (h.no g).2 with g' | g' <;> omega
  · obtain ⟨_, y1, y2⟩ := h.yes g
    simp only [Int.toNat_natCast] at y1 y2
    exact ⟨Prod.ext y1 y2, by have := h.el; rwa [y1] at this⟩
theorem AOk.clean {c dep q : Nat} {G : Au × List Nat} {a : Au} {s : Nat} {r : Au × List Int} (h : AOk c dep G a s q r) (hc : a.length + c ≤ 256) : r = (G.1, G.2.map Int.ofNat) ∧ EL a G.1 ∧ G.2.length ≤ q ∧ ∀ e, e ∈ G.2 → e < G.1.length := by
  have hall : ∀ e, e ∈ r.2 → 0 ≤ e := fun e he => by
    rcases Int.lt_or_le e 0 with g | g
    · rcases h.no ⟨e, he, g⟩ with g' | g' <;> omega
    · exact g
  obtain ⟨y1, y2⟩ := h.yes hall
  refine ⟨Prod.ext y1 y2, by have := h.el; rwa [y1] at this, by have := h.few; rw [y2] at this; simpa using this, fun e he => ?_⟩
  have := h.lt (Int.ofNat e) (by rw [y2]; exact List.mem_map_of_mem he)
  rw [y1] at this
  have h2 := this.2
  simp only [Int.ofNat_eq_natCast] at h2
  omega
section
variable {d : Nat} {a : Au} {s : Nat}
theorem leadT_el {T : Tr} (hT : T.Ok d) (hz : T.size ≤ 64) (hs : s < a.length) (hc : a.length + statesT T ≤ 256) : EL a (leadT T a s).1 :=
  (LOk.clean (leadR_ok T d hT hz a s (by omega) (by omega)) hc).2
theorem leadCat_el {ks : List Tr} (hk : ∀ k, k ∈ ks → k.Ok d) (hz : sizes ks ≤ 64) (hs : s < a.length) (hc : a.length + statesL ks ≤ 256) : EL a (leadCat ks a s).1 :=
  (LOk.clean (catR_ok ks d hk hz a s (by omega) (by omega)) hc).2
theorem leadAlt_el {ks : List Tr} (hk : ∀ k, k ∈ ks → k.Ok d) (hz : sizes ks ≤ 64) (hs : s < a.length) (hc : a.length + statesL ks ≤ 256) : EL a (leadAlt ks a s).1 := by
  have h := altR_ok ks d hk hz a s (by omega) (by omega)
  rw [Int.toNat_natCast] at h
  exact (AOk.clean h hc).2.1
theorem iter_el {K : Tr} {n : Nat} (hK : K.Ok d) (hz : K.size ≤ 64) (hs : s < a.length) (hc : a.length + statesT K * n ≤ 256) : EL a (iter (leadT K) n a s).1 :=
  (LOk.clean (RLeads.iterN (leadT_leads K) (leadR_ok K d hK hz) n a s (by omega) (by omega)) hc).2
end
theorem leadCat_snoc (k : Tr) : ∀ (ks : List Tr) (a : Au) (s : Nat), leadCat (ks ++ [k]) a s = leadT k (leadCat ks a s).1 (leadCat ks a s).2
  | [], a, s => by simp [leadCat]
  | j :: ks, a, s => by simp only [List.cons_append, leadCat]; exact leadCat_snoc k ks _ _
theorem leadAlt_snoc (k : Tr) : ∀ (ks : List Tr) (a : Au) (s : Nat), leadAlt (ks ++ [k]) a s = ((leadT k (leadAlt ks a s).1 s).1, (leadAlt ks a s).2 ++ [(leadT k (leadAlt ks a s).1 s).2])
  | [], a, s => by simp [leadAlt]
  | j :: ks, a, s => by simp only [List.cons_append, leadAlt]; rw [leadAlt_snoc k ks]
theorem statesL_take (ks : List Tr) : ∀ j, statesL (ks.take j) ≤ statesL ks := by
  induction ks with
  | nil => intro j; simp [statesL]
  | cons k ks ih =>
    intro j
    cases j with
    | zero => simp [statesL]
    | succ j => have := ih j; simp only [List.take_succ_cons, statesL]; omega
mutual
/-- How many states, as the program counts: no more than 256 are told. -/
def countT : Tr → Nat
  | .mk x ks => if x.kind ≤ 1 then 1 else min (if x.kind = 3 then countL ks + 1 else if x.kind = 4 then countL ks * (if x.most < 0 then x.least.toNat + 1 else x.most.toNat) + 1 else countL ks) 256
def countL : List Tr → Nat
  | [] => 0
  | k :: ks => countT k + countL ks
end
theorem min_mul (s t : Nat) : min (min s 256 * t + 1) 256 = min (s * t + 1) 256 := by
  rcases Nat.lt_or_ge 256 s with h | h
  · rw [Nat.min_eq_right (by omega : 256 ≤ s)]
    rcases Nat.eq_zero_or_pos t with h0 | h0
    · subst h0; simp
    · have h1 : 256 * 1 ≤ 256 * t := Nat.mul_le_mul_left 256 h0
      have h2 : 256 * t ≤ s * t := Nat.mul_le_mul_right t (by omega)
      omega
  · rw [Nat.min_eq_left h]
mutual
theorem countT_eq : ∀ (T : Tr) (d : Nat), T.Ok d → countT T = min (statesT T) 256
  | .mk x ks, d, hT => by
    have hone := hT.one
    have hlen := hT.len
    have hL := countL_eq ks (d - 1) (fun k hk => hT.kid hk)
    rw [countT, statesT]
    by_cases h0 : x.kind = 0
    · rw [if_pos (by omega), if_pos h0]; rfl
    by_cases h1 : x.kind = 1
    · rw [if_pos (by omega), if_neg h0, if_pos h1]; rfl
    have hk : 1 < x.kind := by rcases hone with h | h | h | h <;> omega
    rw [if_neg (by omega), if_neg h0, if_neg h1]
    by_cases h2 : x.kind = 2
    · rw [if_neg (by omega), if_neg (by omega), if_pos h2]; exact hL
    rw [if_neg h2]
    by_cases h3 : x.kind = 3
    · rw [if_pos h3, if_pos h3]; omega
    have h4 : x.kind = 4 := by rcases hone with h | h | h | h <;> omega
    rw [if_neg h3, if_pos h4, if_neg h3]
    have hmany : x.many = 1 := by rcases hone with h | h | h | h <;> omega
    have ht : (if x.most < 0 then x.least.toNat + 1 else x.most.toNat) = timesOf x := by
      unfold timesOf
      split
      · rfl
      · rcases hone with h | h | h | h <;> omega
    rw [ht]
    have hl1 : ks.length = 1 := by omega
    match ks, hl1, hL, hT with
    | [K], _, _, hT =>
      have hK := countT_eq K (d - 1) (hT.kid (by simp))
      simp only [countL, statesH, Nat.add_zero]
      rw [hK]
      exact min_mul _ _
theorem countL_eq : ∀ (ks : List Tr) (d : Nat), (∀ k, k ∈ ks → k.Ok d) → min (countL ks) 256 = min (statesL ks) 256
  | [], d, _ => by simp [countL, statesL]
  | k :: ks, d, h => by
    have h1 := countT_eq k d (h k (by simp))
    have h2 := countL_eq ks d (fun k hk => h k (by simp [hk]))
    rw [countL, statesL, h1]; omega
end
end Pv
