/- Walks: the document's leading through any node. -/
import Derived.Test.YtjnjbcigbnjmkaaAw
namespace Go.Proofs.Ytjnjbcigbnjmkaa
open Go.RowKit Pv

theorem lead_all (w0 : World) (base : Nat) (acc : Int) (tA : Option Addr) (nt ct : Nat) (t : List Rx) (hbs : w0.heap.size ≤ base) (ht : AtRx w0 tA t) (HT : Hid (t.length = nt)) (hnt : nt ≤ 64) :
    ∀ (d : Nat), d ≤ 16 → ∀ (T : Tr) (i : Nat) (r : List Rx), T.Ok d → T.size ≤ 64 → t.drop i = T.flat ++ r → LeadC w0 base acc tA nt ct T i := by
  intro d
  induction d using Nat.strongRecOn with
  | _ d ih =>
  intro hd T i r hT hz hdr W A n c a s kp hbW au h1 h2 h3 h4
  by_cases hst : s < 0 ∨ 256 < n
  · exact lead_stop W base acc tA nt ct T i A n c a s hbW au h3 hst
  obtain ⟨s, rfl⟩ := Int.eq_ofNat_of_zero_le (show 0 ≤ s by omega)
  obtain ⟨x, ks⟩ := T
  have hone := hT.one
  have hlen := hT.len
  have hkid : ∀ k, k ∈ ks → k.Ok (d - 1) := fun k hk => hT.kid hk
  simp only [Tr.flat, List.cons_append] at hdr
  obtain ⟨hx, hdr2⟩ := drop_head hdr
  have hil := lt_of_get hx
  rw [Tr.size_mk] at hz
  have hk64 : ks.length ≤ 63 := by have := length_sizes ks; omega
  have hk16 : ∀ k, k ∈ ks → k.Ok 16 := fun k hk => (hkid k hk).up (by omega)
  have hat := fun j hj => kids_at hdr2 hk16 j hj
  have hle := fun j => sizes_le hdr2 j (by omega)
  have hd1 : 1 < x.kind → 0 < d := fun hk => by
    cases d with
    | zero => obtain ⟨_, hm, _⟩ := hT; rcases hone with h | h | h | h <;> omega
    | succ d => omega
  have HIH : 1 < x.kind → ∀ j k, ks[j]? = some k → LeadC w0 base acc tA nt ct k (i + 1 + sizes (ks.take j)) := fun hk j k hj => by
    have hjl := lt_of_get hj
    have h5 := (hat j (by omega)).2
    rw [drop_cons hj] at h5
    simp only [flats, List.append_assoc] at h5
    exact ih (d - 1) (by have := hd1 hk; omega) (by omega) k _ _ (hkid k (mem_of_get hj)) (by have := sizes_mem (mem_of_get hj); omega) h5
  have hsz : ∀ j, sizes (ks.take j) ≤ 64 := fun j => by have := sizes_take_le (ks := ks) j; omega
  have htk : ∀ j k, k ∈ ks.take j → k.Ok 16 := fun j k hk => hk16 k (List.mem_of_mem_take hk)
  obtain ⟨kind, set, many, least, most⟩ := x
  simp only at hone hlen hd1 HIH
  have hs : s < n := by omega
  have hnl := au.len
  have hn : n ≤ 256 := by omega
  by_cases hk01 : kind = 0 ∨ kind = 1
  · have hm : many = 0 := by rcases hone with h | h | h | h <;> first | exact h.2.2.2.2 | (simp only at h; omega)
    subst hm
    exact lead_leaf W w0 base acc tA nt ct t i kind (kind == 0) set A n c a s least most ks hbs hbW kp au hn hs h4 ht HT hnt (Lib.hid hx) (by rcases hk01 with h | h <;> simp [h])
  have hk2 : 1 < kind := by rcases hone with h | h | h | h <;> simp only at h <;> omega
  by_cases h2k : kind = 2
  · subst h2k
    have hq : many = (ks.length : Nat) := by omega
    subst hq
    refine lead_cat W w0 base acc tA nt ct t i ks.length least most set A n c a s ks hbs hbW kp au hn hs h4 ht HT hnt (Lib.hid hx) rfl (by omega) (Lib.hid fun j hj => ⟨(hat j hj).1, by have := hle j; have := HT.out; omega⟩) (Lib.hid fun j => ?_) (Lib.hid (HIH hk2))
    exact catR_ok (ks.take j) 16 (htk j) (hsz j) a s (by omega) (by omega)
  by_cases h3k : kind = 3
  · subst h3k
    have hq : many = (ks.length : Nat) := by omega
    subst hq
    refine lead_alt W w0 base acc tA nt ct t i ks.length least most set A n c a s ks hbs hbW kp au hn hs h4 ht HT hnt (Lib.hid hx) rfl (by omega) (Lib.hid fun j hj => ⟨(hat j hj).1, by have := hle j; have := HT.out; omega⟩) (Lib.hid fun j => ?_) (Lib.hid (HIH hk2))
    have := altR_ok (ks.take j) 16 (htk j) (hsz j) a s (by omega) (by omega)
    exact this.up (by rw [List.length_take]; omega) (Nat.le_refl _)
  have hr : kind = 4 ∧ set = [] ∧ many = 1 ∧ 0 ≤ least ∧ least ≤ 16 ∧ (most = -1 ∨ (least ≤ most ∧ most ≤ 16)) := by rcases hone with h | h | h | h <;> simp only at h <;> first | omega | exact h
  obtain ⟨rfl, rfl, rfl, hl0, hl1, hm⟩ := hr
  obtain ⟨lz, rfl⟩ := Int.eq_ofNat_of_zero_le hl0
  match ks, hlen with
  | [K], _ =>
    have hF : leadHd [K] = leadT K := by funext a s; rw [leadHd]
    have hS : statesH [K] = statesT K := by rw [statesH]
    have hhd := hdR_ok [K] 16 (fun k hk => hk16 k hk) (by omega)
    have hLd := leadHd_leads [K]
    rw [hF, hS] at hhd hLd
    refine lead_rep W w0 base acc tA nt ct t i lz most [] A n c a s K hbs hbW kp au hn hs h4 ht HT hnt (Lib.hid hx) (by omega) (by omega) (Lib.hid fun j hj => ⟨_, by have := hle j; have := HT.out; omega, (hat j (by simpa using hj)).1⟩) (Lib.hid fun k a' s' h1 h2 => RLeads.iterN hLd hhd k a' s' h1 h2) (Lib.hid ?_) (Lib.hid ?_)
    · have := rep_ok hLd hhd lz (most - lz).toNat a s (by omega) (by omega)
      simpa using this
    · have := HIH hk2 0 K rfl
      simpa [sizes, flats] using this
end Go.Proofs.Ytjnjbcigbnjmkaa
