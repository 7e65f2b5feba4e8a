/- The least automaton hangs on the language alone. Nothing of a program stands here. -/
import Derived.Test.YtcmmmgblkbbdnaaGreatDoorO6y
import Derived.Test.YtcmmmgblkbbdnaaGreatDoorGcy
import Derived.Test.YtcmmmgblkbbdnaaGreatDoorLsy
import Derived.Test.YtcmmmgblkbbdnaaGreatDoorGby
import Derived.Test.YtcmmmgblkbbdnaaGreatDoorAky
namespace Pv
open Go Go.RowKit

section
variable {d o : Dfa}
/-- States met of two, side by side. -/
structure Par (d o : Dfa) (met nem : List Nat) : Prop where
  len : met.length = nem.length
  res : ∀ (i : Nat) m n, met[i]? = some m → nem[i]? = some n → Res d o m n
theorem Par.symm {met nem : List Nat} (h : Par d o met nem) : Par o d nem met := ⟨h.len.symm, fun i m n hm hn => (h.res i n m hn hm).symm⟩
theorem Par.mem (hd : d.Ok) (ho : o.Ok) {met nem : List Nat} (h : Par d o met nem) (h1 : MetOk d met) (h2 : MetOk o nem) {s t : Nat} (hs : s < d.next.length) (ht : t < o.next.length) (hr : Res d o s t) {i : Nat} (hi : met[i]? = some (rep d s)) : nem[i]? = some (rep o t) := by
  have hlt := lt_of_get hi
  have e : nem[i]? = some (nem[i]'(by have := h.len; omega)) := List.getElem?_eq_getElem _
  have hm := mem_of_get e
  have k := h.res i _ _ hi e
  have k2 : Res o o (nem[i]'(by have := h.len; omega)) t := k.symm.trans ((rep_res hd hs).trans hr)
  rw [e, ← h2.self _ hm, (rep_eq_iff ho (h2.lt _ hm) ht).2 k2]
theorem Par.add (hd : d.Ok) (ho : o.Ok) {met nem : List Nat} (h : Par d o met nem) (h1 : MetOk d met) (h2 : MetOk o nem) {s t : Nat} (hs : s < d.next.length) (ht : t < o.next.length) (hr : Res d o s t) : Par d o (addN met (rep d s)) (addN nem (rep o t)) := by
  by_cases hm : rep d s ∈ met
  · obtain ⟨i, hi⟩ := List.getElem?_of_mem hm
    rw [addN_in hm, addN_in (mem_of_get (h.mem hd ho h1 h2 hs ht hr hi))]
    exact h
  · have hn : rep o t ∉ nem := fun hn => by
      obtain ⟨i, hi⟩ := List.getElem?_of_mem hn
      exact hm (mem_of_get (h.symm.mem ho hd h2 h1 ht hs hr.symm hi))
    rw [addN_new hm, addN_new hn]
    refine ⟨by simp [h.len], fun i m n hi hj => ?_⟩
    by_cases hil : i < met.length
    · rw [List.getElem?_append_left hil] at hi
      rw [List.getElem?_append_left (by have := h.len; omega)] at hj
      exact h.res i m n hi hj
    · have := lt_of_get hi
      simp at this
      obtain rfl : i = met.length := by omega
      rw [List.getElem?_append_right (by omega)] at hi
      rw [List.getElem?_append_right (by have := h.len; omega)] at hj
      simp [h.len] at hi hj
      subst hi; subst hj
      exact (rep_res hd hs).trans (hr.trans (rep_res ho ht).symm)
end
end Pv

namespace Pv
open Go Go.RowKit

section
variable {d o : Dfa}
end
end Pv

namespace Pv
open Go Go.RowKit

section
variable {d o : Dfa} {ps : List Int}
def Ov (ps l : List Int) : Prop := ∀ p, p ∈ l → p ∈ ps
/-- Pairs met, those ahead of i gone through. -/
structure BF (d o : Dfa) (ps : List Int) (i : Nat) (l : List Pr) : Prop where
  word : ∀ x, x ∈ l → Ov ps x.w ∧ x.a = d.to 0 x.w ∧ x.b = o.to 0 x.w
  sort : ∀ (j k : Nat) x y, l[j]? = some x → l[k]? = some y → j ≤ k → x.w.length ≤ y.w.length
  near : ∀ x y, l[i]? = some x → y ∈ l → y.w.length ≤ x.w.length + 1
  next : ∀ (j : Nat) x, j < i → l[j]? = some x → ∀ p, p ∈ ps → ∃ y, y ∈ l ∧ y.a = d.step x.a p ∧ y.b = o.step x.b p ∧ y.w.length ≤ x.w.length + 1
  agree : ∀ (j : Nat) x, j < i → l[j]? = some x → d.acc x.a = o.acc x.b
  root : l[0]? = some ⟨0, 0, []⟩
structure BM (d o : Dfa) (ps : List Int) (x : Pr) (l0 : List Pr) (qs : List Int) (l : List Pr) : Prop where
  pre : l0 <+: l
  word : ∀ x, x ∈ l → Ov ps x.w ∧ x.a = d.to 0 x.w ∧ x.b = o.to 0 x.w
  sort : ∀ (j k : Nat) x y, l[j]? = some x → l[k]? = some y → j ≤ k → x.w.length ≤ y.w.length
  bound : ∀ y, y ∈ l → y.w.length ≤ x.w.length + 1
  done : ∀ p, p ∈ qs → ∃ y, y ∈ l ∧ y.a = d.step x.a p ∧ y.b = o.step x.b p
theorem BM.add {x : Pr} {l0 l : List Pr} {qs : List Int} {p : Int} (h : BM d o ps x l0 qs l) (hx : Ov ps x.w ∧ x.a = d.to 0 x.w ∧ x.b = o.to 0 x.w) (hp : p ∈ ps) : BM d o ps x l0 (qs ++ [p]) (addP l (nxtPr d o x p)) := by
  have hpre := addP_pre l (nxtPr d o x p)
  have hdone : ∀ q, q ∈ qs ++ [p] → (∃ y, y ∈ addP l (nxtPr d o x p) ∧ y.a = d.step x.a p ∧ y.b = o.step x.b p) → ∃ y, y ∈ addP l (nxtPr d o x p) ∧ y.a = d.step x.a q ∧ y.b = o.step x.b q := fun q hq hpp => by
    rcases List.mem_append.1 hq with hq | hq
    · obtain ⟨y, h1, h2⟩ := h.done q hq
      exact ⟨y, hpre.subset h1, h2⟩
    · simp at hq; subst hq; exact hpp
  by_cases hk : knownP l (nxtPr d o x p).a (nxtPr d o x p).b
  · rw [addP_in hk] at hdone ⊢
    obtain ⟨y, h1, h2, h3⟩ := hk
    exact ⟨h.pre, h.word, h.sort, h.bound, fun q hq => hdone q hq ⟨y, h1, h2, h3⟩⟩
  · rw [addP_new hk] at hdone ⊢
    have hlen : (nxtPr d o x p).w.length = x.w.length + 1 := by simp [nxtPr]
    refine ⟨h.pre.trans (List.prefix_append _ _), fun y hy => ?_, fun j k y z hj hk' hjk => ?_, fun y hy => ?_, fun q hq => hdone q hq ⟨nxtPr d o x p, by simp, rfl, rfl⟩⟩
    · rcases List.mem_append.1 hy with hy | hy
      · exact h.word y hy
      · simp at hy
        subst hy
        refine ⟨fun q hq => ?_, ?_, ?_⟩
        · rcases List.mem_append.1 (show q ∈ x.w ++ [p] from hq) with hq | hq
          · exact hx.1 q hq
          · simp at hq; subst hq; exact hp
        · show d.step x.a p = d.to 0 (x.w ++ [p])
          rw [Dfa.to_snoc, hx.2.1]
        · show o.step x.b p = o.to 0 (x.w ++ [p])
          rw [Dfa.to_snoc, hx.2.2]
    · by_cases hkl : k < l.length
      · rw [List.getElem?_append_left hkl] at hk'
        rw [List.getElem?_append_left (by omega)] at hj
        exact h.sort j k y z hj hk' hjk
      · have h1 := lt_of_get hk'
        simp at h1
        obtain rfl : k = l.length := by omega
        rw [List.getElem?_append_right (by omega)] at hk'
        simp at hk'
        subst hk'
        rw [hlen]
        by_cases hjl : j < l.length
        · rw [List.getElem?_append_left hjl] at hj
          exact h.bound y (mem_of_get hj)
        · obtain rfl : j = l.length := by omega
          rw [List.getElem?_append_right (by omega)] at hj
          simp at hj
          subst hj
          omega
    · rcases List.mem_append.1 hy with hy | hy
      · exact h.bound y hy
      · simp at hy; subst hy; omega
theorem BM.row {x : Pr} {l0 : List Pr} (hx : Ov ps x.w ∧ x.a = d.to 0 x.w ∧ x.b = o.to 0 x.w) : ∀ (rs qs : List Int) (l : List Pr), BM d o ps x l0 qs l → (∀ p, p ∈ rs → p ∈ ps) → BM d o ps x l0 (qs ++ rs) (rowP d o x l rs)
  | [], qs, l, h, _ => by simpa [rowP] using h
  | p :: rs, qs, l, h, hr => by
    have h1 := BM.row hx rs (qs ++ [p]) _ (h.add hx (hr p (by simp))) fun q hq => hr q (by simp [hq])
    rw [List.append_assoc] at h1
    exact h1
theorem BF.row {i : Nat} {l : List Pr} (h : BF d o ps i l) {x : Pr} (hi : l[i]? = some x) (ha : d.acc x.a = o.acc x.b) : BF d o ps (i + 1) (rowP d o x l ps) := by
  have hx := h.word x (mem_of_get hi)
  have hm := BM.row hx ps [] l ⟨List.prefix_refl _, h.word, h.sort, fun y hy => h.near x y hi hy, fun p hp => by simp at hp⟩ fun p hp => hp
  rw [List.nil_append] at hm
  have hold : ∀ {j : Nat} {y : Pr}, j < i + 1 → (rowP d o x l ps)[j]? = some y → l[j]? = some y := fun {j y} hj hy => by
    have hlt := lt_of_get hi
    have e : l[j]? = some (l[j]'(by omega)) := List.getElem?_eq_getElem _
    rw [pre_get hm.pre e] at hy
    rw [e]; exact hy
  refine ⟨hm.word, hm.sort, fun y z hy hz => ?_, fun j y hj hy p hp => ?_, fun j y hj hy => ?_, pre_get hm.pre h.root⟩
  · have h1 := hm.sort i (i + 1) x y (pre_get hm.pre hi) hy (by omega)
    have h2 := hm.bound z hz
    omega
  · have hy' := hold hj hy
    by_cases e : j = i
    · subst e
      rw [hi] at hy'
      obtain rfl := Option.some.inj hy'
      obtain ⟨z, h1, h2, h3⟩ := hm.done p hp
      exact ⟨z, h1, h2, h3, hm.bound z h1⟩
    · obtain ⟨z, h1, h2⟩ := h.next j y (by omega) hy' p hp
      exact ⟨z, hm.pre.subset h1, h2⟩
  · have hy' := hold hj hy
    by_cases e : j = i
    · subst e
      rw [hi] at hy'
      obtain rfl := Option.some.inj hy'
      exact ha
    · exact h.agree j y (by omega) hy'
/-- Each word that is short enough is met. -/
theorem BF.reach {i : Nat} {l : List Pr} (h : BF d o ps i l) (qs : List Int) : Ov ps qs.reverse → (∀ x, l[i]? = some x → qs.length ≤ x.w.length) → ∃ (j : Nat) (y : Pr), l[j]? = some y ∧ y.a = d.to 0 qs.reverse ∧ y.b = o.to 0 qs.reverse ∧ y.w.length ≤ qs.length := by
  induction qs with
  | nil => intro _ _; exact ⟨0, _, h.root, rfl, rfl, Nat.le_refl _⟩
  | cons p qs ih =>
    intro hp hL
    rw [List.reverse_cons] at hp ⊢
    obtain ⟨j, y, h1, h2, h3, h4⟩ := ih (fun q hq => hp q (by simp at hq ⊢; exact .inl hq)) fun x hx => by have := hL x hx; simp at this; omega
    have hji : j < i := by
      rcases Nat.lt_or_ge j i with h5 | h5
      · exact h5
      · exfalso
        cases e : l[i]? with
        | none => have := lt_of_get h1; have : l.length ≤ i := by simpa using e
                  omega
        | some x =>
          have h6 := h.sort i j x y e h1 h5
          have h7 := hL x e
          simp at h7
          omega
    obtain ⟨z, k1, k2, k3, k4⟩ := h.next j y hji h1 p (hp p (by simp))
    obtain ⟨k, hk⟩ := List.getElem?_of_mem k1
    exact ⟨k, z, hk, by rw [k2, h2, Dfa.to_snoc], by rw [k3, h3, Dfa.to_snoc], by simp; omega⟩
/-- Shorter words agree. -/
theorem BF.short {i : Nat} {l : List Pr} (h : BF d o ps i l) {u : List Int} (hu : Ov ps u) (hL : ∀ x, l[i]? = some x → u.length < x.w.length) : d.acc (d.to 0 u) = o.acc (o.to 0 u) := by
  obtain ⟨j, y, h1, h2, h3, h4⟩ := h.reach u.reverse (by rw [List.reverse_reverse]; exact hu) fun x hx => by have := hL x hx; simp; omega
  rw [List.reverse_reverse] at h2 h3
  have hji : j < i := by
    rcases Nat.lt_or_ge j i with h5 | h5
    · exact h5
    · exfalso
      cases e : l[i]? with
      | none => have := lt_of_get h1; have : l.length ≤ i := by simpa using e
                omega
      | some x =>
        have h6 := h.sort i j x y e h1 h5
        have h7 := hL x e
        simp at h4
        omega
  rw [← h2, ← h3]
  exact h.agree j y hji h1
theorem BF.one (d o : Dfa) (ps : List Int) : BF d o ps 0 [⟨0, 0, []⟩] := by
  refine ⟨fun x hx => ?_, fun j k x y hj hk hjk => ?_, fun x y hx hy => ?_, fun j x hj => by omega, fun j x hj => by omega, rfl⟩
  · simp at hx; subst hx; exact ⟨fun p hp => by simp at hp, rfl, rfl⟩
  · have := lt_of_get hj; have := lt_of_get hk
    simp at *
    obtain rfl : j = 0 := by omega
    obtain rfl : k = 0 := by omega
    simp at hj hk
    subst hj; subst hk
    exact Nat.le_refl _
  · simp at hy; subst hy; simp
end
end Pv

namespace Pv
open Go Go.RowKit

/-- Where a run comes to; none: not reckoned through. -/
def runFC (a : Au) : List Int → List Int → Option (List Int)
  | l, [] => some l
  | l, p :: ps => match stepC a l p with
    | none => none
    | some m => runFC a m ps
def runC (a : Au) (pts : List Int) : Option (List Int) := if toOk a then (match shutL a [0] with
  | none => none
  | some l => runFC a l pts) else none
theorem shutL_nn {a : Au} {l : List Nat} {r : List Int} (h : shutL a l = some r) : ∀ s, s ∈ r → 0 ≤ s := by
  unfold shutL at h
  split at h
  · obtain rfl := Option.some.inj h
    exact lstC_nn
  · cases h
theorem runFC_is {a : Au} {acc : Int} (hok : AuOk a acc) (h : toOk a = true) : ∀ (pts pre l r : List Int), stL a.length (runA a pre) = l → (∀ s, s ∈ l → 0 ≤ s) → runFC a l pts = some r → stL a.length (runA a (pre ++ pts)) = r
  | [], pre, l, r, hl, _, hr => by
    obtain rfl := Option.some.inj hr
    rw [List.append_nil]; exact hl
  | p :: pts, pre, l, r, hl, hn, hr => by
    unfold runFC at hr
    cases hm : stepC a l p with
    | none => rw [hm] at hr; cases hr
    | some m =>
      rw [hm] at hr
      have h1 := stepC_is h hn hm
      have h2 : stL a.length (runA a (pre ++ [p])) = m := by
        rw [runA_snoc, ← h1, ← hl]
        unfold stepS
        rw [of_stL (fun s hs => runA_in hok _ s hs)]
      have h3 := runFC_is hok h pts (pre ++ [p]) m r h2 (shutL_nn hm) hr
      rwa [List.append_assoc] at h3
theorem runC_is {a : Au} {acc : Int} (hok : AuOk a acc) {pts r : List Int} (h : runC a pts = some r) : stL a.length (runA a pts) = r := by
  unfold runC at h
  split at h
  · rename_i ht
    cases hl : shutL a [0] with
    | none => rw [hl] at h; cases h
    | some l =>
      rw [hl] at h
      exact runFC_is hok ht pts [] l r (shutL_is ht (fun s => by simp) hl) (shutL_nn hl) h
  · cases h

end Pv

namespace Pv
open Go Go.RowKit

def setC (l : List Rng) : Bool := decide (l.length ≤ 256) && (l.all fun x => decide (0 ≤ x.lo) && decide (x.lo ≤ x.hi) && decide (x.hi ≤ 1114111)) &&
  ((List.range l.length).all fun i => match l[i]?, l[i + 1]? with | some x, some y => decide (x.hi + 2 ≤ y.lo) | _, _ => true)
theorem setC_is {l : List Rng} (h : setC l = true) : SetOk l := by
  unfold setC at h
  simp only [Bool.and_eq_true, decide_eq_true_eq, List.all_eq_true, List.mem_range] at h
  obtain ⟨⟨h1, h2⟩, h3⟩ := h
  refine ⟨h1, fun i x hx => ?_, fun i x y hx hy => ?_⟩
  · have := h2 x (mem_of_get hx)
    exact ⟨this.1.1, this.1.2, this.2⟩
  · have := h3 i (lt_of_get hx)
    rw [hx, hy] at this
    simpa using this
def oneXC (x : Rx) : Bool :=
  (decide (x.kind = 0) && decide (x.set = []) && decide (x.many = 0) && decide (x.least = 0) && decide (x.most = 0)) ||
  (decide (x.kind = 1) && setC x.set && decide (x.many = 0) && decide (x.least = 0) && decide (x.most = 0)) ||
  ((decide (x.kind = 2) || decide (x.kind = 3)) && decide (x.set = []) && decide (2 ≤ x.many) && decide (x.least = 0) && decide (x.most = 0)) ||
  (decide (x.kind = 4) && decide (x.set = []) && decide (x.many = 1) && decide (0 ≤ x.least) && decide (x.least ≤ 16) && (decide (x.most = -1) || (decide (x.least ≤ x.most) && decide (x.most ≤ 16))))
theorem oneXC_is {x : Rx} (h : oneXC x = true) : x.One := by
  unfold oneXC at h
  simp only [Bool.or_eq_true, Bool.and_eq_true, decide_eq_true_eq] at h
  unfold Rx.One
  rcases h with ((h | h) | h) | h
  · left; simp_all
  · right; left
    obtain ⟨⟨⟨⟨a, b⟩, c⟩, d⟩, e⟩ := h
    have := setC_is b
    simp_all
  · right; right; left; simp_all
  · right; right; right
    obtain ⟨⟨⟨⟨⟨a, b⟩, c⟩, d⟩, e⟩, f⟩ := h
    simp_all
def okTr : Nat → Tr → Bool
  | 0, .mk x ks => oneXC x && decide (x.many = 0) && ks.isEmpty
  | d + 1, .mk x ks => oneXC x && decide ((ks.length : Int) = x.many) && ks.all fun k => okTr d k
theorem okTr_is : ∀ {d : Nat} {T : Tr}, okTr d T = true → T.Ok d
  | 0, .mk x ks, h => by
    unfold okTr at h
    simp only [Bool.and_eq_true, decide_eq_true_eq, List.isEmpty_iff] at h
    exact ⟨oneXC_is h.1.1, h.1.2, h.2⟩
  | d + 1, .mk x ks, h => by
    unfold okTr at h
    simp only [Bool.and_eq_true, decide_eq_true_eq, List.all_eq_true] at h
    exact ⟨oneXC_is h.1.1, h.1.2, fun k hk => okTr_is (h.2 k hk)⟩
/-- A tree that is known. -/
structure Known (T : Tr) : Prop where
  ok : T.Ok 16
  size : T.size ≤ 64
  few : 1 + statesT T ≤ 256
def knownT (T : Tr) : Bool := okTr 16 T && decide (T.flat.length ≤ 64) && decide (1 + statesT T ≤ 256)
theorem knownT_is {T : Tr} (h : knownT T = true) : Known T := by
  unfold knownT at h
  simp only [Bool.and_eq_true, decide_eq_true_eq] at h
  exact ⟨okTr_is h.1.1, h.1.2, h.2⟩
theorem Known.pat {T : Tr} (h : Known T) : Pat T.flat := Pat.of_tree h.ok h.size
theorem Known.in {T : Tr} (h : Known T) {pts m : List Int} {r : Bool × Int} (hl : pts.length ≤ 1024) (hm : runC (leadT T [[]] 0).1 pts = some m) (hr : BIn T.flat pts r) : r = (m.contains ((leadT T [[]] 0).2 : Int), 0) := by
  rcases hr with ⟨hn, _⟩ | ⟨_, h2, _⟩ | ⟨_, _, S, hS, eS, rfl⟩
  · exact absurd h.pat hn
  · omega
  obtain rfl := flat_inj h.ok hS eS
  have hok := lead_ok h.ok h.few
  have e := runC_is hok hm
  have h3 : yes (spT pts T 0 pts.length) = m.contains ((leadT T [[]] 0).2 : Int) := by
    have h4 : spT pts T 0 pts.length ↔ ((leadT T [[]] 0).2 : Int) ∈ m := by
      rw [← lead_lang h.ok pts, ← e]
      exact stL_of (by have := hok.acc1; omega) |>.symm
    by_cases h5 : spT pts T 0 pts.length
    · rw [yes_t h5]; simpa using h4.1 h5
    · rw [yes_f h5]
      have : ((leadT T [[]] 0).2 : Int) ∉ m := fun h6 => h5 (h4.2 h6)
      simpa using this
  rw [h3]
end Pv
