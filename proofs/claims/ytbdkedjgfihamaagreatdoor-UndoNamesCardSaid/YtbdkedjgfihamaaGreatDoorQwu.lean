/- A region that draws its order: reads, walked once in the order of the text, and a tail in one order behind them. No program stands here. -/
import Derived.BigQuiet
import Derived.StillTail
namespace Pv
open Go
theorem still_of_quiet {P : Program} {o : Oper} {a : Act} {w : World} {K : Act → Prop} (h : o.quiet P a (fun w' => w' = w) K) : o.still P a w K := by
  obtain ⟨v, hv, hk⟩ := h
  have h1 := hv w rfl
  unfold Oper.quietAt at h1
  unfold Oper.still
  generalize (execOp a.eval o).run P w = r at h1
  unfold Oper.quietUpon at h1
  unfold Oper.stillUpon
  split at h1
  · obtain ⟨e1, e2⟩ := h1
    exact ⟨e1, by rw [e2]; exact hk⟩
  · obtain ⟨e1, e2⟩ := h1
    exact ⟨e1, by rw [← e2]; exact hk⟩
  · obtain ⟨e1, e2⟩ := h1
    exact ⟨e1, v, e2, hk⟩
  · exact absurd h1 id
theorem quiet_mono {P : Program} {o : Oper} {a : Act} {C : World → Prop} {K K' : Act → Prop} (h : o.quiet P a C K) (hk : ∀ a, K a → K' a) : o.quiet P a C K' := by
  obtain ⟨v, hv, h2⟩ := h
  exact ⟨v, hv, hk _ h2⟩
theorem wpStill_of_quiet {P : Program} {ops : Array Oper} {w : World} {Q : Act → Prop} : ∀ (l : List Oper) (a : Act), wpQuiet P ops (fun w' => w' = w) Q l a → wpStill P ops w Q l a
  | [], _, h => h
  | o :: l, a, h => by
    unfold wpQuiet at h
    unfold wpStill
    split
    · rename_i hw
      rw [if_pos hw] at h
      exact still_of_quiet (quiet_mono h fun a h => wpStill_of_quiet l a h)
    · rename_i hw
      rw [if_neg hw] at h
      exact wpStill_of_quiet l _ h
theorem wp_region_quiet_tail {P : Program} {id : Nat} {Q : Exit → Act → World → Prop} {a : Act} {w : World} {l : List Oper} (n : Nat) (hm : P.follows .mixedOrders = true) (hB : Region.lexTailB .any l.toArray n = true)
    (h : wpQuiet P l.toArray (fun w' => w' = w.drew) (fun a' => wpList P l.toArray Q (l.drop n) a' w.drew) (l.take n) a) : (Code.region id l.toArray true).wp P Q a w :=
  wp_region_still_tail n hm hB (wpStill_of_quiet _ _ h)
end Pv
