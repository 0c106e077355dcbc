/- The highest of the powers is the first maximum. -/
import Derived.Test.YtencdgmcpnbfcaaCertA
namespace Go.Proofs.Ytencdgmcpnbfcaa
open Go.RowKit

theorem cmpPeak_lt (v p v' p' : Int) : cmpPeak (v, p) (v', p') < 0 ↔ (p' < p ∨ (p' = p ∧ v < v')) := by
  simp only [cmpPeak, firstL, compareL]
  split <;> split <;> (try split) <;> (try split) <;> omega
theorem hi_spec (l : List Int) : ∀ k, 1 ≤ k → ∃ j, j < k ∧ hiL (powersL l k) = ((j : Int), (j : Int) * l.getD j 0) ∧ (∀ i : Nat, i < k → (i : Int) * l.getD i 0 ≤ (j : Int) * l.getD j 0) ∧ (∀ i : Nat, i < j → (i : Int) * l.getD i 0 < (j : Int) * l.getD j 0)
  | 0, h => absurd h (by omega)
  | 1, _ => ⟨0, by omega, by simp [powersL, hiL, hiStep, cmpPeak, compareL, firstL, List.range_succ], fun i hi => by rw [show i = 0 by omega]; exact Int.le_refl _, fun i hi => by omega⟩
  | k + 2, _ => by
    obtain ⟨j, h1, h2, h3, h4⟩ := hi_spec l (k + 1) (by omega)
    rw [powersL_next, hiL_snoc, h2, hiStep]
    have hc := cmpPeak_lt ((k + 1 : Nat) : Int) (((k + 1 : Nat) : Int) * l.getD (k + 1) 0) (j : Int) ((j : Int) * l.getD j 0)
    by_cases h : (j : Int) * l.getD j 0 < ((k + 1 : Nat) : Int) * l.getD (k + 1) 0
    · rw [if_pos (hc.2 (.inl h))]
      refine ⟨k + 1, by omega, rfl, fun i hi => ?_, fun i hi => ?_⟩
      · by_cases e : i = k + 1
        · subst e; exact Int.le_refl _
        · have := h3 i (by omega); omega
      · have := h3 i (by omega); omega
    · rw [if_neg (fun hh => by have := hc.1 hh; omega)]
      refine ⟨j, by omega, rfl, fun i hi => ?_, h4⟩
      by_cases e : i = k + 1
      · subst e; omega
      · exact h3 i (by omega)
end Go.Proofs.Ytencdgmcpnbfcaa
